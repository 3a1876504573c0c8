/- Texts of the proof: FdC FdD FdE FeB FeQ FeT FeC FeD FcS FeA FeU FeE FeH FeV FeR FeW. -/
import Derived.Lib.Join
import Derived.Shelf.Slices.Turned
import Derived.Shelf.Slices.Cells
import Derived.Shelf.Strconv.Itoa3
import Derived.Shelf.LaysM
import Derived.Lib.RowBridge
import Derived.Shelf.Strings.Cut
import Derived.Shelf.Strings.Split
import Derived.Shelf.Strings.Prefix
import Derived.Shelf.Strings.IndexAnyAll
import Derived.Shelf.Strings.Search1
import Derived.Shelf.Strconv.AtoiAll
import Derived.Test.YtbdfdfhamlmodaaGreatDoorH3
set_option linter.unusedSimpArgs false
set_option linter.unusedVariables false
/- Contracts: which messages are valid. -/
namespace Go.Proofs.YtbdfdfhamlmodaaGreatDoor.Fw
open Go
open Go.Proofs.Tryz
set_option maxRecDepth 100000
set_option maxHeartbeats 4000000
attribute [local congr] c_bnd c_slot c_cell c_all c_len c_chk c_asm c_opdR c_wp c_pwp c_pOps c_Done c_nx c_blk c_fin c_coeLeaf c_coeLeaves c_argR c_argsR c_partsR c_ite c_wpF c_OutF c_pHead c_pDraw
def msgB (me ta:List UInt8) (st:Int) (re:List UInt8) (ba:Bool) (l:List Fld) (bo:List UInt8):Bool:=fieldsB l && !(l.length==20) && !(l.any frB)&&decide (bo.length≤600)&&(if me==[] then answerB ta st re ba bo else requestB me ta st re ba)&&decide ((headT me ta st re ba l bo).length≤1500)
theorem request_le {me ta re:List UInt8} {st:Int} {ba:Bool} (h:requestB me ta st re ba=true):me.length≤20∧ta.length≤200∧st=0∧re=[]:=by
 simp only [requestB,methodB,targetB,inB,Bool.and_eq_true,decide_eq_true_eq,beq_iff_eq] at h
 exact ⟨h.1.1.1.1.2,by omega,h.1.1.2,h.1.2⟩
theorem answer_le {ta re bo:List UInt8} {st:Int} {ba:Bool} (h:answerB ta st re ba bo=true):ta=[]∧200≤st∧st≤599∧re.length≤40:=by
 simp only [answerB,reasonB,statusB,inB,Bool.and_eq_true,decide_eq_true_eq,beq_iff_eq] at h
 exact ⟨h.1.1.1.1,h.1.1.1.2.1,h.1.1.1.2.2,h.1.1.2.1⟩
theorem head_le {me ta re bo:List UInt8} {st:Int} {ba:Bool} (h:(if me==[] then answerB ta st re ba bo else requestB me ta st re ba)=true):me.length≤20∧ta.length≤200∧re.length≤40∧∃ n:Nat,st=n∧n≤999:=by
 split at h
 ·rename_i hm
  obtain ⟨h1,h2,h3,h4⟩:=answer_le h
  have hm:me=[]:=by simpa using hm
  subst hm; subst h1
  exact ⟨by simp,by simp,h4,st.toNat,by omega,by omega⟩
 ·obtain ⟨h1,h2,h3,h4⟩:=request_le h
  subst h3; subst h4
  exact ⟨h1,h2,by simp,0,rfl,by omega⟩
theorem c11a (me ta:List UInt8) (st:Int) (re:List UInt8) (ba:Bool) (l:List Fld) (bo:List UInt8) (h1:me.length≤9223372036854775807) (h2:ta.length≤9223372036854775807) (h3:re.length≤9223372036854775807) (h4:bo.length≤9223372036854775807) (hl:Small l) (hf:fieldsB l=false):Q1 11 (.agg [.v (vS me),.v (vS ta),.v (vI st),.v (vS re),.v (vB ba),.imm 105 (rowsF l),.v (vS bo)]) (.v (vB (false))):=by
 refine sf 1 [.tm 2] func11 ?_
 have hs:l.length≤9223372036854775807:=hl.1
 simp only [go_sem,Nat.reduceLeDiff,Nat.reduceAdd,Nat.reduceSub,f11,cfg]
 try (with_reducible intro _)
 try simp only [go_sem]
 refine cf (c38 l hl) ?_
 simp only [go_sem,Nat.reduceAdd,reduceCtorEq,hf]
 try (with_reducible intro _)
 try simp only [go_sem]
 exact fz
theorem c11b (me ta:List UInt8) (st:Int) (re:List UInt8) (ba:Bool) (l:List Fld) (bo:List UInt8) (h1:me.length≤9223372036854775807) (h2:ta.length≤9223372036854775807) (h3:re.length≤9223372036854775807) (h4:bo.length≤9223372036854775807) (hl:Small l) (hf:fieldsB l=true) (h20:((l.length:Int)==20)=true):Q1 11 (.agg [.v (vS me),.v (vS ta),.v (vI st),.v (vS re),.v (vB ba),.imm 105 (rowsF l),.v (vS bo)]) (.v (vB (false))):=by
 refine sf 1 [.tm 2] func11 ?_
 have hs:l.length≤9223372036854775807:=hl.1
 simp only [go_sem,Nat.reduceLeDiff,Nat.reduceAdd,Nat.reduceSub,f11,cfg]
 try (with_reducible intro _)
 try simp only [go_sem]
 refine cf (c38 l hl) ?_
 simp only [go_sem,Nat.reduceLeDiff,Nat.reduceAdd,reduceCtorEq,rowsF_length,hs,hf,h20]
 try (with_reducible intro _)
 try simp only [go_sem]
 exact fz
theorem c11c (me ta:List UInt8) (st:Int) (re:List UInt8) (ba:Bool) (l:List Fld) (bo:List UInt8) (h1:me.length≤9223372036854775807) (h2:ta.length≤9223372036854775807) (h3:re.length≤9223372036854775807) (h4:bo.length≤9223372036854775807) (hl:Small l) (hf:fieldsB l=true) (h20:((l.length:Int)==20)=false) (hfr:l.any frB=true):Q1 11 (.agg [.v (vS me),.v (vS ta),.v (vI st),.v (vS re),.v (vB ba),.imm 105 (rowsF l),.v (vS bo)]) (.v (vB (false))):=by
 refine sf 1 [.tm 2] func11 ?_
 have hs:l.length≤9223372036854775807:=hl.1
 simp only [go_sem,Nat.reduceLeDiff,Nat.reduceAdd,Nat.reduceSub,f11,cfg]
 try (with_reducible intro _)
 try simp only [go_sem]
 refine cf (c38 l hl) ?_
 simp only [go_sem,Nat.reduceLeDiff,Nat.reduceAdd,rowsF_length,hs,hf,h20]
 try (with_reducible intro _)
 try simp only [go_sem]
 refine cf (c39 l hl) ?_
 simp only [go_sem,Nat.reduceAdd,reduceCtorEq,hfr]
 try (with_reducible intro _)
 try simp only [go_sem]
 exact fz
theorem c11d (me ta:List UInt8) (st:Int) (re:List UInt8) (ba:Bool) (l:List Fld) (bo:List UInt8) (h1:me.length≤9223372036854775807) (h2:ta.length≤9223372036854775807) (h3:re.length≤9223372036854775807) (h4:bo.length≤9223372036854775807) (hl:Small l) (hf:fieldsB l=true) (h20:((l.length:Int)==20)=false) (hfr:l.any frB=false) (hb:(600:Int)<(bo.length:Int)):Q1 11 (.agg [.v (vS me),.v (vS ta),.v (vI st),.v (vS re),.v (vB ba),.imm 105 (rowsF l),.v (vS bo)]) (.v (vB (false))):=by
 refine sf 1 [.tm 2] func11 ?_
 have hs:l.length≤9223372036854775807:=hl.1
 simp only [go_sem,Nat.reduceLeDiff,Nat.reduceAdd,Nat.reduceSub,f11,cfg]
 try (with_reducible intro _)
 try simp only [go_sem]
 refine cf (c38 l hl) ?_
 simp only [go_sem,Nat.reduceLeDiff,Nat.reduceAdd,rowsF_length,hs,hf,h20]
 try (with_reducible intro _)
 try simp only [go_sem]
 refine cf (c39 l hl) ?_
 simp only [go_sem,Nat.reduceLeDiff,Nat.reduceAdd,h4,hfr,hb]
 try (with_reducible intro _)
 try simp only [go_sem]
 exact fz
theorem c11e (me ta:List UInt8) (st:Int) (re:List UInt8) (ba:Bool) (l:List Fld) (bo:List UInt8) (h1:me.length≤9223372036854775807) (h2:ta.length≤9223372036854775807) (h3:re.length≤9223372036854775807) (h4:bo.length≤9223372036854775807) (hl:Small l) (hf:fieldsB l=true) (h20:((l.length:Int)==20)=false) (hfr:l.any frB=false) (hb:¬ (600:Int)<(bo.length:Int)) (hm:(me==[])=false) (hr:requestB me ta st re ba=false):Q1 11 (.agg [.v (vS me),.v (vS ta),.v (vI st),.v (vS re),.v (vB ba),.imm 105 (rowsF l),.v (vS bo)]) (.v (vB (false))):=by
 refine sf 1 [.tm 2] func11 ?_
 have hs:l.length≤9223372036854775807:=hl.1
 simp only [go_sem,Nat.reduceLeDiff,Nat.reduceAdd,Nat.reduceSub,f11,cfg]
 try (with_reducible intro _)
 try simp only [go_sem]
 refine cf (c38 l hl) ?_
 simp only [go_sem,Nat.reduceLeDiff,Nat.reduceAdd,rowsF_length,hs,hf,h20]
 try (with_reducible intro _)
 try simp only [go_sem]
 refine cf (c39 l hl) ?_
 simp only [go_sem,Nat.reduceLeDiff,Nat.reduceAdd,h4,hfr,hb,hm]
 try (with_reducible intro _)
 try simp only [go_sem]
 refine cf (c40 me ta st re ba l bo h1 h2 h3 h4) ?_
 simp only [go_sem,Nat.reduceAdd,reduceCtorEq,hr]
 try (with_reducible intro _)
 try simp only [go_sem]
 exact fz
theorem c11f (me ta:List UInt8) (st:Int) (re:List UInt8) (ba:Bool) (l:List Fld) (bo:List UInt8) (h1:me.length≤9223372036854775807) (h2:ta.length≤9223372036854775807) (h3:re.length≤9223372036854775807) (h4:bo.length≤9223372036854775807) (hl:Small l) (hf:fieldsB l=true) (h20:((l.length:Int)==20)=false) (hfr:l.any frB=false) (hb:¬ (600:Int)<(bo.length:Int)) (hm:(me==[])=true) (hr:answerB ta st re ba bo=false):Q1 11 (.agg [.v (vS me),.v (vS ta),.v (vI st),.v (vS re),.v (vB ba),.imm 105 (rowsF l),.v (vS bo)]) (.v (vB (false))):=by
 refine sf 1 [.tm 2] func11 ?_
 have hs:l.length≤9223372036854775807:=hl.1
 simp only [go_sem,Nat.reduceLeDiff,Nat.reduceAdd,Nat.reduceSub,f11,cfg]
 try (with_reducible intro _)
 try simp only [go_sem]
 refine cf (c38 l hl) ?_
 simp only [go_sem,Nat.reduceLeDiff,Nat.reduceAdd,rowsF_length,hs,hf,h20]
 try (with_reducible intro _)
 try simp only [go_sem]
 refine cf (c39 l hl) ?_
 simp only [go_sem,Nat.reduceLeDiff,Nat.reduceAdd,h4,hfr,hb,hm]
 try (with_reducible intro _)
 try simp only [go_sem]
 refine cf (c41 me ta st re ba l bo h1 h2 h3 h4) ?_
 simp only [go_sem,Nat.reduceAdd,hr]
 try (with_reducible intro _)
 try simp only [go_sem]
 exact fz
theorem c11g (me ta:List UInt8) (st:Int) (re:List UInt8) (ba:Bool) (l:List Fld) (bo:List UInt8) (h1:me.length≤9223372036854775807) (h2:ta.length≤9223372036854775807) (h3:re.length≤9223372036854775807) (h4:bo.length≤9223372036854775807) (hl:Small l) (hf:fieldsB l=true) (h20:((l.length:Int)==20)=false) (hfr:l.any frB=false) (hb:¬ (600:Int)<(bo.length:Int)) (hm:(me==[])=false) (hr:requestB me ta st re ba=true) (H:List UInt8) (hH:H.length≤9223372036854775807) (hd:Q1 42 (.agg [.v (vS me),.v (vS ta),.v (vI st),.v (vS re),.v (vB ba),.imm 105 (rowsF l),.v (vS bo)]) (.v (vS H))):Q1 11 (.agg [.v (vS me),.v (vS ta),.v (vI st),.v (vS re),.v (vB ba),.imm 105 (rowsF l),.v (vS bo)]) (.v (vB (decide ((H.length:Int)≤1500)))):=by
 refine sf 1 [.tm 2] func11 ?_
 have hs:l.length≤9223372036854775807:=hl.1
 simp only [go_sem,Nat.reduceLeDiff,Nat.reduceAdd,Nat.reduceSub,f11,cfg]
 try (with_reducible intro _)
 try simp only [go_sem]
 refine cf (c38 l hl) ?_
 simp only [go_sem,Nat.reduceLeDiff,Nat.reduceAdd,rowsF_length,hs,hf,h20]
 try (with_reducible intro _)
 try simp only [go_sem]
 refine cf (c39 l hl) ?_
 simp only [go_sem,Nat.reduceLeDiff,Nat.reduceAdd,h4,hfr,hb,hm]
 try (with_reducible intro _)
 try simp only [go_sem]
 refine cf (c40 me ta st re ba l bo h1 h2 h3 h4) ?_
 simp only [go_sem,Nat.reduceLeDiff,Nat.reduceAdd,hm,hr]
 try (with_reducible intro _)
 try simp only [go_sem]
 refine cf (hd) ?_
 simp only [go_sem,Nat.reduceAdd,Nat.reduceBNe,hH]
 try (with_reducible intro _)
 try simp only [go_sem]
 exact fz
theorem c11h (me ta:List UInt8) (st:Int) (re:List UInt8) (ba:Bool) (l:List Fld) (bo:List UInt8) (h1:me.length≤9223372036854775807) (h2:ta.length≤9223372036854775807) (h3:re.length≤9223372036854775807) (h4:bo.length≤9223372036854775807) (hl:Small l) (hf:fieldsB l=true) (h20:((l.length:Int)==20)=false) (hfr:l.any frB=false) (hb:¬ (600:Int)<(bo.length:Int)) (hm:(me==[])=true) (hr:answerB ta st re ba bo=true) (H:List UInt8) (hH:H.length≤9223372036854775807) (hd:Q1 42 (.agg [.v (vS me),.v (vS ta),.v (vI st),.v (vS re),.v (vB ba),.imm 105 (rowsF l),.v (vS bo)]) (.v (vS H))):Q1 11 (.agg [.v (vS me),.v (vS ta),.v (vI st),.v (vS re),.v (vB ba),.imm 105 (rowsF l),.v (vS bo)]) (.v (vB (decide ((H.length:Int)≤1500)))):=by
 refine sf 1 [.tm 2] func11 ?_
 have hs:l.length≤9223372036854775807:=hl.1
 simp only [go_sem,Nat.reduceLeDiff,Nat.reduceAdd,Nat.reduceSub,f11,cfg]
 try (with_reducible intro _)
 try simp only [go_sem]
 refine cf (c38 l hl) ?_
 simp only [go_sem,Nat.reduceLeDiff,Nat.reduceAdd,rowsF_length,hs,hf,h20]
 try (with_reducible intro _)
 try simp only [go_sem]
 refine cf (c39 l hl) ?_
 simp only [go_sem,Nat.reduceLeDiff,Nat.reduceAdd,h4,hfr,hb,hm]
 try (with_reducible intro _)
 try simp only [go_sem]
 refine cf (c41 me ta st re ba l bo h1 h2 h3 h4) ?_
 simp only [go_sem,Nat.reduceAdd,hr]
 try (with_reducible intro _)
 try simp only [go_sem]
 refine cf (hd) ?_
 simp only [go_sem,Nat.reduceAdd,Nat.reduceBNe,hH]
 try (with_reducible intro _)
 try simp only [go_sem]
 exact fz
theorem head_len {me ta re bo:List UInt8} {n:Nat} {ba:Bool} {l:List Fld} (hf:fieldsB l=true) (g1:me.length≤20) (g2:ta.length≤200) (g3:re.length≤40) (g5:n≤999) (hbo:bo.length≤600):(headT me ta n re ba l bo).length≤9223372036854775807:=by
 have:=first_le g1 g2 g3 g5
 have t1:=fieldsT_take_le hf l.length
 rw [List.take_of_length_le (Nat.le_refl _)] at t1
 have t2:=decDigits_len bo.length
 unfold headT lastT
 split<;>simp [itoa_nat,clH,crlf]<;>omega
theorem c11 (me ta:List UInt8) (st:Int) (re:List UInt8) (ba:Bool) (l:List Fld) (bo:List UInt8) (h1:me.length≤9223372036854775807) (h2:ta.length≤9223372036854775807) (h3:re.length≤9223372036854775807) (h4:bo.length≤9223372036854775807) (hl:Small l):Q1 11 (.agg [.v (vS me),.v (vS ta),.v (vI st),.v (vS re),.v (vB ba),.imm 105 (rowsF l),.v (vS bo)]) (.v (vB (msgB me ta st re ba l bo))):=by
 cases hf:fieldsB l
 ·have hz:msgB me ta st re ba l bo=false:=by simp [msgB,hf]
  rw [hz]; exact c11a me ta st re ba l bo h1 h2 h3 h4 hl hf
 by_cases h20:l.length=20
 ·have hz:msgB me ta st re ba l bo=false:=by simp [msgB,h20]
  rw [hz]; exact c11b me ta st re ba l bo h1 h2 h3 h4 hl hf (by rw [beq_iff_eq]; omega)
 have h20b:((l.length:Int)==20)=false:=by rw [beq_eq_false_iff_ne]; omega
 have e1:(l.length==20)=false:=by rw [beq_eq_false_iff_ne]; exact h20
 cases hfr:l.any frB
 ·by_cases hb:(600:Int)<(bo.length:Int)
  ·have hz:msgB me ta st re ba l bo=false:=by
    have:¬ bo.length≤600:=by omega
    simp [msgB,this]
   rw [hz]; exact c11d me ta st re ba l bo h1 h2 h3 h4 hl hf h20b hfr hb
  have hbo:bo.length≤600:=by omega
  cases hm:me==[]
  ·have hz:msgB me ta st re ba l bo=(requestB me ta st re ba&&decide ((headT me ta st re ba l bo).length≤1500)):=by simp [msgB,hf,e1,hfr,hbo,hm]
   cases hr:requestB me ta st re ba
   ·rw [hz,hr]; exact c11e me ta st re ba l bo h1 h2 h3 h4 hl hf h20b hfr hb hm hr
   ·obtain ⟨g1,g2,g3,n,g4,g5⟩:=head_le (ba:=ba) (bo:=bo) (me:=me) (ta:=ta) (st:=st) (re:=re) (by rw [hm]; exact hr)
    subst g4
    have:=c11g me ta n re ba l bo h1 h2 h3 h4 hl hf h20b hfr hb hm hr _ (head_len hf g1 g2 g3 g5 hbo) (c42 me ta n re ba l bo hl hf g1 g2 g3 g5 hbo)
    rw [hz,hr,Bool.true_and,show decide ((headT me ta n re ba l bo).length≤1500)=decide (((headT me ta n re ba l bo).length:Int)≤1500) from decide_eq_decide.2 (by omega)]
    exact this
  ·have hz:msgB me ta st re ba l bo=(answerB ta st re ba bo&&decide ((headT me ta st re ba l bo).length≤1500)):=by simp [msgB,hf,e1,hfr,hbo,hm]
   cases hr:answerB ta st re ba bo
   ·rw [hz,hr]; exact c11f me ta st re ba l bo h1 h2 h3 h4 hl hf h20b hfr hb hm hr
   ·obtain ⟨g1,g2,g3,n,g4,g5⟩:=head_le (ba:=ba) (bo:=bo) (me:=me) (ta:=ta) (st:=st) (re:=re) (by rw [hm]; exact hr)
    subst g4
    have:=c11h me ta n re ba l bo h1 h2 h3 h4 hl hf h20b hfr hb hm hr _ (head_len hf g1 g2 g3 g5 hbo) (c42 me ta n re ba l bo hl hf g1 g2 g3 g5 hbo)
    rw [hz,hr,Bool.true_and,show decide ((headT me ta n re ba l bo).length≤1500)=decide (((headT me ta n re ba l bo).length:Int)≤1500) from decide_eq_decide.2 (by omega)]
    exact this
 ·have hz:msgB me ta st re ba l bo=false:=by simp [msgB,hfr]
  rw [hz]; exact c11c me ta st re ba l bo h1 h2 h3 h4 hl hf h20b hfr
def frN:List (List UInt8):=[clN,teN,trN]
def hasF (name:List UInt8) (l:List Fld):Bool:=decide (0<(valsB name l).length)
theorem frN_len {i:Nat} (h:i<3):(frN.getD i []).length≤9223372036854775807:=by
 have:i=0∨i=1∨i=2:=by omega
 rcases this with rfl | rfl | rfl<;>decide
theorem c85  : Sem prog 85 ⟨[],[]⟩ ⟨[.own 9 (rowsS frN)],[]⟩:=by
 refine sf 0 [.tm 0] func85 ?_
 simp only [go_sem,Nat.reduceLeDiff,Nat.reduceLT,Nat.reduceAdd,Nat.reduceMul,Nat.reduceBNe,reduceCtorEq,Nat.reduceDiv,Nat.reduceMod,f85,cfg, *]
 repeat' ((first | split)<;>(try simp only [go_sem,Nat.reduceLeDiff,Nat.reduceLT,Nat.reduceAdd,Nat.reduceSub,Nat.reduceMul,Nat.reduceBEq,Nat.reduceBNe,Nat.reduceEqDiff,reduceCtorEq,reduceIte,Int.reduceLT,Int.reduceLE,Int.reduceAdd,Int.reduceSub,Int.reduceNeg,Int.reduceEq,Int.reduceBEq,Int.reduceBNe,Int.reduceToNat,Nat.reduceDiv,Nat.reduceMod,f85,cfg, *]))
 all_goals
  exact fz
theorem c36a (me ta:List UInt8) (st:Int) (re:List UInt8) (ba:Bool) (l:List Fld) (bo:List UInt8) (h1:me.length≤9223372036854775807) (h2:ta.length≤9223372036854775807) (h3:re.length≤9223372036854775807) (h4:bo.length≤9223372036854775807) (hl:Small l) (hf:fieldsB l=false):Q1 36 (.agg [.v (vS me),.v (vS ta),.v (vI st),.v (vS re),.v (vB ba),.imm 105 (rowsF l),.v (vS bo)]) (.v (vB (false))):=by
 refine sf 1 [.tm 2] func36 ?_
 have hs:l.length≤9223372036854775807:=hl.1
 simp only [go_sem,Nat.reduceLeDiff,Nat.reduceAdd,Nat.reduceSub,f36,cfg]
 try (with_reducible intro _)
 try simp only [go_sem]
 refine cf (c84 l hl) ?_
 simp only [go_sem,Nat.reduceAdd,reduceCtorEq,hf]
 try (with_reducible intro _)
 try simp only [go_sem]
 exact fz
theorem c36b (me ta:List UInt8) (st:Int) (re:List UInt8) (ba:Bool) (l:List Fld) (bo:List UInt8) (h1:me.length≤9223372036854775807) (h2:ta.length≤9223372036854775807) (h3:re.length≤9223372036854775807) (h4:bo.length≤9223372036854775807) (hl:Small l) (hf:fieldsB l=true) (h20:(20:Int)≤(l.length:Int)):Q1 36 (.agg [.v (vS me),.v (vS ta),.v (vI st),.v (vS re),.v (vB ba),.imm 105 (rowsF l),.v (vS bo)]) (.v (vB (false))):=by
 refine sf 1 [.tm 2] func36 ?_
 have hs:l.length≤9223372036854775807:=hl.1
 simp only [go_sem,Nat.reduceLeDiff,Nat.reduceAdd,Nat.reduceSub,f36,cfg]
 try (with_reducible intro _)
 try simp only [go_sem]
 refine cf (c84 l hl) ?_
 simp only [go_sem,Nat.reduceLeDiff,Nat.reduceAdd,reduceCtorEq,rowsF_length,hs,hf,h20]
 try (with_reducible intro _)
 try simp only [go_sem]
 exact fz
theorem c36c (me ta:List UInt8) (st:Int) (re:List UInt8) (ba:Bool) (l:List Fld) (bo:List UInt8) (h1:me.length≤9223372036854775807) (h2:ta.length≤9223372036854775807) (h3:re.length≤9223372036854775807) (h4:bo.length≤9223372036854775807) (hl:Small l) (hf:fieldsB l=true) (h20:¬ (20:Int)≤(l.length:Int)) (hb:(600:Int)<(bo.length:Int)):Q1 36 (.agg [.v (vS me),.v (vS ta),.v (vI st),.v (vS re),.v (vB ba),.imm 105 (rowsF l),.v (vS bo)]) (.v (vB (false))):=by
 refine sf 1 [.tm 2] func36 ?_
 have hs:l.length≤9223372036854775807:=hl.1
 simp only [go_sem,Nat.reduceLeDiff,Nat.reduceAdd,Nat.reduceSub,f36,cfg]
 try (with_reducible intro _)
 try simp only [go_sem]
 refine cf (c84 l hl) ?_
 simp only [go_sem,Nat.reduceLeDiff,Nat.reduceAdd,rowsF_length,hs,h4,hf,h20,hb]
 try (with_reducible intro _)
 try simp only [go_sem]
 exact fz
theorem c36d (me ta:List UInt8) (st:Int) (re:List UInt8) (ba:Bool) (l:List Fld) (bo:List UInt8) (h1:me.length≤9223372036854775807) (h2:ta.length≤9223372036854775807) (h3:re.length≤9223372036854775807) (h4:bo.length≤9223372036854775807) (hl:Small l) (hf:fieldsB l=true) (h20:¬ (20:Int)≤(l.length:Int)) (hb:¬ (600:Int)<(bo.length:Int)) (k:Nat) (hk:k<3) (hno:∀ i,i<k→hasF (frN.getD i []) l=false) (hyes:hasF (frN.getD k []) l=true):Q1 36 (.agg [.v (vS me),.v (vS ta),.v (vI st),.v (vS re),.v (vB ba),.imm 105 (rowsF l),.v (vS bo)]) (.v (vB (false))):=by
 refine sf 1 [.tm 2] func36 ?_
 have hs:l.length≤9223372036854775807:=hl.1
 simp only [go_sem,Nat.reduceLeDiff,Nat.reduceAdd,Nat.reduceSub,f36,cfg]
 try (with_reducible intro _)
 try simp only [go_sem]
 refine cf (c84 l hl) ?_
 simp only [go_sem,Nat.reduceLeDiff,Nat.reduceAdd,rowsF_length,hs,h4,hf,h20,hb]
 try (with_reducible intro _)
 try simp only [go_sem]
 refine cf (c85) ?_
 simp only [go_sem,Nat.reduceAdd,Nat.reduceDiv,Nat.reduceMod,rowsS_length]
 try (with_reducible intro _)
 try simp only [go_sem]
 refine loop_on (fun i:Nat=>pC 97 [.dead,.cref 1 0,.v (vB false),.dead,.dead,.dead,.dead,.dead,.dead,.dead,.dead,.dead,.dead,.dead,.dead,.dead,.dead,.dead,.dead,.dead,.dead,.own 9 (rowsS frN),.v (vI 3),.v (vI i)] [none,some [.v (vS me),.v (vS ta),.v (vI st),.v (vS re),.v (vB ba),.imm 105 (rowsF l),.v (vS bo)]]) [1,2,21,22,23] (fun i=>i≤k) (fun i=>k-i) 0 rfl (by omega) ?_
 intro i hi
 simp only [go_sem]
 refine Or.elim (Classical.em (i<k)) (fun hc => ?_) fun hc => ?_
 ·have hx:=hno i hc
  unfold hasF at hx
  have hw:IntKind.i64.wrap ((i:Int)+1)=((i+1:Nat):Int):=by rw [IntKind.wrap_i64]; omega
  have hc1:(i:Int)<3:=by omega
  have hc2:i<frN.length:=by show i<3; omega
  have g1:=rowsS_getD hc2
  simp only [go_sem,Nat.reduceLeDiff,Nat.reduceAdd,Nat.reduceBNe,Nat.reduceDiv,Nat.reduceMod,rowsS_length,hc1,hc2,g1]
  refine cf (c86 l hl (frN.getD i []) (frN_len (by omega)) hf) ?_
  simp only [go_sem,Nat.reduceAdd,hx,hw]
  first | exact ⟨i+1,rfl,hc,by omega⟩
 ·have he:i=k:=by omega
  subst he
  have hx:=hyes
  unfold hasF at hx
  have hw:IntKind.i64.wrap ((i:Int)+1)=((i+1:Nat):Int):=by rw [IntKind.wrap_i64]; omega
  have hc1:(i:Int)<3:=by omega
  have hc2:i<frN.length:=by show i<3; omega
  have g1:=rowsS_getD hc2
  simp only [go_sem,Nat.reduceLeDiff,Nat.reduceAdd,Nat.reduceBNe,Nat.reduceDiv,Nat.reduceMod,rowsS_length,hc1,hc2,g1]
  refine cf (c86 l hl (frN.getD i []) (frN_len (by omega)) hf) ?_
  simp only [go_sem,Nat.reduceAdd,hx]
  exact fz
theorem c36e (me ta:List UInt8) (st:Int) (re:List UInt8) (ba:Bool) (l:List Fld) (bo:List UInt8) (h1:me.length≤9223372036854775807) (h2:ta.length≤9223372036854775807) (h3:re.length≤9223372036854775807) (h4:bo.length≤9223372036854775807) (hl:Small l) (hf:fieldsB l=true) (h20:¬ (20:Int)≤(l.length:Int)) (hb:¬ (600:Int)<(bo.length:Int)) (hno:∀ i,i<3→hasF (frN.getD i []) l=false) (hm:(me==[])=false) (hr:(tokenI me&&decide (me.length≤20))=false):Q1 36 (.agg [.v (vS me),.v (vS ta),.v (vI st),.v (vS re),.v (vB ba),.imm 105 (rowsF l),.v (vS bo)]) (.v (vB (false))):=by
 refine sf 1 [.tm 2] func36 ?_
 have hs:l.length≤9223372036854775807:=hl.1
 simp only [go_sem,Nat.reduceLeDiff,Nat.reduceAdd,Nat.reduceSub,f36,cfg]
 try (with_reducible intro _)
 try simp only [go_sem]
 refine cf (c84 l hl) ?_
 simp only [go_sem,Nat.reduceLeDiff,Nat.reduceAdd,rowsF_length,hs,h4,hf,h20,hb]
 try (with_reducible intro _)
 try simp only [go_sem]
 refine cf (c85) ?_
 simp only [go_sem,Nat.reduceAdd,Nat.reduceDiv,Nat.reduceMod,rowsS_length]
 try (with_reducible intro _)
 try simp only [go_sem]
 refine loop_on (fun i:Nat=>pC 97 [.dead,.cref 1 0,.v (vB false),.dead,.dead,.dead,.dead,.dead,.dead,.dead,.dead,.dead,.dead,.dead,.dead,.dead,.dead,.dead,.dead,.dead,.dead,.own 9 (rowsS frN),.v (vI 3),.v (vI i)] [none,some [.v (vS me),.v (vS ta),.v (vI st),.v (vS re),.v (vB ba),.imm 105 (rowsF l),.v (vS bo)]]) [1,2,21,22,23] (fun i=>i≤3) (fun i=>3-i) 0 rfl (by omega) ?_
 intro i hi
 simp only [go_sem]
 refine Or.elim (Classical.em (i<3)) (fun hc => ?_) fun hc => ?_
 ·have hx:=hno i hc
  unfold hasF at hx
  have hw:IntKind.i64.wrap ((i:Int)+1)=((i+1:Nat):Int):=by rw [IntKind.wrap_i64]; omega
  have hc1:(i:Int)<3:=by omega
  have hc2:i<frN.length:=by show i<3; omega
  have g1:=rowsS_getD hc2
  simp only [go_sem,Nat.reduceLeDiff,Nat.reduceAdd,Nat.reduceBNe,Nat.reduceDiv,Nat.reduceMod,rowsS_length,hc1,hc2,g1]
  refine cf (c86 l hl (frN.getD i []) (frN_len (by omega)) hf) ?_
  simp only [go_sem,Nat.reduceAdd,hx,hw]
  first | exact ⟨i+1,rfl,hc,by omega⟩
 ·have he:i=3:=by omega
  subst he
  simp only [go_sem,Nat.reduceLeDiff,Nat.reduceAdd,Int.reduceLT,hm]
  refine cf (c87 _ h1) ?_
  simp only [go_sem,Nat.reduceAdd,reduceCtorEq,hr]
  try (with_reducible intro _)
  try simp only [go_sem]
  exact fz
theorem c36f (me ta:List UInt8) (st:Int) (re:List UInt8) (ba:Bool) (l:List Fld) (bo:List UInt8) (h1:me.length≤9223372036854775807) (h2:ta.length≤9223372036854775807) (h3:re.length≤9223372036854775807) (h4:bo.length≤9223372036854775807) (hl:Small l) (hf:fieldsB l=true) (h20:¬ (20:Int)≤(l.length:Int)) (hb:¬ (600:Int)<(bo.length:Int)) (hno:∀ i,i<3→hasF (frN.getD i []) l=false) (hm:(me==[])=false) (r1:(tokenI me&&decide (me.length≤20))=true) (r2:targetB ta=false):Q1 36 (.agg [.v (vS me),.v (vS ta),.v (vI st),.v (vS re),.v (vB ba),.imm 105 (rowsF l),.v (vS bo)]) (.v (vB (false))):=by
 refine sf 1 [.tm 2] func36 ?_
 have hs:l.length≤9223372036854775807:=hl.1
 simp only [go_sem,Nat.reduceLeDiff,Nat.reduceAdd,Nat.reduceSub,f36,cfg]
 try (with_reducible intro _)
 try simp only [go_sem]
 refine cf (c84 l hl) ?_
 simp only [go_sem,Nat.reduceLeDiff,Nat.reduceAdd,rowsF_length,hs,h4,hf,h20,hb]
 try (with_reducible intro _)
 try simp only [go_sem]
 refine cf (c85) ?_
 simp only [go_sem,Nat.reduceAdd,Nat.reduceDiv,Nat.reduceMod,rowsS_length]
 try (with_reducible intro _)
 try simp only [go_sem]
 refine loop_on (fun i:Nat=>pC 97 [.dead,.cref 1 0,.v (vB false),.dead,.dead,.dead,.dead,.dead,.dead,.dead,.dead,.dead,.dead,.dead,.dead,.dead,.dead,.dead,.dead,.dead,.dead,.own 9 (rowsS frN),.v (vI 3),.v (vI i)] [none,some [.v (vS me),.v (vS ta),.v (vI st),.v (vS re),.v (vB ba),.imm 105 (rowsF l),.v (vS bo)]]) [1,2,21,22,23] (fun i=>i≤3) (fun i=>3-i) 0 rfl (by omega) ?_
 intro i hi
 simp only [go_sem]
 refine Or.elim (Classical.em (i<3)) (fun hc => ?_) fun hc => ?_
 ·have hx:=hno i hc
  unfold hasF at hx
  have hw:IntKind.i64.wrap ((i:Int)+1)=((i+1:Nat):Int):=by rw [IntKind.wrap_i64]; omega
  have hc1:(i:Int)<3:=by omega
  have hc2:i<frN.length:=by show i<3; omega
  have g1:=rowsS_getD hc2
  simp only [go_sem,Nat.reduceLeDiff,Nat.reduceAdd,Nat.reduceBNe,Nat.reduceDiv,Nat.reduceMod,rowsS_length,hc1,hc2,g1]
  refine cf (c86 l hl (frN.getD i []) (frN_len (by omega)) hf) ?_
  simp only [go_sem,Nat.reduceAdd,hx,hw]
  first | exact ⟨i+1,rfl,hc,by omega⟩
 ·have he:i=3:=by omega
  subst he
  simp only [go_sem,Nat.reduceLeDiff,Nat.reduceAdd,Int.reduceLT,hm]
  refine cf (c87 _ h1) ?_
  simp only [go_sem,Nat.reduceLeDiff,Nat.reduceAdd,r1]
  refine cf (c88 _ h2) ?_
  simp only [go_sem,Nat.reduceAdd,reduceCtorEq,r2]
  try (with_reducible intro _)
  try simp only [go_sem]
  exact fz
theorem c36g (me ta:List UInt8) (st:Int) (re:List UInt8) (ba:Bool) (l:List Fld) (bo:List UInt8) (h1:me.length≤9223372036854775807) (h2:ta.length≤9223372036854775807) (h3:re.length≤9223372036854775807) (h4:bo.length≤9223372036854775807) (hl:Small l) (hf:fieldsB l=true) (h20:¬ (20:Int)≤(l.length:Int)) (hb:¬ (600:Int)<(bo.length:Int)) (hno:∀ i,i<3→hasF (frN.getD i []) l=false) (hm:(me==[])=false) (r1:(tokenI me&&decide (me.length≤20))=true) (r2:targetB ta=true) (r3:(st != 0)=true):Q1 36 (.agg [.v (vS me),.v (vS ta),.v (vI st),.v (vS re),.v (vB ba),.imm 105 (rowsF l),.v (vS bo)]) (.v (vB (false))):=by
 refine sf 1 [.tm 2] func36 ?_
 have hs:l.length≤9223372036854775807:=hl.1
 simp only [go_sem,Nat.reduceLeDiff,Nat.reduceAdd,Nat.reduceSub,f36,cfg]
 try (with_reducible intro _)
 try simp only [go_sem]
 refine cf (c84 l hl) ?_
 simp only [go_sem,Nat.reduceLeDiff,Nat.reduceAdd,rowsF_length,hs,h4,hf,h20,hb]
 try (with_reducible intro _)
 try simp only [go_sem]
 refine cf (c85) ?_
 simp only [go_sem,Nat.reduceAdd,Nat.reduceDiv,Nat.reduceMod,rowsS_length]
 try (with_reducible intro _)
 try simp only [go_sem]
 refine loop_on (fun i:Nat=>pC 97 [.dead,.cref 1 0,.v (vB false),.dead,.dead,.dead,.dead,.dead,.dead,.dead,.dead,.dead,.dead,.dead,.dead,.dead,.dead,.dead,.dead,.dead,.dead,.own 9 (rowsS frN),.v (vI 3),.v (vI i)] [none,some [.v (vS me),.v (vS ta),.v (vI st),.v (vS re),.v (vB ba),.imm 105 (rowsF l),.v (vS bo)]]) [1,2,21,22,23] (fun i=>i≤3) (fun i=>3-i) 0 rfl (by omega) ?_
 intro i hi
 simp only [go_sem]
 refine Or.elim (Classical.em (i<3)) (fun hc => ?_) fun hc => ?_
 ·have hx:=hno i hc
  unfold hasF at hx
  have hw:IntKind.i64.wrap ((i:Int)+1)=((i+1:Nat):Int):=by rw [IntKind.wrap_i64]; omega
  have hc1:(i:Int)<3:=by omega
  have hc2:i<frN.length:=by show i<3; omega
  have g1:=rowsS_getD hc2
  simp only [go_sem,Nat.reduceLeDiff,Nat.reduceAdd,Nat.reduceBNe,Nat.reduceDiv,Nat.reduceMod,rowsS_length,hc1,hc2,g1]
  refine cf (c86 l hl (frN.getD i []) (frN_len (by omega)) hf) ?_
  simp only [go_sem,Nat.reduceAdd,hx,hw]
  first | exact ⟨i+1,rfl,hc,by omega⟩
 ·have he:i=3:=by omega
  subst he
  simp only [go_sem,Nat.reduceLeDiff,Nat.reduceAdd,Int.reduceLT,hm]
  refine cf (c87 _ h1) ?_
  simp only [go_sem,Nat.reduceLeDiff,Nat.reduceAdd,r1]
  refine cf (c88 _ h2) ?_
  simp only [go_sem,Nat.reduceLeDiff,Nat.reduceAdd,reduceCtorEq,r2,r3]
  try (with_reducible intro _)
  try simp only [go_sem]
  exact fz
theorem c36h (me ta:List UInt8) (st:Int) (re:List UInt8) (ba:Bool) (l:List Fld) (bo:List UInt8) (h1:me.length≤9223372036854775807) (h2:ta.length≤9223372036854775807) (h3:re.length≤9223372036854775807) (h4:bo.length≤9223372036854775807) (hl:Small l) (hf:fieldsB l=true) (h20:¬ (20:Int)≤(l.length:Int)) (hb:¬ (600:Int)<(bo.length:Int)) (hno:∀ i,i<3→hasF (frN.getD i []) l=false) (hm:(me==[])=false) (r1:(tokenI me&&decide (me.length≤20))=true) (r2:targetB ta=true) (r3:(st != 0)=false) (r4:(re==[])=false):Q1 36 (.agg [.v (vS me),.v (vS ta),.v (vI st),.v (vS re),.v (vB ba),.imm 105 (rowsF l),.v (vS bo)]) (.v (vB (false))):=by
 refine sf 1 [.tm 2] func36 ?_
 have hs:l.length≤9223372036854775807:=hl.1
 simp only [go_sem,Nat.reduceLeDiff,Nat.reduceAdd,Nat.reduceSub,f36,cfg]
 try (with_reducible intro _)
 try simp only [go_sem]
 refine cf (c84 l hl) ?_
 simp only [go_sem,Nat.reduceLeDiff,Nat.reduceAdd,rowsF_length,hs,h4,hf,h20,hb]
 try (with_reducible intro _)
 try simp only [go_sem]
 refine cf (c85) ?_
 simp only [go_sem,Nat.reduceAdd,Nat.reduceDiv,Nat.reduceMod,rowsS_length]
 try (with_reducible intro _)
 try simp only [go_sem]
 refine loop_on (fun i:Nat=>pC 97 [.dead,.cref 1 0,.v (vB false),.dead,.dead,.dead,.dead,.dead,.dead,.dead,.dead,.dead,.dead,.dead,.dead,.dead,.dead,.dead,.dead,.dead,.dead,.own 9 (rowsS frN),.v (vI 3),.v (vI i)] [none,some [.v (vS me),.v (vS ta),.v (vI st),.v (vS re),.v (vB ba),.imm 105 (rowsF l),.v (vS bo)]]) [1,2,21,22,23] (fun i=>i≤3) (fun i=>3-i) 0 rfl (by omega) ?_
 intro i hi
 simp only [go_sem]
 refine Or.elim (Classical.em (i<3)) (fun hc => ?_) fun hc => ?_
 ·have hx:=hno i hc
  unfold hasF at hx
  have hw:IntKind.i64.wrap ((i:Int)+1)=((i+1:Nat):Int):=by rw [IntKind.wrap_i64]; omega
  have hc1:(i:Int)<3:=by omega
  have hc2:i<frN.length:=by show i<3; omega
  have g1:=rowsS_getD hc2
  simp only [go_sem,Nat.reduceLeDiff,Nat.reduceAdd,Nat.reduceBNe,Nat.reduceDiv,Nat.reduceMod,rowsS_length,hc1,hc2,g1]
  refine cf (c86 l hl (frN.getD i []) (frN_len (by omega)) hf) ?_
  simp only [go_sem,Nat.reduceAdd,hx,hw]
  first | exact ⟨i+1,rfl,hc,by omega⟩
 ·have he:i=3:=by omega
  subst he
  simp only [go_sem,Nat.reduceLeDiff,Nat.reduceAdd,Int.reduceLT,hm]
  refine cf (c87 _ h1) ?_
  simp only [go_sem,Nat.reduceLeDiff,Nat.reduceAdd,r1]
  refine cf (c88 _ h2) ?_
  simp only [go_sem,Nat.reduceLeDiff,Nat.reduceAdd,reduceCtorEq,r2,r3,r4]
  try (with_reducible intro _)
  try simp only [go_sem]
  exact fz
theorem c36i (me ta:List UInt8) (st:Int) (re:List UInt8) (ba:Bool) (l:List Fld) (bo:List UInt8) (h1:me.length≤9223372036854775807) (h2:ta.length≤9223372036854775807) (h3:re.length≤9223372036854775807) (h4:bo.length≤9223372036854775807) (hl:Small l) (hf:fieldsB l=true) (h20:¬ (20:Int)≤(l.length:Int)) (hb:¬ (600:Int)<(bo.length:Int)) (hno:∀ i,i<3→hasF (frN.getD i []) l=false) (hm:(me==[])=false) (r1:(tokenI me&&decide (me.length≤20))=true) (r2:targetB ta=true) (r3:(st != 0)=false) (r4:(re==[])=true) (r5:ba=true):Q1 36 (.agg [.v (vS me),.v (vS ta),.v (vI st),.v (vS re),.v (vB ba),.imm 105 (rowsF l),.v (vS bo)]) (.v (vB (false))):=by
 refine sf 1 [.tm 2] func36 ?_
 have hs:l.length≤9223372036854775807:=hl.1
 simp only [go_sem,Nat.reduceLeDiff,Nat.reduceAdd,Nat.reduceSub,f36,cfg]
 try (with_reducible intro _)
 try simp only [go_sem]
 refine cf (c84 l hl) ?_
 simp only [go_sem,Nat.reduceLeDiff,Nat.reduceAdd,rowsF_length,hs,h4,hf,h20,hb]
 try (with_reducible intro _)
 try simp only [go_sem]
 refine cf (c85) ?_
 simp only [go_sem,Nat.reduceAdd,Nat.reduceDiv,Nat.reduceMod,rowsS_length]
 try (with_reducible intro _)
 try simp only [go_sem]
 refine loop_on (fun i:Nat=>pC 97 [.dead,.cref 1 0,.v (vB false),.dead,.dead,.dead,.dead,.dead,.dead,.dead,.dead,.dead,.dead,.dead,.dead,.dead,.dead,.dead,.dead,.dead,.dead,.own 9 (rowsS frN),.v (vI 3),.v (vI i)] [none,some [.v (vS me),.v (vS ta),.v (vI st),.v (vS re),.v (vB ba),.imm 105 (rowsF l),.v (vS bo)]]) [1,2,21,22,23] (fun i=>i≤3) (fun i=>3-i) 0 rfl (by omega) ?_
 intro i hi
 simp only [go_sem]
 refine Or.elim (Classical.em (i<3)) (fun hc => ?_) fun hc => ?_
 ·have hx:=hno i hc
  unfold hasF at hx
  have hw:IntKind.i64.wrap ((i:Int)+1)=((i+1:Nat):Int):=by rw [IntKind.wrap_i64]; omega
  have hc1:(i:Int)<3:=by omega
  have hc2:i<frN.length:=by show i<3; omega
  have g1:=rowsS_getD hc2
  simp only [go_sem,Nat.reduceLeDiff,Nat.reduceAdd,Nat.reduceBNe,Nat.reduceDiv,Nat.reduceMod,rowsS_length,hc1,hc2,g1]
  refine cf (c86 l hl (frN.getD i []) (frN_len (by omega)) hf) ?_
  simp only [go_sem,Nat.reduceAdd,hx,hw]
  first | exact ⟨i+1,rfl,hc,by omega⟩
 ·have he:i=3:=by omega
  subst he
  simp only [go_sem,Nat.reduceLeDiff,Nat.reduceAdd,Int.reduceLT,hm,r5]
  refine cf (c87 _ h1) ?_
  simp only [go_sem,Nat.reduceLeDiff,Nat.reduceAdd,r1]
  refine cf (c88 _ h2) ?_
  simp only [go_sem,Nat.reduceLeDiff,Nat.reduceAdd,r2,r3,r4]
  try (with_reducible intro _)
  try simp only [go_sem]
  exact fz
theorem c36j (me ta:List UInt8) (st:Int) (re:List UInt8) (ba:Bool) (l:List Fld) (bo:List UInt8) (h1:me.length≤9223372036854775807) (h2:ta.length≤9223372036854775807) (h3:re.length≤9223372036854775807) (h4:bo.length≤9223372036854775807) (hl:Small l) (hf:fieldsB l=true) (h20:¬ (20:Int)≤(l.length:Int)) (hb:¬ (600:Int)<(bo.length:Int)) (hno:∀ i,i<3→hasF (frN.getD i []) l=false) (hm:(me==[])=false) (r1:(tokenI me&&decide (me.length≤20))=true) (r2:targetB ta=true) (r3:(st != 0)=false) (r4:(re==[])=true) (r5:ba=false) (H:List UInt8) (hH:H.length≤9223372036854775807) (hd:Sem prog 37 ⟨[.agg [.v (vS me),.v (vS ta),.v (vI st),.v (vS re),.v (vB ba),.imm 105 (rowsF l),.v (vS bo)]],[none]⟩ ⟨[.dead,.v (vS H)],[none,none]⟩):Q1 36 (.agg [.v (vS me),.v (vS ta),.v (vI st),.v (vS re),.v (vB ba),.imm 105 (rowsF l),.v (vS bo)]) (.v (vB (decide ((H.length:Int)≤1500)))):=by
 refine sf 1 [.tm 2] func36 ?_
 have hs:l.length≤9223372036854775807:=hl.1
 simp only [go_sem,Nat.reduceLeDiff,Nat.reduceAdd,Nat.reduceSub,f36,cfg]
 try (with_reducible intro _)
 try simp only [go_sem]
 refine cf (c84 l hl) ?_
 simp only [go_sem,Nat.reduceLeDiff,Nat.reduceAdd,rowsF_length,hs,h4,hf,h20,hb]
 try (with_reducible intro _)
 try simp only [go_sem]
 refine cf (c85) ?_
 simp only [go_sem,Nat.reduceAdd,Nat.reduceDiv,Nat.reduceMod,rowsS_length]
 try (with_reducible intro _)
 try simp only [go_sem]
 refine loop_on (fun i:Nat=>pC 97 [.dead,.cref 1 0,.v (vB false),.dead,.dead,.dead,.dead,.dead,.dead,.dead,.dead,.dead,.dead,.dead,.dead,.dead,.dead,.dead,.dead,.dead,.dead,.own 9 (rowsS frN),.v (vI 3),.v (vI i)] [none,some [.v (vS me),.v (vS ta),.v (vI st),.v (vS re),.v (vB ba),.imm 105 (rowsF l),.v (vS bo)]]) [1,2,21,22,23] (fun i=>i≤3) (fun i=>3-i) 0 rfl (by omega) ?_
 intro i hi
 simp only [go_sem]
 refine Or.elim (Classical.em (i<3)) (fun hc => ?_) fun hc => ?_
 ·have hx:=hno i hc
  unfold hasF at hx
  have hw:IntKind.i64.wrap ((i:Int)+1)=((i+1:Nat):Int):=by rw [IntKind.wrap_i64]; omega
  have hc1:(i:Int)<3:=by omega
  have hc2:i<frN.length:=by show i<3; omega
  have g1:=rowsS_getD hc2
  simp only [go_sem,Nat.reduceLeDiff,Nat.reduceAdd,Nat.reduceBNe,Nat.reduceDiv,Nat.reduceMod,rowsS_length,hc1,hc2,g1]
  refine cf (c86 l hl (frN.getD i []) (frN_len (by omega)) hf) ?_
  simp only [go_sem,Nat.reduceAdd,hx,hw]
  first | exact ⟨i+1,rfl,hc,by omega⟩
 ·have he:i=3:=by omega
  subst he
  simp only [go_sem,Nat.reduceLeDiff,Nat.reduceAdd,Int.reduceLT,hm,r5]
  refine cf (c87 _ h1) ?_
  simp only [go_sem,Nat.reduceLeDiff,Nat.reduceAdd,r1]
  refine cf (c88 _ h2) ?_
  simp only [go_sem,Nat.reduceLeDiff,Nat.reduceAdd,r2,r3,r4]
  refine cf ((by rw [r5] at hd; exact hd:Sem prog 37 ⟨[.agg [.v (vS me),.v (vS ta),.v (vI st),.v (vS re),.v (vB false),.imm 105 (rowsF l),.v (vS bo)]],[none]⟩ ⟨[.dead,.v (vS H)],[none,none]⟩)) ?_
  simp only [go_sem,Nat.reduceAdd,Nat.reduceBNe,hH]
  try (with_reducible intro _)
  try simp only [go_sem]
  exact fz
theorem c36k (me ta:List UInt8) (st:Int) (re:List UInt8) (ba:Bool) (l:List Fld) (bo:List UInt8) (h1:me.length≤9223372036854775807) (h2:ta.length≤9223372036854775807) (h3:re.length≤9223372036854775807) (h4:bo.length≤9223372036854775807) (hl:Small l) (hf:fieldsB l=true) (h20:¬ (20:Int)≤(l.length:Int)) (hb:¬ (600:Int)<(bo.length:Int)) (hno:∀ i,i<3→hasF (frN.getD i []) l=false) (hm:(me==[])=true) (r1:(ta==[])=false):Q1 36 (.agg [.v (vS me),.v (vS ta),.v (vI st),.v (vS re),.v (vB ba),.imm 105 (rowsF l),.v (vS bo)]) (.v (vB (false))):=by
 refine sf 1 [.tm 2] func36 ?_
 have hs:l.length≤9223372036854775807:=hl.1
 simp only [go_sem,Nat.reduceLeDiff,Nat.reduceAdd,Nat.reduceSub,f36,cfg]
 try (with_reducible intro _)
 try simp only [go_sem]
 refine cf (c84 l hl) ?_
 simp only [go_sem,Nat.reduceLeDiff,Nat.reduceAdd,rowsF_length,hs,h4,hf,h20,hb]
 try (with_reducible intro _)
 try simp only [go_sem]
 refine cf (c85) ?_
 simp only [go_sem,Nat.reduceAdd,Nat.reduceDiv,Nat.reduceMod,rowsS_length]
 try (with_reducible intro _)
 try simp only [go_sem]
 refine loop_on (fun i:Nat=>pC 97 [.dead,.cref 1 0,.v (vB false),.dead,.dead,.dead,.dead,.dead,.dead,.dead,.dead,.dead,.dead,.dead,.dead,.dead,.dead,.dead,.dead,.dead,.dead,.own 9 (rowsS frN),.v (vI 3),.v (vI i)] [none,some [.v (vS me),.v (vS ta),.v (vI st),.v (vS re),.v (vB ba),.imm 105 (rowsF l),.v (vS bo)]]) [1,2,21,22,23] (fun i=>i≤3) (fun i=>3-i) 0 rfl (by omega) ?_
 intro i hi
 simp only [go_sem]
 refine Or.elim (Classical.em (i<3)) (fun hc => ?_) fun hc => ?_
 ·have hx:=hno i hc
  unfold hasF at hx
  have hw:IntKind.i64.wrap ((i:Int)+1)=((i+1:Nat):Int):=by rw [IntKind.wrap_i64]; omega
  have hc1:(i:Int)<3:=by omega
  have hc2:i<frN.length:=by show i<3; omega
  have g1:=rowsS_getD hc2
  simp only [go_sem,Nat.reduceLeDiff,Nat.reduceAdd,Nat.reduceBNe,Nat.reduceDiv,Nat.reduceMod,rowsS_length,hc1,hc2,g1]
  refine cf (c86 l hl (frN.getD i []) (frN_len (by omega)) hf) ?_
  simp only [go_sem,Nat.reduceAdd,hx,hw]
  first | exact ⟨i+1,rfl,hc,by omega⟩
 ·have he:i=3:=by omega
  subst he
  simp only [go_sem,Nat.reduceLeDiff,Nat.reduceAdd,reduceCtorEq,Int.reduceLT,hm,r1]
  try (with_reducible intro _)
  try simp only [go_sem]
  exact fz
theorem c36l (me ta:List UInt8) (st:Int) (re:List UInt8) (ba:Bool) (l:List Fld) (bo:List UInt8) (h1:me.length≤9223372036854775807) (h2:ta.length≤9223372036854775807) (h3:re.length≤9223372036854775807) (h4:bo.length≤9223372036854775807) (hl:Small l) (hf:fieldsB l=true) (h20:¬ (20:Int)≤(l.length:Int)) (hb:¬ (600:Int)<(bo.length:Int)) (hno:∀ i,i<3→hasF (frN.getD i []) l=false) (hm:(me==[])=true) (r1:(ta==[])=true) (r2:statusB st=false):Q1 36 (.agg [.v (vS me),.v (vS ta),.v (vI st),.v (vS re),.v (vB ba),.imm 105 (rowsF l),.v (vS bo)]) (.v (vB (false))):=by
 refine sf 1 [.tm 2] func36 ?_
 have hs:l.length≤9223372036854775807:=hl.1
 simp only [go_sem,Nat.reduceLeDiff,Nat.reduceAdd,Nat.reduceSub,f36,cfg]
 try (with_reducible intro _)
 try simp only [go_sem]
 refine cf (c84 l hl) ?_
 simp only [go_sem,Nat.reduceLeDiff,Nat.reduceAdd,rowsF_length,hs,h4,hf,h20,hb]
 try (with_reducible intro _)
 try simp only [go_sem]
 refine cf (c85) ?_
 simp only [go_sem,Nat.reduceAdd,Nat.reduceDiv,Nat.reduceMod,rowsS_length]
 try (with_reducible intro _)
 try simp only [go_sem]
 refine loop_on (fun i:Nat=>pC 97 [.dead,.cref 1 0,.v (vB false),.dead,.dead,.dead,.dead,.dead,.dead,.dead,.dead,.dead,.dead,.dead,.dead,.dead,.dead,.dead,.dead,.dead,.dead,.own 9 (rowsS frN),.v (vI 3),.v (vI i)] [none,some [.v (vS me),.v (vS ta),.v (vI st),.v (vS re),.v (vB ba),.imm 105 (rowsF l),.v (vS bo)]]) [1,2,21,22,23] (fun i=>i≤3) (fun i=>3-i) 0 rfl (by omega) ?_
 intro i hi
 simp only [go_sem]
 refine Or.elim (Classical.em (i<3)) (fun hc => ?_) fun hc => ?_
 ·have hx:=hno i hc
  unfold hasF at hx
  have hw:IntKind.i64.wrap ((i:Int)+1)=((i+1:Nat):Int):=by rw [IntKind.wrap_i64]; omega
  have hc1:(i:Int)<3:=by omega
  have hc2:i<frN.length:=by show i<3; omega
  have g1:=rowsS_getD hc2
  simp only [go_sem,Nat.reduceLeDiff,Nat.reduceAdd,Nat.reduceBNe,Nat.reduceDiv,Nat.reduceMod,rowsS_length,hc1,hc2,g1]
  refine cf (c86 l hl (frN.getD i []) (frN_len (by omega)) hf) ?_
  simp only [go_sem,Nat.reduceAdd,hx,hw]
  first | exact ⟨i+1,rfl,hc,by omega⟩
 ·have he:i=3:=by omega
  subst he
  simp only [go_sem,Nat.reduceLeDiff,Nat.reduceAdd,Int.reduceLT,hm,r1]
  refine cf (c89 _) ?_
  simp only [go_sem,Nat.reduceAdd,reduceCtorEq,r2]
  try (with_reducible intro _)
  try simp only [go_sem]
  exact fz
theorem c36m (me ta:List UInt8) (st:Int) (re:List UInt8) (ba:Bool) (l:List Fld) (bo:List UInt8) (h1:me.length≤9223372036854775807) (h2:ta.length≤9223372036854775807) (h3:re.length≤9223372036854775807) (h4:bo.length≤9223372036854775807) (hl:Small l) (hf:fieldsB l=true) (h20:¬ (20:Int)≤(l.length:Int)) (hb:¬ (600:Int)<(bo.length:Int)) (hno:∀ i,i<3→hasF (frN.getD i []) l=false) (hm:(me==[])=true) (r1:(ta==[])=true) (r2:statusB st=true) (r3:reasonB re=false):Q1 36 (.agg [.v (vS me),.v (vS ta),.v (vI st),.v (vS re),.v (vB ba),.imm 105 (rowsF l),.v (vS bo)]) (.v (vB (false))):=by
 refine sf 1 [.tm 2] func36 ?_
 have hs:l.length≤9223372036854775807:=hl.1
 simp only [go_sem,Nat.reduceLeDiff,Nat.reduceAdd,Nat.reduceSub,f36,cfg]
 try (with_reducible intro _)
 try simp only [go_sem]
 refine cf (c84 l hl) ?_
 simp only [go_sem,Nat.reduceLeDiff,Nat.reduceAdd,rowsF_length,hs,h4,hf,h20,hb]
 try (with_reducible intro _)
 try simp only [go_sem]
 refine cf (c85) ?_
 simp only [go_sem,Nat.reduceAdd,Nat.reduceDiv,Nat.reduceMod,rowsS_length]
 try (with_reducible intro _)
 try simp only [go_sem]
 refine loop_on (fun i:Nat=>pC 97 [.dead,.cref 1 0,.v (vB false),.dead,.dead,.dead,.dead,.dead,.dead,.dead,.dead,.dead,.dead,.dead,.dead,.dead,.dead,.dead,.dead,.dead,.dead,.own 9 (rowsS frN),.v (vI 3),.v (vI i)] [none,some [.v (vS me),.v (vS ta),.v (vI st),.v (vS re),.v (vB ba),.imm 105 (rowsF l),.v (vS bo)]]) [1,2,21,22,23] (fun i=>i≤3) (fun i=>3-i) 0 rfl (by omega) ?_
 intro i hi
 simp only [go_sem]
 refine Or.elim (Classical.em (i<3)) (fun hc => ?_) fun hc => ?_
 ·have hx:=hno i hc
  unfold hasF at hx
  have hw:IntKind.i64.wrap ((i:Int)+1)=((i+1:Nat):Int):=by rw [IntKind.wrap_i64]; omega
  have hc1:(i:Int)<3:=by omega
  have hc2:i<frN.length:=by show i<3; omega
  have g1:=rowsS_getD hc2
  simp only [go_sem,Nat.reduceLeDiff,Nat.reduceAdd,Nat.reduceBNe,Nat.reduceDiv,Nat.reduceMod,rowsS_length,hc1,hc2,g1]
  refine cf (c86 l hl (frN.getD i []) (frN_len (by omega)) hf) ?_
  simp only [go_sem,Nat.reduceAdd,hx,hw]
  first | exact ⟨i+1,rfl,hc,by omega⟩
 ·have he:i=3:=by omega
  subst he
  simp only [go_sem,Nat.reduceLeDiff,Nat.reduceAdd,Int.reduceLT,hm,r1]
  refine cf (c89 _) ?_
  simp only [go_sem,Nat.reduceLeDiff,Nat.reduceAdd,r2]
  refine cf (c90 _ h3) ?_
  simp only [go_sem,Nat.reduceAdd,reduceCtorEq,r3]
  try (with_reducible intro _)
  try simp only [go_sem]
  exact fz
theorem c36n (me ta:List UInt8) (st:Int) (re:List UInt8) (ba:Bool) (l:List Fld) (bo:List UInt8) (h1:me.length≤9223372036854775807) (h2:ta.length≤9223372036854775807) (h3:re.length≤9223372036854775807) (h4:bo.length≤9223372036854775807) (hl:Small l) (hf:fieldsB l=true) (h20:¬ (20:Int)≤(l.length:Int)) (hb:¬ (600:Int)<(bo.length:Int)) (hno:∀ i,i<3→hasF (frN.getD i []) l=false) (hm:(me==[])=true) (r1:(ta==[])=true) (r2:statusB st=true) (r3:reasonB re=true) (r4:ba=true) (r5:(bo==[])=false):Q1 36 (.agg [.v (vS me),.v (vS ta),.v (vI st),.v (vS re),.v (vB ba),.imm 105 (rowsF l),.v (vS bo)]) (.v (vB (false))):=by
 refine sf 1 [.tm 2] func36 ?_
 have hs:l.length≤9223372036854775807:=hl.1
 simp only [go_sem,Nat.reduceLeDiff,Nat.reduceAdd,Nat.reduceSub,f36,cfg]
 try (with_reducible intro _)
 try simp only [go_sem]
 refine cf (c84 l hl) ?_
 simp only [go_sem,Nat.reduceLeDiff,Nat.reduceAdd,rowsF_length,hs,h4,hf,h20,hb]
 try (with_reducible intro _)
 try simp only [go_sem]
 refine cf (c85) ?_
 simp only [go_sem,Nat.reduceAdd,Nat.reduceDiv,Nat.reduceMod,rowsS_length]
 try (with_reducible intro _)
 try simp only [go_sem]
 refine loop_on (fun i:Nat=>pC 97 [.dead,.cref 1 0,.v (vB false),.dead,.dead,.dead,.dead,.dead,.dead,.dead,.dead,.dead,.dead,.dead,.dead,.dead,.dead,.dead,.dead,.dead,.dead,.own 9 (rowsS frN),.v (vI 3),.v (vI i)] [none,some [.v (vS me),.v (vS ta),.v (vI st),.v (vS re),.v (vB ba),.imm 105 (rowsF l),.v (vS bo)]]) [1,2,21,22,23] (fun i=>i≤3) (fun i=>3-i) 0 rfl (by omega) ?_
 intro i hi
 simp only [go_sem]
 refine Or.elim (Classical.em (i<3)) (fun hc => ?_) fun hc => ?_
 ·have hx:=hno i hc
  unfold hasF at hx
  have hw:IntKind.i64.wrap ((i:Int)+1)=((i+1:Nat):Int):=by rw [IntKind.wrap_i64]; omega
  have hc1:(i:Int)<3:=by omega
  have hc2:i<frN.length:=by show i<3; omega
  have g1:=rowsS_getD hc2
  simp only [go_sem,Nat.reduceLeDiff,Nat.reduceAdd,Nat.reduceBNe,Nat.reduceDiv,Nat.reduceMod,rowsS_length,hc1,hc2,g1]
  refine cf (c86 l hl (frN.getD i []) (frN_len (by omega)) hf) ?_
  simp only [go_sem,Nat.reduceAdd,hx,hw]
  first | exact ⟨i+1,rfl,hc,by omega⟩
 ·have he:i=3:=by omega
  subst he
  simp only [go_sem,Nat.reduceLeDiff,Nat.reduceAdd,Int.reduceLT,hm,r1,r4]
  refine cf (c89 _) ?_
  simp only [go_sem,Nat.reduceLeDiff,Nat.reduceAdd,r2]
  refine cf (c90 _ h3) ?_
  simp only [go_sem,Nat.reduceLeDiff,Nat.reduceAdd,reduceCtorEq,r3,r5]
  try (with_reducible intro _)
  try simp only [go_sem]
  exact fz
theorem c36o (me ta:List UInt8) (st:Int) (re:List UInt8) (ba:Bool) (l:List Fld) (bo:List UInt8) (h1:me.length≤9223372036854775807) (h2:ta.length≤9223372036854775807) (h3:re.length≤9223372036854775807) (h4:bo.length≤9223372036854775807) (hl:Small l) (hf:fieldsB l=true) (h20:¬ (20:Int)≤(l.length:Int)) (hb:¬ (600:Int)<(bo.length:Int)) (hno:∀ i,i<3→hasF (frN.getD i []) l=false) (hm:(me==[])=true) (r1:(ta==[])=true) (r2:statusB st=true) (r3:reasonB re=true) (r4:ba=true) (r5:(bo==[])=true) (r6:bareB st=true) (H:List UInt8) (hH:H.length≤9223372036854775807) (hd:Sem prog 37 ⟨[.agg [.v (vS me),.v (vS ta),.v (vI st),.v (vS re),.v (vB ba),.imm 105 (rowsF l),.v (vS bo)]],[none]⟩ ⟨[.dead,.v (vS H)],[none,none]⟩):Q1 36 (.agg [.v (vS me),.v (vS ta),.v (vI st),.v (vS re),.v (vB ba),.imm 105 (rowsF l),.v (vS bo)]) (.v (vB (decide ((H.length:Int)≤1500)))):=by
 refine sf 1 [.tm 2] func36 ?_
 have hs:l.length≤9223372036854775807:=hl.1
 simp only [go_sem,Nat.reduceLeDiff,Nat.reduceAdd,Nat.reduceSub,f36,cfg]
 try (with_reducible intro _)
 try simp only [go_sem]
 refine cf (c84 l hl) ?_
 simp only [go_sem,Nat.reduceLeDiff,Nat.reduceAdd,rowsF_length,hs,h4,hf,h20,hb]
 try (with_reducible intro _)
 try simp only [go_sem]
 refine cf (c85) ?_
 simp only [go_sem,Nat.reduceAdd,Nat.reduceDiv,Nat.reduceMod,rowsS_length]
 try (with_reducible intro _)
 try simp only [go_sem]
 refine loop_on (fun i:Nat=>pC 97 [.dead,.cref 1 0,.v (vB false),.dead,.dead,.dead,.dead,.dead,.dead,.dead,.dead,.dead,.dead,.dead,.dead,.dead,.dead,.dead,.dead,.dead,.dead,.own 9 (rowsS frN),.v (vI 3),.v (vI i)] [none,some [.v (vS me),.v (vS ta),.v (vI st),.v (vS re),.v (vB ba),.imm 105 (rowsF l),.v (vS bo)]]) [1,2,21,22,23] (fun i=>i≤3) (fun i=>3-i) 0 rfl (by omega) ?_
 intro i hi
 simp only [go_sem]
 refine Or.elim (Classical.em (i<3)) (fun hc => ?_) fun hc => ?_
 ·have hx:=hno i hc
  unfold hasF at hx
  have hw:IntKind.i64.wrap ((i:Int)+1)=((i+1:Nat):Int):=by rw [IntKind.wrap_i64]; omega
  have hc1:(i:Int)<3:=by omega
  have hc2:i<frN.length:=by show i<3; omega
  have g1:=rowsS_getD hc2
  simp only [go_sem,Nat.reduceLeDiff,Nat.reduceAdd,Nat.reduceBNe,Nat.reduceDiv,Nat.reduceMod,rowsS_length,hc1,hc2,g1]
  refine cf (c86 l hl (frN.getD i []) (frN_len (by omega)) hf) ?_
  simp only [go_sem,Nat.reduceAdd,hx,hw]
  first | exact ⟨i+1,rfl,hc,by omega⟩
 ·have he:i=3:=by omega
  subst he
  simp only [go_sem,Nat.reduceLeDiff,Nat.reduceAdd,Int.reduceLT,hm,r1,r4]
  refine cf (c89 _) ?_
  simp only [go_sem,Nat.reduceLeDiff,Nat.reduceAdd,r2]
  refine cf (c90 _ h3) ?_
  simp only [go_sem,Nat.reduceLeDiff,Nat.reduceAdd,r3,r5]
  refine cf (c91 _) ?_
  simp only [go_sem,Nat.reduceLeDiff,Nat.reduceAdd,r6]
  refine cf ((by rw [r4] at hd; exact hd:Sem prog 37 ⟨[.agg [.v (vS me),.v (vS ta),.v (vI st),.v (vS re),.v (vB true),.imm 105 (rowsF l),.v (vS bo)]],[none]⟩ ⟨[.dead,.v (vS H)],[none,none]⟩)) ?_
  simp only [go_sem,Nat.reduceAdd,Nat.reduceBNe,hH]
  try (with_reducible intro _)
  try simp only [go_sem]
  exact fz
theorem c36r (me ta:List UInt8) (st:Int) (re:List UInt8) (ba:Bool) (l:List Fld) (bo:List UInt8) (h1:me.length≤9223372036854775807) (h2:ta.length≤9223372036854775807) (h3:re.length≤9223372036854775807) (h4:bo.length≤9223372036854775807) (hl:Small l) (hf:fieldsB l=true) (h20:¬ (20:Int)≤(l.length:Int)) (hb:¬ (600:Int)<(bo.length:Int)) (hno:∀ i,i<3→hasF (frN.getD i []) l=false) (hm:(me==[])=true) (r1:(ta==[])=true) (r2:statusB st=true) (r3:reasonB re=true) (r4:ba=true) (r5:(bo==[])=true) (r6:bareB st=false) (H:List UInt8) (hH:H.length≤9223372036854775807) (hd:Sem prog 37 ⟨[.agg [.v (vS me),.v (vS ta),.v (vI st),.v (vS re),.v (vB ba),.imm 105 (rowsF l),.v (vS bo)]],[none]⟩ ⟨[.dead,.v (vS H)],[none,none]⟩):Q1 36 (.agg [.v (vS me),.v (vS ta),.v (vI st),.v (vS re),.v (vB ba),.imm 105 (rowsF l),.v (vS bo)]) (.v (vB (decide ((H.length:Int)≤1500)))):=by
 refine sf 1 [.tm 2] func36 ?_
 have hs:l.length≤9223372036854775807:=hl.1
 simp only [go_sem,Nat.reduceLeDiff,Nat.reduceAdd,Nat.reduceSub,f36,cfg]
 try (with_reducible intro _)
 try simp only [go_sem]
 refine cf (c84 l hl) ?_
 simp only [go_sem,Nat.reduceLeDiff,Nat.reduceAdd,rowsF_length,hs,h4,hf,h20,hb]
 try (with_reducible intro _)
 try simp only [go_sem]
 refine cf (c85) ?_
 simp only [go_sem,Nat.reduceAdd,Nat.reduceDiv,Nat.reduceMod,rowsS_length]
 try (with_reducible intro _)
 try simp only [go_sem]
 refine loop_on (fun i:Nat=>pC 97 [.dead,.cref 1 0,.v (vB false),.dead,.dead,.dead,.dead,.dead,.dead,.dead,.dead,.dead,.dead,.dead,.dead,.dead,.dead,.dead,.dead,.dead,.dead,.own 9 (rowsS frN),.v (vI 3),.v (vI i)] [none,some [.v (vS me),.v (vS ta),.v (vI st),.v (vS re),.v (vB ba),.imm 105 (rowsF l),.v (vS bo)]]) [1,2,21,22,23] (fun i=>i≤3) (fun i=>3-i) 0 rfl (by omega) ?_
 intro i hi
 simp only [go_sem]
 refine Or.elim (Classical.em (i<3)) (fun hc => ?_) fun hc => ?_
 ·have hx:=hno i hc
  unfold hasF at hx
  have hw:IntKind.i64.wrap ((i:Int)+1)=((i+1:Nat):Int):=by rw [IntKind.wrap_i64]; omega
  have hc1:(i:Int)<3:=by omega
  have hc2:i<frN.length:=by show i<3; omega
  have g1:=rowsS_getD hc2
  simp only [go_sem,Nat.reduceLeDiff,Nat.reduceAdd,Nat.reduceBNe,Nat.reduceDiv,Nat.reduceMod,rowsS_length,hc1,hc2,g1]
  refine cf (c86 l hl (frN.getD i []) (frN_len (by omega)) hf) ?_
  simp only [go_sem,Nat.reduceAdd,hx,hw]
  first | exact ⟨i+1,rfl,hc,by omega⟩
 ·have he:i=3:=by omega
  subst he
  simp only [go_sem,Nat.reduceLeDiff,Nat.reduceAdd,Int.reduceLT,hm,r1,r4]
  refine cf (c89 _) ?_
  simp only [go_sem,Nat.reduceLeDiff,Nat.reduceAdd,r2]
  refine cf (c90 _ h3) ?_
  simp only [go_sem,Nat.reduceLeDiff,Nat.reduceAdd,r3,r5]
  refine cf (c91 _) ?_
  simp only [go_sem,Nat.reduceAdd,r6]
  refine cf ((by rw [r4] at hd; exact hd:Sem prog 37 ⟨[.agg [.v (vS me),.v (vS ta),.v (vI st),.v (vS re),.v (vB true),.imm 105 (rowsF l),.v (vS bo)]],[none]⟩ ⟨[.dead,.v (vS H)],[none,none]⟩)) ?_
  simp only [go_sem,Nat.reduceAdd,Nat.reduceBNe,hH]
  try (with_reducible intro _)
  try simp only [go_sem]
  exact fz
theorem c36p (me ta:List UInt8) (st:Int) (re:List UInt8) (ba:Bool) (l:List Fld) (bo:List UInt8) (h1:me.length≤9223372036854775807) (h2:ta.length≤9223372036854775807) (h3:re.length≤9223372036854775807) (h4:bo.length≤9223372036854775807) (hl:Small l) (hf:fieldsB l=true) (h20:¬ (20:Int)≤(l.length:Int)) (hb:¬ (600:Int)<(bo.length:Int)) (hno:∀ i,i<3→hasF (frN.getD i []) l=false) (hm:(me==[])=true) (r1:(ta==[])=true) (r2:statusB st=true) (r3:reasonB re=true) (r4:ba=false) (r5:bareB st=true):Q1 36 (.agg [.v (vS me),.v (vS ta),.v (vI st),.v (vS re),.v (vB ba),.imm 105 (rowsF l),.v (vS bo)]) (.v (vB (false))):=by
 refine sf 1 [.tm 2] func36 ?_
 have hs:l.length≤9223372036854775807:=hl.1
 simp only [go_sem,Nat.reduceLeDiff,Nat.reduceAdd,Nat.reduceSub,f36,cfg]
 try (with_reducible intro _)
 try simp only [go_sem]
 refine cf (c84 l hl) ?_
 simp only [go_sem,Nat.reduceLeDiff,Nat.reduceAdd,rowsF_length,hs,h4,hf,h20,hb]
 try (with_reducible intro _)
 try simp only [go_sem]
 refine cf (c85) ?_
 simp only [go_sem,Nat.reduceAdd,Nat.reduceDiv,Nat.reduceMod,rowsS_length]
 try (with_reducible intro _)
 try simp only [go_sem]
 refine loop_on (fun i:Nat=>pC 97 [.dead,.cref 1 0,.v (vB false),.dead,.dead,.dead,.dead,.dead,.dead,.dead,.dead,.dead,.dead,.dead,.dead,.dead,.dead,.dead,.dead,.dead,.dead,.own 9 (rowsS frN),.v (vI 3),.v (vI i)] [none,some [.v (vS me),.v (vS ta),.v (vI st),.v (vS re),.v (vB ba),.imm 105 (rowsF l),.v (vS bo)]]) [1,2,21,22,23] (fun i=>i≤3) (fun i=>3-i) 0 rfl (by omega) ?_
 intro i hi
 simp only [go_sem]
 refine Or.elim (Classical.em (i<3)) (fun hc => ?_) fun hc => ?_
 ·have hx:=hno i hc
  unfold hasF at hx
  have hw:IntKind.i64.wrap ((i:Int)+1)=((i+1:Nat):Int):=by rw [IntKind.wrap_i64]; omega
  have hc1:(i:Int)<3:=by omega
  have hc2:i<frN.length:=by show i<3; omega
  have g1:=rowsS_getD hc2
  simp only [go_sem,Nat.reduceLeDiff,Nat.reduceAdd,Nat.reduceBNe,Nat.reduceDiv,Nat.reduceMod,rowsS_length,hc1,hc2,g1]
  refine cf (c86 l hl (frN.getD i []) (frN_len (by omega)) hf) ?_
  simp only [go_sem,Nat.reduceAdd,hx,hw]
  first | exact ⟨i+1,rfl,hc,by omega⟩
 ·have he:i=3:=by omega
  subst he
  simp only [go_sem,Nat.reduceLeDiff,Nat.reduceAdd,Int.reduceLT,hm,r1,r4]
  refine cf (c89 _) ?_
  simp only [go_sem,Nat.reduceLeDiff,Nat.reduceAdd,r2]
  refine cf (c90 _ h3) ?_
  simp only [go_sem,Nat.reduceLeDiff,Nat.reduceAdd,r3]
  refine cf (c91 _) ?_
  simp only [go_sem,Nat.reduceLeDiff,Nat.reduceAdd,r5]
  try (with_reducible intro _)
  try simp only [go_sem]
  exact fz
theorem c36q (me ta:List UInt8) (st:Int) (re:List UInt8) (ba:Bool) (l:List Fld) (bo:List UInt8) (h1:me.length≤9223372036854775807) (h2:ta.length≤9223372036854775807) (h3:re.length≤9223372036854775807) (h4:bo.length≤9223372036854775807) (hl:Small l) (hf:fieldsB l=true) (h20:¬ (20:Int)≤(l.length:Int)) (hb:¬ (600:Int)<(bo.length:Int)) (hno:∀ i,i<3→hasF (frN.getD i []) l=false) (hm:(me==[])=true) (r1:(ta==[])=true) (r2:statusB st=true) (r3:reasonB re=true) (r4:ba=false) (r5:bareB st=false) (H:List UInt8) (hH:H.length≤9223372036854775807) (hd:Sem prog 37 ⟨[.agg [.v (vS me),.v (vS ta),.v (vI st),.v (vS re),.v (vB ba),.imm 105 (rowsF l),.v (vS bo)]],[none]⟩ ⟨[.dead,.v (vS H)],[none,none]⟩):Q1 36 (.agg [.v (vS me),.v (vS ta),.v (vI st),.v (vS re),.v (vB ba),.imm 105 (rowsF l),.v (vS bo)]) (.v (vB (decide ((H.length:Int)≤1500)))):=by
 refine sf 1 [.tm 2] func36 ?_
 have hs:l.length≤9223372036854775807:=hl.1
 simp only [go_sem,Nat.reduceLeDiff,Nat.reduceAdd,Nat.reduceSub,f36,cfg]
 try (with_reducible intro _)
 try simp only [go_sem]
 refine cf (c84 l hl) ?_
 simp only [go_sem,Nat.reduceLeDiff,Nat.reduceAdd,rowsF_length,hs,h4,hf,h20,hb]
 try (with_reducible intro _)
 try simp only [go_sem]
 refine cf (c85) ?_
 simp only [go_sem,Nat.reduceAdd,Nat.reduceDiv,Nat.reduceMod,rowsS_length]
 try (with_reducible intro _)
 try simp only [go_sem]
 refine loop_on (fun i:Nat=>pC 97 [.dead,.cref 1 0,.v (vB false),.dead,.dead,.dead,.dead,.dead,.dead,.dead,.dead,.dead,.dead,.dead,.dead,.dead,.dead,.dead,.dead,.dead,.dead,.own 9 (rowsS frN),.v (vI 3),.v (vI i)] [none,some [.v (vS me),.v (vS ta),.v (vI st),.v (vS re),.v (vB ba),.imm 105 (rowsF l),.v (vS bo)]]) [1,2,21,22,23] (fun i=>i≤3) (fun i=>3-i) 0 rfl (by omega) ?_
 intro i hi
 simp only [go_sem]
 refine Or.elim (Classical.em (i<3)) (fun hc => ?_) fun hc => ?_
 ·have hx:=hno i hc
  unfold hasF at hx
  have hw:IntKind.i64.wrap ((i:Int)+1)=((i+1:Nat):Int):=by rw [IntKind.wrap_i64]; omega
  have hc1:(i:Int)<3:=by omega
  have hc2:i<frN.length:=by show i<3; omega
  have g1:=rowsS_getD hc2
  simp only [go_sem,Nat.reduceLeDiff,Nat.reduceAdd,Nat.reduceBNe,Nat.reduceDiv,Nat.reduceMod,rowsS_length,hc1,hc2,g1]
  refine cf (c86 l hl (frN.getD i []) (frN_len (by omega)) hf) ?_
  simp only [go_sem,Nat.reduceAdd,hx,hw]
  first | exact ⟨i+1,rfl,hc,by omega⟩
 ·have he:i=3:=by omega
  subst he
  simp only [go_sem,Nat.reduceLeDiff,Nat.reduceAdd,Int.reduceLT,hm,r1,r4]
  refine cf (c89 _) ?_
  simp only [go_sem,Nat.reduceLeDiff,Nat.reduceAdd,r2]
  refine cf (c90 _ h3) ?_
  simp only [go_sem,Nat.reduceLeDiff,Nat.reduceAdd,r3]
  refine cf (c91 _) ?_
  simp only [go_sem,Nat.reduceAdd,r5]
  refine cf ((by rw [r4] at hd; exact hd:Sem prog 37 ⟨[.agg [.v (vS me),.v (vS ta),.v (vI st),.v (vS re),.v (vB false),.imm 105 (rowsF l),.v (vS bo)]],[none]⟩ ⟨[.dead,.v (vS H)],[none,none]⟩)) ?_
  simp only [go_sem,Nat.reduceAdd,Nat.reduceBNe,hH]
  try (with_reducible intro _)
  try simp only [go_sem]
  exact fz
theorem hasF_any (name:List UInt8) (l:List Fld):hasF name l=l.any (hitB name):=by
 unfold hasF valsB
 rw [List.length_map]
 cases h:l.any (hitB name)
 ·rw [List.any_eq_false] at h
  rw [List.filter_eq_nil_iff.2 (fun p hp=>h p hp)]
  rfl
 ·rw [List.any_eq_true] at h
  obtain ⟨p,h1,h2⟩:=h
  exact decide_eq_true (List.length_pos_iff.2 (List.ne_nil_of_mem (List.mem_filter.2 ⟨h1,h2⟩)))
theorem frB_eq (p:Fld):frB p=(hitB clN p || hitB teN p || hitB trN p):=by
 have e1:foldB clN=clN:=by decide
 have e2:foldB teN=teN:=by decide
 have e3:foldB trN=trN:=by decide
 unfold frB hitB
 rw [e1,e2,e3]
theorem any_frB (l:List Fld):l.any frB=(hasF clN l || hasF teN l || hasF trN l):=by
 simp only [hasF_any]
 induction l with
 | nil=>rfl
 | cons p l ih =>
  simp only [List.any_cons,frB_eq,ih]
  grind
theorem fr_none {l:List Fld} (h:l.any frB=false):∀ i,i<3→hasF (frN.getD i []) l=false:=by
 rw [any_frB] at h
 simp only [Bool.or_eq_false_iff] at h
 intro i hi
 have:i=0∨i=1∨i=2:=by omega
 rcases this with rfl | rfl | rfl
 ·exact h.1.1
 ·exact h.1.2
 ·exact h.2
theorem fr_some {l:List Fld} (h:l.any frB=true):∃ k,k<3∧(∀ i,i<k→hasF (frN.getD i []) l=false)∧hasF (frN.getD k []) l=true:=by
 rw [any_frB] at h
 cases h1:hasF clN l
 ·cases h2:hasF teN l
  ·rw [h1,h2] at h
   refine ⟨2,by decide,fun i hi => ?_,h⟩
   have:i=0∨i=1:=by omega
   rcases this with rfl | rfl
   ·exact h1
   ·exact h2
  ·refine ⟨1,by decide,fun i hi => ?_,h2⟩
   have:i=0:=by omega
   subst this
   exact h1
 ·exact ⟨0,by decide,fun i hi=>absurd hi (by omega),h1⟩
def H44:Prop:=∀ (me ta:List UInt8) (st:Nat) (re:List UInt8) (ba:Bool) (l:List Fld) (bo:List UInt8),Small l→fieldsB l=true→me.length≤20→ta.length≤200→re.length≤40→st≤999→bo.length≤600 →
 Sem prog 37 ⟨[.agg [.v (vS me),.v (vS ta),.v (vI (st:Nat)),.v (vS re),.v (vB ba),.imm 105 (rowsF l),.v (vS bo)]],[none]⟩ ⟨[.dead,.v (vS (headT me ta st re ba l bo))],[none,none]⟩
theorem c36 (h44:H44) (me ta:List UInt8) (st:Int) (re:List UInt8) (ba:Bool) (l:List Fld) (bo:List UInt8) (h1:me.length≤9223372036854775807) (h2:ta.length≤9223372036854775807) (h3:re.length≤9223372036854775807) (h4:bo.length≤9223372036854775807) (hl:Small l):Q1 36 (.agg [.v (vS me),.v (vS ta),.v (vI st),.v (vS re),.v (vB ba),.imm 105 (rowsF l),.v (vS bo)]) (.v (vB (msgB me ta st re ba l bo))):=by
 cases hf:fieldsB l
 ·have hz:msgB me ta st re ba l bo=false:=by simp [msgB,hf]
  rw [hz]; exact c36a me ta st re ba l bo h1 h2 h3 h4 hl hf
 have hn20:=fields_len hf
 by_cases h20:(20:Int)≤(l.length:Int)
 ·have hz:msgB me ta st re ba l bo=false:=by
   have:l.length=20:=by omega
   simp [msgB,this]
  rw [hz]; exact c36b me ta st re ba l bo h1 h2 h3 h4 hl hf h20
 have e1:(l.length==20)=false:=by rw [beq_eq_false_iff_ne]; omega
 by_cases hb:(600:Int)<(bo.length:Int)
 ·have hz:msgB me ta st re ba l bo=false:=by
   have:¬ bo.length≤600:=by omega
   simp [msgB,this]
  rw [hz]; exact c36c me ta st re ba l bo h1 h2 h3 h4 hl hf h20 hb
 have hbo:bo.length≤600:=by omega
 cases hfr:l.any frB
 case true =>
  have hz:msgB me ta st re ba l bo=false:=by simp [msgB,hfr]
  obtain ⟨k,k1,k2,k3⟩:=fr_some hfr
  rw [hz]; exact c36d me ta st re ba l bo h1 h2 h3 h4 hl hf h20 hb k k1 k2 k3
 have hno:=fr_none hfr
 have hdec:∀ H:List UInt8,decide (H.length≤1500)=decide ((H.length:Int)≤1500):=fun H=>decide_eq_decide.2 (by omega)
 cases hm:me==[]
 ·have hz:msgB me ta st re ba l bo=(requestB me ta st re ba&&decide ((headT me ta st re ba l bo).length≤1500)):=by simp [msgB,hf,e1,hfr,hbo,hm]
  cases r1:(tokenI me&&decide (me.length≤20))
  ·rw [hz,show requestB me ta st re ba=false by unfold requestB methodB; rw [r1]; rfl]; exact c36e me ta st re ba l bo h1 h2 h3 h4 hl hf h20 hb hno hm r1
  cases r2:targetB ta
  ·rw [hz,show requestB me ta st re ba=false by unfold requestB methodB; rw [r1,r2]; rfl]; exact c36f me ta st re ba l bo h1 h2 h3 h4 hl hf h20 hb hno hm r1 r2
  cases r3:(st != 0)
  case true =>
   rw [hz,show requestB me ta st re ba=false by unfold requestB methodB; rw [r1,r2,show (st==0)=false by simpa using r3]; rfl]; exact c36g me ta st re ba l bo h1 h2 h3 h4 hl hf h20 hb hno hm r1 r2 r3
  cases r4:re==[]
  ·rw [hz,show requestB me ta st re ba=false by unfold requestB methodB; rw [r4]; simp]; exact c36h me ta st re ba l bo h1 h2 h3 h4 hl hf h20 hb hno hm r1 r2 r3 r4
  have r3':(st==0)=true:=by simpa using r3
  by_cases r5:ba=true
  ·rw [hz,show requestB me ta st re ba=false by unfold requestB methodB; rw [r5]; simp]; exact c36i me ta st re ba l bo h1 h2 h3 h4 hl hf h20 hb hno hm r1 r2 r3 r4 r5
  ·have r5:ba=false:=by simpa using r5
   have hr:requestB me ta st re ba=true:=by unfold requestB methodB; rw [r1,r2,r3',r4,r5]; rfl
   obtain ⟨g1,g2,g3,n,g4,g5⟩:=head_le (ba:=ba) (bo:=bo) (me:=me) (ta:=ta) (st:=st) (re:=re) (by rw [hm]; exact hr)
   subst g4
   have:=c36j me ta n re ba l bo h1 h2 h3 h4 hl hf h20 hb hno hm r1 r2 r3 r4 r5 _ (head_len hf g1 g2 g3 g5 hbo) (h44 me ta n re ba l bo hl hf g1 g2 g3 g5 hbo)
   rw [hz,hr,Bool.true_and,hdec]
   exact this
 ·have hz:msgB me ta st re ba l bo=(answerB ta st re ba bo&&decide ((headT me ta st re ba l bo).length≤1500)):=by simp [msgB,hf,e1,hfr,hbo,hm]
  cases r1:ta==[]
  ·rw [hz,show answerB ta st re ba bo=false by unfold answerB; rw [r1]; simp]; exact c36k me ta st re ba l bo h1 h2 h3 h4 hl hf h20 hb hno hm r1
  cases r2:statusB st
  ·rw [hz,show answerB ta st re ba bo=false by unfold answerB; rw [r2]; simp]; exact c36l me ta st re ba l bo h1 h2 h3 h4 hl hf h20 hb hno hm r1 r2
  cases r3:reasonB re
  ·rw [hz,show answerB ta st re ba bo=false by unfold answerB; rw [r3]; simp]; exact c36m me ta st re ba l bo h1 h2 h3 h4 hl hf h20 hb hno hm r1 r2 r3
  have fin:answerB ta st re ba bo=true→∃ n:Nat,st=n∧(headT me ta n re ba l bo).length≤9223372036854775807∧Sem prog 37 ⟨[.agg [.v (vS me),.v (vS ta),.v (vI (n:Nat)),.v (vS re),.v (vB ba),.imm 105 (rowsF l),.v (vS bo)]],[none]⟩ ⟨[.dead,.v (vS (headT me ta n re ba l bo))],[none,none]⟩:=by
   intro hr
   obtain ⟨g1,g2,g3,n,g4,g5⟩:=head_le (ba:=ba) (bo:=bo) (me:=me) (ta:=ta) (st:=st) (re:=re) (by rw [hm]; exact hr)
   exact ⟨n,g4,head_len hf g1 g2 g3 g5 hbo,h44 me ta n re ba l bo hl hf g1 g2 g3 g5 hbo⟩
  by_cases r4:ba=true
  ·cases r5:bo==[]
   ·rw [hz,show answerB ta st re ba bo=false by unfold answerB; rw [r4,r5]; simp]; exact c36n me ta st re ba l bo h1 h2 h3 h4 hl hf h20 hb hno hm r1 r2 r3 r4 r5
   ·have hr:answerB ta st re ba bo=true:=by unfold answerB; rw [r1,r2,r3,r4,r5]; rfl
    obtain ⟨n,g4,hlen,hsem⟩:=fin hr
    subst g4
    rw [hz,hr,Bool.true_and,hdec]
    cases r6:bareB (n:Int)
    ·exact c36r me ta n re ba l bo h1 h2 h3 h4 hl hf h20 hb hno hm r1 r2 r3 r4 r5 r6 _ hlen hsem
    ·exact c36o me ta n re ba l bo h1 h2 h3 h4 hl hf h20 hb hno hm r1 r2 r3 r4 r5 r6 _ hlen hsem
  ·have r4:ba=false:=by simpa using r4
   cases r5:bareB st
   ·have hr:answerB ta st re ba bo=true:=by unfold answerB; rw [r1,r2,r3,r4,r5]; rfl
    obtain ⟨n,g4,hlen,hsem⟩:=fin hr
    subst g4
    rw [hz,hr,Bool.true_and,hdec]
    exact c36q me ta n re ba l bo h1 h2 h3 h4 hl hf h20 hb hno hm r1 r2 r3 r4 r5 _ hlen hsem
   ·rw [hz,show answerB ta st re ba bo=false by unfold answerB; rw [r4,r5]; simp]; exact c36p me ta st re ba l bo h1 h2 h3 h4 hl hf h20 hb hno hm r1 r2 r3 r4 r5
def addE (out:List (List UInt8)) (e:List UInt8):List (List UInt8):=if e==[] then out else out++[e]
def elGo (s:List UInt8) (fr:Nat) (q:Bool) (i:Nat) (out:List (List UInt8)):List (List UInt8) :=
 if h:i<s.length then
  if s.getD i 0=34 then elGo s fr (!q) (i+1) out
  else if q=true∧s.getD i 0=92 then elGo s fr q (i+2) out
  else if q=false∧s.getD i 0=44 then elGo s (i+1) q (i+1) (addE out (trimB ((s.drop fr).take (i-fr))))
  else elGo s fr q (i+1) out
 else addE out (trimB (s.drop fr))
termination_by s.length-i
decreasing_by all_goals omega
def elB (s:List UInt8):List (List UInt8):=elGo s 0 false 0 []
theorem elGo_end {s:List UInt8} {fr:Nat} {q:Bool} {i:Nat} {out:List (List UInt8)} (h:¬ i<s.length):elGo s fr q i out=addE out (trimB (s.drop fr)):=by
 rw [elGo,dif_neg h]
theorem elGo_q {s:List UInt8} {fr:Nat} {q:Bool} {i:Nat} {out:List (List UInt8)} (h:i<s.length) (hc:s.getD i 0=34):elGo s fr q i out=elGo s fr (!q) (i+1) out:=by
 rw [elGo,dif_pos h,if_pos hc]
theorem elGo_b {s:List UInt8} {fr:Nat} {i:Nat} {out:List (List UInt8)} (h:i<s.length) (hc:s.getD i 0≠34) (hb:s.getD i 0=92):elGo s fr true i out=elGo s fr true (i+2) out:=by
 rw [elGo,dif_pos h,if_neg hc,if_pos ⟨rfl,hb⟩]
theorem elGo_c {s:List UInt8} {fr:Nat} {i:Nat} {out:List (List UInt8)} (h:i<s.length) (hc:s.getD i 0≠34) (hb:s.getD i 0=44):elGo s fr false i out=elGo s (i+1) false (i+1) (addE out (trimB ((s.drop fr).take (i-fr)))):=by
 rw [elGo,dif_pos h,if_neg hc,if_neg (by simp),if_pos ⟨rfl,hb⟩]
theorem elGo_n {s:List UInt8} {fr:Nat} {q:Bool} {i:Nat} {out:List (List UInt8)} (h:i<s.length) (hc:s.getD i 0≠34) (h1:¬ (q=true∧s.getD i 0=92)) (h2:¬ (q=false∧s.getD i 0=44)):elGo s fr q i out=elGo s fr q (i+1) out:=by
 rw [elGo,dif_pos h,if_neg hc,if_neg h1,if_neg h2]
theorem addE_len (out:List (List UInt8)) (e:List UInt8):(addE out e).length≤out.length+1:=by
 unfold addE
 split<;>simp
theorem trimB_len (l:List UInt8):(trimB l).length≤l.length:=by
 unfold trimB trimR
 rw [List.length_reverse]
 have h1:=(List.dropWhile_sublist spc (l:=(l.dropWhile spc).reverse)).length_le
 have h2:=(List.dropWhile_sublist spc (l:=l)).length_le
 rw [List.length_reverse] at h1
 omega
theorem sd_addE {out:List (List UInt8)} {e:List UInt8} (h:(e==[])=false):sd 9 (rowsS (addE out e)) = .own 9 (rowsS out++[[.v (vS e)]]):=by
 unfold addE
 rw [h,if_neg (by simp),rowsS_snoc,sd_snoc]
theorem addE_nil {out:List (List UInt8)} {e:List UInt8} (h:(e==[])=true):addE out e=out:=by
 unfold addE
 rw [if_pos h]
theorem byte_is (b:UInt8) (k:Nat) (hk:k<256):((b.toNat:Int)==(k:Int))=decide (b=UInt8.ofNat k):=by
 rw [Bool.eq_iff_iff,beq_iff_eq,decide_eq_true_eq]
 constructor
 ·intro h
  have h:b.toNat=k:=by omega
  rw [←h]; simp
 ·intro h
  rw [h]
  simp
  omega
theorem c237 (e:List UInt8) (he:e.length≤9223372036854775807) (out:List (List UInt8)) (ho:out.length≤1048576):Sem prog 237 ⟨[.v (vS e),.cref 1 0],[none,some [sd 9 (rowsS out)]]⟩ ⟨[.dead,.dead,.tup []],[none,some [sd 9 (rowsS (addE out (trimB e)))]]⟩:=by
 have hlen:out.length≤9223372036854775806:=by omega
 have hlen2:(rowsS out).length+1≤9223372036854775807:=by rw [rowsS_length]; omega
 cases hz:trimB e==[]
 ·rw [sd_addE hz]
  cases ho:rowsS out with
  | nil =>
   rw [sd_nil]
   refine sf 2 [] func237 ?_
   simp only [go_sem,Nat.reduceSub,f237,cfg]
   refine cf (c192 e he) ?_
   simp only [go_sem,Nat.reduceLeDiff,Nat.reduceLT,Nat.reduceAdd,Nat.reduceMul,Nat.reduceBNe,Nat.reduceEqDiff,reduceCtorEq,Nat.reduceDiv,Nat.reduceMod,hz]
   first | exact ⟨.inr rfl,_,.inl rfl,rfl,rfl⟩ | exact ⟨.inl rfl,_,.inl rfl,rfl,rfl⟩
  | cons x xs =>
   rw [sd_cons]
   have hlx:xs.length+1=out.length:=by rw [←rowsS_length out,ho]; rfl
   rw [ho] at hlen2
   refine sf 2 [] func237 ?_
   simp only [go_sem,Nat.reduceSub,f237,cfg]
   refine cf (c192 e he) ?_
   simp only [go_sem,Nat.reduceLeDiff,Nat.reduceLT,Nat.reduceAdd,Nat.reduceMul,Nat.reduceBNe,Nat.reduceEqDiff,reduceCtorEq,Nat.reduceDiv,Nat.reduceMod,hz]
   try (with_reducible intro hlen3)
   with_reducible refine And.intro (by omega) ?_
   first | exact ⟨.inr rfl,_,.inl rfl,rfl,rfl⟩ | exact ⟨.inl rfl,_,.inl rfl,rfl,rfl⟩
 ·rw [addE_nil hz]
  cases ho:rowsS out with
  | nil =>
   rw [sd_nil]
   refine sf 2 [] func237 ?_
   simp only [go_sem,Nat.reduceSub,f237,cfg]
   refine cf (c192 e he) ?_
   simp only [go_sem,Nat.reduceAdd,Nat.reduceBNe,hz]
   first | exact ⟨.inr rfl,_,.inl rfl,rfl,rfl⟩ | exact ⟨.inl rfl,_,.inl rfl,rfl,rfl⟩
  | cons x xs =>
   rw [sd_cons]
   refine sf 2 [] func237 ?_
   simp only [go_sem,Nat.reduceSub,f237,cfg]
   refine cf (c192 e he) ?_
   simp only [go_sem,Nat.reduceAdd,Nat.reduceBNe,hz]
   first | exact ⟨.inr rfl,_,.inl rfl,rfl,rfl⟩ | exact ⟨.inl rfl,_,.inl rfl,rfl,rfl⟩
theorem c201 (s:List UInt8) (hs:s.length≤4000):Q1 201 (.v (vS s)) (sd 9 (rowsS (elB s))):=by
 refine sf 1 [.tm 2] func201 ?_
 have hs9:s.length≤9223372036854775807:=by omega
 have hs4:¬ (4000:Int)<(s.length:Int):=by omega
 simp only [go_sem,Nat.reduceLeDiff,Nat.reduceLT,Nat.reduceAdd,Nat.reduceSub,Nat.reduceBNe,f201,cfg,hs9,hs4]
 try (with_reducible intro hlen)
 try simp only [go_sem]
 refine loop_on (fun st:Nat × Nat × Bool × List (List UInt8)=>pC 58 [.v (vS s),.dead,.nil,.cref 3 0,.clo 237 [.cref 3 0],.v (vI st.2.1),.v (vB st.2.2.1),.v (vI st.1)] [none,none,none,some [sd 9 (rowsS st.2.2.2)]]) [0,2,3,4,5,6,7] (fun st=>st.2.1≤st.1∧st.2.1≤s.length∧st.2.2.2.length≤st.1∧st.2.2.2.length≤4001∧elGo s st.2.1 st.2.2.1 st.1 st.2.2.2=elB s) (fun st=>s.length+2-st.1) (0,0,false,[]) rfl ⟨by decide,Nat.zero_le _,by simp,by simp,rfl⟩ ?_
 rintro ⟨i,fr,q,out⟩ ⟨g1,g2,g3,g5,g4⟩
 have g1:fr≤i:=g1
 have g2:fr≤s.length:=g2
 have g3:out.length≤i:=g3
 have g5:out.length≤4001:=g5
 have g4:elGo s fr q i out=elB s:=g4
 simp only [go_sem,hs9]
 try (with_reducible intro hlen2)
 refine Or.elim (Classical.em (i<s.length)) (fun hc => ?_) fun hc => ?_
 ·have hw:=wrapN hc hs9
  have hw2:IntKind.i64.wrap (((i+1:Nat):Int)+1)=((i+2:Nat):Int):=by rw [IntKind.wrap_i64]; omega
  have k34:=byte_is (s.getD i 0) 34 (by decide)
  have k92:=byte_is (s.getD i 0) 92 (by decide)
  have k44:=byte_is (s.getD i 0) 44 (by decide)
  have k34:(((s.getD i 0).toNat:Int)==34)=decide (s.getD i 0=34):=k34
  have k92:(((s.getD i 0).toNat:Int)==92)=decide (s.getD i 0=92):=k92
  have k44:(((s.getD i 0).toNat:Int)==44)=decide (s.getD i 0=44):=k44
  simp only [go_sem,Nat.reduceBNe,hc]
  by_cases hq:s.getD i 0=34
  ·rw [decide_eq_true hq] at k34
   simp only [go_sem,Nat.reduceBNe,k34,hw]
   refine ⟨(i+1,fr,!q,out),?_,⟨by show fr≤i+1; omega,g2,by show out.length≤i+1; omega,g5,(elGo_q hc hq).symm.trans g4⟩,by show s.length+2-(i+1)<s.length+2-i; omega⟩
   dsimp only
   generalize rowsS out=R
   cases R<;>rfl
  rw [decide_eq_false hq] at k34
  cases q with
  | true =>
   by_cases hb:s.getD i 0=92
   ·rw [decide_eq_true hb] at k92
    simp only [go_sem,Nat.reduceBNe,hc,k34,k92,hw,hw2]
    refine ⟨(i+2,fr,true,out),?_,⟨by show fr≤i+2; omega,g2,by show out.length≤i+2; omega,g5,(elGo_b hc hq hb).symm.trans g4⟩,by show s.length+2-(i+2)<s.length+2-i; omega⟩
    dsimp only
    generalize rowsS out=R
    cases R<;>rfl
   ·rw [decide_eq_false hb] at k92
    simp only [go_sem,Nat.reduceBNe,hc,k34,k92,hw]
    refine ⟨(i+1,fr,true,out),?_,⟨by show fr≤i+1; omega,g2,by show out.length≤i+1; omega,g5,(elGo_n hc hq (fun h=>hb h.2) (by simp)).symm.trans g4⟩,by show s.length+2-(i+1)<s.length+2-i; omega⟩
    dsimp only
    generalize rowsS out=R
    cases R<;>rfl
  | false =>
   by_cases hb:s.getD i 0=44
   ·rw [decide_eq_true hb] at k44
    have hln:((s.drop fr).take (i-fr)).length≤4000:=by rw [List.length_take,List.length_drop]; omega
    have h110:=c237 ((s.drop fr).take (i-fr)) (by omega) out (by omega)
    have gz:=(elGo_c (fr:=fr) (out:=out) hc hq hb).symm.trans g4
    have gl:=addE_len out (trimB ((s.drop fr).take (i-fr)))
    have gf:((fr:Int)≤(i:Int)):=by omega
    have gi:((i:Int)≤(s.length:Int)):=by omega
    have gi':i≤s.length:=by omega
    generalize hA:addE out (trimB ((s.drop fr).take (i-fr)))=A at h110 gz gl
    generalize hR:rowsS A=R at h110
    cases ho:rowsS out with
    | nil =>
     rw [ho,sd_nil] at h110
     cases R with
     | nil => 
      rw [sd_nil] at h110
      simp only [go_sem,Nat.reduceLT,Nat.reduceBNe,hc,k34,k44,sd_nil,gi',g1]
      refine ev_call h110 (retWc rfl rfl rfl rfl rfl rfl rfl rfl) ?_
      simp only [go_sem,Nat.reduceLT,Nat.reduceAdd,Nat.reduceBEq,Nat.reduceBNe,hw]
      refine ⟨(i+1,i+1,false,A),?_,⟨by show i+1≤i+1; omega,by show i+1≤s.length; omega,by show A.length≤i+1; omega,by show A.length≤4001; omega,gz⟩,by show s.length+2-(i+1)<s.length+2-i; omega⟩
      dsimp only
      rw [hR]
      rfl
     | cons y ys => 
      rw [sd_cons] at h110
      simp only [go_sem,Nat.reduceLT,Nat.reduceBNe,hc,k34,k44,sd_nil,gi',g1]
      refine ev_call h110 (retWc rfl rfl rfl rfl rfl rfl rfl rfl) ?_
      simp only [go_sem,Nat.reduceLT,Nat.reduceAdd,Nat.reduceBEq,Nat.reduceBNe,hw]
      refine ⟨(i+1,i+1,false,A),?_,⟨by show i+1≤i+1; omega,by show i+1≤s.length; omega,by show A.length≤i+1; omega,by show A.length≤4001; omega,gz⟩,by show s.length+2-(i+1)<s.length+2-i; omega⟩
      dsimp only
      rw [hR]
      rfl
    | cons x xs =>
     rw [ho,sd_cons] at h110
     cases R with
     | nil => 
      rw [sd_nil] at h110
      simp only [go_sem,Nat.reduceLT,Nat.reduceBNe,hc,k34,k44,sd_cons,gi',g1]
      refine ev_call h110 (retWc rfl rfl rfl rfl rfl rfl rfl rfl) ?_
      simp only [go_sem,Nat.reduceLT,Nat.reduceAdd,Nat.reduceBEq,Nat.reduceBNe,hw]
      refine ⟨(i+1,i+1,false,A),?_,⟨by show i+1≤i+1; omega,by show i+1≤s.length; omega,by show A.length≤i+1; omega,by show A.length≤4001; omega,gz⟩,by show s.length+2-(i+1)<s.length+2-i; omega⟩
      dsimp only
      rw [hR]
      rfl
     | cons y ys => 
      rw [sd_cons] at h110
      simp only [go_sem,Nat.reduceLT,Nat.reduceBNe,hc,k34,k44,sd_cons,gi',g1]
      refine ev_call h110 (retWc rfl rfl rfl rfl rfl rfl rfl rfl) ?_
      simp only [go_sem,Nat.reduceLT,Nat.reduceAdd,Nat.reduceBEq,Nat.reduceBNe,hw]
      refine ⟨(i+1,i+1,false,A),?_,⟨by show i+1≤i+1; omega,by show i+1≤s.length; omega,by show A.length≤i+1; omega,by show A.length≤4001; omega,gz⟩,by show s.length+2-(i+1)<s.length+2-i; omega⟩
      dsimp only
      rw [hR]
      rfl
   ·rw [decide_eq_false hb] at k44
    simp only [go_sem,Nat.reduceBNe,hc,k34,k44,hw]
    refine ⟨(i+1,fr,false,out),?_,⟨by show fr≤i+1; omega,g2,by show out.length≤i+1; omega,g5,(elGo_n hc hq (by simp) (fun h=>hb h.2)).symm.trans g4⟩,by show s.length+2-(i+1)<s.length+2-i; omega⟩
    dsimp only
    generalize rowsS out=R
    cases R<;>rfl
 ·have gz:elB s=addE out (trimB (s.drop fr)):=g4.symm.trans (elGo_end hc)
  rw [gz]
  have gf:((fr:Int)≤(s.length:Int)):=by omega
  have hln:(s.drop fr).length≤4000:=by rw [List.length_drop]; omega
  have h110:=c237 (s.drop fr) (by omega) out (by omega)
  have htk:(s.drop fr).take (s.length-fr)=s.drop fr:=List.take_of_length_le (by rw [List.length_drop]; omega)
  generalize rowsS (addE out (trimB (s.drop fr)))=R at h110
  cases ho:rowsS out with
  | nil =>
   rw [ho,sd_nil] at h110
   cases R with
   | nil => 
    rw [sd_nil] at h110
    rw [sd_nil]
    simp only [go_sem,Nat.reduceLT,hc,g2,htk]
    refine ev_call h110 (retWc rfl rfl rfl rfl rfl rfl rfl rfl) ?_
    simp only [go_sem,Nat.reduceLT,Nat.reduceAdd,Nat.reduceBEq,Nat.reduceBNe]
    exact fz
   | cons y ys => 
    rw [sd_cons] at h110
    rw [sd_cons]
    simp only [go_sem,Nat.reduceLT,hc,sd_nil,g2,htk]
    refine ev_call h110 (retWc rfl rfl rfl rfl rfl rfl rfl rfl) ?_
    simp only [go_sem,Nat.reduceLT,Nat.reduceAdd,Nat.reduceBEq,Nat.reduceBNe,Nat.reduceEqDiff,reduceCtorEq,Nat.reduceDiv,Nat.reduceMod]
    exact fz
  | cons x xs =>
   rw [ho,sd_cons] at h110
   cases R with
   | nil => 
    rw [sd_nil] at h110
    rw [sd_nil]
    simp only [go_sem,Nat.reduceLT,hc,sd_cons,g2,htk]
    refine ev_call h110 (retWc rfl rfl rfl rfl rfl rfl rfl rfl) ?_
    simp only [go_sem,Nat.reduceLT,Nat.reduceAdd,Nat.reduceBEq,Nat.reduceBNe]
    exact fz
   | cons y ys => 
    rw [sd_cons] at h110
    rw [sd_cons]
    simp only [go_sem,Nat.reduceLT,hc,g2,htk]
    refine ev_call h110 (retWc rfl rfl rfl rfl rfl rfl rfl rfl) ?_
    simp only [go_sem,Nat.reduceLT,Nat.reduceAdd,Nat.reduceBEq,Nat.reduceBNe,Nat.reduceEqDiff,reduceCtorEq,Nat.reduceDiv,Nat.reduceMod]
    exact fz
theorem c242 (s:List UInt8) (hs:s.length≤4000):Q1 242 (.v (vS s)) (sd 9 (rowsS (elB s))):=by
 refine sf 1 [.tm 2] func242 ?_
 have hs9:s.length≤9223372036854775807:=by omega
 have hs4:¬ (4000:Int)<(s.length:Int):=by omega
 simp only [go_sem,Nat.reduceSub,f242,cfg,hs9,hs4]
 try (with_reducible intro hlen)
 try simp only [go_sem]
 refine loop_on (fun st:Nat × Nat × Bool × List (List UInt8) × Bool=>pE 70 [.v (vS s),.dead,.nil,sd 9 (rowsS st.2.2.2.1),.v (vI st.2.1),.v (vB st.2.2.1),.v (vI st.1)]) [0,2,3,4,5,6] (fun st=>st.2.1≤s.length+1∧(st.1≤s.length→st.2.1≤st.1)∧st.2.2.2.1.length≤st.1∧st.2.2.2.1.length≤4001∧st.1≤s.length+1∧(st.2.2.2.2=(decide (st.1≤s.length)))∧(if st.2.2.2.2 then elGo s st.2.1 st.2.2.1 st.1 st.2.2.2.1 else st.2.2.2.1)=elB s) (fun st=>s.length+2-st.1) (0,0,false,[],true) rfl ⟨Nat.zero_le _,fun _=>Nat.le_refl _,by simp,by simp,Nat.zero_le _,by simp,rfl⟩ ?_
 rintro ⟨i,fr,q,out,live⟩ ⟨g1,g2,g3,g5,g6,g7,g4⟩
 have g1:fr≤s.length+1:=g1
 have g2:i≤s.length→fr≤i:=g2
 have g3:out.length≤i:=g3
 have g5:out.length≤4001:=g5
 have g6:i≤s.length+1:=g6
 have g7:live=decide (i≤s.length):=g7
 have g4:(if live then elGo s fr q i out else out)=elB s:=g4
 simp only [go_sem,hs9]
 try (with_reducible intro hlen2)
 refine Or.elim (Classical.em (i≤s.length)) (fun hle => ?_) fun hle => ?_
 ·have g2:=g2 hle
  rw [decide_eq_true hle] at g7
  rw [g7,if_pos rfl] at g4
  have hlei:((i:Int)≤(s.length:Int)):=by omega
  have hw:IntKind.i64.wrap ((i:Int)+1)=((i+1:Nat):Int):=by rw [IntKind.wrap_i64]; omega
  have hw2:IntKind.i64.wrap (((i+1:Nat):Int)+1)=((i+2:Nat):Int):=by rw [IntKind.wrap_i64]; omega
  have gf:((fr:Int)≤(i:Int)):=by omega
  have hln:((s.drop fr).take (i-fr)).length≤4000:=by rw [List.length_take,List.length_drop]; omega
  have hln9:((s.drop fr).take (i-fr)).length≤9223372036854775807:=by omega
  have h85:=c152 ((s.drop fr).take (i-fr)) hln9
  have hso:(rowsS out).length+1≤9223372036854775807:=by rw [rowsS_length]; omega
  have htl:=trimB_len ((s.drop fr).take (i-fr))
  have htl9:(trimB ((s.drop fr).take (i-fr))).length≤9223372036854775807:=by omega
  simp only [go_sem,hs9,hle]
  by_cases hend:i=s.length
  ·have heq:((i:Int)==(s.length:Int))=true:=by rw [beq_iff_eq]; omega
   have hdt:(s.drop fr).take (i-fr)=s.drop fr:=List.take_of_length_le (by rw [List.length_drop]; omega)
   have gz:addE out (trimB ((s.drop fr).take (i-fr)))=elB s:=by rw [hdt]; exact (elGo_end (by omega)).symm.trans g4
   generalize hE:(s.drop fr).take (i-fr)=el at h85 htl htl9 gz hln hln9
   cases hz:trimB el==[]
   ·have hlp:(0:Int)<((trimB el).length:Int):=by
     have:trimB el≠[]:=by rw [beq_eq_false_iff_ne] at hz; exact hz
     have:=List.length_pos_iff.2 this
     omega
    have hA:=sd_addE (out:=out) hz
    cases ho:rowsS out with
    | nil =>
     rw [ho] at hA hso
     simp only [go_sem,reduceCtorEq,hE,sd_nil,g2,hle,heq]
     refine cf h85 ?_
     simp only [go_sem,Nat.reduceLeDiff,Nat.reduceLT,Nat.reduceAdd,Nat.reduceMul,Nat.reduceBNe,Nat.reduceEqDiff,reduceCtorEq,Nat.reduceDiv,Nat.reduceMod,hlp,htl9,hw]
     try (with_reducible intro hlen3)
     try simp only [go_sem]
     refine ⟨(i+1,i+1,q,addE out (trimB el),false),?_,⟨by show i+1≤s.length+1; omega,fun h=>absurd h (by show ¬ i+1≤s.length; omega),by show (addE out (trimB el)).length≤i+1; have:=addE_len out (trimB el); omega,by show (addE out (trimB el)).length≤4001; have:=addE_len out (trimB el); omega,by show i+1≤s.length+1; omega,(decide_eq_false (by show ¬ i+1≤s.length; omega)).symm,by rw [if_neg (by simp)]; exact gz⟩,by show s.length+2-(i+1)<s.length+2-i; omega⟩
     dsimp only
     rw [hA]
     rfl
    | cons x xs =>
     have hlx:xs.length+1=out.length:=by rw [←rowsS_length out,ho]; rfl
     rw [ho] at hA hso
     simp only [go_sem,reduceCtorEq,hE,sd_cons,g2,hle,heq]
     refine cf h85 ?_
     simp only [go_sem,Nat.reduceLeDiff,Nat.reduceLT,Nat.reduceAdd,Nat.reduceMul,Nat.reduceBNe,Nat.reduceEqDiff,reduceCtorEq,Nat.reduceDiv,Nat.reduceMod,hlp,htl9,hw]
     try (with_reducible intro hlen3)
     try simp only [go_sem]
     with_reducible refine And.intro (by omega) ?_
     refine ⟨(i+1,i+1,q,addE out (trimB el),false),?_,⟨by show i+1≤s.length+1; omega,fun h=>absurd h (by show ¬ i+1≤s.length; omega),by show (addE out (trimB el)).length≤i+1; have:=addE_len out (trimB el); omega,by show (addE out (trimB el)).length≤4001; have:=addE_len out (trimB el); omega,by show i+1≤s.length+1; omega,(decide_eq_false (by show ¬ i+1≤s.length; omega)).symm,by rw [if_neg (by simp)]; exact gz⟩,by show s.length+2-(i+1)<s.length+2-i; omega⟩
     dsimp only
     rw [hA]
     rfl
   ·have hlp:¬ (0:Int)<((trimB el).length:Int):=by
     have:trimB el=[]:=by simpa using hz
     rw [this]; simp
    have hA:=addE_nil (out:=out) hz
    cases ho:rowsS out with
    | nil =>
     simp only [go_sem,reduceCtorEq,hE,sd_nil,g2,hle,heq]
     refine cf h85 ?_
     simp only [go_sem,Nat.reduceAdd,Nat.reduceBNe,hlp,htl9,hw]
     refine ⟨(i+1,i+1,q,addE out (trimB el),false),?_,⟨by show i+1≤s.length+1; omega,fun h=>absurd h (by show ¬ i+1≤s.length; omega),by show (addE out (trimB el)).length≤i+1; have:=addE_len out (trimB el); omega,by show (addE out (trimB el)).length≤4001; have:=addE_len out (trimB el); omega,by show i+1≤s.length+1; omega,(decide_eq_false (by show ¬ i+1≤s.length; omega)).symm,by rw [if_neg (by simp)]; exact gz⟩,by show s.length+2-(i+1)<s.length+2-i; omega⟩
     dsimp only
     rw [hA,ho]
     rfl
    | cons x xs =>
     simp only [go_sem,reduceCtorEq,hE,sd_cons,g2,hle,heq]
     refine cf h85 ?_
     simp only [go_sem,Nat.reduceAdd,Nat.reduceBNe,hlp,htl9,hw]
     refine ⟨(i+1,i+1,q,addE out (trimB el),false),?_,⟨by show i+1≤s.length+1; omega,fun h=>absurd h (by show ¬ i+1≤s.length; omega),by show (addE out (trimB el)).length≤i+1; have:=addE_len out (trimB el); omega,by show (addE out (trimB el)).length≤4001; have:=addE_len out (trimB el); omega,by show i+1≤s.length+1; omega,(decide_eq_false (by show ¬ i+1≤s.length; omega)).symm,by rw [if_neg (by simp)]; exact gz⟩,by show s.length+2-(i+1)<s.length+2-i; omega⟩
     dsimp only
     rw [hA,ho]
     rfl
  have hi:i<s.length:=by omega
  have heq:((i:Int)==(s.length:Int))=false:=by rw [beq_eq_false_iff_ne]; omega
  have k34:(((s.getD i 0).toNat:Int)==34)=decide (s.getD i 0=34):=byte_is (s.getD i 0) 34 (by decide)
  have k92:(((s.getD i 0).toNat:Int)==92)=decide (s.getD i 0=92):=byte_is (s.getD i 0) 92 (by decide)
  have k44:(((s.getD i 0).toNat:Int)==44)=decide (s.getD i 0=44):=byte_is (s.getD i 0) 44 (by decide)
  by_cases hq:s.getD i 0=34
  ·rw [decide_eq_true hq] at k34
   have e44:¬ s.getD i 0=44:=by rw [hq]; decide
   rw [decide_eq_false e44] at k44
   cases q with
   | true =>
    simp only [go_sem,Nat.reduceBNe,heq,hi,k34,hw]
    refine ⟨(i+1,fr,false,out,true),?_,⟨g1,fun _=>by show fr≤i+1; omega,by show out.length≤i+1; omega,g5,by show i+1≤s.length+1; omega,(decide_eq_true (by show i+1≤s.length; omega)).symm,by rw [if_pos rfl]; exact (elGo_q hi hq).symm.trans g4⟩,by show s.length+2-(i+1)<s.length+2-i; omega⟩
    dsimp only
    generalize rowsS out=R
    cases R<;>rfl
   | false =>
    simp only [go_sem,Nat.reduceBNe,heq,hi,k34,k44,hw]
    refine ⟨(i+1,fr,true,out,true),?_,⟨g1,fun _=>by show fr≤i+1; omega,by show out.length≤i+1; omega,g5,by show i+1≤s.length+1; omega,(decide_eq_true (by show i+1≤s.length; omega)).symm,by rw [if_pos rfl]; exact (elGo_q hi hq).symm.trans g4⟩,by show s.length+2-(i+1)<s.length+2-i; omega⟩
    dsimp only
    generalize rowsS out=R
    cases R<;>rfl
  rw [decide_eq_false hq] at k34
  cases q with
  | true =>
   by_cases hb:s.getD i 0=92
   ·rw [decide_eq_true hb] at k92
    by_cases hl:i+1<s.length
    ·have hl1:((i+1:Nat):Int)<(s.length:Int):=by omega
     simp only [go_sem,Nat.reduceBNe,hs9,heq,hi,k34,k92,hw,hw2,hl1]
     refine ⟨(i+2,fr,true,out,true),?_,⟨g1,fun _=>by show fr≤i+2; omega,by show out.length≤i+2; omega,g5,by show i+2≤s.length+1; omega,(decide_eq_true (by show i+2≤s.length; omega)).symm,by rw [if_pos rfl]; exact (elGo_b hi hq hb).symm.trans g4⟩,by show s.length+2-(i+2)<s.length+2-i; omega⟩
     dsimp only
     generalize rowsS out=R
     cases R<;>rfl
    ·have hl1:¬ ((i+1:Nat):Int)<(s.length:Int):=by omega
     simp only [go_sem,Nat.reduceBNe,hs9,heq,hi,k34,k92,hw,hl1]
     refine ⟨(i+1,fr,true,out,true),?_,⟨g1,fun _=>by show fr≤i+1; omega,by show out.length≤i+1; omega,g5,by show i+1≤s.length+1; omega,(decide_eq_true (by show i+1≤s.length; omega)).symm,by rw [if_pos rfl]; exact (elGo_end (by omega)).trans ((elGo_end (by omega)).symm.trans ((elGo_b hi hq hb).symm.trans g4))⟩,by show s.length+2-(i+1)<s.length+2-i; omega⟩
     dsimp only
     generalize rowsS out=R
     cases R<;>rfl
   ·rw [decide_eq_false hb] at k92
    simp only [go_sem,Nat.reduceBNe,heq,hi,k34,k92,hw]
    refine ⟨(i+1,fr,true,out,true),?_,⟨g1,fun _=>by show fr≤i+1; omega,by show out.length≤i+1; omega,g5,by show i+1≤s.length+1; omega,(decide_eq_true (by show i+1≤s.length; omega)).symm,by rw [if_pos rfl]; exact (elGo_n hi hq (fun h=>hb h.2) (by simp)).symm.trans g4⟩,by show s.length+2-(i+1)<s.length+2-i; omega⟩
    dsimp only
    generalize rowsS out=R
    cases R<;>rfl
  | false =>
   by_cases hb:s.getD i 0=44
   ·rw [decide_eq_true hb] at k44
    have gz:=(elGo_c (fr:=fr) (out:=out) hi hq hb).symm.trans g4
    generalize hE:(s.drop fr).take (i-fr)=el at h85 htl htl9 gz hln hln9
    cases hz:trimB el==[]
    ·have hlp:(0:Int)<((trimB el).length:Int):=by
      have:trimB el≠[]:=by rw [beq_eq_false_iff_ne] at hz; exact hz
      have:=List.length_pos_iff.2 this
      omega
     have hA:=sd_addE (out:=out) hz
     cases ho:rowsS out with
     | nil =>
      rw [ho] at hA hso
      simp only [go_sem,hE,sd_nil,g2,hle,heq,hi,k44]
      refine cf h85 ?_
      simp only [go_sem,Nat.reduceLeDiff,Nat.reduceLT,Nat.reduceAdd,Nat.reduceMul,Nat.reduceBNe,Nat.reduceEqDiff,reduceCtorEq,Nat.reduceDiv,Nat.reduceMod,hlp,htl9,hw]
      try (with_reducible intro hlen3)
      try simp only [go_sem]
      refine ⟨(i+1,i+1,false,addE out (trimB el),true),?_,⟨by show i+1≤s.length+1; omega,fun _=>Nat.le_refl _,by show (addE out (trimB el)).length≤i+1; have:=addE_len out (trimB el); omega,by show (addE out (trimB el)).length≤4001; have:=addE_len out (trimB el); omega,by show i+1≤s.length+1; omega,(decide_eq_true (by show i+1≤s.length; omega)).symm,by rw [if_pos rfl]; exact gz⟩,by show s.length+2-(i+1)<s.length+2-i; omega⟩
      dsimp only
      rw [hA]
      rfl
     | cons x xs =>
      have hlx:xs.length+1=out.length:=by rw [←rowsS_length out,ho]; rfl
      rw [ho] at hA hso
      simp only [go_sem,hE,sd_cons,g2,hle,heq,hi,k44]
      refine cf h85 ?_
      simp only [go_sem,Nat.reduceLeDiff,Nat.reduceLT,Nat.reduceAdd,Nat.reduceMul,Nat.reduceBNe,Nat.reduceEqDiff,reduceCtorEq,Nat.reduceDiv,Nat.reduceMod,hlp,htl9,hw]
      try (with_reducible intro hlen3)
      try simp only [go_sem]
      with_reducible refine And.intro (by omega) ?_
      refine ⟨(i+1,i+1,false,addE out (trimB el),true),?_,⟨by show i+1≤s.length+1; omega,fun _=>Nat.le_refl _,by show (addE out (trimB el)).length≤i+1; have:=addE_len out (trimB el); omega,by show (addE out (trimB el)).length≤4001; have:=addE_len out (trimB el); omega,by show i+1≤s.length+1; omega,(decide_eq_true (by show i+1≤s.length; omega)).symm,by rw [if_pos rfl]; exact gz⟩,by show s.length+2-(i+1)<s.length+2-i; omega⟩
      dsimp only
      rw [hA]
      rfl
    ·have hlp:¬ (0:Int)<((trimB el).length:Int):=by
      have:trimB el=[]:=by simpa using hz
      rw [this]; simp
     have hA:=addE_nil (out:=out) hz
     cases ho:rowsS out with
     | nil =>
      simp only [go_sem,hE,sd_nil,g2,hle,heq,hi,k44]
      refine cf h85 ?_
      simp only [go_sem,Nat.reduceAdd,Nat.reduceBNe,hlp,htl9,hw]
      refine ⟨(i+1,i+1,false,addE out (trimB el),true),?_,⟨by show i+1≤s.length+1; omega,fun _=>Nat.le_refl _,by show (addE out (trimB el)).length≤i+1; have:=addE_len out (trimB el); omega,by show (addE out (trimB el)).length≤4001; have:=addE_len out (trimB el); omega,by show i+1≤s.length+1; omega,(decide_eq_true (by show i+1≤s.length; omega)).symm,by rw [if_pos rfl]; exact gz⟩,by show s.length+2-(i+1)<s.length+2-i; omega⟩
      dsimp only
      rw [hA,ho]
      rfl
     | cons x xs =>
      simp only [go_sem,hE,sd_cons,g2,hle,heq,hi,k44]
      refine cf h85 ?_
      simp only [go_sem,Nat.reduceAdd,Nat.reduceBNe,hlp,htl9,hw]
      refine ⟨(i+1,i+1,false,addE out (trimB el),true),?_,⟨by show i+1≤s.length+1; omega,fun _=>Nat.le_refl _,by show (addE out (trimB el)).length≤i+1; have:=addE_len out (trimB el); omega,by show (addE out (trimB el)).length≤4001; have:=addE_len out (trimB el); omega,by show i+1≤s.length+1; omega,(decide_eq_true (by show i+1≤s.length; omega)).symm,by rw [if_pos rfl]; exact gz⟩,by show s.length+2-(i+1)<s.length+2-i; omega⟩
      dsimp only
      rw [hA,ho]
      rfl
   ·rw [decide_eq_false hb] at k44
    simp only [go_sem,Nat.reduceBNe,heq,hi,k34,k44,hw]
    refine ⟨(i+1,fr,false,out,true),?_,⟨g1,fun _=>by show fr≤i+1; omega,by show out.length≤i+1; omega,g5,by show i+1≤s.length+1; omega,(decide_eq_true (by show i+1≤s.length; omega)).symm,by rw [if_pos rfl]; exact (elGo_n hi hq (by simp) (fun h=>hb h.2)).symm.trans g4⟩,by show s.length+2-(i+1)<s.length+2-i; omega⟩
    dsimp only
    generalize rowsS out=R
    cases R<;>rfl
 ·have hlei:¬ ((i:Int)≤(s.length:Int)):=by omega
  rw [decide_eq_false hle] at g7
  rw [g7,if_neg (by simp)] at g4
  rw [←g4]
  simp only [go_sem,hle]
  generalize rowsS out=R
  cases R with
  | nil =>
   rw [sd_nil]
   simp only [go_sem,Nat.reduceBNe]
   exact fz
  | cons y ys =>
   rw [sd_cons]
   simp only [go_sem,Nat.reduceAdd,Nat.reduceBNe,Nat.reduceEqDiff,reduceCtorEq,Nat.reduceDiv,Nat.reduceMod]
   exact fz
theorem w8 {n:Int} (h:0≤n∧n≤255):IntKind.u8.wrap n=n:=by
 unfold IntKind.wrap
 simp [IntKind.signed,IntKind.bits]
 omega
def hexI (n:Int):Int:=if 48≤n∧n≤57 then n-48 else if 97≤n∧n≤102 then n-87 else if 65≤n∧n≤70 then n-55 else -1
def freeI (n:Int):Bool:=isLowerB n || isUpperB n || isDigitB n || (n==45) || (n==46) || (n==95) || (n==126)
def hostI (n:Int):Bool:=isLowerB n || isDigitB n || (n==45) || (n==46)
def upI (n:Int):Int:=if 97≤n∧n≤122 then n-32 else n
def freeSet:List UInt8:=[45,46,95,126]
theorem lowI_w (n:Int) (h0:0≤n) (h1:n≤255):lowI n=if 65≤n∧n≤90 then n+32 else n:=by
 unfold lowI
 split
 ·rw [w8 (by omega)]
 ·rfl
theorem c226 (n:Int):Q1 226 (.v (vC n)) (.v (vB (freeI n))):=by
 refine sf 1 [.tm 2] func226 ?_
 simp only [go_sem,Nat.reduceSub,f226,cfg, *]
 repeat' ((first | refine cf (c229 _) ?_ | refine cf (c164 _) ?_ | refine cf (c199 _) ?_ | with_reducible intro _ | split)<;>(try simp only [go_sem,Nat.reduceAdd,Nat.reduceBNe,reduceCtorEq, *]))
 all_goals
  refine fqs ?_
  refine congrArg (fun b=>D.v (vB b)) ?_
  grind [freeI,isLowerB,isUpperB,isDigitB]
theorem c228 (n:Int):Q1 228 (.v (vC n)) (.v (vB (hostI n))):=by
 refine sf 1 [.tm 2] func228 ?_
 simp only [go_sem,Nat.reduceSub,f228,cfg, *]
 repeat' ((first | refine cf (c229 _) ?_ | refine cf (c199 _) ?_ | with_reducible intro _ | split)<;>(try simp only [go_sem,Nat.reduceAdd,Nat.reduceBNe,reduceCtorEq, *]))
 all_goals
  refine fqs ?_
  refine congrArg (fun b=>D.v (vB b)) ?_
  grind [hostI,isLowerB,isDigitB]
theorem free_law (n:Int) (h0:0≤n) (h1:n≤255):(((decide (97≤lowI n)&&decide (lowI n≤122)) || isDigitB n) || hasB freeSet n)=freeI n:=by
 have h:∀ k:Nat,k<256→(((decide (97≤lowI k)&&decide (lowI k≤122)) || isDigitB k) || hasB freeSet k)=freeI k:=by decide +kernel
 obtain ⟨k,rfl⟩:∃ k:Nat,n=k:=⟨n.toNat,by omega⟩
 exact h k (by omega)
theorem digit_iff (n:Int):isDigitB n=true↔48≤n∧n≤57:=by unfold isDigitB; simp
theorem digit_no (n:Int):isDigitB n=false↔¬ (48≤n∧n≤57):=by rw [←digit_iff]; simp
theorem c218 (n:Int) (h0:0≤n) (h1:n≤255):Q1 218 (.v (vC n)) (.v (vB (freeI n))):=by
 have hfl:=free_law n h0 h1
 refine sf 1 [.tm 2] func218 ?_
 simp only [go_sem,Nat.reduceSub,f218,cfg, *]
 repeat' ((first | refine cf (c153 _) ?_ | refine cf (c174 _) ?_ | refine cf (c198 freeSet _ (by decide)) ?_ | with_reducible intro _ | split)<;>(try simp only [go_sem,Nat.reduceLeDiff,Nat.reduceAdd,Nat.reduceBNe,reduceCtorEq, *]))
 all_goals
  refine fqs ?_
  refine congrArg (fun b=>D.v (vB b)) ?_
  rw [←hfl]
  grind
theorem c219 (n:Int) (h0:0≤n) (h1:n≤255):Q1 219 (.v (vC n)) (.v (vC (upI n))):=by
 refine sf 1 [.tm 2] func219 ?_
 have hw:97≤n→IntKind.u8.wrap (n-32)=n-32:=fun h=>w8 (by omega)
 simp only [go_sem,Nat.reduceSub,f219,cfg]
 repeat' ((first | with_reducible intro _ | split)<;>(try simp only [go_sem,Nat.reduceBNe, *]))
 all_goals
  refine fqs ?_
  refine congrArg (fun b=>D.v (vC b)) ?_
  first | (unfold upI; repeat' split<;>omega)
theorem c158 (n:Int) (h0:0≤n) (h1:n≤255):Q1 158 (.v (vC n)) (.v (vI (hexI n))):=by
 refine sf 1 [.tm 2] func158 ?_
 have a1:48≤n→IntKind.u8.wrap (n-48)=n-48:=fun h=>w8 (by omega)
 have a2:97≤n→IntKind.u8.wrap (n-97)=n-97:=fun h=>w8 (by omega)
 have a3:65≤n→IntKind.u8.wrap (n-65)=n-65:=fun h=>w8 (by omega)
 have b1:IntKind.i64.wrap (n-48)=n-48:=wrapI (by omega)
 have b2:IntKind.i64.wrap (n-97)=n-97:=wrapI (by omega)
 have b3:IntKind.i64.wrap (n-65)=n-65:=wrapI (by omega)
 have d2:IntKind.i64.wrap (n-97+10)=n-87:=by rw [wrapI (by omega)]; omega
 have d3:IntKind.i64.wrap (n-65+10)=n-55:=by rw [wrapI (by omega)]; omega
 simp only [go_sem,Nat.reduceSub,Int.reduceNeg,f158,cfg]
 cases hd:isDigitB n
 ·have hd':=(digit_no n).1 hd
  refine cf (c199 _) ?_
  simp only [go_sem,Nat.reduceAdd,Nat.reduceBNe,hd]
  repeat' ((first | with_reducible intro _ | split)<;>(try simp only [go_sem,Nat.reduceBNe,Int.reduceNeg, *]))
  all_goals
   refine fqs ?_
   refine congrArg (fun b=>D.v (vI b)) ?_
   first | (unfold hexI; repeat' split<;>omega)
 ·have hd':=(digit_iff n).1 hd
  have hd2:=hd'.1
  refine cf (c199 _) ?_
  simp only [go_sem,Nat.reduceAdd,Nat.reduceBNe,hd,a1,b1,hd2]
  all_goals
   refine fqs ?_
   refine congrArg (fun b=>D.v (vI b)) ?_
   first | (unfold hexI; repeat' split<;>omega)
end Go.Proofs.YtbdfdfhamlmodaaGreatDoor.Fw
namespace Go.Proofs.YtbdfdfhamlmodaaGreatDoor.Fw
open Go
def upU (b:UInt8):UInt8:=if 97≤b.toNat∧b.toNat≤122 then UInt8.ofNat (b.toNat-32) else b
def hv (b c:UInt8):Int:=16*hexI b.toNat+hexI c.toNat
def pctP (b c:UInt8):List UInt8:=if freeI (hv b c)=true then [UInt8.ofNat (hv b c).toNat] else [37,upU b,upU c]
def pct:List UInt8→List UInt8
 | a::b::c::l=>if a=37∧0≤hexI b.toNat∧0≤hexI c.toNat then pctP b c++pct l else a::pct (b::c::l)
 | l=>l
theorem dropAt {l:List UInt8} {i:Nat} (h:i<l.length):l.drop i=l.getD i 0::l.drop (i+1):=by
 rw [List.drop_eq_getElem_cons h]; simp [gDg,h]
theorem pct_short {l:List UInt8} (h:l.length<3):pct l=l:=by
 match l,h with
 | [],_=>rfl
 | [_],_=>rfl
 | [_,_],_=>rfl
 | _::_::_::_,h=>simp at h; omega
theorem pct_step1 {l:List UInt8} {i:Nat} (h:i<l.length) (hn:¬ (l.getD i 0=37∧i+2<l.length∧0≤hexI (l.getD (i+1) 0).toNat∧0≤hexI (l.getD (i+2) 0).toNat)) :
  pct (l.drop i)=l.getD i 0::pct (l.drop (i+1)):=by
 by_cases h2:i+2<l.length
 ·rw [dropAt h,dropAt (i:=i+1) (by omega),dropAt (i:=i+1+1) (by omega)]
  rw [pct,if_neg]
  rintro ⟨a,b,c⟩
  exact hn ⟨a,h2,b,c⟩
 ·rw [pct_short (by simp; omega),pct_short (by simp; omega),←dropAt h]
theorem pct_step3 {l:List UInt8} {i:Nat} (h2:i+2<l.length) (h0:l.getD i 0=37) (hb:0≤hexI (l.getD (i+1) 0).toNat) (hc:0≤hexI (l.getD (i+2) 0).toNat) :
  pct (l.drop i)=pctP (l.getD (i+1) 0) (l.getD (i+2) 0)++pct (l.drop (i+3)):=by
 rw [dropAt (i:=i) (by omega),dropAt (i:=i+1) (by omega),dropAt (i:=i+1+1) (by omega),pct,if_pos ⟨h0,hb,hc⟩]
theorem pctP_len (b c:UInt8):(pctP b c).length≤3:=by unfold pctP; split<;>simp
theorem pct_len:∀ l:List UInt8,(pct l).length≤l.length
 | a::b::c::l=>by
  have h1:=pct_len l
  have h2:=pct_len (b::c::l)
  have h3:=pctP_len b c
  unfold pct
  split
  ·simp only [List.length_append,List.length_cons] at *; omega
  ·simp only [List.length_cons] at *; omega
 | []=>by simp [pct]
 | [_]=>by simp [pct]
 | [_,_]=>by simp [pct]
theorem hexI_lt {n:Int} (h0:0≤n) (h1:n≤255):-1≤hexI n∧hexI n≤15:=by
 unfold hexI; repeat' split<;>omega
theorem hexU (b:UInt8):-1≤hexI b.toNat∧hexI b.toNat≤15:=hexI_lt (by omega) (by have:=b.toNat_lt; omega)
theorem u255 (b:UInt8):(b.toNat:Int)≤255:=by have:=b.toNat_lt; omega
theorem u0 (b:UInt8):(0:Int)≤b.toNat:=by omega
def hexS:List UInt8:=[48,49,50,51,52,53,54,55,56,57,65,66,67,68,69,70]
theorem upU_nat (b:UInt8):((upU b).toNat:Int)=upI b.toNat:=by
 have h256:∀ n,n<256→((if 97≤n∧n≤122 then UInt8.ofNat (n-32) else UInt8.ofNat n).toNat:Int)=upI (n:Nat):=by decide +kernel
 have h:=h256 b.toNat b.toNat_lt
 rw [←h]
 unfold upU
 split
 ·rfl
 ·simp
theorem hexS_up (b:UInt8) (h:0≤hexI b.toNat):hexS.getD (hexI b.toNat).toNat 0=upU b:=by
 have h256:∀ n,n<256→0≤hexI (n:Nat)→hexS.getD (hexI (n:Nat)).toNat 0=(if 97≤n∧n≤122 then UInt8.ofNat (n-32) else UInt8.ofNat n):=by decide +kernel
 rw [h256 b.toNat b.toNat_lt h]
 unfold upU
 split
 ·rfl
 ·simp
theorem hv_le (b c:UInt8) (hb:0≤hexI b.toNat) (hc:0≤hexI c.toNat):0≤hv b c∧hv b c≤255:=by
 have h1:=hexU b; have h2:=hexU c; unfold hv; omega
theorem hv_hi (b c:UInt8) (hb:0≤hexI b.toNat) (hc:0≤hexI c.toNat):(hv b c).fdiv 16=hexI b.toNat:=by
 have h1:=hexU b; have h2:=hexU c
 unfold hv
 rw [Int.fdiv_eq_ediv_of_nonneg _ (by omega)]
 omega
theorem and15 (n:Nat) (h:n<256):IntKind.u8.wrap ((BitVec.ofInt 8 (n:Int) &&& BitVec.ofInt 8 15).toNat:Int)=((n % 16:Nat):Int):=by
 have:∀ n,n<256→IntKind.u8.wrap ((BitVec.ofInt 8 ((n:Nat):Int) &&& BitVec.ofInt 8 15).toNat:Int)=((n % 16:Nat):Int):=by decide +kernel
 exact this n h
theorem hv_lo (b c:UInt8) (hb:0≤hexI b.toNat) (hc:0≤hexI c.toNat):IntKind.u8.wrap ((BitVec.ofInt 8 (hv b c) &&& BitVec.ofInt 8 15).toNat:Int)=hexI c.toNat:=by
 have h1:=hexU b; have h2:=hexU c
 obtain ⟨h3,h4⟩:=hv_le b c hb hc
 have h:=and15 (hv b c).toNat (by omega)
 rw [Int.toNat_of_nonneg h3] at h
 rw [h]
 have h5:hv b c=16*hexI b.toNat+hexI c.toNat:=rfl
 omega
theorem bytesRows_append {a b:List UInt8}:bytesRows (a++b)=bytesRows a++bytesRows b:=by simp [bytesRows]
theorem sd_app {e:TypeId} {x:List T} {l m:List (List T)}:sd e (m++x::l) = .own e (m++x::l):=by cases m<;>rfl
def valH:List UInt8→Int→Int
 | [],n=>n
 | b::l,n=>valH l (16*n+hexI b.toNat)
theorem valH_snoc (l:List UInt8) (b:UInt8):∀ n,valH (l++[b]) n=16*valH l n+hexI b.toNat:=by
 induction l with
 | nil=>intro n; rfl
 | cons a l ih=>intro n; exact ih _
theorem hexI_low (n:Int) (h0:0≤n) (h1:n≤255):hexI n=if isDigitB (lowI n)=true then lowI n-48 else if 97≤lowI n∧lowI n≤102 then lowI n-87 else -1:=by
 have h:∀ k:Nat,k<256→hexI (k:Nat)=if isDigitB (lowI k)=true then lowI k-48 else if 97≤lowI k∧lowI k≤102 then lowI k-87 else -1:=by decide +kernel
 obtain ⟨k,rfl⟩:∃ k:Nat,n=k:=⟨n.toNat,by omega⟩
 exact h k (by omega)
theorem lowI_le (n:Int) (h0:0≤n) (h1:n≤255):0≤lowI n∧lowI n≤255:=by
 rw [lowI_w n h0 h1]; split<;>omega
theorem spl_at (c:UInt8):∀ (u v:List UInt8),(∀ b,b∈u→b≠c)→spl c (u++c::v)=u::spl c v
 | [],v,_=>by simp [spl]
 | b::u,v,h=>by
  have hb:=h b List.mem_cons_self
  have ih:=spl_at c u v fun x hx=>h x (List.mem_cons_of_mem _ hx)
  show spl c (b::(u++c::v))=_
  rw [spl,if_neg hb,ih]
theorem spl_none (c:UInt8):∀ (u:List UInt8),(∀ b,b∈u→b≠c)→spl c u=[u]
 | [],_=>by simp [spl]
 | b::u,h=>by
  have hb:=h b List.mem_cons_self
  have ih:=spl_none c u fun x hx=>h x (List.mem_cons_of_mem _ hx)
  rw [spl,if_neg hb,ih]
theorem spl_all (c:UInt8) (q:UInt8→Bool):∀ l:List UInt8,(spl c l).all (fun p=>p.all q)=l.all fun b=>(b==c) || q b
 | []=>by simp [spl]
 | b::l=>by
  have ih:=spl_all c q l
  unfold spl
  by_cases h:b=c
  ·subst h
   rw [if_pos rfl]
   simp [ih]
  ·rw [if_neg h]
   have hb:(b==c)=false:=by simpa using h
   cases hs:spl c l with
   | nil=>exact absurd hs (spl_ne c l)
   | cons x xs =>
    rw [hs] at ih
    simp only [List.all_cons,hb,Bool.false_or] at ih ⊢
    rw [←ih,Bool.and_assoc]
theorem upto_hit (c:UInt8) (u v:List UInt8) (h:∀ b,b∈u→b≠c):upto c (u++c::v)=u:=by
 unfold upto
 induction u with
 | nil=>simp
 | cons b u ih =>
  have hb:=h b List.mem_cons_self
  have ih:=ih fun x hx=>h x (List.mem_cons_of_mem _ hx)
  simp [List.takeWhile_cons,hb,ih]
theorem upto_none (c:UInt8) (u:List UInt8) (h:∀ b,b∈u→b≠c):upto c u=u:=by
 unfold upto
 induction u with
 | nil=>rfl
 | cons b u ih =>
  have hb:=h b List.mem_cons_self
  have ih:=ih fun x hx=>h x (List.mem_cons_of_mem _ hx)
  simp [List.takeWhile_cons,hb,ih]
theorem split_at' {l:List UInt8} {i:Nat} (h:i<l.length):l=l.take i++l.getD i 0::l.drop (i+1):=by
 rw [←dropAt h,List.take_append_drop]
theorem take_snoc {l:List UInt8} {i:Nat} (h:i<l.length):l.take (i+1)=l.take i++[l.getD i 0]:=by
 rw [List.take_succ_eq_append_getElem h]; simp [gDg,h]
theorem cut_at {l:List UInt8} {f i:Nat} (hf:f≤i) (h:i<l.length):l.drop f=(l.take i).drop f++l.getD i 0::l.drop (i+1):=by
 conv=>lhs; rw [split_at' h]
 rw [List.drop_append_of_le_length (by simp; omega)]
theorem cut_snoc {l:List UInt8} {f i:Nat} (hf:f≤i) (h:i<l.length):(l.take (i+1)).drop f=(l.take i).drop f++[l.getD i 0]:=by
 rw [take_snoc h,List.drop_append_of_le_length (by simp; omega)]
def dotsB (s:List UInt8):Bool:=s==[46] || s==[46,46]
def stepC (o:List (List UInt8)) (s:List UInt8):List (List UInt8):=if s==[46] then o else if s==[46,46] then o.take (o.length-1) else o++[s]
def normC (g:List (List UInt8)):List (List UInt8):=if dotsB (g.getD (g.length-1) [])=true then g.foldl stepC []++[[]] else g.foldl stepC []
def catC (o:List (List UInt8)):List UInt8:=o.flatMap fun x=>47::x
def clean0 (l:List UInt8):Bool:=[47].isPrefixOf l&&decide (l.length≤200)&&(l.all fun b=>visB b.toNat) && !(l.any fun b=>[35,63].contains b)
def cleanB (l:List UInt8):List UInt8:=if clean0 l=true then 47::Lib.join (normC (spl 47 ((pct l).drop 1))) [47] else []
theorem step_snoc {g:List (List UInt8)} {i:Nat} (h:i<g.length):(g.take (i+1)).foldl stepC []=stepC ((g.take i).foldl stepC []) (g.getD i []):=by
 rw [List.take_succ_eq_append_getElem h,List.foldl_append]
 simp [gDg,h]
theorem step_len (o:List (List UInt8)) (s:List UInt8):(stepC o s).length≤o.length+1:=by
 unfold stepC
 split
 ·omega
 split
 ·rw [List.length_take]; omega
 ·simp
theorem foldC_len:∀ (g o:List (List UInt8)),(g.foldl stepC o).length≤o.length+g.length
 | [],o=>by simp
 | s::g,o=>by
  have h1:=foldC_len g (stepC o s)
  have h2:=step_len o s
  simp only [List.foldl_cons,List.length_cons]
  omega
theorem step_mem {o:List (List UInt8)} {s x:List UInt8} (h:x∈stepC o s):x∈o∨x=s:=by
 unfold stepC at h
 split at h
 ·exact .inl h
 split at h
 ·exact .inl (List.mem_of_mem_take h)
 ·rcases List.mem_append.1 h with h | h
  ·exact .inl h
  ·exact .inr (List.mem_singleton.1 h)
theorem foldC_mem:∀ (g o:List (List UInt8)) (x:List UInt8),x∈g.foldl stepC o→x∈o∨x∈g
 | [],o,x,h => .inl h
 | s::g,o,x,h=>by
  rcases foldC_mem g (stepC o s) x h with h | h
  ·rcases step_mem h with h | h
   ·exact .inl h
   ·exact .inr (h▸List.mem_cons_self)
  ·exact .inr (List.mem_cons_of_mem _ h)
theorem cat_len:∀ (o:List (List UInt8)) (n:Nat),(∀ x,x∈o→x.length≤n)→(catC o).length≤o.length*(n+1)
 | [],n,h=>by simp [catC]
 | x::o,n,h=>by
  have h1:=cat_len o n fun y hy=>h y (List.mem_cons_of_mem _ hy)
  have h2:=h x List.mem_cons_self
  simp only [catC,List.flatMap_cons,List.length_append,List.length_cons,Nat.add_mul] at h1 ⊢
  omega
theorem cat_join (x:List UInt8) (o:List (List UInt8)):47::Lib.join (x::o) [47]=catC (x::o):=by
 have h:∀ o:List (List UInt8),Lib.joinTail [47] o=catC o:=by
  intro o
  induction o with
  | nil=>rfl
  | cons y o ih =>
   simp only [Lib.joinTail,List.map_cons,List.flatten_cons,catC,List.flatMap_cons] at ih ⊢
   rw [ih]; rfl
 rw [Lib.join_cons,h]; rfl
theorem norm_len (g:List (List UInt8)):(normC g).length≤g.length+1:=by
 have:=foldC_len g []
 unfold normC
 split<;>simp at this ⊢ <;> omega
theorem norm_mem {g:List (List UInt8)} {x:List UInt8} (h:x∈normC g):x=[]∨x∈g:=by
 unfold normC at h
 split at h
 ·rcases List.mem_append.1 h with h | h
  ·rcases foldC_mem g [] x h with h | h
   ·cases h
   ·exact .inr h
  ·exact .inl (List.mem_singleton.1 h)
 ·rcases foldC_mem g [] x h with h | h
  ·cases h
  ·exact .inr h
theorem cat_le {l:List UInt8} (h:l.length≤200):(catC (normC (spl 47 ((pct l).drop 1)))).length≤100000∧(normC (spl 47 ((pct l).drop 1))).length≤202∧(spl 47 ((pct l).drop 1)).length≤201∧∀ x,x∈spl 47 ((pct l).drop 1)→x.length≤200:=by
 have h1:=pct_len l
 have h2:((pct l).drop 1).length≤200:=by rw [List.length_drop]; omega
 generalize (pct l).drop 1=m at h2
 have h3:=spl_len 47 m
 have h4:=List.count_le_length (a:=47) (l:=m)
 have h5:=norm_len (spl 47 m)
 have h6:∀ x,x∈spl 47 m→x.length≤200:=fun x hx=>Nat.le_trans (spl_mem 47 m x hx) h2
 refine ⟨?_,by omega,by omega,h6⟩
 have h7:=cat_len (normC (spl 47 m)) 200 fun x hx=>by
  rcases norm_mem hx with rfl | hx
  ·simp
  ·exact h6 x hx
 have h8:(normC (spl 47 m)).length*(200+1)≤202*201:=Nat.mul_le_mul_right 201 (by omega)
 omega
theorem join_le {l:List UInt8} (h:l.length≤200):(Lib.join (normC (spl 47 ((pct l).drop 1))) [47]).length≤100000:=by
 have h1:=(cat_le h).1
 generalize normC (spl 47 ((pct l).drop 1))=o at h1 ⊢
 cases o with
 | nil=>simp [Lib.join]
 | cons x o =>
  rw [←cat_join] at h1
  simp only [List.length_cons] at h1
  omega
theorem clean_len (l:List UInt8):(cleanB l).length≤100001:=by
 unfold cleanB
 split
 ·rename_i h
  unfold clean0 at h
  simp only [Bool.and_eq_true,decide_eq_true_eq] at h
  have:=join_le h.1.1.2
  simp only [List.length_cons]; omega
 ·simp
end Go.Proofs.YtbdfdfhamlmodaaGreatDoor.Fw
namespace Go.Proofs.YtbdfdfhamlmodaaGreatDoor.Fw
open Go
open Go.Proofs.Tryz
set_option maxRecDepth 100000
set_option maxHeartbeats 4000000
attribute [local congr] c_bnd c_slot c_cell c_all c_len c_chk c_asm c_opdR c_wp c_pwp c_pOps c_Done c_nx c_blk c_fin c_coeLeaf c_coeLeaves c_argR c_argsR c_partsR c_ite c_wpF c_OutF c_pHead c_pDraw
theorem c128 (l:List UInt8) (c:UInt8) (hl:l.length≤1048576):Q2 128 (.v (vS l)) (.v (vC c.toNat)) (.v (vS (upto c l))):=by
 refine sf 2 [.tm 4] func128 ?_
 have hL:l.length≤9223372036854775807:=by omega
 simp only [go_sem,Nat.reduceSub,f128,cfg]
 refine loop_on (fun i:Nat=>pE 21 [.v (vS l),.v (vC c.toNat),.dead,.dead,.v (vS []),.v (vI i)]) [0,1,4,5] (fun i=>i≤l.length∧∀ b,b∈l.take i→b≠c) (fun i=>l.length-i) 0 rfl ⟨by omega,by simp⟩ ?_
 intro i ⟨hi,hall⟩
 simp only [go_sem]
 try (with_reducible intro hlen)
 by_cases hc:i<l.length
 ·have hw:=wrapN hc hL
  by_cases hb:l.getD i 0=c
  ·have e2:(((l.getD i 0).toNat:Int)==c.toNat)=true:=by rw [hb]; simp
   have hu:upto c l=l.take i:=by
    conv=>lhs; rw [split_at' hc,hb]
    exact upto_hit c _ _ hall
   simp only [go_sem,Nat.reduceBNe,hc,hi,e2]
   first | (refine fq ?_; rw [hu]; rfl)
  ·have e2:(((l.getD i 0).toNat:Int)==c.toNat)=false:=by
    rw [beq_eq_false_iff_ne]; intro e; exact hb (UInt8.toNat_inj.1 (by omega))
   simp only [go_sem,Nat.reduceBNe,hc,e2,hw]
   exact ⟨i+1,rfl,⟨hc,by rw [take_snoc hc]; intro b h; rcases List.mem_append.1 h with h | h; exact hall b h; rw [List.mem_singleton] at h; rw [h]; exact hb⟩,by omega⟩
 ·simp only [go_sem,Nat.reduceBNe,hc]
  have hu:upto c l=l:=upto_none c l (by rw [List.take_of_length_le (by omega)] at hall; exact hall)
  first | (refine fq ?_; rw [hu]; rfl)
theorem c175 (l:List UInt8) (c:UInt8) (hl:l.length≤1048576):Q2 175 (.v (vS l)) (.v (vC c.toNat)) (sd 9 (rowsS (spl c l))):=by
 refine sf 2 [.tm 4] func175 ?_
 have hL:l.length≤9223372036854775807:=by omega
 have hlen:=spl_len c l
 have hcn:=List.count_le_length (a:=c) (l:=l)
 simp only [go_sem,Nat.reduceSub,f175,cfg]
 refine loop_on (fun s:Nat × Nat × List (List UInt8)=>pE 35 [.v (vS l),.v (vC c.toNat),.dead,.dead,.nil,sd 9 (rowsS s.2.2),.v (vI s.2.1),.v (vI s.1)]) [0,1,4,5,6,7] (fun s=>(s.1≤l.length∧s.2.1≤s.1∧s.2.2++spl c (l.drop s.2.1)=spl c l∧∀ b,b∈(l.take s.1).drop s.2.1→b≠c)∨(s.1=l.length+1∧s.2.2=spl c l)) (fun s=>l.length+1-s.1) (0,0,[]) rfl (.inl ⟨by simp,by simp,by simp,by simp⟩) ?_
 rintro ⟨i,f,out⟩ hinv
 simp only at hinv
 generalize hacc:rowsS out=acc
 rcases hinv with ⟨hi,hfi,hsp,hno⟩ | ⟨hi,hsp⟩
 ·have hol:out.length≤l.length+1:=by
   have:=congrArg List.length hsp
   rw [List.length_append] at this
   omega
  cases acc with
  | nil =>
   simp only [go_sem,sd_nil]
   try (with_reducible intro hlen)
   have hlo:(1:Nat)*16≤140737488355328:=by omega
   by_cases hc:i<l.length
   ·have hw:=wrapN hc hL
    have hne:¬ ((i:Int)=(l.length:Int)):=by omega
    have hneb:((i:Int)==(l.length:Int))=false:=by rw [beq_eq_false_iff_ne]; exact hne
    by_cases hb:l.getD i 0=c
    ·have e2:(((l.getD i 0).toNat:Int)==c.toNat)=true:=by rw [hb]; simp
     simp only [go_sem,Nat.reduceLeDiff,Nat.reduceLT,Nat.reduceAdd,Nat.reduceMul,Nat.reduceBNe,Nat.reduceEqDiff,reduceCtorEq,Nat.reduceDiv,Nat.reduceMod,hc,hi,hL,e2,hw,hneb,hfi,hlo]
     refine ⟨(i+1,i+1,out++[(l.take i).drop f]),?_,.inl ⟨hc,Nat.le_refl _,?_,by simp⟩,by simp only; omega⟩
     ·first | (rw [rowsS_snoc,hacc,List.drop_take]; rfl) | (rw [rowsS_snoc,hacc,List.take_length]; rfl)
     ·rw [←hsp,cut_at hfi hc,hb,spl_at c _ _ hno]; simp
    ·have e2:(((l.getD i 0).toNat:Int)==c.toNat)=false:=by
      rw [beq_eq_false_iff_ne]; intro e; exact hb (UInt8.toNat_inj.1 (by omega))
     simp only [go_sem,Nat.reduceBNe,hc,hi,hL,e2,hw,hneb]
     refine ⟨(i+1,f,out),by rw [hacc]; rfl,.inl ⟨hc,by simp only; omega,hsp,?_⟩,by simp only; omega⟩
     intro b h
     rw [cut_snoc hfi hc] at h
     rcases List.mem_append.1 h with h | h
     ·exact hno b h
     ·rw [List.mem_singleton] at h; rw [h]; exact hb
   ·have he:i=l.length:=by omega
    subst he
    have hw:IntKind.i64.wrap ((l.length:Int)+1)=((l.length+1:Nat):Int):=by rw [wrapI (by omega)]; omega
    simp only [go_sem,Nat.reduceLeDiff,Nat.reduceLT,Nat.reduceAdd,Nat.reduceMul,Nat.reduceBNe,Nat.reduceEqDiff,reduceCtorEq,Nat.reduceDiv,Nat.reduceMod,hL,hw,hfi,hlo]
    refine ⟨(l.length+1,l.length+1,out++[(l.take l.length).drop f]),?_,.inr ⟨rfl,?_⟩,by simp only; omega⟩
    ·first | (rw [rowsS_snoc,hacc,List.drop_take]; rfl) | (rw [rowsS_snoc,hacc,List.take_length]; rfl)
    ·rw [←hsp]
     rw [List.take_length] at hno ⊢
     rw [spl_none c _ hno]
  | cons x xs =>
   simp only [go_sem,sd_cons]
   try (with_reducible intro hlen)
   have hlo:(xs.length+1+1)*16≤140737488355328:=by have h9:=congrArg List.length hacc; rw [rowsS_length] at h9; simp only [List.length_cons] at h9; omega
   by_cases hc:i<l.length
   ·have hw:=wrapN hc hL
    have hne:¬ ((i:Int)=(l.length:Int)):=by omega
    have hneb:((i:Int)==(l.length:Int))=false:=by rw [beq_eq_false_iff_ne]; exact hne
    by_cases hb:l.getD i 0=c
    ·have e2:(((l.getD i 0).toNat:Int)==c.toNat)=true:=by rw [hb]; simp
     simp only [go_sem,Nat.reduceLeDiff,Nat.reduceLT,Nat.reduceAdd,Nat.reduceMul,Nat.reduceBNe,Nat.reduceEqDiff,reduceCtorEq,Nat.reduceDiv,Nat.reduceMod,hc,hi,hL,e2,hw,hneb,hfi,hlo]
     refine ⟨(i+1,i+1,out++[(l.take i).drop f]),?_,.inl ⟨hc,Nat.le_refl _,?_,by simp⟩,by simp only; omega⟩
     ·first | (rw [rowsS_snoc,hacc,List.drop_take]; rfl) | (rw [rowsS_snoc,hacc,List.take_length]; rfl)
     ·rw [←hsp,cut_at hfi hc,hb,spl_at c _ _ hno]; simp
    ·have e2:(((l.getD i 0).toNat:Int)==c.toNat)=false:=by
      rw [beq_eq_false_iff_ne]; intro e; exact hb (UInt8.toNat_inj.1 (by omega))
     simp only [go_sem,Nat.reduceBNe,hc,hi,hL,e2,hw,hneb]
     refine ⟨(i+1,f,out),by rw [hacc]; rfl,.inl ⟨hc,by simp only; omega,hsp,?_⟩,by simp only; omega⟩
     intro b h
     rw [cut_snoc hfi hc] at h
     rcases List.mem_append.1 h with h | h
     ·exact hno b h
     ·rw [List.mem_singleton] at h; rw [h]; exact hb
   ·have he:i=l.length:=by omega
    subst he
    have hw:IntKind.i64.wrap ((l.length:Int)+1)=((l.length+1:Nat):Int):=by rw [wrapI (by omega)]; omega
    simp only [go_sem,Nat.reduceLeDiff,Nat.reduceLT,Nat.reduceAdd,Nat.reduceMul,Nat.reduceBNe,Nat.reduceEqDiff,reduceCtorEq,Nat.reduceDiv,Nat.reduceMod,hL,hw,hfi,hlo]
    refine ⟨(l.length+1,l.length+1,out++[(l.take l.length).drop f]),?_,.inr ⟨rfl,?_⟩,by simp only; omega⟩
    ·first | (rw [rowsS_snoc,hacc,List.drop_take]; rfl) | (rw [rowsS_snoc,hacc,List.take_length]; rfl)
    ·rw [←hsp]
     rw [List.take_length] at hno ⊢
     rw [spl_none c _ hno]
 ·have hni:¬ (i≤l.length):=by omega
  cases acc with
  | nil =>
   simp only [go_sem,Nat.reduceBNe,sd_nil,hni,hL]
   first | (refine fq ?_; rw [←hsp,hacc]; rfl)
  | cons x xs =>
   simp only [go_sem,Nat.reduceAdd,Nat.reduceBNe,Nat.reduceEqDiff,reduceCtorEq,Nat.reduceDiv,Nat.reduceMod,sd_cons,hni,hL]
   first | (refine fq ?_; rw [←hsp,hacc]; rfl)
theorem c217 (l:List UInt8) (hl:1≤l.length∧l.length≤7):Q1 217 (.v (vS l)) (.tup [.v (vI (if l.all (fun b=>decide (0≤hexI b.toNat))=true then valH l 0 else 0)),.v (vB (l.all fun b=>decide (0≤hexI b.toNat)))]):=by
 refine sf 1 [.tm 2,.tm 3] func217 ?_
 have hL:l.length≤9223372036854775807:=by omega
 have z1:¬ ((l.length:Int)=0):=by omega
 have z1b:((l.length:Int)==0)=false:=by rw [beq_eq_false_iff_ne]; exact z1
 have z2:¬ ((7:Int)<(l.length:Int)):=by omega
 have z3:¬ (7<l.length):=by omega
 simp only [go_sem,Nat.reduceSub,f217,cfg,z1b,z2,hL]
 refine loop_on (fun i:Nat=>pE 49 [.v (vS l),.dead,.v (vI 0),.v (vB false),.v (vI (valH (l.take i) 0)),.v (vI i)]) [0,2,3,4,5] (fun i=>i≤l.length∧(l.take i).all (fun b=>decide (0≤hexI b.toNat))=true∧0≤valH (l.take i) 0∧valH (l.take i) 0<16 ^ i) (fun i=>l.length-i) 0 rfl ⟨by omega,by simp,by simp [valH],by simp [valH]⟩ ?_
 intro i ⟨hi,hall,hv0,hv1⟩
 generalize hvv:valH (l.take i) 0=v at hv0 hv1 ⊢
 have hv2:v<268435456:=Int.lt_of_lt_of_le hv1 (by
  have:(16:Int) ^ i≤16 ^ 7:=by exact_mod_cast Nat.pow_le_pow_right (by decide) (by omega)
  exact this)
 simp only [go_sem]
 try (with_reducible intro hlen)
 by_cases hc:i<l.length
 ·have hw:=wrapN hc hL
  have hb0:=u0 (l.getD i 0)
  have hb1:=u255 (l.getD i 0)
  have hlo:=lowI_le _ hb0 hb1
  have hlw:=hexI_low _ hb0 hb1
  have hsn:valH (l.take (i+1)) 0=16*v+hexI (l.getD i 0).toNat:=by rw [take_snoc hc,valH_snoc,hvv]
  have hx16:=hexU (l.getD i 0)
  have hpow:(16:Int) ^ (i+1)=16 ^ i*16:=rfl
  have m1:IntKind.i64.wrap (v*16)=v*16:=wrapI (by omega)
  simp only [go_sem,hc]
  refine cf (c153 _) ?_
  generalize lowI (l.getD i 0).toNat=m at hlo hlw ⊢
  simp only [go_sem,Nat.reduceAdd,Nat.reduceBNe]
  refine cf (c174 _) ?_
  cases hd:isDigitB m
  ·simp only [go_sem,Nat.reduceAdd,Nat.reduceBNe]
   rw [hd] at hlw
   by_cases hx:97≤m∧m≤102
   ·have m2:IntKind.u8.wrap (m-97)=m-97:=w8 (by omega)
    have m3:IntKind.i64.wrap (m-97)=m-97:=wrapI (by omega)
    have m4:IntKind.i64.wrap (v*16+(m-97))=v*16+(m-97):=wrapI (by omega)
    have m5:IntKind.i64.wrap (v*16+(m-97)+10)=valH (l.take (i+1)) 0:=by
     rw [wrapI (by omega),hsn,hlw,if_neg (by simp),if_pos hx]; omega
    have hx1:=hx.1
    have hx2:=hx.2
    simp only [go_sem,Nat.reduceBNe,hx1,hx2,m1,m2,m3,m4,m5,hw]
    refine ⟨i+1,by first | rfl,⟨hc,?_,?_,?_⟩,by omega⟩
    ·rw [all_take_succ (d:=0) hc,hall]
     rw [if_neg (by simp),if_pos hx] at hlw
     simp only [Bool.true_and,decide_eq_true_eq]; omega
    ·rw [hsn]; rw [if_neg (by simp),if_pos hx] at hlw; omega
    ·rw [hsn,hpow]; omega
   ·have hneg:decide (0≤hexI (l.getD i 0).toNat)=false:=by
     rw [hlw,if_neg (by simp),if_neg hx]; rfl
    have hf:(l.all fun b=>decide (0≤hexI b.toNat))=false:=all_false_at hc hneg
    rw [hf,if_neg (show ¬ (false=true) from Bool.false_ne_true)]
    repeat' ((first | with_reducible intro _ | split)<;>(try simp only [go_sem,Nat.reduceBNe, *]))
    all_goals first
     | (exfalso; omega)
     | exact fz
  ·have hd':=(digit_iff m).1 hd
   rw [hd,if_pos rfl] at hlw
   have m2:IntKind.u8.wrap (m-48)=m-48:=w8 (by omega)
   have m3:IntKind.i64.wrap (m-48)=m-48:=wrapI (by omega)
   have m4:IntKind.i64.wrap (v*16+(m-48))=valH (l.take (i+1)) 0:=by
    rw [wrapI (by omega),hsn,hlw]; omega
   simp only [go_sem,Nat.reduceAdd,Nat.reduceBNe,m1,m2,m3,m4,hw]
   refine ⟨i+1,by first | rfl,⟨hc,?_,?_,?_⟩,by omega⟩
   ·rw [all_take_succ (d:=0) hc,hall]
    simp only [Bool.true_and,decide_eq_true_eq]; omega
   ·rw [hsn]; omega
   ·rw [hsn,hpow]; omega
 ·simp only [go_sem,Nat.reduceBNe,hc]
  rw [List.take_of_length_le (by omega)] at hall hvv
  first | (refine fq ?_; rw [hall,if_pos rfl,hvv]; rfl)
theorem hv_hi' (b c:UInt8) (hb:0≤hexI b.toNat) (hc:0≤hexI c.toNat):(hv b c).fdiv (2 ^ min 4 8)=hexI b.toNat:=hv_hi b c hb hc
theorem hv_lo' (b c:UInt8) (hb:0≤hexI b.toNat) (hc:0≤hexI c.toNat):IntKind.u8.wrap ((@HAnd.hAnd (BitVec 8) (BitVec 8) (BitVec 8) (@instHAndOfAndOp (BitVec IntKind.u8.bits) (@BitVec.instAndOp IntKind.u8.bits)) (BitVec.ofInt 8 (hv b c)) (BitVec.ofInt 8 15)).toNat:Int)=hexI c.toNat:=hv_lo b c hb hc
theorem hvn (b c:UInt8) (hb:0≤hexI b.toNat) (hc:0≤hexI c.toNat):((UInt8.ofNat (hv b c).toNat).toNat:Int)=hv b c:=by
 obtain ⟨h1,h2⟩:=hv_le b c hb hc
 rw [UInt8.toNat_ofNat',Nat.mod_eq_of_lt (by omega)]
 omega
theorem snoc_own {acc:List (List T)} {out:List UInt8} (b:UInt8) (h:bytesRows out=acc):sd 5 (bytesRows (out++[b])) = .own 5 (acc++[[.v (vC b.toNat)]]):=by
 rw [bytesRows_append,h]; exact sd_app
theorem pctP_own1 {acc:List (List T)} {out:List UInt8} (b c:UInt8) (h:bytesRows out=acc) (hb:0≤hexI b.toNat) (hc:0≤hexI c.toNat) (hf:freeI (hv b c)=true):sd 5 (bytesRows (out++pctP b c)) = .own 5 (acc++[[.v (vC (hv b c))]]):=by
 have e:bytesRows (pctP b c)=[[.v (vC (hv b c))]]:=by rw [pctP,if_pos hf]; show [[T.v (vC ((UInt8.ofNat (hv b c).toNat).toNat:Int))]]=_; rw [hvn b c hb hc]
 rw [bytesRows_append,h,e]; exact sd_app
theorem pctP_own3 {acc:List (List T)} {out:List UInt8} (b c:UInt8) (h:bytesRows out=acc) (hf:freeI (hv b c)=false):sd 5 (bytesRows (out++pctP b c)) = .own 5 (acc++[[.v (vC 37)],[.v (vC (upU b).toNat)],[.v (vC (upU c).toNat)]]):=by
 rw [bytesRows_append,h,pctP,if_neg (by rw [hf]; simp)]; exact sd_app
theorem c187 (l : List UInt8) (hl : l.length ≤ 1048576) : Q1 187 (.v (vS l)) (.v (vS (pct l))) := by
  refine sem_fin (cfg := cfg 1) (ts := [.tm 2]) tbOk func187 rfl rfl rfl rfl (fun t h => by cases h) ?_
  have hL : l.length ≤ 9223372036854775807 := by omega
  have hpl := pct_len l
  simp only [go_sem,Nat.reduceSub,f187,cfg]
  refine loop_on (fun s : Nat × List UInt8 => pE 77 [.v (vS l),.dead,.v (vS []),sd 5 (bytesRows s.2),.v (vI s.1)]) [0,2,3,4] (fun s => s.1 ≤ l.length ∧ s.2 ++ pct (l.drop s.1) = pct l) (fun s => l.length - s.1) (0,[]) rfl ⟨by simp,by simp⟩ ?_
  rintro ⟨i,out⟩ ⟨hi,hsp⟩
  simp only at hi hsp
  have hol : out.length ≤ l.length := by
    have := congrArg List.length hsp
    rw [List.length_append] at this
    omega
  simp only
  generalize hacc : bytesRows out = acc
  cases acc with
  | nil =>
    have hlo : (1 : Nat) * 1 ≤ 140737488355328 := by omega
    have hlo3 : (3 : Nat) * 1 ≤ 140737488355328 := by omega
    have hla : (1 : Nat) ≤ 140737488355328 := by omega
    have hla3 : (3 : Nat) ≤ 140737488355328 := by omega
    simp only [go_sem,sd_nil]
    try (with_reducible intro hlen)
    by_cases hc : i < l.length
    · have hw := wrapN hc hL
      have w2 : IntKind.i64.wrap ((i : Int) + 2) = ((i + 2 : Nat) : Int) := by rw [wrapI (by omega)]; omega
      by_cases h37 : l.getD i 0 = 37
      · have e37 : (((l.getD i 0).toNat : Int) != 37) = false := by rw [h37]; decide
        by_cases hg : i + 2 < l.length
        · have hg1 : i + 1 < l.length := by omega
          have hg2 : ¬ (l.length ≤ i + 2) := by omega
          have x1 := hexU (l.getD (i + 1) 0)
          have x2 := hexU (l.getD (i + 2) 0)
          by_cases hx1 : 0 ≤ hexI (l.getD (i + 1) 0).toNat
          · have hx1' : ¬ (hexI (l.getD (i + 1) 0).toNat < 0) := by omega
            by_cases hx2 : 0 ≤ hexI (l.getD (i + 2) 0).toNat
            · have hx2' : ¬ (hexI (l.getD (i + 2) 0).toNat < 0) := by omega
              have hle := hv_le _ _ hx1 hx2
              have m1 : IntKind.i64.wrap (16 * hexI (l.getD (i + 1) 0).toNat) = 16 * hexI (l.getD (i + 1) 0).toNat := wrapI (by omega)
              have m2 : IntKind.i64.wrap (16 * hexI (l.getD (i + 1) 0).toNat + hexI (l.getD (i + 2) 0).toNat) = hv (l.getD (i + 1) 0) (l.getD (i + 2) 0) := wrapI (by omega)
              have m3 : IntKind.u8.wrap (hv (l.getD (i + 1) 0) (l.getD (i + 2) 0)) = hv (l.getD (i + 1) 0) (l.getD (i + 2) 0) := w8 hle
              have w3 : IntKind.i64.wrap (((i + 2 : Nat) : Int) + 1) = ((i + 3 : Nat) : Int) := by rw [wrapI (by omega)]; omega
              cases hf : freeI (hv (l.getD (i + 1) 0) (l.getD (i + 2) 0))
              · have hhi := hv_hi' _ _ hx1 hx2
                have hlw := hv_lo' _ _ hx1 hx2
                have n1 : ¬ (16 ≤ hexI (l.getD (i + 1) 0).toNat) := by omega
                have n2 : hexI (l.getD (i + 1) 0).toNat < 16 := by omega
                have n3 : hexI (l.getD (i + 2) 0).toNat < 16 := by omega
                have s1 : [48,49,50,51,52,53,54,55,56,57,65,66,67,68,69,70].getD (hexI (l.getD (i + 1) 0).toNat).toNat 0 = upU (l.getD (i + 1) 0) := hexS_up _ hx1
                have s2 : [48,49,50,51,52,53,54,55,56,57,65,66,67,68,69,70].getD (hexI (l.getD (i + 2) 0).toNat).toNat 0 = upU (l.getD (i + 2) 0) := hexS_up _ hx2
                simp only [go_sem,hc,hL,hw,w2,e37,hg1,hg2]
                refine cf (c158 _ (u0 _) (u255 _)) ?_
                simp only [go_sem,Nat.reduceAdd,w2,hg,hx1']
                refine cf (c158 _ (u0 _) (u255 _)) ?_
                simp only [go_sem,Nat.reduceAdd,hx2']
                refine draw_intro 14 [[46,47,48,49,50,51,52,53,54,55,56,57,5],[45,47,48,49,50,51,52,53,54,55,56,57,5],[45,48,49,50,51,52,53,54,55,56,57,5],[46,49,50,51,52,53,54,55,56,57,5],[45,46,47,50,51,52,53,54,55,56,57,5],[45,46,47,48,51,52,53,54,55,56,57,5],[45,46,47,48,49,50,52,53,54,55,56,57,5],[45,46,47,48,49,50,51,53,54,55,56,57,5],[45,46,47,48,49,50,51,54,55,56,57,5],[45,46,47,48,49,50,52,55,56,57,5],[45,46,47,48,50,51,52,53,56,57,5],[45,46,47,48,49,51,52,53,54,57,5],[45,46,47,48,49,50,51,52,53,54,55,5],[]] mixedOk rfl ?_
                simp only [go_sem,Nat.reduceBEq,hw,hg1]
                refine df (c158 _ (u0 _) (u255 _)) ?_
                simp only [go_sem,Nat.reduceBEq,w2,hg]
                refine df (c158 _ (u0 _) (u255 _)) ?_
                simp only [go_sem,Nat.reduceBEq,Nat.reduceBNe,m1,m2,m3]
                refine cf (c226 _) ?_
                simp only [go_sem,Nat.reduceAdd,hf]
                refine draw_intro 8 [[65,66,67,68,69,70,71],[64,66,67,68,69,70,71],[64,67,68,69,70,71],[64,65,68,69,70,71],[64,65,66,67,69,70,71],[64,65,66,67,70,71],[64,65,66,67,68,71],[64,65,66,68,69]] mixedOk rfl ?_
                simp only [go_sem,Nat.reduceLeDiff,Nat.reduceLT,Nat.reduceAdd,Nat.reduceMul,Nat.reduceBEq,Nat.reduceBNe,Nat.reduceEqDiff,reduceCtorEq,Int.reduceLE,Int.reduceToNat,Nat.reduceDiv,Nat.reduceMod,hhi,hlw,hx1,hx2,n2,n3,s1,s2,hlo3,w2,w3]
                first
                  | (refine ⟨(i + 3,out ++ pctP (l.getD (i + 1) 0) (l.getD (i + 2) 0)),?_,⟨by simp only; omega,?_⟩,by simp only; omega⟩
                     · rw [pctP_own3 _ _ hacc hf]; rfl
                     · rw [← hsp,pct_step3 hg h37 hx1 hx2]; simp)
                 
              · simp only [go_sem,hc,hL,hw,w2,e37,hg1,hg2]
                refine cf (c158 _ (u0 _) (u255 _)) ?_
                simp only [go_sem,Nat.reduceAdd,w2,hg,hx1']
                refine cf (c158 _ (u0 _) (u255 _)) ?_
                simp only [go_sem,Nat.reduceAdd,hx2']
                refine draw_intro 14 [[46,47,48,49,50,51,52,53,54,55,56,57,5],[45,47,48,49,50,51,52,53,54,55,56,57,5],[45,48,49,50,51,52,53,54,55,56,57,5],[46,49,50,51,52,53,54,55,56,57,5],[45,46,47,50,51,52,53,54,55,56,57,5],[45,46,47,48,51,52,53,54,55,56,57,5],[45,46,47,48,49,50,52,53,54,55,56,57,5],[45,46,47,48,49,50,51,53,54,55,56,57,5],[45,46,47,48,49,50,51,54,55,56,57,5],[45,46,47,48,49,50,52,55,56,57,5],[45,46,47,48,50,51,52,53,56,57,5],[45,46,47,48,49,51,52,53,54,57,5],[45,46,47,48,49,50,51,52,53,54,55,5],[]] mixedOk rfl ?_
                simp only [go_sem,Nat.reduceBEq,hw,hg1]
                refine df (c158 _ (u0 _) (u255 _)) ?_
                simp only [go_sem,Nat.reduceBEq,w2,hg]
                refine df (c158 _ (u0 _) (u255 _)) ?_
                simp only [go_sem,Nat.reduceBEq,Nat.reduceBNe,m1,m2,m3]
                refine cf (c226 _) ?_
                simp only [go_sem,Nat.reduceLeDiff,Nat.reduceLT,Nat.reduceAdd,Nat.reduceMul,Nat.reduceBNe,Nat.reduceEqDiff,reduceCtorEq,Nat.reduceDiv,Nat.reduceMod,hf,hlo,w2,w3]
                first
                  | (refine ⟨(i + 3,out ++ pctP (l.getD (i + 1) 0) (l.getD (i + 2) 0)),?_,⟨by simp only; omega,?_⟩,by simp only; omega⟩
                     · rw [pctP_own1 _ _ hacc hx1 hx2 hf]; rfl
                     · rw [← hsp,pct_step3 hg h37 hx1 hx2]; simp)
                 
            · have hx2' : hexI (l.getD (i + 2) 0).toNat < 0 := by omega
              simp only [go_sem,hc,hL,hw,w2,e37,hg1,hg2]
              refine cf (c158 _ (u0 _) (u255 _)) ?_
              simp only [go_sem,Nat.reduceAdd,w2,hg,hx1']
              refine cf (c158 _ (u0 _) (u255 _)) ?_
              simp only [go_sem,Nat.reduceLeDiff,Nat.reduceLT,Nat.reduceAdd,Nat.reduceMul,Nat.reduceBNe,Nat.reduceEqDiff,reduceCtorEq,Nat.reduceDiv,Nat.reduceMod,hlo,hc,hw,hx2']
              first
                | (refine ⟨(i + 1,out ++ [l.getD i 0]),?_,⟨hc,?_⟩,by simp only; omega⟩
                   · rw [snoc_own _ hacc]; rfl
                   · rw [← hsp,pct_step1 hc (fun h => hx2 h.2.2.2)]; simp)
               
          · have hx1' : hexI (l.getD (i + 1) 0).toNat < 0 := by omega
            simp only [go_sem,hc,hL,hw,w2,e37,hg1,hg2]
            refine cf (c158 _ (u0 _) (u255 _)) ?_
            simp only [go_sem,Nat.reduceLeDiff,Nat.reduceLT,Nat.reduceAdd,Nat.reduceMul,Nat.reduceBNe,Nat.reduceEqDiff,reduceCtorEq,Nat.reduceDiv,Nat.reduceMod,hlo,hc,hw,hx1']
            first
              | (refine ⟨(i + 1,out ++ [l.getD i 0]),?_,⟨hc,?_⟩,by simp only; omega⟩
                 · rw [snoc_own _ hacc]; rfl
                 · rw [← hsp,pct_step1 hc (fun h => hx1 h.2.2.1)]; simp)
             
        · have hg2 : l.length ≤ i + 2 := by omega
          simp only [go_sem,Nat.reduceLeDiff,Nat.reduceLT,Nat.reduceAdd,Nat.reduceMul,Nat.reduceBNe,Nat.reduceEqDiff,reduceCtorEq,Nat.reduceDiv,Nat.reduceMod,hlo,hc,hL,hw,e37,w2,hg2]
          first
            | (refine ⟨(i + 1,out ++ [l.getD i 0]),?_,⟨hc,?_⟩,by simp only; omega⟩
               · rw [snoc_own _ hacc]; rfl
               · rw [← hsp,pct_step1 hc (fun h => hg h.2.1)]; simp)
           
      · have e37 : (((l.getD i 0).toNat : Int) != 37) = true := by
          rw [bne_iff_ne]; intro e; exact h37 (UInt8.toNat_inj.1 (by rw [show (37 : UInt8).toNat = 37 from rfl]; omega))
        simp only [go_sem,Nat.reduceLeDiff,Nat.reduceLT,Nat.reduceAdd,Nat.reduceMul,Nat.reduceBNe,Nat.reduceEqDiff,reduceCtorEq,Nat.reduceDiv,Nat.reduceMod,hlo,hc,hw,e37]
        first
          | (refine ⟨(i + 1,out ++ [l.getD i 0]),?_,⟨hc,?_⟩,by simp only; omega⟩
             · rw [snoc_own _ hacc]; rfl
             · rw [← hsp,pct_step1 hc (fun h => h37 h.1)]; simp)
         
    · have he : i = l.length := by omega
      subst he
      have hsp2 : out = pct l := by rw [← hsp]; simp [pct]
      simp only [go_sem,Nat.reduceBNe,hc]
      first | (refine fq ?_; rw [show pct l = [] by rw [← hsp2,← rowsBytes_bytesRows out,hacc]; rfl]; rfl)
  | cons x xs =>
    have hlo : (xs.length + 1 + 1) * 1 ≤ 140737488355328 := by have h9 := congrArg List.length hacc; rw [bytesRows_length] at h9; simp only [List.length_cons] at h9; omega
    have hlo3 : (xs.length + 1 + 1 + 1 + 1) * 1 ≤ 140737488355328 := by have h9 := congrArg List.length hacc; rw [bytesRows_length] at h9; simp only [List.length_cons] at h9; omega
    have hla : (xs.length + 1 + 1) ≤ 140737488355328 := by have h9 := congrArg List.length hacc; rw [bytesRows_length] at h9; simp only [List.length_cons] at h9; omega
    have hla3 : (xs.length + 1 + 1 + 1 + 1) ≤ 140737488355328 := by have h9 := congrArg List.length hacc; rw [bytesRows_length] at h9; simp only [List.length_cons] at h9; omega
    simp only [go_sem,sd_cons]
    try (with_reducible intro hlen)
    by_cases hc : i < l.length
    · have hw := wrapN hc hL
      have w2 : IntKind.i64.wrap ((i : Int) + 2) = ((i + 2 : Nat) : Int) := by rw [wrapI (by omega)]; omega
      by_cases h37 : l.getD i 0 = 37
      · have e37 : (((l.getD i 0).toNat : Int) != 37) = false := by rw [h37]; decide
        by_cases hg : i + 2 < l.length
        · have hg1 : i + 1 < l.length := by omega
          have hg2 : ¬ (l.length ≤ i + 2) := by omega
          have x1 := hexU (l.getD (i + 1) 0)
          have x2 := hexU (l.getD (i + 2) 0)
          by_cases hx1 : 0 ≤ hexI (l.getD (i + 1) 0).toNat
          · have hx1' : ¬ (hexI (l.getD (i + 1) 0).toNat < 0) := by omega
            by_cases hx2 : 0 ≤ hexI (l.getD (i + 2) 0).toNat
            · have hx2' : ¬ (hexI (l.getD (i + 2) 0).toNat < 0) := by omega
              have hle := hv_le _ _ hx1 hx2
              have m1 : IntKind.i64.wrap (16 * hexI (l.getD (i + 1) 0).toNat) = 16 * hexI (l.getD (i + 1) 0).toNat := wrapI (by omega)
              have m2 : IntKind.i64.wrap (16 * hexI (l.getD (i + 1) 0).toNat + hexI (l.getD (i + 2) 0).toNat) = hv (l.getD (i + 1) 0) (l.getD (i + 2) 0) := wrapI (by omega)
              have m3 : IntKind.u8.wrap (hv (l.getD (i + 1) 0) (l.getD (i + 2) 0)) = hv (l.getD (i + 1) 0) (l.getD (i + 2) 0) := w8 hle
              have w3 : IntKind.i64.wrap (((i + 2 : Nat) : Int) + 1) = ((i + 3 : Nat) : Int) := by rw [wrapI (by omega)]; omega
              cases hf : freeI (hv (l.getD (i + 1) 0) (l.getD (i + 2) 0))
              · have hhi := hv_hi' _ _ hx1 hx2
                have hlw := hv_lo' _ _ hx1 hx2
                have n1 : ¬ (16 ≤ hexI (l.getD (i + 1) 0).toNat) := by omega
                have n2 : hexI (l.getD (i + 1) 0).toNat < 16 := by omega
                have n3 : hexI (l.getD (i + 2) 0).toNat < 16 := by omega
                have s1 : [48,49,50,51,52,53,54,55,56,57,65,66,67,68,69,70].getD (hexI (l.getD (i + 1) 0).toNat).toNat 0 = upU (l.getD (i + 1) 0) := hexS_up _ hx1
                have s2 : [48,49,50,51,52,53,54,55,56,57,65,66,67,68,69,70].getD (hexI (l.getD (i + 2) 0).toNat).toNat 0 = upU (l.getD (i + 2) 0) := hexS_up _ hx2
                simp only [go_sem,hc,hL,hw,w2,e37,hg1,hg2]
                refine cf (c158 _ (u0 _) (u255 _)) ?_
                simp only [go_sem,Nat.reduceAdd,w2,hg,hx1']
                refine cf (c158 _ (u0 _) (u255 _)) ?_
                simp only [go_sem,Nat.reduceAdd,hx2']
                refine draw_intro 14 [[46,47,48,49,50,51,52,53,54,55,56,57,5],[45,47,48,49,50,51,52,53,54,55,56,57,5],[45,48,49,50,51,52,53,54,55,56,57,5],[46,49,50,51,52,53,54,55,56,57,5],[45,46,47,50,51,52,53,54,55,56,57,5],[45,46,47,48,51,52,53,54,55,56,57,5],[45,46,47,48,49,50,52,53,54,55,56,57,5],[45,46,47,48,49,50,51,53,54,55,56,57,5],[45,46,47,48,49,50,51,54,55,56,57,5],[45,46,47,48,49,50,52,55,56,57,5],[45,46,47,48,50,51,52,53,56,57,5],[45,46,47,48,49,51,52,53,54,57,5],[45,46,47,48,49,50,51,52,53,54,55,5],[]] mixedOk rfl ?_
                simp only [go_sem,Nat.reduceBEq,hw,hg1]
                refine df (c158 _ (u0 _) (u255 _)) ?_
                simp only [go_sem,Nat.reduceBEq,w2,hg]
                refine df (c158 _ (u0 _) (u255 _)) ?_
                simp only [go_sem,Nat.reduceBEq,Nat.reduceBNe,m1,m2,m3]
                refine cf (c226 _) ?_
                simp only [go_sem,Nat.reduceAdd,hf]
                refine draw_intro 8 [[65,66,67,68,69,70,71],[64,66,67,68,69,70,71],[64,67,68,69,70,71],[64,65,68,69,70,71],[64,65,66,67,69,70,71],[64,65,66,67,70,71],[64,65,66,67,68,71],[64,65,66,68,69]] mixedOk rfl ?_
                simp only [go_sem,Nat.reduceLeDiff,Nat.reduceLT,Nat.reduceAdd,Nat.reduceMul,Nat.reduceBEq,Nat.reduceBNe,Nat.reduceEqDiff,reduceCtorEq,Int.reduceLE,Int.reduceToNat,Nat.reduceDiv,Nat.reduceMod,hhi,hlw,hx1,hx2,n2,n3,s1,s2,hlo3,w2,w3]
                first
                  | (refine ⟨(i + 3,out ++ pctP (l.getD (i + 1) 0) (l.getD (i + 2) 0)),?_,⟨by simp only; omega,?_⟩,by simp only; omega⟩
                     · rw [pctP_own3 _ _ hacc hf]; rfl
                     · rw [← hsp,pct_step3 hg h37 hx1 hx2]; simp)
                 
              · simp only [go_sem,hc,hL,hw,w2,e37,hg1,hg2]
                refine cf (c158 _ (u0 _) (u255 _)) ?_
                simp only [go_sem,Nat.reduceAdd,w2,hg,hx1']
                refine cf (c158 _ (u0 _) (u255 _)) ?_
                simp only [go_sem,Nat.reduceAdd,hx2']
                refine draw_intro 14 [[46,47,48,49,50,51,52,53,54,55,56,57,5],[45,47,48,49,50,51,52,53,54,55,56,57,5],[45,48,49,50,51,52,53,54,55,56,57,5],[46,49,50,51,52,53,54,55,56,57,5],[45,46,47,50,51,52,53,54,55,56,57,5],[45,46,47,48,51,52,53,54,55,56,57,5],[45,46,47,48,49,50,52,53,54,55,56,57,5],[45,46,47,48,49,50,51,53,54,55,56,57,5],[45,46,47,48,49,50,51,54,55,56,57,5],[45,46,47,48,49,50,52,55,56,57,5],[45,46,47,48,50,51,52,53,56,57,5],[45,46,47,48,49,51,52,53,54,57,5],[45,46,47,48,49,50,51,52,53,54,55,5],[]] mixedOk rfl ?_
                simp only [go_sem,Nat.reduceBEq,hw,hg1]
                refine df (c158 _ (u0 _) (u255 _)) ?_
                simp only [go_sem,Nat.reduceBEq,w2,hg]
                refine df (c158 _ (u0 _) (u255 _)) ?_
                simp only [go_sem,Nat.reduceBEq,Nat.reduceBNe,m1,m2,m3]
                refine cf (c226 _) ?_
                simp only [go_sem,Nat.reduceLeDiff,Nat.reduceLT,Nat.reduceAdd,Nat.reduceMul,Nat.reduceBNe,Nat.reduceEqDiff,reduceCtorEq,Nat.reduceDiv,Nat.reduceMod,hf,hlo,w2,w3]
                first
                  | (refine ⟨(i + 3,out ++ pctP (l.getD (i + 1) 0) (l.getD (i + 2) 0)),?_,⟨by simp only; omega,?_⟩,by simp only; omega⟩
                     · rw [pctP_own1 _ _ hacc hx1 hx2 hf]; rfl
                     · rw [← hsp,pct_step3 hg h37 hx1 hx2]; simp)
                 
            · have hx2' : hexI (l.getD (i + 2) 0).toNat < 0 := by omega
              simp only [go_sem,hc,hL,hw,w2,e37,hg1,hg2]
              refine cf (c158 _ (u0 _) (u255 _)) ?_
              simp only [go_sem,Nat.reduceAdd,w2,hg,hx1']
              refine cf (c158 _ (u0 _) (u255 _)) ?_
              simp only [go_sem,Nat.reduceLeDiff,Nat.reduceLT,Nat.reduceAdd,Nat.reduceMul,Nat.reduceBNe,Nat.reduceEqDiff,reduceCtorEq,Nat.reduceDiv,Nat.reduceMod,hlo,hc,hw,hx2']
              first
                | (refine ⟨(i + 1,out ++ [l.getD i 0]),?_,⟨hc,?_⟩,by simp only; omega⟩
                   · rw [snoc_own _ hacc]; rfl
                   · rw [← hsp,pct_step1 hc (fun h => hx2 h.2.2.2)]; simp)
               
          · have hx1' : hexI (l.getD (i + 1) 0).toNat < 0 := by omega
            simp only [go_sem,hc,hL,hw,w2,e37,hg1,hg2]
            refine cf (c158 _ (u0 _) (u255 _)) ?_
            simp only [go_sem,Nat.reduceLeDiff,Nat.reduceLT,Nat.reduceAdd,Nat.reduceMul,Nat.reduceBNe,Nat.reduceEqDiff,reduceCtorEq,Nat.reduceDiv,Nat.reduceMod,hlo,hc,hw,hx1']
            first
              | (refine ⟨(i + 1,out ++ [l.getD i 0]),?_,⟨hc,?_⟩,by simp only; omega⟩
                 · rw [snoc_own _ hacc]; rfl
                 · rw [← hsp,pct_step1 hc (fun h => hx1 h.2.2.1)]; simp)
             
        · have hg2 : l.length ≤ i + 2 := by omega
          simp only [go_sem,Nat.reduceLeDiff,Nat.reduceLT,Nat.reduceAdd,Nat.reduceMul,Nat.reduceBNe,Nat.reduceEqDiff,reduceCtorEq,Nat.reduceDiv,Nat.reduceMod,hlo,hc,hL,hw,e37,w2,hg2]
          first
            | (refine ⟨(i + 1,out ++ [l.getD i 0]),?_,⟨hc,?_⟩,by simp only; omega⟩
               · rw [snoc_own _ hacc]; rfl
               · rw [← hsp,pct_step1 hc (fun h => hg h.2.1)]; simp)
           
      · have e37 : (((l.getD i 0).toNat : Int) != 37) = true := by
          rw [bne_iff_ne]; intro e; exact h37 (UInt8.toNat_inj.1 (by rw [show (37 : UInt8).toNat = 37 from rfl]; omega))
        simp only [go_sem,Nat.reduceLeDiff,Nat.reduceLT,Nat.reduceAdd,Nat.reduceMul,Nat.reduceBNe,Nat.reduceEqDiff,reduceCtorEq,Nat.reduceDiv,Nat.reduceMod,hlo,hc,hw,e37]
        first
          | (refine ⟨(i + 1,out ++ [l.getD i 0]),?_,⟨hc,?_⟩,by simp only; omega⟩
             · rw [snoc_own _ hacc]; rfl
             · rw [← hsp,pct_step1 hc (fun h => h37 h.1)]; simp)
         
    · have he : i = l.length := by omega
      subst he
      have hsp2 : out = pct l := by rw [← hsp]; simp [pct]
      simp only [go_sem,Nat.reduceBNe,Nat.reduceDiv,Nat.reduceMod,hc,← hacc,rowsBytes_bytesRows]
      first | (refine fq ?_; rw [← hsp2]; rfl)
end Go.Proofs.YtbdfdfhamlmodaaGreatDoor.Fw
namespace Go.Proofs.YtbdfdfhamlmodaaGreatDoor.Fw
open Go Go.Proofs
open Go.Shelf
def lib_laysM171_ren:Go.Shelf.Ren:=⟨fun | 171=>93 | 243=>151 | 246=>196 | 283=>232 | 284=>233 | 285=>234 | 286=>235 | 129=>255 | 317=>254 | 318=>256 | 319=>257 | 320=>258 | 337=>266 | 338=>267 | n=>n,fun | 3=>3 | 9=>9 | 2=>2 | 4=>4 | 171=>190 | 0=>0 | 53=>191 | 37=>22 | 5=>5 | 173=>194 | 212=>208 | 51=>197 | 20=>20 | 213=>209 | 46=>149 | 232=>223 | 233=>224 | n=>n,fun | 17=>1 | 18=>4 | 19=>5 | n=>n⟩
theorem lib_laysM171:Go.Proofs.LaysM.n171 Tryz.prog lib_laysM171_ren:={
 mixed:=by kernel_rfl
 f129:=Tryz.func255.trans (congrArg some (by kernel_rfl))
 f171:=Tryz.func93.trans (congrArg some (by kernel_rfl))
 f243:=Tryz.func151.trans (congrArg some (by kernel_rfl))
 f246:=Tryz.func196.trans (congrArg some (by kernel_rfl))
 f283:=Tryz.func232.trans (congrArg some (by kernel_rfl))
 f284:=Tryz.func233.trans (congrArg some (by kernel_rfl))
 f285:=Tryz.func234.trans (congrArg some (by kernel_rfl))
 f286:=Tryz.func235.trans (congrArg some (by kernel_rfl))
 f317:=Tryz.func254.trans (congrArg some (by kernel_rfl))
 f318:=Tryz.func256.trans (congrArg some (by kernel_rfl))
 f319:=Tryz.func257.trans (congrArg some (by kernel_rfl))
 f320:=Tryz.func258.trans (congrArg some (by kernel_rfl))
 f337:=Tryz.func266.trans (congrArg some (by kernel_rfl))
 f338:=Tryz.func267.trans (congrArg some (by kernel_rfl))
 t0:=Tryz.underlying0
 a0:=Tryz.isAgg0
 z0:=Tryz.sizeOf0
 v0:=Tryz.zeroValue0
 t2:=Tryz.underlying2
 a2:=Tryz.isAgg2
 z2:=Tryz.sizeOf2
 v2:=Tryz.zeroValue2
 t3:=Tryz.underlying3
 a3:=Tryz.isAgg3
 z3:=Tryz.sizeOf3
 v3:=Tryz.zeroValue3
 t4:=Tryz.underlying4
 a4:=Tryz.isAgg4
 z4:=Tryz.sizeOf4
 v4:=Tryz.zeroValue4
 t5:=Tryz.underlying5
 a5:=Tryz.isAgg5
 z5:=Tryz.sizeOf5
 v5:=Tryz.zeroValue5
 t9:=Tryz.underlying9
 a9:=Tryz.isAgg9
 z9:=Tryz.sizeOf9
 v9:=Tryz.zeroValue9
 t20:=Tryz.underlying20
 a20:=Tryz.isAgg20
 z20:=Tryz.sizeOf20
 v20:=Tryz.zeroValue20
 t37:=Tryz.underlying22
 a37:=Tryz.isAgg22
 z37:=Tryz.sizeOf22
 v37:=Tryz.zeroValue22
 t46:=Tryz.underlying149
 a46:=Tryz.isAgg149
 z46:=Tryz.sizeOf149
 v46:=Tryz.zeroValue149
 t51:=Tryz.underlying197
 a51:=Tryz.isAgg197
 z51:=Tryz.sizeOf197
 v51:=Tryz.zeroValue197
 t53:=Tryz.underlying191
 a53:=Tryz.isAgg191
 z53:=Tryz.sizeOf191
 v53:=Tryz.zeroValue191
 t171:=Tryz.underlying190
 a171:=Tryz.isAgg190
 z171:=Tryz.sizeOf190
 v171:=Tryz.zeroValue190
 t173:=Tryz.underlying194
 a173:=Tryz.isAgg194
 z173:=Tryz.sizeOf194
 v173:=Tryz.zeroValue194
 t212:=Tryz.underlying208
 a212:=Tryz.isAgg208
 z212:=Tryz.sizeOf208
 v212:=Tryz.zeroValue208
 t213:=Tryz.underlying209
 a213:=Tryz.isAgg209
 z213:=Tryz.sizeOf209
 t232:=Tryz.underlying223
 a232:=Tryz.isAgg223
 z232:=Tryz.sizeOf223
 v232:=Tryz.zeroValue223
 t233:=Tryz.underlying224
 a233:=Tryz.isAgg224
 z233:=Tryz.sizeOf224
 v233:=Tryz.zeroValue224
 g17:=by kernel_rfl
 g18:=by kernel_rfl
 g19:=by kernel_rfl
 i0:=by kernel_rfl
 i2:=by kernel_rfl
 i3:=by kernel_rfl
 i4:=by kernel_rfl
 i5:=by kernel_rfl
 i9:=by kernel_rfl
 i20:=by kernel_rfl
 i37:=by kernel_rfl
 i46:=by kernel_rfl
 i51:=by kernel_rfl
 i53:=by kernel_rfl
 i171:=by kernel_rfl
 i173:=by kernel_rfl
 i212:=by kernel_rfl
 i232:=by kernel_rfl
 i233:=by kernel_rfl
 m17:=by kernel_rfl
 m18:=by kernel_rfl
 m19:=by kernel_rfl }
open Go.RowKit Go.Sort Go.Lib in
theorem lib_strconv_Itoa (n:Int) (h0:-9223372036854775808≤n) (h1:n≤9223372036854775807) (w:World) (htab:Lib.TabIs Tryz.prog w "internal/strconv.uint64pow10" .u64 Lib.pow10Tab) :
  Calls Tryz.prog 93 #[.int .i64 n] w fun e w'=>e = .returned (.string ⟨(Lib.itoa n).toArray⟩)∧∃ k os,w'=grow (w.drewN k) os:=Any.strconv_Itoa lib_laysM171 n h0 h1 w htab
def lib_lays110_ren:Go.Shelf.Ren:=⟨fun | 110=>114 | 109=>163 | n=>n,fun | 31=>87 | 9=>9 | 4=>4 | 3=>3 | 0=>0 | n=>n,fun | n=>n⟩
theorem lib_lays110:Go.Proofs.Lays.n110 Tryz.prog lib_lays110_ren:={
 mixed:=by kernel_rfl
 f109:=Tryz.func163.trans (congrArg some (by kernel_rfl))
 f110:=Tryz.func114.trans (congrArg some (by kernel_rfl))
 t0:=Tryz.underlying0
 a0:=Tryz.isAgg0
 z0:=Tryz.sizeOf0
 v0:=Tryz.zeroValue0
 t3:=Tryz.underlying3
 a3:=Tryz.isAgg3
 z3:=Tryz.sizeOf3
 v3:=Tryz.zeroValue3
 t4:=Tryz.underlying4
 a4:=Tryz.isAgg4
 z4:=Tryz.sizeOf4
 v4:=Tryz.zeroValue4
 t9:=Tryz.underlying9
 a9:=Tryz.isAgg9
 z9:=Tryz.sizeOf9
 v9:=Tryz.zeroValue9
 t31:=Tryz.underlying87
 a31:=Tryz.isAgg87
 z31:=Tryz.sizeOf87
 v31:=Tryz.zeroValue87 }
open Go.Lib in
theorem lib_slices_Contains_string (b off n c:Nat) (zs:List ByteArray) (x:ByteArray) (w:World) (hz:n≤zs.length) (hbig:n≤9223372036854775807) (hc:∀ j,j<zs.length→w.cell? ⟨b,off+j,none⟩=some (.string (zs.getD j ByteArray.empty))) :
  Calls Tryz.prog 114 #[.slice (some ⟨b,off,none⟩) n c,.string x] w fun e w'=>e = .returned (.bool (Lib.containsS (zs.take n) x))∧w'=w:=Any.slices_Contains_string lib_lays110 b off n c zs x w hz hbig hc
open Go.Lib in
theorem lib_slices_Contains_string_empty (a:Option Addr) (c:Nat) (x:ByteArray) (w:World) :
  Calls Tryz.prog 114 #[.slice a 0 c,.string x] w fun e w'=>e = .returned (.bool false)∧w'=w:=Any.slices_Contains_string_empty lib_lays110 a c x w
set_option maxRecDepth 100000
theorem strs_get {zs:List (List UInt8)} {i j:Nat} {t:T} (h:T.get? (rowsS zs) i j=some t):j=0∧∃ s,zs[i]? = some s∧t = .v (vS s):=by
 unfold T.get? rowsS at h
 rw [List.getElem?_map] at h
 cases hz:zs[i]? with
 | none=>rw [hz] at h; simp at h
 | some s =>
  rw [hz] at h
  cases j with
  | zero=>exact ⟨rfl,s,rfl,by simpa using h.symm⟩
  | succ j=>simp at h
theorem own_of_strs {P:Program} {w:World} {F:Nat→Prop} {e:TypeId} {zs:List (List UInt8)} {b o cap:Nat} {cs:Array Value} {fr:Nat × Nat} (he:P.cellsOf e=1) (h1:w.heap[b]? = some (.cells cs e fr)) (h2:F b) (h3:Thawed cs.size fr) (h4:o+cap≤cs.size) (h5:zs.length≤cap) (h6:cap≤9223372036854775807)
  (hl:∀ s,s∈zs→s.length≤9223372036854775807) (h:∀ (j:Nat) s,zs[j]? = some s→cs[o+j]? = some (vS s)):OwnT P w (.sl e (rowsS zs)) (.slice (some ⟨b,o,none⟩) zs.length cap) F:=by
 have hlen:zs.length=(rowsS zs).length:=by simp [rowsS]
 rw [hlen]
 rw [hlen] at h5
 refine .row e _ b o cap cs fr F (fun _ _ _=>False) (fun i _=>vS (zs.getD i [])) h1 h2 (by rw [he]; exact h3) (by rw [he,Nat.mul_one]; exact h4) h5 h6 ?_ (fun _ _ _ h=>h.elim) (fun _ _ _ _ _ h=>h.elim) ?_ ?_ ?_
 ·intro i r hr
  unfold rowsS at hr
  rw [List.getElem?_map] at hr
  cases hz:zs[i]? with
  | none=>rw [hz] at hr; simp at hr
  | some s=>rw [hz] at hr; simp at hr; rw [←hr,he]; rfl
 ·intro i j t ht
  obtain ⟨rfl,s,hs,rfl⟩:=strs_get ht
  rw [he,Nat.mul_one,Nat.add_zero,h i s hs,gDg,hs]
  rfl
 ·intro i j t ht
  obtain ⟨rfl,s,hs,rfl⟩:=strs_get ht
  have:zs.getD i []=s:=by rw [gDg,hs]; rfl
  rw [this]
  refine .v _ _ ?_
  simp only [scal,decide_eq_true_eq]
  exact hl s (List.mem_of_getElem? hs)
 ·intro _ i j t ht
  obtain ⟨rfl,s,hs,rfl⟩:=strs_get ht
  rfl
theorem ext_drewN (w:World) (n:Nat):Ext w (w.drewN n):=⟨rfl,rfl,rfl,Nat.le_refl _,fun _ _=>rfl⟩
theorem ext_grow (w:World) (os:Array Obj):Ext w (Sort.grow w os):=by
 refine ⟨rfl,rfl,rfl,by simp [Sort.grow],fun b hb => ?_⟩
 simp only [Sort.grow]
 rw [Array.getElem?_append_left hb]
theorem args1 {a:Act} (h:a.tmps.size=1):a.tmps = #[a.tmps.getD 0 undef]:=by
 apply Array.ext
 ·simpa using h
 ·intro i hi hi2
  have:i=0:=by simp at hi2; omega
  subst this; simp [Array.getD,h]
theorem args2 {a:Act} (hsz:a.tmps.size=2):a.tmps = #[a.tmps.getD 0 undef,a.tmps.getD 1 undef]:=by
 apply Array.ext
 ·simpa using hsz
 ·intro i hi hi2
  have:i=0∨i=1:=by simp at hi2; omega
  rcases this with rfl | rfl<;>simp [Array.getD,hsz]
theorem c114 (vs:List (List UInt8)) (s:List UInt8) (hN:vs.length≤9223372036854775807):Sem Tryz.prog 114 ⟨[.imm 9 (rowsS vs),.v (vS s)],[none,none]⟩ ⟨[.imm 9 (rowsS vs),.v (vS s),.v (vB (vs.contains s))],[none,none,none]⟩:=by
 refine sem_calls (Ein:=⟨[.imm 9 (rowsS vs),.v (vS s)],[none,none]⟩) (r:=vB (vs.contains s)) (enter_of Tryz.func114 rfl rfl) rfl rfl rfl ?_
 intro w a F loc M R
 have h0:=slot_of R (i:=0) (d := .imm 9 (rowsS vs)) rfl rfl (by simp)
 have h1:=slot_of R (i:=1) (d := .v (vS s)) rfl rfl (by simp)
 rw [args2 R.tmps]
 generalize a.tmps.getD 0 undef=v0 at h0
 generalize a.tmps.getD 1 undef=v1 at h1
 cases h1
 cases h0 with
 | imm _ _ _ h =>
  rcases strs_of (by kernel_rfl) h with ⟨rfl,base,cap,rfl⟩ | ⟨b,o,cap,rfl,hb,hc,hcells⟩
  ·exact (lib_slices_Contains_string_empty base cap (ofL s) w).mono fun e w' ⟨he,hw⟩=>⟨he,hw▸RowKit.Below.refl _ _⟩
  ·have hcs:Lib.containsS ((vs.map ofL).take (vs.map ofL).length) (ofL s)=vs.contains s:=by
    rw [List.take_length,Bool.eq_iff_iff,Lib.containsS_iff,List.contains_iff_mem]
    constructor
    ·intro h
     obtain ⟨x,hx,he⟩:=List.mem_map.1 h
     rw [ofL_inj] at he; rw [←he]; exact hx
    ·exact fun h=>List.mem_map.2 ⟨s,h,rfl⟩
   have:=lib_slices_Contains_string b o (vs.map ofL).length cap (vs.map ofL) (ofL s) w (Nat.le_refl _) (by simp; omega) (fun j hj=>by
    rw [hcells j _ (gEg hj),gDg,gEg hj]; rfl)
   rw [hcs] at this
   exact this.mono fun e w' ⟨he,hw⟩=>⟨he,hw▸RowKit.Below.refl _ _⟩
theorem c93 (n:Int) (h0:-9223372036854775808≤n) (h1:n≤9223372036854775807) (hlen:(Lib.itoa n).length≤9223372036854775807):Sem Tryz.prog 93 ⟨[.v (vI n)],[none]⟩ ⟨[.v (vI n),.v (vS (Lib.itoa n))],[none,none]⟩:=by
 refine sem_calls (Ein:=⟨[.v (vI n)],[none]⟩) (r:=vS (Lib.itoa n)) (enter_of Tryz.func93 rfl rfl) rfl (by simp only [scal,decide_eq_true_eq]; exact hlen) rfl ?_
 intro w a F loc M R
 have hv:=slot_of R (i:=0) (d := .v (vI n)) rfl rfl (by simp)
 rw [args1 R.tmps]
 generalize a.tmps.getD 0 undef=v0 at hv
 cases hv
 obtain ⟨B,hB,hL,hg⟩:=R.glob
 have htab:=(hg w (fun _ _=>rfl)).1 _ List.mem_cons_self (by
  intro h
  have hs:(Tryz.prog.globalNamed (tabName [105,110,116,101,114,110,97,108,47,115,116,114,99,111,110,118,46,117,105,110,116,54,52,112,111,119,49,48])).isSome=true:=by kernel_rfl
  have h:Tryz.prog.globalNamed (tabName [105,110,116,101,114,110,97,108,47,115,116,114,99,111,110,118,46,117,105,110,116,54,52,112,111,119,49,48])=none:=h
  rw [h] at hs
  cases hs)
 have htab:Lib.TabIs Tryz.prog w "internal/strconv.uint64pow10" .u64 Lib.pow10Tab:=by
  have e:tabName [105,110,116,101,114,110,97,108,47,115,116,114,99,111,110,118,46,117,105,110,116,54,52,112,111,119,49,48] = "internal/strconv.uint64pow10" := by decide
  rw [←e]; exact htab
 exact (lib_strconv_Itoa n h0 h1 w htab).mono fun e w' ⟨he,k,os,hw⟩=>⟨he,by
  have x:=(ext_drewN w k).trans (ext_grow _ os)
  rw [hw]
  exact ⟨x.os,x.tape,x.output,x.size,x.kept⟩⟩
def lib_lays172_ren:Go.Shelf.Ren:=⟨fun | 172=>182 | 244=>222 | 245=>223 | 247=>246 | 279=>247 | 280=>248 | 281=>249 | 282=>250 | 287=>259 | 316=>260 | 171=>93 | 205=>261 | 321=>268 | 322=>269 | 243=>151 | 246=>196 | 283=>232 | 284=>233 | 285=>234 | 286=>235 | 129=>255 | 317=>254 | 318=>256 | 319=>257 | 320=>258 | 337=>266 | 338=>267 | n=>n,fun | 9=>9 | 3=>3 | 75=>117 | 76=>118 | 4=>4 | 5=>5 | 167=>200 | 37=>22 | 0=>0 | 85=>201 | 2=>2 | 168=>203 | 53=>191 | 175=>211 | 46=>149 | 210=>214 | 127=>154 | 145=>222 | 143=>220 | 21=>21 | 171=>190 | 173=>194 | 212=>208 | 51=>197 | 20=>20 | 213=>209 | 232=>223 | 233=>224 | 80=>121 | n=>n,fun | 15=>2 | 16=>3 | 17=>1 | 18=>4 | 19=>5 | n=>n⟩
theorem lib_lays172:Go.Proofs.Lays.n172 Tryz.prog lib_lays172_ren:={
 mixed:=by kernel_rfl
 f129:=Tryz.func255.trans (congrArg some (by kernel_rfl))
 f171:=Tryz.func93.trans (congrArg some (by kernel_rfl))
 f172:=Tryz.func182.trans (congrArg some (by kernel_rfl))
 f205:=Tryz.func261.trans (congrArg some (by kernel_rfl))
 f243:=Tryz.func151.trans (congrArg some (by kernel_rfl))
 f244:=Tryz.func222.trans (congrArg some (by kernel_rfl))
 f245:=Tryz.func223.trans (congrArg some (by kernel_rfl))
 f246:=Tryz.func196.trans (congrArg some (by kernel_rfl))
 f247:=Tryz.func246.trans (congrArg some (by kernel_rfl))
 f279:=Tryz.func247.trans (congrArg some (by kernel_rfl))
 f280:=Tryz.func248.trans (congrArg some (by kernel_rfl))
 f281:=Tryz.func249.trans (congrArg some (by kernel_rfl))
 f282:=Tryz.func250.trans (congrArg some (by kernel_rfl))
 f283:=Tryz.func232.trans (congrArg some (by kernel_rfl))
 f284:=Tryz.func233.trans (congrArg some (by kernel_rfl))
 f285:=Tryz.func234.trans (congrArg some (by kernel_rfl))
 f286:=Tryz.func235.trans (congrArg some (by kernel_rfl))
 f287:=Tryz.func259.trans (congrArg some (by kernel_rfl))
 f316:=Tryz.func260.trans (congrArg some (by kernel_rfl))
 f317:=Tryz.func254.trans (congrArg some (by kernel_rfl))
 f318:=Tryz.func256.trans (congrArg some (by kernel_rfl))
 f319:=Tryz.func257.trans (congrArg some (by kernel_rfl))
 f320:=Tryz.func258.trans (congrArg some (by kernel_rfl))
 f321:=Tryz.func268.trans (congrArg some (by kernel_rfl))
 f322:=Tryz.func269.trans (congrArg some (by kernel_rfl))
 f337:=Tryz.func266.trans (congrArg some (by kernel_rfl))
 f338:=Tryz.func267.trans (congrArg some (by kernel_rfl))
 t0:=Tryz.underlying0
 a0:=Tryz.isAgg0
 z0:=Tryz.sizeOf0
 v0:=Tryz.zeroValue0
 t2:=Tryz.underlying2
 a2:=Tryz.isAgg2
 z2:=Tryz.sizeOf2
 v2:=Tryz.zeroValue2
 t3:=Tryz.underlying3
 a3:=Tryz.isAgg3
 z3:=Tryz.sizeOf3
 v3:=Tryz.zeroValue3
 t4:=Tryz.underlying4
 a4:=Tryz.isAgg4
 z4:=Tryz.sizeOf4
 v4:=Tryz.zeroValue4
 t5:=Tryz.underlying5
 a5:=Tryz.isAgg5
 z5:=Tryz.sizeOf5
 v5:=Tryz.zeroValue5
 t9:=Tryz.underlying9
 a9:=Tryz.isAgg9
 z9:=Tryz.sizeOf9
 v9:=Tryz.zeroValue9
 t20:=Tryz.underlying20
 a20:=Tryz.isAgg20
 z20:=Tryz.sizeOf20
 v20:=Tryz.zeroValue20
 t21:=Tryz.underlying21
 a21:=Tryz.isAgg21
 z21:=Tryz.sizeOf21
 v21:=Tryz.zeroValue21
 t37:=Tryz.underlying22
 a37:=Tryz.isAgg22
 z37:=Tryz.sizeOf22
 v37:=Tryz.zeroValue22
 t46:=Tryz.underlying149
 a46:=Tryz.isAgg149
 z46:=Tryz.sizeOf149
 v46:=Tryz.zeroValue149
 t51:=Tryz.underlying197
 a51:=Tryz.isAgg197
 z51:=Tryz.sizeOf197
 v51:=Tryz.zeroValue197
 t53:=Tryz.underlying191
 a53:=Tryz.isAgg191
 z53:=Tryz.sizeOf191
 v53:=Tryz.zeroValue191
 t75:=Tryz.underlying117
 a75:=Tryz.isAgg117
 z75:=Tryz.sizeOf117
 v75:=Tryz.zeroValue117
 t76:=Tryz.underlying118
 a76:=Tryz.isAgg118
 z76:=Tryz.sizeOf118
 v76:=Tryz.zeroValue118
 t85:=Tryz.underlying201
 a85:=Tryz.isAgg201
 z85:=Tryz.sizeOf201
 v85:=Tryz.zeroValue201
 t127:=Tryz.underlying154
 a127:=Tryz.isAgg154
 z127:=Tryz.sizeOf154
 v127:=Tryz.zeroValue154
 t143:=Tryz.underlying220
 a143:=Tryz.isAgg220
 z143:=Tryz.sizeOf220
 v143:=Tryz.zeroValue220
 t145:=Tryz.underlying222
 a145:=Tryz.isAgg222
 z145:=Tryz.sizeOf222
 v145:=Tryz.zeroValue222
 t167:=Tryz.underlying200
 a167:=Tryz.isAgg200
 z167:=Tryz.sizeOf200
 v167:=Tryz.zeroValue200
 t168:=Tryz.underlying203
 a168:=Tryz.isAgg203
 z168:=Tryz.sizeOf203
 v168:=Tryz.zeroValue203
 t171:=Tryz.underlying190
 a171:=Tryz.isAgg190
 z171:=Tryz.sizeOf190
 v171:=Tryz.zeroValue190
 t173:=Tryz.underlying194
 a173:=Tryz.isAgg194
 z173:=Tryz.sizeOf194
 v173:=Tryz.zeroValue194
 t175:=Tryz.underlying211
 a175:=Tryz.isAgg211
 z175:=Tryz.sizeOf211
 v175:=Tryz.zeroValue211
 t210:=Tryz.underlying214
 a210:=Tryz.isAgg214
 z210:=Tryz.sizeOf214
 v210:=Tryz.zeroValue214
 t212:=Tryz.underlying208
 a212:=Tryz.isAgg208
 z212:=Tryz.sizeOf208
 v212:=Tryz.zeroValue208
 t213:=Tryz.underlying209
 a213:=Tryz.isAgg209
 z213:=Tryz.sizeOf209
 t232:=Tryz.underlying223
 a232:=Tryz.isAgg223
 z232:=Tryz.sizeOf223
 v232:=Tryz.zeroValue223
 t233:=Tryz.underlying224
 a233:=Tryz.isAgg224
 z233:=Tryz.sizeOf224
 v233:=Tryz.zeroValue224
 g15:=by kernel_rfl
 g16:=by kernel_rfl
 g17:=by kernel_rfl
 g18:=by kernel_rfl
 g19:=by kernel_rfl }
def lib_lays144_ren:Go.Shelf.Ren:=⟨fun | 144=>135 | 143=>120 | 219=>165 | 217=>203 | 225=>204 | 224=>205 | 267=>206 | 266=>238 | 314=>239 | n=>n,fun | 9=>9 | 4=>4 | 3=>3 | 5=>5 | 46=>149 | 146=>198 | 51=>197 | n=>n,fun | 1=>0 | n=>n⟩
theorem lib_lays144:Go.Proofs.Lays.n144 Tryz.prog lib_lays144_ren:={
 mixed:=by kernel_rfl
 f143:=Tryz.func120.trans (congrArg some (by kernel_rfl))
 f144:=Tryz.func135.trans (congrArg some (by kernel_rfl))
 f217:=Tryz.func203.trans (congrArg some (by kernel_rfl))
 f219:=Tryz.func165.trans (congrArg some (by kernel_rfl))
 f224:=Tryz.func205.trans (congrArg some (by kernel_rfl))
 f225:=Tryz.func204.trans (congrArg some (by kernel_rfl))
 f266:=Tryz.func238.trans (congrArg some (by kernel_rfl))
 f267:=Tryz.func206.trans (congrArg some (by kernel_rfl))
 f314:=Tryz.func239.trans (congrArg some (by kernel_rfl))
 t3:=Tryz.underlying3
 a3:=Tryz.isAgg3
 z3:=Tryz.sizeOf3
 v3:=Tryz.zeroValue3
 t4:=Tryz.underlying4
 a4:=Tryz.isAgg4
 z4:=Tryz.sizeOf4
 v4:=Tryz.zeroValue4
 t5:=Tryz.underlying5
 a5:=Tryz.isAgg5
 z5:=Tryz.sizeOf5
 v5:=Tryz.zeroValue5
 t9:=Tryz.underlying9
 a9:=Tryz.isAgg9
 z9:=Tryz.sizeOf9
 v9:=Tryz.zeroValue9
 t46:=Tryz.underlying149
 a46:=Tryz.isAgg149
 z46:=Tryz.sizeOf149
 v46:=Tryz.zeroValue149
 t51:=Tryz.underlying197
 a51:=Tryz.isAgg197
 z51:=Tryz.sizeOf197
 v51:=Tryz.zeroValue197
 t146:=Tryz.underlying198
 a146:=Tryz.isAgg198
 z146:=Tryz.sizeOf198
 v146:=Tryz.zeroValue198
 g1:=by kernel_rfl }
open Go.RowKit Go.Lib in
theorem lib_strings_Contains_one (s:ByteArray) (c:UInt8) (w:World) :
  Calls Tryz.prog 135 #[.string s,.string ⟨#[c]⟩] w fun e w'=>e = .returned (.bool (decide (0≤Lib.indexByte s.data.toList c)))∧w'=w:=Any.strings_Contains_one lib_lays144 s c w
def lib_lays145_ren:Go.Shelf.Ren:=⟨fun | 145=>105 | 220=>157 | 219=>165 | 217=>203 | 225=>204 | 224=>205 | 267=>206 | 266=>238 | 314=>239 | n=>n,fun | 9=>9 | 4=>4 | 59=>80 | 3=>3 | 5=>5 | 46=>149 | 146=>198 | 51=>197 | n=>n,fun | 1=>0 | n=>n⟩
theorem lib_lays145:Go.Proofs.Lays.n145 Tryz.prog lib_lays145_ren:={
 mixed:=by kernel_rfl
 f145:=Tryz.func105.trans (congrArg some (by kernel_rfl))
 f217:=Tryz.func203.trans (congrArg some (by kernel_rfl))
 f219:=Tryz.func165.trans (congrArg some (by kernel_rfl))
 f220:=Tryz.func157.trans (congrArg some (by kernel_rfl))
 f224:=Tryz.func205.trans (congrArg some (by kernel_rfl))
 f225:=Tryz.func204.trans (congrArg some (by kernel_rfl))
 f266:=Tryz.func238.trans (congrArg some (by kernel_rfl))
 f267:=Tryz.func206.trans (congrArg some (by kernel_rfl))
 f314:=Tryz.func239.trans (congrArg some (by kernel_rfl))
 t3:=Tryz.underlying3
 a3:=Tryz.isAgg3
 z3:=Tryz.sizeOf3
 v3:=Tryz.zeroValue3
 t4:=Tryz.underlying4
 a4:=Tryz.isAgg4
 z4:=Tryz.sizeOf4
 v4:=Tryz.zeroValue4
 t5:=Tryz.underlying5
 a5:=Tryz.isAgg5
 z5:=Tryz.sizeOf5
 v5:=Tryz.zeroValue5
 t9:=Tryz.underlying9
 a9:=Tryz.isAgg9
 z9:=Tryz.sizeOf9
 v9:=Tryz.zeroValue9
 t46:=Tryz.underlying149
 a46:=Tryz.isAgg149
 z46:=Tryz.sizeOf149
 v46:=Tryz.zeroValue149
 t51:=Tryz.underlying197
 a51:=Tryz.isAgg197
 z51:=Tryz.sizeOf197
 v51:=Tryz.zeroValue197
 t59:=Tryz.underlying80
 a59:=Tryz.isAgg80
 z59:=Tryz.sizeOf80
 v59:=Tryz.zeroValue80
 t146:=Tryz.underlying198
 a146:=Tryz.isAgg198
 z146:=Tryz.sizeOf198
 v146:=Tryz.zeroValue198
 g1:=by kernel_rfl }
open Go.RowKit Go.Lib in
theorem lib_strings_Cut (s sep:ByteArray) (m:Int) (w:World) (hs:s.size<4294967281) (hm:w.cell? ⟨0,0,none⟩=some (.int .i64 m)) :
  Calls Tryz.prog 105 #[.string s,.string sep] w fun e w'=>e = .returned (.tuple #[.string ⟨(Lib.cut s.data.toList sep.data.toList).1.toArray⟩,.string ⟨(Lib.cut s.data.toList sep.data.toList).2.1.toArray⟩,.bool (Lib.cut s.data.toList sep.data.toList).2.2])∧∃ n,w'=w.drewN n:=Any.strings_Cut lib_lays145 s sep m w hs hm
def lib_lays99_ren:Go.Shelf.Ren:=⟨fun | 99=>184 | 206=>224 | n=>n,fun | 9=>9 | 4=>4 | 3=>3 | n=>n,fun | n=>n⟩
theorem lib_lays99:Go.Proofs.Lays.n99 Tryz.prog lib_lays99_ren:={
 mixed:=by kernel_rfl
 f99:=Tryz.func184.trans (congrArg some (by kernel_rfl))
 f206:=Tryz.func224.trans (congrArg some (by kernel_rfl))
 t3:=Tryz.underlying3
 a3:=Tryz.isAgg3
 z3:=Tryz.sizeOf3
 v3:=Tryz.zeroValue3
 t4:=Tryz.underlying4
 a4:=Tryz.isAgg4
 z4:=Tryz.sizeOf4
 v4:=Tryz.zeroValue4
 t9:=Tryz.underlying9
 a9:=Tryz.isAgg9
 z9:=Tryz.sizeOf9
 v9:=Tryz.zeroValue9 }
open Go.RowKit Go.Lib in
theorem lib_strings_HasPrefix (s p:ByteArray) (w:World) :
  Calls Tryz.prog 184 #[.string s,.string p] w fun e w'=>e = .returned (.bool (Lib.hasPrefix s.data.toList p.data.toList))∧w'=w:=Any.strings_HasPrefix lib_lays99 s p w
def lib_lays146_ren:Go.Shelf.Ren:=⟨fun | 146=>186 | 221=>225 | 268=>251 | 138=>252 | 143=>120 | 195=>262 | 197=>263 | 218=>264 | 219=>165 | 260=>270 | 217=>203 | 225=>204 | 224=>205 | 267=>206 | 266=>238 | 314=>239 | n=>n,fun | 9=>9 | 31=>87 | 3=>3 | 4=>4 | 0=>0 | 105=>216 | 21=>21 | 5=>5 | 46=>149 | 119=>225 | 139=>228 | 138=>227 | 146=>198 | 51=>197 | n=>n,fun | 1=>0 | 3=>6 | 4=>7 | n=>n⟩
theorem lib_lays146:Go.Proofs.Lays.n146 Tryz.prog lib_lays146_ren:={
 mixed:=by kernel_rfl
 f138:=Tryz.func252.trans (congrArg some (by kernel_rfl))
 f143:=Tryz.func120.trans (congrArg some (by kernel_rfl))
 f146:=Tryz.func186.trans (congrArg some (by kernel_rfl))
 f195:=Tryz.func262.trans (congrArg some (by kernel_rfl))
 f197:=Tryz.func263.trans (congrArg some (by kernel_rfl))
 f217:=Tryz.func203.trans (congrArg some (by kernel_rfl))
 f218:=Tryz.func264.trans (congrArg some (by kernel_rfl))
 f219:=Tryz.func165.trans (congrArg some (by kernel_rfl))
 f221:=Tryz.func225.trans (congrArg some (by kernel_rfl))
 f224:=Tryz.func205.trans (congrArg some (by kernel_rfl))
 f225:=Tryz.func204.trans (congrArg some (by kernel_rfl))
 f260:=Tryz.func270.trans (congrArg some (by kernel_rfl))
 f266:=Tryz.func238.trans (congrArg some (by kernel_rfl))
 f267:=Tryz.func206.trans (congrArg some (by kernel_rfl))
 f268:=Tryz.func251.trans (congrArg some (by kernel_rfl))
 f314:=Tryz.func239.trans (congrArg some (by kernel_rfl))
 t0:=Tryz.underlying0
 a0:=Tryz.isAgg0
 z0:=Tryz.sizeOf0
 v0:=Tryz.zeroValue0
 t3:=Tryz.underlying3
 a3:=Tryz.isAgg3
 z3:=Tryz.sizeOf3
 v3:=Tryz.zeroValue3
 t4:=Tryz.underlying4
 a4:=Tryz.isAgg4
 z4:=Tryz.sizeOf4
 v4:=Tryz.zeroValue4
 t5:=Tryz.underlying5
 a5:=Tryz.isAgg5
 z5:=Tryz.sizeOf5
 v5:=Tryz.zeroValue5
 t9:=Tryz.underlying9
 a9:=Tryz.isAgg9
 z9:=Tryz.sizeOf9
 v9:=Tryz.zeroValue9
 t21:=Tryz.underlying21
 a21:=Tryz.isAgg21
 z21:=Tryz.sizeOf21
 v21:=Tryz.zeroValue21
 t31:=Tryz.underlying87
 a31:=Tryz.isAgg87
 z31:=Tryz.sizeOf87
 v31:=Tryz.zeroValue87
 t46:=Tryz.underlying149
 a46:=Tryz.isAgg149
 z46:=Tryz.sizeOf149
 v46:=Tryz.zeroValue149
 t51:=Tryz.underlying197
 a51:=Tryz.isAgg197
 z51:=Tryz.sizeOf197
 v51:=Tryz.zeroValue197
 t105:=Tryz.underlying216
 a105:=Tryz.isAgg216
 z105:=Tryz.sizeOf216
 v105:=Tryz.zeroValue216
 t119:=Tryz.underlying225
 a119:=Tryz.isAgg225
 z119:=Tryz.sizeOf225
 t138:=Tryz.underlying227
 a138:=Tryz.isAgg227
 z138:=Tryz.sizeOf227
 v138:=Tryz.zeroValue227
 t139:=Tryz.underlying228
 a139:=Tryz.isAgg228
 z139:=Tryz.sizeOf228
 v139:=Tryz.zeroValue228
 t146:=Tryz.underlying198
 a146:=Tryz.isAgg198
 z146:=Tryz.sizeOf198
 v146:=Tryz.zeroValue198
 g1:=by kernel_rfl
 g3:=by kernel_rfl
 g4:=by kernel_rfl }
open Go.RowKit Go.Lib in
theorem lib_strings_Split (s sep:ByteArray) (m:Int) (w:World) (hs:s.size<4294967281) (hm:w.cell? ⟨0,0,none⟩=some (.int .i64 m)) (h1:1≤sep.size) :
  Calls Tryz.prog 186 #[.string s,.string sep] w fun e w' =>
   e = .returned (.slice (some ⟨w.heap.size,0,none⟩) (Lib.countB s sep+1) (Lib.countB s sep+1))∧w'=w.alloc (.cells ((Lib.splitB sep 0 (Lib.countB s sep) s).map Value.string).toArray 9):=Any.strings_Split lib_lays146 (by kernel_rfl) s sep m w hs hm h1
def lib_lays153_ren:Go.Shelf.Ren:=⟨fun | 153=>136 | 152=>178 | 226=>179 | 227=>180 | 228=>181 | 137=>220 | 119=>221 | 224=>205 | 225=>204 | 217=>203 | 266=>238 | n=>n,fun | 9=>9 | 3=>3 | 4=>4 | 5=>5 | 21=>21 | 117=>169 | 116=>168 | 0=>0 | 46=>149 | 124=>185 | n=>n,fun | n=>n⟩
theorem lib_lays153:Go.Proofs.Lays.n153 Tryz.prog lib_lays153_ren:={
 mixed:=by kernel_rfl
 f119:=Tryz.func221.trans (congrArg some (by kernel_rfl))
 f137:=Tryz.func220.trans (congrArg some (by kernel_rfl))
 f152:=Tryz.func178.trans (congrArg some (by kernel_rfl))
 f153:=Tryz.func136.trans (congrArg some (by kernel_rfl))
 f217:=Tryz.func203.trans (congrArg some (by kernel_rfl))
 f224:=Tryz.func205.trans (congrArg some (by kernel_rfl))
 f225:=Tryz.func204.trans (congrArg some (by kernel_rfl))
 f226:=Tryz.func179.trans (congrArg some (by kernel_rfl))
 f227:=Tryz.func180.trans (congrArg some (by kernel_rfl))
 f228:=Tryz.func181.trans (congrArg some (by kernel_rfl))
 f266:=Tryz.func238.trans (congrArg some (by kernel_rfl))
 t0:=Tryz.underlying0
 a0:=Tryz.isAgg0
 z0:=Tryz.sizeOf0
 v0:=Tryz.zeroValue0
 t3:=Tryz.underlying3
 a3:=Tryz.isAgg3
 z3:=Tryz.sizeOf3
 v3:=Tryz.zeroValue3
 t4:=Tryz.underlying4
 a4:=Tryz.isAgg4
 z4:=Tryz.sizeOf4
 v4:=Tryz.zeroValue4
 t5:=Tryz.underlying5
 a5:=Tryz.isAgg5
 z5:=Tryz.sizeOf5
 v5:=Tryz.zeroValue5
 t9:=Tryz.underlying9
 a9:=Tryz.isAgg9
 z9:=Tryz.sizeOf9
 v9:=Tryz.zeroValue9
 t21:=Tryz.underlying21
 a21:=Tryz.isAgg21
 z21:=Tryz.sizeOf21
 v21:=Tryz.zeroValue21
 t46:=Tryz.underlying149
 a46:=Tryz.isAgg149
 z46:=Tryz.sizeOf149
 v46:=Tryz.zeroValue149
 t116:=Tryz.underlying168
 a116:=Tryz.isAgg168
 z116:=Tryz.sizeOf168
 t117:=Tryz.underlying169
 a117:=Tryz.isAgg169
 z117:=Tryz.sizeOf169
 v117:=Tryz.zeroValue169
 t124:=Tryz.underlying185
 a124:=Tryz.isAgg185
 z124:=Tryz.sizeOf185
 v124:=Tryz.zeroValue185 }
def lib_lays150_ren:Go.Shelf.Ren:=⟨fun | 150=>185 | 153=>136 | 152=>178 | 226=>179 | 227=>180 | 228=>181 | 137=>220 | 119=>221 | 224=>205 | 225=>204 | 217=>203 | 266=>238 | n=>n,fun | 9=>9 | 4=>4 | 3=>3 | 5=>5 | 21=>21 | 117=>169 | 116=>168 | 0=>0 | 46=>149 | 124=>185 | n=>n,fun | n=>n⟩
theorem lib_lays150:Go.Proofs.Lays.n150 Tryz.prog lib_lays150_ren:={
 mixed:=by kernel_rfl
 f119:=Tryz.func221.trans (congrArg some (by kernel_rfl))
 f137:=Tryz.func220.trans (congrArg some (by kernel_rfl))
 f150:=Tryz.func185.trans (congrArg some (by kernel_rfl))
 f152:=Tryz.func178.trans (congrArg some (by kernel_rfl))
 f153:=Tryz.func136.trans (congrArg some (by kernel_rfl))
 f217:=Tryz.func203.trans (congrArg some (by kernel_rfl))
 f224:=Tryz.func205.trans (congrArg some (by kernel_rfl))
 f225:=Tryz.func204.trans (congrArg some (by kernel_rfl))
 f226:=Tryz.func179.trans (congrArg some (by kernel_rfl))
 f227:=Tryz.func180.trans (congrArg some (by kernel_rfl))
 f228:=Tryz.func181.trans (congrArg some (by kernel_rfl))
 f266:=Tryz.func238.trans (congrArg some (by kernel_rfl))
 t0:=Tryz.underlying0
 a0:=Tryz.isAgg0
 z0:=Tryz.sizeOf0
 v0:=Tryz.zeroValue0
 t3:=Tryz.underlying3
 a3:=Tryz.isAgg3
 z3:=Tryz.sizeOf3
 v3:=Tryz.zeroValue3
 t4:=Tryz.underlying4
 a4:=Tryz.isAgg4
 z4:=Tryz.sizeOf4
 v4:=Tryz.zeroValue4
 t5:=Tryz.underlying5
 a5:=Tryz.isAgg5
 z5:=Tryz.sizeOf5
 v5:=Tryz.zeroValue5
 t9:=Tryz.underlying9
 a9:=Tryz.isAgg9
 z9:=Tryz.sizeOf9
 v9:=Tryz.zeroValue9
 t21:=Tryz.underlying21
 a21:=Tryz.isAgg21
 z21:=Tryz.sizeOf21
 v21:=Tryz.zeroValue21
 t46:=Tryz.underlying149
 a46:=Tryz.isAgg149
 z46:=Tryz.sizeOf149
 v46:=Tryz.zeroValue149
 t116:=Tryz.underlying168
 a116:=Tryz.isAgg168
 z116:=Tryz.sizeOf168
 t117:=Tryz.underlying169
 a117:=Tryz.isAgg169
 z117:=Tryz.sizeOf169
 v117:=Tryz.zeroValue169
 t124:=Tryz.underlying185
 a124:=Tryz.isAgg185
 z124:=Tryz.sizeOf185
 v124:=Tryz.zeroValue185 }
open Go.RowKit Go.Lib in
theorem lib_strings_IndexAny_laid (s chars:ByteArray) (w:World) (hs:s.size<4294967281) (hcs:chars.size<4294967281) (has:∀ (j:Nat) b,s.data.toList[j]? = some b→b.toNat<128) (hac:∀ (j:Nat) b,chars.data.toList[j]? = some b→b.toNat<128) :
  Calls Tryz.prog 136 #[.string s,.string chars] w fun e w'=>e = .returned (.int .i64 (Lib.indexAny s.data.toList chars.data.toList))∧RowKit.Below w.heap.size w w':=Any.strings_IndexAny_laid lib_lays153 (by kernel_rfl) s chars w hs hcs has hac
open Go.RowKit Go.Lib in
theorem lib_strings_ContainsAny_laid (s chars:ByteArray) (w:World) (hs:s.size<4294967281) (hcs:chars.size<4294967281) (has:∀ (j:Nat) b,s.data.toList[j]? = some b→b.toNat<128) (hac:∀ (j:Nat) b,chars.data.toList[j]? = some b→b.toNat<128) :
  Calls Tryz.prog 185 #[.string s,.string chars] w fun e w'=>e = .returned (.bool (Lib.containsAny s.data.toList chars.data.toList))∧RowKit.Below w.heap.size w w':=Any.strings_ContainsAny_laid lib_lays150 (by kernel_rfl) s chars w hs hcs has hac
theorem lib_laysC172:Go.Proofs.LaysC.n172 Tryz.prog lib_lays172_ren:={ lib_lays172 with
 t80:=Tryz.underlying121
 a80:=Tryz.isAgg121
 z80:=Tryz.sizeOf121
 v80:=Tryz.zeroValue121
 i0:=by kernel_rfl
 i2:=by kernel_rfl
 i3:=by kernel_rfl
 i4:=by kernel_rfl
 i5:=by kernel_rfl
 i9:=by kernel_rfl
 i20:=by kernel_rfl
 i21:=by kernel_rfl
 i37:=by kernel_rfl
 i46:=by kernel_rfl
 i51:=by kernel_rfl
 i53:=by kernel_rfl
 i75:=by kernel_rfl
 i76:=by kernel_rfl
 i80:=by kernel_rfl
 i85:=by kernel_rfl
 i127:=by kernel_rfl
 i143:=by kernel_rfl
 i145:=by kernel_rfl
 i167:=by kernel_rfl
 i168:=by kernel_rfl
 i171:=by kernel_rfl
 i173:=by kernel_rfl
 i175:=by kernel_rfl
 i210:=by kernel_rfl
 i212:=by kernel_rfl
 i232:=by kernel_rfl
 i233:=by kernel_rfl
 m15:=by kernel_rfl
 m16:=by kernel_rfl
 m17:=by kernel_rfl
 m18:=by kernel_rfl
 m19:=by kernel_rfl
 c0:=by kernel_rfl
 c2:=by kernel_rfl
 c3:=by kernel_rfl
 c4:=by kernel_rfl
 c5:=by kernel_rfl
 c9:=by kernel_rfl
 c20:=by kernel_rfl
 c21:=by kernel_rfl
 c37:=by kernel_rfl
 c46:=by kernel_rfl
 c51:=by kernel_rfl
 c53:=by kernel_rfl
 c75:=by kernel_rfl
 c76:=by kernel_rfl
 c80:=by kernel_rfl
 c85:=by kernel_rfl
 c127:=by kernel_rfl
 c143:=by kernel_rfl
 c145:=by kernel_rfl
 c167:=by kernel_rfl
 c168:=by kernel_rfl
 c171:=by kernel_rfl
 c173:=by kernel_rfl
 c175:=by kernel_rfl
 c210:=by kernel_rfl
 c212:=by kernel_rfl
 c213:=by kernel_rfl
 c232:=by kernel_rfl
 c233:=by kernel_rfl }
theorem Rel.pushStrs {P:Program} {w0:World} {L:Nat→Nat→Prop} {E:Env} {a:Act} {w:World} {F:Lf→Nat→Prop} {loc:Nat→Nat × Nat} {M:Nat→Prop} (R:Rel w0 L ⟨P,E,a,w,F,loc,M⟩) {e:TypeId} (he:P.cellsOf e=1) (zs:List (List UInt8)) (hz:zs.length≤9223372036854775807) (hl:∀ s,s∈zs→s.length≤9223372036854775807) :
  ∃ F',Rel w0 L ⟨P,⟨E.sl++[.own e (rowsS zs)],E.ce++[none]⟩,{ tmps:=a.tmps.push (.slice (some ⟨w.heap.size,0,none⟩) zs.length zs.length),defers:=[] },w.alloc (.cells (zs.map fun s=>vS s).toArray e),F',loc,M⟩:=by
 have hsz:a.tmps.size=E.sl.length:=R.tmps
 have R1:=R.pad 1
 have hdead:∀ e' xs,(E.pad 1).leaf ⟨false,E.sl.length,0⟩ ≠ .own e' xs:=by
  intro e' xs h
  have h:((E.sl++List.replicate 1 D.dead).getD E.sl.length .dead).leafOf 0 = .own e' xs:=h
  rw [gDg,List.getElem?_append_right (Nat.le_refl _)] at h
  simp [D.leafOf,D.comps,D.leaves1] at h
 have hx:Ext w (w.alloc (.cells (zs.map fun s=>vS s).toArray e)):=⟨rfl,rfl,rfl,by rw [size_alloc]; omega,fun b hb=>heap_alloc_old w _ hb⟩
 have R2:=R1.ext (w':=w.alloc (.cells (zs.map fun s=>vS s).toArray e)) hx (fun p b=>if p=⟨false,E.sl.length,0⟩ then b=w.heap.size else F p b) (fun p=>p=⟨false,E.sl.length,0⟩)
  (fun q e' xs h hn=>hdead e' xs (hn▸h)) (fun p hp=>by funext b; simp [hp]) (fun p b hp hb=>by
   rw [if_pos hp] at hb
   have h2:=heap_alloc_new w (.cells (zs.map fun s=>vS s).toArray e)
   exact ⟨by show w.heap.size≤b; omega,by rw [hb]; exact (Array.getElem?_eq_some_iff.1 h2).1⟩) (fun p q b hp hq _ _=>hp.trans hq.symm)
 obtain ⟨F',R3⟩:=R2.put2 (q:=⟨false,E.sl.length,0⟩) (t:=E.sl.length) (e:=e) (zs:=rowsS zs) (v := .slice (some ⟨w.heap.size,0,none⟩) zs.length zs.length) hdead (by
  show ((E.sl++List.replicate 1 D.dead).getD E.sl.length .dead).anyOwn=false
  rw [gDg,List.getElem?_append_right (Nat.le_refl _)]
  simp [D.anyOwn,D.comps,D.leaves1,D.isOwn]) (own_of_strs (cs:=(zs.map fun s=>vS s).toArray) (fr:=(0,0)) he (heap_alloc_new w _) (by show (if (⟨false,E.sl.length,0⟩:Lf)=_ then _ else _); rw [if_pos rfl]) (fun o ho h=>by simp at h) (by simp) (Nat.le_refl _) hz hl (fun j s hj=>by
   rw [Nat.zero_add,List.getElem?_toArray,List.getElem?_map,hj]; rfl))
 refine ⟨F',?_⟩
 have e1:(E.sl++List.replicate 1 D.dead).set E.sl.length (.own e (rowsS zs))=E.sl++[.own e (rowsS zs)]:=by
  rw [List.set_append_right _ _ (Nat.le_refl _)]
  simp
 have e2:(a.tmps++Array.replicate 1 undef).setIfInBounds E.sl.length (.slice (some ⟨w.heap.size,0,none⟩) zs.length zs.length)=a.tmps.push (.slice (some ⟨w.heap.size,0,none⟩) zs.length zs.length):=by
  rw [←hsz]
  exact set_push a.tmps _
 have R4:Rel w0 L { P:=P,E:=⟨(E.sl++List.replicate 1 D.dead).set E.sl.length (.own e (rowsS zs)),E.ce++List.replicate 1 none⟩,a:={ tmps:=(a.tmps++Array.replicate 1 undef).setIfInBounds E.sl.length (.slice (some ⟨w.heap.size,0,none⟩) zs.length zs.length),defers:=[] },w:=w.alloc (.cells (zs.map fun s=>vS s).toArray e),F:=F',loc:=loc,M:=M }:=R3
 rw [e1,e2] at R4
 exact R4
theorem sem_callsT {P:Program} {f:FuncId} {Ein:Env} {r:Value} {d:D} (hent:∀ args w,(callFunc f args).run P w = .ok (.enter f args) w) (hd:∀ C t,SRel C t d r)
  (h:∀ (w:World) (a:Act) (F:Lf→Nat→Prop) (loc:Nat→Nat × Nat) (M:Nat→Prop),Rel w (lentOf Ein F loc) ⟨P,Ein,a,w,F,loc,M⟩→Calls P f a.tmps w fun e w'=>e = .returned r∧RowKit.Below w.heap.size w w') :
  Sem P f Ein ⟨Ein.sl++[d],Ein.ce++[none]⟩:=by
 intro w a F loc M R
 refine .inl ⟨hent _ _,(h w a F loc M R).mono ?_⟩
 rintro e w' ⟨rfl,hb⟩
 refine ⟨r,rfl,F,loc,fun _ _=>rfl,?_⟩
 have hl:a.tmps.size=Ein.sl.length:=R.tmps
 have R0:=R.drew (w':=w') ⟨hb.os,hb.tape,hb.output,hb.size,hb.block⟩
 have R1:=R0.pad 1
 have R2:=R1.put1 Ein.sl.length d r (by
  show ((Ein.sl++List.replicate 1 D.dead).getD Ein.sl.length .dead).anyOwn=false
  rw [gDg,List.getElem?_append_right (Nat.le_refl _)]
  simp [D.anyOwn,D.comps,D.leaves1,D.isOwn]) (hd _ _)
 have e1:(Ein.sl++List.replicate 1 D.dead).set Ein.sl.length d=Ein.sl++[d]:=by
  rw [List.set_append_right _ _ (Nat.le_refl _)]
  simp
 have e2:(a.tmps++Array.replicate 1 undef).setIfInBounds Ein.sl.length r=a.tmps.push r:=by
  rw [←hl]
  exact set_push a.tmps r
 have R3:Rel w (lentOf Ein F loc) { P:=P,E:=⟨(Ein.sl++List.replicate 1 D.dead).set Ein.sl.length d,Ein.ce++List.replicate 1 none⟩,a:={ tmps:=(a.tmps++Array.replicate 1 undef).setIfInBounds Ein.sl.length r,defers:=[] },w:=w',F:=F,loc:=loc,M:=M }:=R2
 rw [e1,e2] at R3
 exact R3
theorem srel_tup {vs:List Value} (h:∀ v,v∈vs→scal v=true) (C:Ctx) (t:Nat):SRel C t (.tup (vs.map .v)) (.tuple vs.toArray):=by
 refine .tup _ _ (by simp) fun i d hd => ?_
 rw [List.getElem?_map] at hd
 cases hv:vs[i]? with
 | none=>rw [hv] at hd; cases hd
 | some v =>
  rw [hv] at hd
  simp only [Option.map_some,Option.some.injEq] at hd
  subst hd
  have hs:=h v (List.mem_of_getElem? hv)
  have e:vs.toArray.getD i undef=v:=by
   have hi:=(gSm hv)
   obtain ⟨hi,hx⟩:=hi
   simp [Array.getD,hi,hx]
  rw [e]
  exact ⟨rfl,.leaf _ _ _ rfl (by cases v<;>first | rfl | simp [scal] at hs) (.v _ _ hs)⟩
theorem has_index (c:UInt8) (s:List UInt8):decide (0≤Lib.indexByte s c)=s.contains c:=(Lib.contains_iff_indexByte s c).symm
theorem c135 (s:List UInt8) (c:UInt8):Sem Tryz.prog 135 ⟨[.v (vS s),.v (vS [c])],[none,none]⟩ ⟨[.v (vS s),.v (vS [c]),.v (vB (s.contains c))],[none,none,none]⟩:=by
 refine sem_calls (Ein:=⟨[.v (vS s),.v (vS [c])],[none,none]⟩) (r:=vB (s.contains c)) (enter_of Tryz.func135 rfl rfl) rfl rfl rfl ?_
 intro w a F loc M R
 have h0:=slot_of R (i:=0) (d := .v (vS s)) rfl rfl (by simp)
 have h1:=slot_of R (i:=1) (d := .v (vS [c])) rfl rfl (by simp)
 rw [args2 R.tmps]
 generalize a.tmps.getD 0 undef=v0 at h0
 generalize a.tmps.getD 1 undef=v1 at h1
 cases h1
 cases h0
 have h:=lib_strings_Contains_one (ofL s) c w
 rw [show (ofL s).data.toList=s from rfl,has_index] at h
 exact h.mono fun e w' ⟨he,hw⟩=>⟨he,hw▸RowKit.Below.refl _ _⟩
theorem below_drew (w:World) (n:Nat):RowKit.Below w.heap.size w (w.drewN n):=by
 have x:=ext_drewN w n
 exact ⟨x.os,x.tape,x.output,x.size,x.kept⟩
theorem maxLen {w0:World} {L:Nat→Nat→Prop} {E:Env} {a:Act} {F:Lf→Nat→Prop} {loc:Nat→Nat × Nat} {M:Nat→Prop} (R:Rel w0 L ⟨Tryz.prog,E,a,w0,F,loc,M⟩):∃ m,w0.cell? ⟨0,0,none⟩=some (.int .i64 m):=by
 obtain ⟨B,hB,hL,hg⟩:=R.glob
 obtain ⟨v,hv,m,rfl⟩:=(hg w0 (fun _ _=>rfl)).2 _ List.mem_cons_self 0 (by kernel_rfl)
 exact ⟨m,hv⟩
theorem upto_all {c:UInt8} {s:List UInt8} (h:s.contains c=false):upto c s=s∧behind c s=[]:=by
 have hn:∀ b,b∈s→b≠c:=by
  intro b hb e
  subst e
  have:=List.contains_iff_mem.2 hb
  rw [h] at this; cases this
 refine ⟨upto_none c s hn,?_⟩
 unfold behind
 have:s.dropWhile (fun b=>b != c)=[]:=by
  clear h
  induction s with
  | nil=>rfl
  | cons b l ih =>
   have hb:=hn b List.mem_cons_self
   rw [List.dropWhile_cons,if_pos (by simpa using hb)]
   exact ih fun x hx=>hn x (List.mem_cons_of_mem _ hx)
 rw [this]; rfl
theorem c105 (s:List UInt8) (c:UInt8) (hs:s.length<4294967281):Sem Tryz.prog 105 ⟨[.v (vS s),.v (vS [c])],[none,none]⟩ ⟨[.v (vS s),.v (vS [c]),.tup [.v (vS (upto c s)),.v (vS (behind c s)),.v (vB (s.contains c))]],[none,none,none]⟩:=by
 have hu:(upto c s).length≤s.length:=by unfold upto; exact (List.takeWhile_sublist _).length_le
 have hb:(behind c s).length≤s.length:=by
  unfold behind
  have:=(List.dropWhile_sublist (l:=s) fun b=>b != c).length_le
  rw [List.length_drop]; omega
 refine sem_callsT (Ein:=⟨[.v (vS s),.v (vS [c])],[none,none]⟩) (r := .tuple [vS (upto c s),vS (behind c s),vB (s.contains c)].toArray) (enter_of Tryz.func105 rfl rfl) (srel_tup (vs:=[vS (upto c s),vS (behind c s),vB (s.contains c)]) (by
  intro v hv
  simp only [List.mem_cons,List.not_mem_nil,or_false] at hv
  rcases hv with rfl | rfl | rfl
  ·simp only [scal,decide_eq_true_eq]; show (upto c s).length≤_; omega
  ·simp only [scal,decide_eq_true_eq]; show (behind c s).length≤_; omega
  ·rfl)) ?_
 intro w a F loc M R
 have h0:=slot_of R (i:=0) (d := .v (vS s)) rfl rfl (by simp)
 have h1:=slot_of R (i:=1) (d := .v (vS [c])) rfl rfl (by simp)
 obtain ⟨m,hm⟩:=maxLen R
 rw [args2 R.tmps]
 generalize a.tmps.getD 0 undef=v0 at h0
 generalize a.tmps.getD 1 undef=v1 at h1
 cases h1
 cases h0
 have h:=lib_strings_Cut (ofL s) (ofL [c]) m w hs hm
 rw [show (ofL s).data.toList=s from rfl,show (ofL [c]).data.toList=[c] from rfl,cut_one] at h
 refine h.mono ?_
 rintro e w' ⟨rfl,n,rfl⟩
 refine ⟨?_,below_drew w n⟩
 cases hc:s.contains c
 ·obtain ⟨e1,e2⟩:=upto_all hc
  rw [e1,e2]; rfl
 ·rfl
theorem c184 (s p:List UInt8):Sem Tryz.prog 184 ⟨[.v (vS s),.v (vS p)],[none,none]⟩ ⟨[.v (vS s),.v (vS p),.v (vB (p.isPrefixOf s))],[none,none,none]⟩:=by
 refine sem_calls (Ein:=⟨[.v (vS s),.v (vS p)],[none,none]⟩) (r:=vB (p.isPrefixOf s)) (enter_of Tryz.func184 rfl rfl) rfl rfl rfl ?_
 intro w a F loc M R
 have h0:=slot_of R (i:=0) (d := .v (vS s)) rfl rfl (by simp)
 have h1:=slot_of R (i:=1) (d := .v (vS p)) rfl rfl (by simp)
 rw [args2 R.tmps]
 generalize a.tmps.getD 0 undef=v0 at h0
 generalize a.tmps.getD 1 undef=v1 at h1
 cases h1
 cases h0
 exact (lib_strings_HasPrefix (ofL s) (ofL p) w).mono fun e w' ⟨he,hw⟩=>⟨he,hw▸RowKit.Below.refl _ _⟩
def ascii (s:List UInt8):Prop:=∀ (j:Nat) b,s[j]? = some b→b.toNat<128
theorem c136 (s p:List UInt8) (hs:s.length<4294967281) (hp:p.length<4294967281) (hsa:ascii s) (ap:ascii p):Sem Tryz.prog 136 ⟨[.v (vS s),.v (vS p)],[none,none]⟩ ⟨[.v (vS s),.v (vS p),.v (vI (Lib.indexAny s p))],[none,none,none]⟩:=by
 refine sem_calls (Ein:=⟨[.v (vS s),.v (vS p)],[none,none]⟩) (r:=vI (Lib.indexAny s p)) (enter_of Tryz.func136 rfl rfl) rfl rfl rfl ?_
 intro w a F loc M R
 have h0:=slot_of R (i:=0) (d := .v (vS s)) rfl rfl (by simp)
 have h1:=slot_of R (i:=1) (d := .v (vS p)) rfl rfl (by simp)
 rw [args2 R.tmps]
 generalize a.tmps.getD 0 undef=v0 at h0
 generalize a.tmps.getD 1 undef=v1 at h1
 cases h1
 cases h0
 exact lib_strings_IndexAny_laid (ofL s) (ofL p) w hs hp hsa ap
theorem any_index (p:List UInt8):∀ s:List UInt8,Lib.containsAny s p=s.any fun b=>p.contains b
 | []=>by simp [Lib.containsAny,Lib.indexAny]
 | b::l=>by
  have ih:=any_index p l
  unfold Lib.containsAny at ih ⊢
  rw [Lib.indexAny,List.any_cons]
  have hge:=Lib.indexAny_ge p l
  cases hb:p.contains b
  ·rw [if_neg (by simp),Bool.false_or,←ih]
   by_cases h:Lib.indexAny l p=-1
   ·rw [h]; simp
   ·rw [if_neg (fun e=>h (beq_iff_eq.1 e))]
    rw [decide_eq_decide]; omega
  ·rw [if_pos rfl]; simp
theorem c185 (s p:List UInt8) (hs:s.length<4294967281) (hp:p.length<4294967281) (hsa:ascii s) (ap:ascii p):Sem Tryz.prog 185 ⟨[.v (vS s),.v (vS p)],[none,none]⟩ ⟨[.v (vS s),.v (vS p),.v (vB (s.any fun b=>p.contains b))],[none,none,none]⟩:=by
 refine sem_calls (Ein:=⟨[.v (vS s),.v (vS p)],[none,none]⟩) (r:=vB (s.any fun b=>p.contains b)) (enter_of Tryz.func185 rfl rfl) rfl rfl rfl ?_
 intro w a F loc M R
 have h0:=slot_of R (i:=0) (d := .v (vS s)) rfl rfl (by simp)
 have h1:=slot_of R (i:=1) (d := .v (vS p)) rfl rfl (by simp)
 rw [args2 R.tmps]
 generalize a.tmps.getD 0 undef=v0 at h0
 generalize a.tmps.getD 1 undef=v1 at h1
 cases h1
 cases h0
 have h:=lib_strings_ContainsAny_laid (ofL s) (ofL p) w hs hp hsa ap
 rw [show (ofL s).data.toList=s from rfl,show (ofL p).data.toList=p from rfl,any_index] at h
 exact h
theorem split_rows (s:List UInt8) (c:UInt8):((Lib.splitB (ofL [c]) 0 (Lib.countB (ofL s) (ofL [c])) (ofL s)).map Value.string).toArray=((spl c s).map fun x=>vS x).toArray:=by
 have h1:(Lib.splitB (ofL [c]) 0 (Lib.countB (ofL s) (ofL [c])) (ofL s)).map (·.data.toList)=spl c s:=by
  rw [Lib.splitB_data,show Lib.countB (ofL s) (ofL [c])=s.count c from Lib.count_one c s]
  exact spl_split c s
 rw [←h1,List.map_map]
 rfl
theorem c186 (s:List UInt8) (c:UInt8) (hs:s.length<4294967281):Sem Tryz.prog 186 ⟨[.v (vS s),.v (vS [c])],[none,none]⟩ ⟨[.v (vS s),.v (vS [c]),.own 9 (rowsS (spl c s))],[none,none,none]⟩:=by
 intro w a F loc M R
 refine .inl ⟨enter_of Tryz.func186 rfl rfl _ _,?_⟩
 have h0:=slot_of R (i:=0) (d := .v (vS s)) rfl rfl (by simp)
 have h1:=slot_of R (i:=1) (d := .v (vS [c])) rfl rfl (by simp)
 obtain ⟨m,hm⟩:=maxLen R
 have ha:=args2 R.tmps
 have hlen:=spl_len c s
 have hcn:=List.count_le_length (a:=c) (l:=s)
 obtain ⟨F',R'⟩:=R.pushStrs (e:=9) (by kernel_rfl) (spl c s) (by omega) (fun x hx=>by have:=spl_mem c s x hx; omega)
 have h:=lib_strings_Split (ofL s) (ofL [c]) m w hs hm (Nat.le_refl 1)
 rw [split_rows,show Lib.countB (ofL s) (ofL [c])=s.count c from Lib.count_one c s,←hlen] at h
 have ht:a.tmps = #[vS s,vS [c]]:=by
  rw [ha]
  generalize a.tmps.getD 0 undef=v0 at h0
  generalize a.tmps.getD 1 undef=v1 at h1
  cases h1
  cases h0
  rfl
 rw [ht]
 refine h.mono ?_
 rintro e w' ⟨rfl,rfl⟩
 refine ⟨_,rfl,F',loc,fun _ _=>rfl,?_⟩
 rw [←ht]
 exact R'
end Go.Proofs.YtbdfdfhamlmodaaGreatDoor.Fw
namespace Go.Proofs.YtbdfdfhamlmodaaGreatDoor.Fw
open Go
open Go.Proofs.Tryz
set_option maxRecDepth 100000
set_option maxHeartbeats 4000000
attribute [local congr] c_bnd c_slot c_cell c_all c_len c_chk c_asm c_opdR c_wp c_pwp c_pOps c_Done c_nx c_blk c_fin c_coeLeaf c_coeLeaves c_argR c_argsR c_partsR c_ite c_wpF c_OutF c_pHead c_pDraw
theorem vis_ascii {l:List UInt8} (h:(l.all fun b=>visB b.toNat)=true):ascii l:=by
 intro j b hb
 have:=List.all_eq_true.1 h b (List.mem_of_getElem? hb)
 unfold visB at this
 simp at this
 omega
def oD (e:TypeId) (b:Bool) (xs:List (List T)):D:=if b then .nil else .own e xs
theorem rowsS_snoc' {o:List (List UInt8)} {s:List UInt8}:rowsS o++[[T.v (vS s)]]=rowsS (o++[s]):=by simp [rowsS]
theorem rowsS_take {o:List (List UInt8)} {n:Nat}:(rowsS o).take n=rowsS (o.take n):=by simp [rowsS,List.map_take]
theorem oD_t {e:TypeId} {xs:List (List T)}:oD e true xs = .nil:=id rfl
theorem oD_f {e:TypeId} {xs:List (List T)}:oD e false xs = .own e xs:=id rfl
attribute [local go_sem] oD_t oD_f rowsS_length
theorem pct_pos {l:List UInt8} (h:[47].isPrefixOf l=true):1≤(pct l).length:=by
 cases l with
 | nil=>cases h
 | cons a l =>
  rw [show a=47 from (by simpa using h:47=a).symm]
  match l with
  | []=>decide
  | [b]=>simp [pct]
  | b::c::l=>rw [pct,if_neg (by simp)]; simp
section
variable (l:List UInt8)
theorem c139a (h1:[47].isPrefixOf l=false):Q1 139 (.v (vS l)) (.v (vS [])):=by
 refine sb 1 [.tm 2] func139 ?_
 refine call0 (c184 l [47]) ?_
 exact fz
theorem c139b (hl:l.length≤9223372036854775807) (h1:[47].isPrefixOf l=true) (h2:(200:Int)<(l.length:Int)):Q1 139 (.v (vS l)) (.v (vS [])):=by
 refine sb 1 [.tm 2] func139 ?_
 refine call0 (c184 l [47]) ?_
 exact fz
theorem c139c (hl:l.length≤9223372036854775807) (h1:[47].isPrefixOf l=true) (h2:¬ (200:Int)<(l.length:Int)) (h3:(l.all fun b=>visB b.toNat)=false):Q1 139 (.v (vS l)) (.v (vS [])):=by
 refine sb 1 [.tm 2] func139 ?_
 refine call0 (c184 l [47]) ?_
 refine call0 (c133 l 134 visB rfl rfl c134 hl) ?_
 exact fz
theorem c139d (hl:l.length≤9223372036854775807) (h1:[47].isPrefixOf l=true) (h2:¬ (200:Int)<(l.length:Int)) (h3:(l.all fun b=>visB b.toNat)=true) (h4:(l.any fun b=>[35,63].contains b)=true):Q1 139 (.v (vS l)) (.v (vS [])):=by
 refine sb 1 [.tm 2] func139 ?_
 refine call0 (c184 l [47]) ?_
 refine call0 (c133 l 134 visB rfl rfl c134 hl) ?_
 have h5:=c185 l [35,63] (by omega) (by decide) (vis_ascii h3) (fun j b h=>by match j,h with | 0,h=>(injection h with h; subst h; decide) | 1,h=>(injection h with h; subst h; decide) | n+2,h=>cases h)
 rw [h4] at h5
 refine call0 h5 ?_
 exact fz
theorem c139e (hl:l.length≤9223372036854775807) (h1:[47].isPrefixOf l=true) (h2:¬ (200:Int)<(l.length:Int)) (h3:(l.all fun b=>visB b.toNat)=true) (h4:(l.any fun b=>[35,63].contains b)=false):Q1 139 (.v (vS l)) (.v (vS (47::Lib.join (normC (spl 47 ((pct l).drop 1))) [47]))):=by
 refine sb 1 [.tm 2] func139 ?_
 refine call0 (c184 l [47]) ?_
 refine call0 (c133 l 134 visB rfl rfl c134 hl) ?_
 have h5:=c185 l [35,63] (by omega) (by decide) (vis_ascii h3) (fun j b h=>by match j,h with | 0,h=>(injection h with h; subst h; decide) | 1,h=>(injection h with h; subst h; decide) | n+2,h=>cases h)
 rw [h4] at h5
 refine call0 h5 ?_
 refine call0 (c187 l (by omega)) ?_
 have hp:1≤(pct l).length:=pct_pos h1
 refine And.intro hp ?_
 obtain ⟨h6,h7,h8,h9⟩:=cat_le (l:=l) (by omega)
 have h10:=join_le (l:=l) (by omega)
 have h11:=c186 ((pct l).drop 1) 47 (by have:=pct_len l; rw [List.length_drop]; omega)
 have h12:=spl_ne 47 ((pct l).drop 1)
 refine call0 h11 ?_
 clear h11 hp h5
 generalize spl 47 ((pct l).drop 1)=g at h6 h7 h8 h9 h10 h12 ⊢
 with_reducible intro hg
 refine loop_on (fun s:Nat × Bool=>pE 69 ([.dead,.dead,.dead,oD 9 s.2 (rowsS ((g.take s.1).foldl stepC [])),.own 9 (rowsS g)]++List.replicate 24 .dead++[.ali ⟨false,4,0⟩,.v (vI g.length),.v (vI s.1)])) [3,4,29,30,31] (fun s=>s.1≤g.length∧(s.2=true→(g.take s.1).foldl stepC []=[])) (fun s=>g.length-s.1) (0,true) rfl ⟨by simp,fun _=>rfl⟩ ?_
 rintro ⟨i,b⟩ ⟨hi,hb⟩
 simp only at hi hb
 have hlo:=foldC_len (g.take i) []
 rw [List.length_take,List.length_nil] at hlo
 by_cases hc:i<g.length
 ·have hw:=wrapN hc hg
  have h13:=rowsS_getD hc
  have hst:=step_snoc hc
  generalize (g.take i).foldl stepC []=o at hb hst hlo ⊢
  generalize g.getD i []=s at hst h13
  cases e1:s==[46]
  ·cases e2:s==[46,46]
   ·have hs:stepC o s=o++[s]:=by unfold stepC; rw [e1,e2]; rfl
    rw [hs] at hst
    clear hs
    cases b
    ·refine Z ?_
     refine And.intro (by omega) ⟨(i+1,false),?_,⟨hc,fun h=>by cases h⟩,by simp only; omega⟩
     dsimp only
     rw [hst,oD_f,←rowsS_snoc']; rfl
    ·rw [hb rfl] at hst ⊢
     refine Z ?_
     refine ⟨(i+1,false),?_,⟨hc,fun h=>by cases h⟩,by simp only; omega⟩
     dsimp only
     rw [hst]; rfl
   ·have hs:stepC o s=o.take (o.length-1):=by unfold stepC; rw [e1,e2]; rfl
    rw [hs] at hst
    clear hs
    cases b
    ·have hm:(if (0:Int)<IntKind.i64.wrap ((o.length:Int)-1) then IntKind.i64.wrap ((o.length:Int)-1) else 0)=((o.length-1:Nat):Int):=by
      rw [wrapI (by omega)]; split<;>omega
     have hol:o.length≤9223372036854775807:=by omega
     refine Z ?_
     refine And.intro (by omega) ⟨(i+1,false),?_,⟨hc,fun h=>by cases h⟩,by simp only; omega⟩
     dsimp only
     rw [hst,oD_f,←rowsS_take]; rfl
    ·have hm1:IntKind.i64.wrap (-1)=-1:=by decide
     rw [hb rfl] at hst ⊢
     refine Z ?_
     refine ⟨(i+1,true),?_,⟨hc,fun h=>by rw [hst]; rfl⟩,by simp only; omega⟩
     rfl
  ·have hs:stepC o s=o:=by unfold stepC; rw [e1]; rfl
   rw [hs] at hst
   clear hs
   cases b
   ·refine Z ?_
    refine ⟨(i+1,false),?_,⟨hc,fun h=>by cases h⟩,by simp only; omega⟩
    dsimp only
    rw [hst]; rfl
   ·refine Z ?_
    refine ⟨(i+1,true),?_,⟨hc,fun h=>by rw [hst]; exact hb rfl⟩,by simp only; omega⟩
    rfl
 ·have hi':i=g.length:=by omega
  rw [hi',List.take_length] at hb hlo
  rw [hi',List.take_length]
  have hw:IntKind.i64.wrap ((g.length:Int)-1)=((g.length-1:Nat):Int):=by
   have:g.length≠0:=fun h=>h12 (List.length_eq_zero_iff.1 h)
   rw [wrapI (by omega)]; omega
  have hlt:g.length-1<g.length:=by
   have:g.length≠0:=fun h=>h12 (List.length_eq_zero_iff.1 h)
   omega
  have h13:=rowsS_getD hlt
  unfold normC at h6 h7 h10 ⊢
  generalize g.foldl stepC []=o at hb hlo h6 h7 h10 ⊢
  generalize g.getD (g.length-1) []=s at h6 h7 h10 h13 ⊢
  cases e1:s==[46]
  ·cases e2:s==[46,46]
   ·rw [dotsB,e1,e2,if_neg (by simp)] at h10 h7 ⊢
    have h14:=c188 o [47] (by omega) (by omega)
    cases b
    ·refine Z ?_
     refine call0 h14 ?_
     exact ⟨by omega,fz⟩
    ·rw [hb rfl] at h14 h10 ⊢
     refine Z ?_
     refine call0 h14 ?_
     exact ⟨by omega,fz⟩
   ·rw [dotsB,e1,e2,if_pos (by simp)] at h10 h7 ⊢
    have h14:=c188 (o++[[]]) [47] (by omega) (by omega)
    rw [←rowsS_snoc'] at h14
    cases b
    ·refine Z ?_
     refine And.intro (by omega) ?_
     refine call0 h14 ?_
     exact ⟨by omega,fz⟩
    ·rw [hb rfl] at h14 h10 ⊢
     refine Z ?_
     refine call0 h14 ?_
     exact ⟨by have h:(Lib.join [[]] [47]).length≤100000:=h10; omega,fz⟩
  ·rw [dotsB,e1,if_pos (by simp)] at h10 h7 ⊢
   have h14:=c188 (o++[[]]) [47] (by omega) (by omega)
   rw [←rowsS_snoc'] at h14
   cases b
   ·refine Z ?_
    refine And.intro (by omega) ?_
    refine call0 h14 ?_
    exact ⟨by omega,fz⟩
   ·rw [hb rfl] at h14 h10 ⊢
    refine Z ?_
    refine call0 h14 ?_
    exact ⟨by have h:(Lib.join [[]] [47]).length≤100000:=h10; omega,fz⟩
theorem c139 (hl:l.length≤9223372036854775807):Q1 139 (.v (vS l)) (.v (vS (cleanB l))):=by
 cases h1:[47].isPrefixOf l
 ·rw [cleanB,clean0,h1]; exact c139a l h1
 by_cases h2:(200:Int)<l.length
 ·rw [cleanB,clean0,h1,decide_eq_false (by omega)]; exact c139b l hl h1 h2
 have h2':decide (l.length≤200)=true:=decide_eq_true (by omega)
 cases h3:l.all fun b=>visB b.toNat
 ·rw [cleanB,clean0,h1,h2',h3]; exact c139c l hl h1 h2 h3
 cases h4:l.any fun b=>[35,63].contains b
 ·rw [cleanB,clean0,h1,h2',h3,h4]; exact c139e l hl h1 h2 h3 h4
 ·rw [cleanB,clean0,h1,h2',h3,h4]; exact c139d l hl h1 h2 h3 h4
end
theorem c217p (x y:UInt8) (hx:0≤hexI x.toNat) (hy:0≤hexI y.toNat):Q1 217 (.v (vS [x,y])) (.tup [.v (vI (hv x y)),.v (vB true)]):=by
 have h:=c217 [x,y] (by simp)
 have ha:([x,y].all fun b=>decide (0≤hexI b.toNat))=true:=by simp [hx,hy]
 rw [ha,if_pos rfl] at h
 have e:valH [x,y] 0=hv x y:=by unfold hv; simp only [valH]; omega
 rw [e] at h
 exact h
theorem c217n (x y:UInt8) (hn:¬ (0≤hexI x.toNat∧0≤hexI y.toNat)):Q1 217 (.v (vS [x,y])) (.tup [.v (vI 0),.v (vB false)]):=by
 have h:=c217 [x,y] (by simp)
 have ha:([x,y].all fun b=>decide (0≤hexI b.toNat))=false:=by
  cases e:([x,y].all fun b=>decide (0≤hexI b.toNat))
  ·rfl
  ·simp at e; exact absurd e hn
 rw [ha,if_neg (show ¬ (false=true) from Bool.false_ne_true)] at h
 exact h
theorem two_at {l:List UInt8} {i:Nat} (h:i+2<l.length):(l.drop (i+1)).take (i+3-(i+1))=[l.getD (i+1) 0,l.getD (i+2) 0]:=by
 rw [show i+3-(i+1)=2 from by omega,dropAt (i:=i+1) (by omega),dropAt (i:=i+1+1) (by omega)]
 rfl
theorem c176 (l : List UInt8) (hl : l.length ≤ 1048576) : Q1 176 (.v (vS l)) (.v (vS (pct l))) := by
  refine sem_fin (cfg := cfg 1) (ts := [.tm 2]) tbOk func176 rfl rfl rfl rfl (fun t h => by cases h) ?_
  have hL : l.length ≤ 9223372036854775807 := by omega
  have hpl := pct_len l
  simp only [go_sem,Nat.reduceSub,f176,cfg]
  refine loop_on (fun s : Nat × List UInt8 => pE 75 [.v (vS l),.dead,.v (vS []),sd 5 (bytesRows s.2),.v (vI s.1)]) [0,2,3,4] (fun s => s.1 ≤ l.length ∧ s.2 ++ pct (l.drop s.1) = pct l) (fun s => l.length - s.1) (0,[]) rfl ⟨by simp,by simp⟩ ?_
  rintro ⟨i,out⟩ ⟨hi,hsp⟩
  simp only at hi hsp
  have hol : out.length ≤ l.length := by
    have := congrArg List.length hsp
    rw [List.length_append] at this
    omega
  simp only
  generalize hacc : bytesRows out = acc
  cases acc with
  | nil =>
    have hlo : (1 : Nat) * 1 ≤ 140737488355328 := by omega
    have hlo3 : (3 : Nat) * 1 ≤ 140737488355328 := by omega
    have hla : (1 : Nat) ≤ 140737488355328 := by omega
    have hla3 : (3 : Nat) ≤ 140737488355328 := by omega
    simp only [go_sem,sd_nil]
    try (with_reducible intro hlen)
    by_cases hc : i < l.length
    · have hw := wrapN hc hL
      have w2 : IntKind.i64.wrap ((i : Int) + 2) = ((i + 2 : Nat) : Int) := by rw [wrapI (by omega)]; omega
      by_cases h37 : l.getD i 0 = 37
      · have e37 : (((l.getD i 0).toNat : Int) != 37) = false := by rw [h37]; decide
        by_cases hg : i + 2 < l.length
        · have hg1 : i + 1 < l.length := by omega
          have hg2 : ¬ (l.length ≤ i + 2) := by omega
          have hg3 : i + 3 ≤ l.length := by omega
          have hg4 : i + 1 ≤ i + 3 := by omega
          have w4 : IntKind.i64.wrap ((i : Int) + 3) = ((i + 3 : Nat) : Int) := by rw [wrapI (by omega)]; omega
          have w3 : IntKind.i64.wrap (((i + 2 : Nat) : Int) + 1) = ((i + 3 : Nat) : Int) := by rw [wrapI (by omega)]; omega
          have hsl := two_at hg
          by_cases hx : 0 ≤ hexI (l.getD (i + 1) 0).toNat ∧ 0 ≤ hexI (l.getD (i + 2) 0).toNat
          · have hle := hv_le _ _ hx.1 hx.2
            have m3 : IntKind.u8.wrap (hv (l.getD (i + 1) 0) (l.getD (i + 2) 0)) = hv (l.getD (i + 1) 0) (l.getD (i + 2) 0) := w8 hle
            cases hf : freeI (hv (l.getD (i + 1) 0) (l.getD (i + 2) 0))
            · have s1 := (upU_nat (l.getD (i + 1) 0)).symm
              have s2 := (upU_nat (l.getD (i + 2) 0)).symm
              simp only [go_sem,hc,hL,hw,w2,w4,e37,hg2,hg3,hg4,hsl]
              refine cf (c217p _ _ hx.1 hx.2) ?_
              simp only [go_sem,Nat.reduceAdd,Nat.reduceBNe,m3]
              refine cf (c218 _ hle.1 hle.2) ?_
              simp only [go_sem,Nat.reduceAdd,Nat.reduceBNe,hf]
              refine draw_intro 12 [[41,42,43,44,45,46,47,48,49,50,51],[40,42,43,44,45,46,47,48,49,50,51],[40,41,43,44,45,46,47,48,49,50,51],[40,41,44,45,46,47,48,49,50,51],[40,42,45,46,47,48,49,50,51],[40,41,42,43,46,47,48,49,50,51],[40,41,42,43,44,45,47,48,49,50,51],[40,41,42,43,44,45,46,48,49,50,51],[40,41,42,43,44,45,46,49,50,51],[40,41,42,43,44,45,47,50,51],[40,41,42,43,44,46,47,48,51],[40,41,42,43,44,46,47,48,49]] mixedOk rfl ?_
              simp only [go_sem,Nat.reduceLeDiff,Nat.reduceLT,Nat.reduceAdd,Nat.reduceMul,Nat.reduceBEq,hw,hg1]
              refine df (c219 _ (u0 _) (u255 _)) ?_
              simp only [go_sem,Nat.reduceBEq,w2,hg]
              refine df (c219 _ (u0 _) (u255 _)) ?_
              simp only [go_sem,Nat.reduceLT,Nat.reduceAdd,Nat.reduceMul,Nat.reduceBEq,Nat.reduceBNe,Nat.reduceEqDiff,reduceCtorEq,Nat.reduceDiv,Nat.reduceMod,s1,s2,hlo3,w2,w3]
              first
                | (refine ⟨(i + 3,out ++ pctP (l.getD (i + 1) 0) (l.getD (i + 2) 0)),?_,⟨by simp only; omega,?_⟩,by simp only; omega⟩
                   · rw [pctP_own3 _ _ hacc hf]; rfl
                   · rw [← hsp,pct_step3 hg h37 hx.1 hx.2]; simp)
               
            · simp only [go_sem,hc,hL,hw,w2,w4,e37,hg2,hg3,hg4,hsl]
              refine cf (c217p _ _ hx.1 hx.2) ?_
              simp only [go_sem,Nat.reduceAdd,Nat.reduceBNe,m3]
              refine cf (c218 _ hle.1 hle.2) ?_
              simp only [go_sem,Nat.reduceLeDiff,Nat.reduceLT,Nat.reduceAdd,Nat.reduceMul,Nat.reduceBNe,Nat.reduceEqDiff,reduceCtorEq,Nat.reduceDiv,Nat.reduceMod,hf,m3,hlo,w2,w3]
              first
                | (refine ⟨(i + 3,out ++ pctP (l.getD (i + 1) 0) (l.getD (i + 2) 0)),?_,⟨by simp only; omega,?_⟩,by simp only; omega⟩
                   · rw [pctP_own1 _ _ hacc hx.1 hx.2 hf]; rfl
                   · rw [← hsp,pct_step3 hg h37 hx.1 hx.2]; simp)
               
          · simp only [go_sem,hc,hL,hw,w2,w4,e37,hg2,hg3,hg4,hsl]
            refine cf (c217n _ _ hx) ?_
            simp only [go_sem,Nat.reduceLeDiff,Nat.reduceLT,Nat.reduceAdd,Nat.reduceMul,Nat.reduceBNe,Nat.reduceEqDiff,reduceCtorEq,Nat.reduceDiv,Nat.reduceMod,hc,hw,hlo]
            first
              | (refine ⟨(i + 1,out ++ [l.getD i 0]),?_,⟨hc,?_⟩,by simp only; omega⟩
                 · rw [snoc_own _ hacc]; rfl
                 · rw [← hsp,pct_step1 hc (fun h => hx ⟨h.2.2.1,h.2.2.2⟩)]; simp)
             
        · have hg2 : l.length ≤ i + 2 := by omega
          simp only [go_sem,Nat.reduceLeDiff,Nat.reduceLT,Nat.reduceAdd,Nat.reduceMul,Nat.reduceBNe,Nat.reduceEqDiff,reduceCtorEq,Nat.reduceDiv,Nat.reduceMod,hlo,hc,hL,hw,e37,w2,hg2]
          first
            | (refine ⟨(i + 1,out ++ [l.getD i 0]),?_,⟨hc,?_⟩,by simp only; omega⟩
               · rw [snoc_own _ hacc]; rfl
               · rw [← hsp,pct_step1 hc (fun h => hg h.2.1)]; simp)
           
      · have e37 : (((l.getD i 0).toNat : Int) != 37) = true := by
          rw [bne_iff_ne]; intro e; exact h37 (UInt8.toNat_inj.1 (by rw [show (37 : UInt8).toNat = 37 from rfl]; omega))
        simp only [go_sem,Nat.reduceLeDiff,Nat.reduceLT,Nat.reduceAdd,Nat.reduceMul,Nat.reduceBNe,Nat.reduceEqDiff,reduceCtorEq,Nat.reduceDiv,Nat.reduceMod,hlo,hc,hw,e37]
        first
          | (refine ⟨(i + 1,out ++ [l.getD i 0]),?_,⟨hc,?_⟩,by simp only; omega⟩
             · rw [snoc_own _ hacc]; rfl
             · rw [← hsp,pct_step1 hc (fun h => h37 h.1)]; simp)
         
    · have he : i = l.length := by omega
      subst he
      have hsp2 : out = pct l := by rw [← hsp]; simp [pct]
      simp only [go_sem,Nat.reduceBNe,hc]
      first | (refine fq ?_; rw [show pct l = [] by rw [← hsp2,← rowsBytes_bytesRows out,hacc]; rfl]; rfl)
  | cons x xs =>
    have hlo : (xs.length + 1 + 1) * 1 ≤ 140737488355328 := by have h9 := congrArg List.length hacc; rw [bytesRows_length] at h9; simp only [List.length_cons] at h9; omega
    have hlo3 : (xs.length + 1 + 1 + 1 + 1) * 1 ≤ 140737488355328 := by have h9 := congrArg List.length hacc; rw [bytesRows_length] at h9; simp only [List.length_cons] at h9; omega
    have hla : (xs.length + 1 + 1) ≤ 140737488355328 := by have h9 := congrArg List.length hacc; rw [bytesRows_length] at h9; simp only [List.length_cons] at h9; omega
    have hla3 : (xs.length + 1 + 1 + 1 + 1) ≤ 140737488355328 := by have h9 := congrArg List.length hacc; rw [bytesRows_length] at h9; simp only [List.length_cons] at h9; omega
    simp only [go_sem,sd_cons]
    try (with_reducible intro hlen)
    by_cases hc : i < l.length
    · have hw := wrapN hc hL
      have w2 : IntKind.i64.wrap ((i : Int) + 2) = ((i + 2 : Nat) : Int) := by rw [wrapI (by omega)]; omega
      by_cases h37 : l.getD i 0 = 37
      · have e37 : (((l.getD i 0).toNat : Int) != 37) = false := by rw [h37]; decide
        by_cases hg : i + 2 < l.length
        · have hg1 : i + 1 < l.length := by omega
          have hg2 : ¬ (l.length ≤ i + 2) := by omega
          have hg3 : i + 3 ≤ l.length := by omega
          have hg4 : i + 1 ≤ i + 3 := by omega
          have w4 : IntKind.i64.wrap ((i : Int) + 3) = ((i + 3 : Nat) : Int) := by rw [wrapI (by omega)]; omega
          have w3 : IntKind.i64.wrap (((i + 2 : Nat) : Int) + 1) = ((i + 3 : Nat) : Int) := by rw [wrapI (by omega)]; omega
          have hsl := two_at hg
          by_cases hx : 0 ≤ hexI (l.getD (i + 1) 0).toNat ∧ 0 ≤ hexI (l.getD (i + 2) 0).toNat
          · have hle := hv_le _ _ hx.1 hx.2
            have m3 : IntKind.u8.wrap (hv (l.getD (i + 1) 0) (l.getD (i + 2) 0)) = hv (l.getD (i + 1) 0) (l.getD (i + 2) 0) := w8 hle
            cases hf : freeI (hv (l.getD (i + 1) 0) (l.getD (i + 2) 0))
            · have s1 := (upU_nat (l.getD (i + 1) 0)).symm
              have s2 := (upU_nat (l.getD (i + 2) 0)).symm
              simp only [go_sem,hc,hL,hw,w2,w4,e37,hg2,hg3,hg4,hsl]
              refine cf (c217p _ _ hx.1 hx.2) ?_
              simp only [go_sem,Nat.reduceAdd,Nat.reduceBNe,m3]
              refine cf (c218 _ hle.1 hle.2) ?_
              simp only [go_sem,Nat.reduceAdd,Nat.reduceBNe,hf]
              refine draw_intro 12 [[41,42,43,44,45,46,47,48,49,50,51],[40,42,43,44,45,46,47,48,49,50,51],[40,41,43,44,45,46,47,48,49,50,51],[40,41,44,45,46,47,48,49,50,51],[40,42,45,46,47,48,49,50,51],[40,41,42,43,46,47,48,49,50,51],[40,41,42,43,44,45,47,48,49,50,51],[40,41,42,43,44,45,46,48,49,50,51],[40,41,42,43,44,45,46,49,50,51],[40,41,42,43,44,45,47,50,51],[40,41,42,43,44,46,47,48,51],[40,41,42,43,44,46,47,48,49]] mixedOk rfl ?_
              simp only [go_sem,Nat.reduceLeDiff,Nat.reduceLT,Nat.reduceAdd,Nat.reduceMul,Nat.reduceBEq,hw,hg1]
              refine df (c219 _ (u0 _) (u255 _)) ?_
              simp only [go_sem,Nat.reduceBEq,w2,hg]
              refine df (c219 _ (u0 _) (u255 _)) ?_
              simp only [go_sem,Nat.reduceLT,Nat.reduceAdd,Nat.reduceMul,Nat.reduceBEq,Nat.reduceBNe,Nat.reduceEqDiff,reduceCtorEq,Nat.reduceDiv,Nat.reduceMod,s1,s2,hlo3,w2,w3]
              first
                | (refine ⟨(i + 3,out ++ pctP (l.getD (i + 1) 0) (l.getD (i + 2) 0)),?_,⟨by simp only; omega,?_⟩,by simp only; omega⟩
                   · rw [pctP_own3 _ _ hacc hf]; rfl
                   · rw [← hsp,pct_step3 hg h37 hx.1 hx.2]; simp)
               
            · simp only [go_sem,hc,hL,hw,w2,w4,e37,hg2,hg3,hg4,hsl]
              refine cf (c217p _ _ hx.1 hx.2) ?_
              simp only [go_sem,Nat.reduceAdd,Nat.reduceBNe,m3]
              refine cf (c218 _ hle.1 hle.2) ?_
              simp only [go_sem,Nat.reduceLeDiff,Nat.reduceLT,Nat.reduceAdd,Nat.reduceMul,Nat.reduceBNe,Nat.reduceEqDiff,reduceCtorEq,Nat.reduceDiv,Nat.reduceMod,hf,m3,hlo,w2,w3]
              first
                | (refine ⟨(i + 3,out ++ pctP (l.getD (i + 1) 0) (l.getD (i + 2) 0)),?_,⟨by simp only; omega,?_⟩,by simp only; omega⟩
                   · rw [pctP_own1 _ _ hacc hx.1 hx.2 hf]; rfl
                   · rw [← hsp,pct_step3 hg h37 hx.1 hx.2]; simp)
               
          · simp only [go_sem,hc,hL,hw,w2,w4,e37,hg2,hg3,hg4,hsl]
            refine cf (c217n _ _ hx) ?_
            simp only [go_sem,Nat.reduceLeDiff,Nat.reduceLT,Nat.reduceAdd,Nat.reduceMul,Nat.reduceBNe,Nat.reduceEqDiff,reduceCtorEq,Nat.reduceDiv,Nat.reduceMod,hc,hw,hlo]
            first
              | (refine ⟨(i + 1,out ++ [l.getD i 0]),?_,⟨hc,?_⟩,by simp only; omega⟩
                 · rw [snoc_own _ hacc]; rfl
                 · rw [← hsp,pct_step1 hc (fun h => hx ⟨h.2.2.1,h.2.2.2⟩)]; simp)
             
        · have hg2 : l.length ≤ i + 2 := by omega
          simp only [go_sem,Nat.reduceLeDiff,Nat.reduceLT,Nat.reduceAdd,Nat.reduceMul,Nat.reduceBNe,Nat.reduceEqDiff,reduceCtorEq,Nat.reduceDiv,Nat.reduceMod,hlo,hc,hL,hw,e37,w2,hg2]
          first
            | (refine ⟨(i + 1,out ++ [l.getD i 0]),?_,⟨hc,?_⟩,by simp only; omega⟩
               · rw [snoc_own _ hacc]; rfl
               · rw [← hsp,pct_step1 hc (fun h => hg h.2.1)]; simp)
           
      · have e37 : (((l.getD i 0).toNat : Int) != 37) = true := by
          rw [bne_iff_ne]; intro e; exact h37 (UInt8.toNat_inj.1 (by rw [show (37 : UInt8).toNat = 37 from rfl]; omega))
        simp only [go_sem,Nat.reduceLeDiff,Nat.reduceLT,Nat.reduceAdd,Nat.reduceMul,Nat.reduceBNe,Nat.reduceEqDiff,reduceCtorEq,Nat.reduceDiv,Nat.reduceMod,hlo,hc,hw,e37]
        first
          | (refine ⟨(i + 1,out ++ [l.getD i 0]),?_,⟨hc,?_⟩,by simp only; omega⟩
             · rw [snoc_own _ hacc]; rfl
             · rw [← hsp,pct_step1 hc (fun h => h37 h.1)]; simp)
         
    · have he : i = l.length := by omega
      subst he
      have hsp2 : out = pct l := by rw [← hsp]; simp [pct]
      simp only [go_sem,Nat.reduceBNe,Nat.reduceDiv,Nat.reduceMod,hc,← hacc,rowsBytes_bytesRows]
      first | (refine fq ?_; rw [← hsp2]; rfl)
def hostQ (n:Int):Bool:=isLowerB n || isDigitB n || (n==45)
def goodP (p:List UInt8):Bool := !(p==[])&&p.all fun b=>hostQ b.toNat
def hostB (l:List UInt8):Bool:=inB 1 60 l.length&&(spl 46 l).all goodP
theorem host_all (l:List UInt8):(spl 46 l).all goodP=((l.all fun b=>hostI b.toNat) && !((spl 46 l).contains [])):=by
 have h1:(spl 46 l).all goodP=((spl 46 l).all (fun p=>p.all fun b=>hostQ b.toNat)&&(spl 46 l).all (fun p => !(p==[]))):=by
  generalize spl 46 l=ps
  induction ps with
  | nil=>rfl
  | cons p ps ih =>
   simp only [List.all_cons,ih,goodP]
   cases (p==[])<;>cases (p.all fun b=>hostQ b.toNat)<;>simp
 have h2:∀ ps:List (List UInt8),ps.all (fun p => !(p==[])) = !(ps.contains []):=by
  intro ps
  induction ps with
  | nil=>rfl
  | cons p ps ih =>
   simp only [List.all_cons,ih,List.contains_cons]
   rw [show (([]:List UInt8)==p)=(p==[]) from Bool.beq_comm ..]
   cases (p==[])<;>simp
 rw [h1,h2,spl_all]
 congr 1
 congr 1
 funext b
 unfold hostI hostQ
 have h3:(b==46)=((b.toNat:Int)==46):=by
  rw [Bool.eq_iff_iff,beq_iff_eq,beq_iff_eq,←UInt8.toNat_inj]
  show b.toNat=46↔_
  omega
 rw [h3]
 cases isLowerB b.toNat<;>cases isDigitB b.toNat<;>cases ((b.toNat:Int)==45)<;>cases ((b.toNat:Int)==46)<;>rfl
theorem sd_spl (c:UInt8) (l:List UInt8):sd 9 (rowsS (spl c l)) = .own 9 (rowsS (spl c l)):=by
 cases h:spl c l with
 | nil=>exact absurd h (spl_ne c l)
 | cons x xs=>rfl
theorem c175o (l:List UInt8) (c:UInt8) (hl:l.length≤1048576):Q2 175 (.v (vS l)) (.v (vC c.toNat)) (.own 9 (rowsS (spl c l))):=by
 have h:=c175 l c hl
 rw [sd_spl] at h
 exact h
theorem c189a (l:List UInt8) (hl:l.length≤1048576) (h:inB 1 60 l.length=false):Q1 189 (.v (vS l)) (.v (vB (false))):=by
 refine sf 1 [.tm 2] func189 ?_
 have hL:l.length≤9223372036854775807:=by omega
 have h7:=c116 l.length 1 60
 rw [h] at h7
 simp only [go_sem,Nat.reduceAdd,Nat.reduceSub,f189,cfg,hL]
 refine cf h7 ?_
 simp only [go_sem,Nat.reduceAdd,reduceCtorEq]
 exact fz
theorem c189b (l:List UInt8) (hl:l.length≤1048576) (h:inB 1 60 l.length=true) (h2:(l.all fun b=>hostI b.toNat)=false):Q1 189 (.v (vS l)) (.v (vB (false))):=by
 refine sf 1 [.tm 2] func189 ?_
 have hL:l.length≤9223372036854775807:=by omega
 have h7:=c116 l.length 1 60
 rw [h] at h7
 have h8:=c133 l 228 hostI rfl rfl c228 hL
 rw [h2] at h8
 simp only [go_sem,Nat.reduceAdd,Nat.reduceSub,f189,cfg,hL]
 refine cf h7 ?_
 simp only [go_sem,Nat.reduceAdd]
 refine cf h8 ?_
 simp only [go_sem,Nat.reduceAdd]
 exact fz
theorem c189c (l:List UInt8) (hl:l.length≤1048576) (h:inB 1 60 l.length=true) (h2:(l.all fun b=>hostI b.toNat)=true):Q1 189 (.v (vS l)) (.v (vB (!((spl 46 l).contains [])))):=by
 refine sf 1 [.tm 2] func189 ?_
 have hL:l.length≤9223372036854775807:=by omega
 have h7:=c116 l.length 1 60
 rw [h] at h7
 have h8:=c133 l 228 hostI rfl rfl c228 hL
 rw [h2] at h8
 have hlen:=spl_len 46 l
 have hcn:=List.count_le_length (a:=46) (l:=l)
 have h9:=c186 l 46 (by omega)
 have h10:=c114 (spl 46 l) [] (by omega)
 simp only [go_sem,Nat.reduceAdd,Nat.reduceSub,f189,cfg,hL]
 refine cf h7 ?_
 simp only [go_sem,Nat.reduceAdd]
 refine cf h8 ?_
 simp only [go_sem,Nat.reduceLeDiff,Nat.reduceAdd]
 refine cf h9 ?_
 simp only [go_sem,Nat.reduceAdd,Nat.reduceDiv,Nat.reduceMod]
 refine cf h10 ?_
 simp only [go_sem,Nat.reduceAdd,Nat.reduceBNe]
 exact fz
theorem c189 (l:List UInt8) (hl:l.length≤1048576):Q1 189 (.v (vS l)) (.v (vB (hostB l))):=by
 unfold hostB
 rw [host_all]
 cases h:inB 1 60 l.length
 ·exact c189a l hl h
 ·cases h2:l.all fun b=>hostI b.toNat
  ·exact c189b l hl h h2
  ·exact c189c l hl h h2
theorem c177a (l:List UInt8) (hl:l.length≤1048576) (h:inB 1 60 l.length=false):Q1 177 (.v (vS l)) (.v (vB (false))):=by
 refine sf 1 [.tm 2] func177 ?_
 have hL:l.length≤9223372036854775807:=by omega
 have hb:¬ (1≤l.length∧l.length≤60):=by
  intro hh; unfold inB at h; simp at h; omega
 simp only [go_sem,Nat.reduceSub,f177,cfg]
 repeat' ((first | with_reducible intro _ | split)<;>(try simp only [go_sem,reduceCtorEq, *]))
 all_goals first
  | exact fz
  | (exfalso; omega)
  | (exfalso; simp only [beq_eq_false_iff_ne,ne_eq] at *; omega)
  
theorem c177b (l:List UInt8) (hl:l.length≤1048576) (h:inB 1 60 l.length=true):Q1 177 (.v (vS l)) (.v (vB ((spl 46 l).all goodP))):=by
 refine sf 1 [.tm 2] func177 ?_
 have hL:l.length≤9223372036854775807:=by omega
 have hb:1≤l.length∧l.length≤60:=by
  unfold inB at h; simp at h; omega
 have z1:¬ ((l.length:Int)=0):=by omega
 have z1b:((l.length:Int)==0)=false:=by rw [beq_eq_false_iff_ne]; exact z1
 have z2:¬ ((60:Int)<(l.length:Int)):=by omega
 have z3:¬ (60<l.length):=by omega
 have hsl:=spl_len 46 l
 have hcn:=List.count_le_length (a:=46) (l:=l)
 have hsm:=spl_mem 46 l
 have h86:=c175o l 46 hl
 simp only [go_sem,Nat.reduceSub,f177,cfg,z1b,z2,hL]
 refine cf h86 ?_
 generalize spl 46 l=ps at hsl hsm ⊢
 have hps:ps.length≤9223372036854775807:=by omega
 simp only [go_sem,Nat.reduceAdd,Nat.reduceBNe,Nat.reduceEqDiff,reduceCtorEq,Nat.reduceDiv,Nat.reduceMod]
 refine loop_on (fun i:Nat=>pE 59 [.v (vS l),.dead,.v (vB false),.own 9 (rowsS ps),.v (vI i)]) [0,2,3,4] (fun i=>i≤ps.length∧(ps.take i).all goodP=true) (fun i=>ps.length-i) 0 rfl ⟨by omega,by simp⟩ ?_
 intro i ⟨hi,hall⟩
 simp only [go_sem,Nat.reduceDiv,Nat.reduceMod,rowsS_length]
 try (with_reducible intro hlen)
 by_cases hc:i<ps.length
 ·have hw:=wrapN hc hps
  have h1:=rowsS_getD hc
  have hpl:(ps.getD i []).length≤1048576:=by
   have:ps.getD i []∈ps:=by rw [gDg,gEg hc]; exact List.getElem_mem hc
   have:=hsm _ this; omega
  have hpL:(ps.getD i []).length≤9223372036854775807:=by omega
  have hall1:=all_take_succ (p:=goodP) (d:=[]) hc
  rw [hall] at hall1
  have hfa:=fun hh=>all_false_at (p:=goodP) (d:=[]) hc hh
  generalize ps.getD i []=p at hpl hpL h1 hall1 hfa
  cases hp:p==[]
  ·simp only [go_sem,Nat.reduceDiv,Nat.reduceMod,rowsS_length,hc,h1,hp]
   refine loop_on (fun k:Nat=>pE 59 [.v (vS l),.dead,.v (vB false),.own 9 (rowsS ps),.v (vI i),.v (vI k)]) [0,2,3,4,5] (fun k=>k≤p.length∧(p.take k).all (fun b=>hostQ b.toNat)=true) (fun k=>p.length-k) 0 rfl ⟨by omega,by simp⟩ ?_
   intro k ⟨hk,hkall⟩
   simp only [go_sem,Nat.reduceDiv,Nat.reduceMod,rowsS_length,hc,h1,hpL]
   by_cases hkc:k<p.length
   ·have hkw:=wrapN hkc hpL
    cases hq:hostQ (p.getD k 0).toNat
    ·have hbad:goodP p=false:=by
      unfold goodP; rw [all_false_at hkc hq]; simp
     rw [hfa hbad]
     unfold hostQ isLowerB at hq
     simp only [Bool.or_eq_false_iff,Bool.and_eq_false_iff,decide_eq_false_iff_not] at hq
     obtain ⟨⟨q1,q2⟩,q3⟩:=hq
     have q4:(((p.getD k 0).toNat:Int) != 45)=true:=by rw [bne,q3]; rfl
     simp only [go_sem,Nat.reduceBNe,Nat.reduceDiv,Nat.reduceMod,rowsS_length,hc,h1,hkc]
     by_cases q5:97≤((p.getD k 0).toNat:Int)
     ·have q6:¬ (((p.getD k 0).toNat:Int)≤122):=by rcases q1 with q1 | q1<;>omega
      simp only [go_sem,q5,q6]
      refine cf (c174 _) ?_
      simp only [go_sem,Nat.reduceAdd,q2,q4]
      exact fz
     ·simp only [go_sem,q5]
      refine cf (c174 _) ?_
      simp only [go_sem,Nat.reduceAdd,q2,q4]
      exact fz
    ·have hnx:(p.take (k+1)).all (fun b=>hostQ b.toNat)=true:=by rw [all_take_succ (d:=0) hkc,hkall,hq]; rfl
     unfold hostQ isLowerB at hq
     simp only [Bool.or_eq_true,Bool.and_eq_true,decide_eq_true_eq,beq_iff_eq] at hq
     simp only [go_sem,Nat.reduceBNe,Nat.reduceDiv,Nat.reduceMod,rowsS_length,hc,h1,hkc]
     by_cases q5:97≤((p.getD k 0).toNat:Int)
     ·by_cases q6:((p.getD k 0).toNat:Int)≤122
      ·simp only [go_sem,Nat.reduceBNe,q5,q6,hkw]
       exact ⟨k+1,rfl,⟨hkc,hnx⟩,by omega⟩
      ·simp only [go_sem,q5,q6]
       refine cf (c174 _) ?_
       cases q7:isDigitB ((p.getD k 0).toNat:Int)
       ·have q8:(((p.getD k 0).toNat:Int) != 45)=false:=by
         rw [q7] at hq; rw [bne_eq_false_iff_eq]; rcases hq with (hq | hq) | hq
         ·omega
         ·cases hq
         ·exact hq
        simp only [go_sem,Nat.reduceAdd,Nat.reduceBNe,q8,hkw]
        exact ⟨k+1,rfl,⟨hkc,hnx⟩,by omega⟩
       ·simp only [go_sem,Nat.reduceAdd,Nat.reduceBNe,hkw]
        exact ⟨k+1,rfl,⟨hkc,hnx⟩,by omega⟩
     ·simp only [go_sem,q5]
      refine cf (c174 _) ?_
      cases q7:isDigitB ((p.getD k 0).toNat:Int)
      ·have q8:(((p.getD k 0).toNat:Int) != 45)=false:=by
        rw [q7] at hq; rw [bne_eq_false_iff_eq]; rcases hq with (hq | hq) | hq
        ·omega
        ·cases hq
        ·exact hq
       simp only [go_sem,Nat.reduceAdd,Nat.reduceBNe,q8,hkw]
       exact ⟨k+1,rfl,⟨hkc,hnx⟩,by omega⟩
      ·simp only [go_sem,Nat.reduceAdd,Nat.reduceBNe,hkw]
       exact ⟨k+1,rfl,⟨hkc,hnx⟩,by omega⟩
   ·simp only [go_sem,Nat.reduceBNe,hkc,hw]
    rw [List.take_of_length_le (by omega)] at hkall
    have hg:goodP p=true:=by unfold goodP; rw [hp,hkall]; rfl
    exact ⟨i+1,rfl,⟨hc,by rw [hall1,hg]; rfl⟩,by omega⟩
  ·have hbad:goodP p=false:=by unfold goodP; rw [hp]; rfl
   rw [hfa hbad]
   simp only [go_sem,Nat.reduceDiv,Nat.reduceMod,rowsS_length,hc,h1,hp]
   exact fz
 ·simp only [go_sem,hc]
  rw [List.take_of_length_le (by omega)] at hall
  rw [hall]
  exact fz
theorem c177 (l:List UInt8) (hl:l.length≤1048576):Q1 177 (.v (vS l)) (.v (vB (hostB l))):=by
 unfold hostB
 cases h:inB 1 60 l.length
 ·exact c177a l hl h
 ·exact c177b l hl h
attribute [local go_sem] oD_t oD_f rowsS_length
def pre (g:List (List UInt8)) (i:Nat):List (List UInt8):=if i=g.length then normC g else (g.take i).foldl stepC []
theorem pre_0 {g:List (List UInt8)}:pre g 0=[]:=by
 unfold pre
 split
 ·rename_i h
  rw [List.length_eq_zero_iff.1 h.symm]; rfl
 ·rfl
theorem pre_s {g:List (List UInt8)} {i:Nat} (h:i<g.length):pre g (i+1)=if (decide (i+1=g.length)&&dotsB (g.getD i []))=true then stepC (pre g i) (g.getD i [])++[[]] else stepC (pre g i) (g.getD i []):=by
 have e:pre g i=(g.take i).foldl stepC []:=if_neg (by omega)
 rw [e,←step_snoc h]
 unfold pre
 by_cases hl:i+1=g.length
 ·rw [if_pos hl,decide_eq_true hl,Bool.true_and,hl,List.take_length]
  unfold normC
  rw [show g.length-1=i by omega]
 ·rw [if_neg hl,decide_eq_false hl]; rfl
theorem pre_len {g:List (List UInt8)} {i:Nat} (h:i<g.length):(pre g i).length≤i:=by
 have e:pre g i=(g.take i).foldl stepC []:=if_neg (by omega)
 have:=foldC_len (g.take i) []
 rw [List.length_take,List.length_nil] at this
 rw [e]; omega
theorem stepC_a {o:List (List UInt8)} {s:List UInt8} (h:(s==[46])=true):stepC o s=o:=by unfold stepC; rw [if_pos h]
theorem stepC_b {o:List (List UInt8)} {s:List UInt8} (h:(s==[46])=false) (h2:(s==[46,46])=true):stepC o s=o.take (o.length-1):=by unfold stepC; rw [h,h2]; rfl
theorem stepC_c {o:List (List UInt8)} {s:List UInt8} (h:(s==[46])=false) (h2:(s==[46,46])=false):stepC o s=o++[s]:=by unfold stepC; rw [h,h2]; rfl
section
variable (l:List UInt8)
theorem c130a (hl:l.length≤9223372036854775807) (h1:((l.length:Int)==0)=true):Q1 130 (.v (vS l)) (.v (vS [])):=by
 refine sb 1 [.tm 2] func130 ?_
 exact fz
theorem c130b (hl:l.length≤9223372036854775807) (h1:((l.length:Int)==0)=false) (h2:(200:Int)<(l.length:Int)):Q1 130 (.v (vS l)) (.v (vS [])):=by
 refine sb 1 [.tm 2] func130 ?_
 exact fz
theorem c130c (hl:l.length≤9223372036854775807) (h1:((l.length:Int)==0)=false) (h2:¬ (200:Int)<(l.length:Int)) (h3:(((l.getD 0 0).toNat:Int) != 47)=true):Q1 130 (.v (vS l)) (.v (vS [])):=by
 have h4:0<l.length:=by rw [beq_eq_false_iff_ne] at h1; omega
 have h4i:(0:Int)<(l.length:Int):=by omega
 refine sb 1 [.tm 2] func130 ?_
 exact fz
theorem c130d (hl:l.length≤9223372036854775807) (h1:((l.length:Int)==0)=false) (h2:¬ (200:Int)<(l.length:Int)) (h3:(((l.getD 0 0).toNat:Int) != 47)=false) (h5:(l.all fun b=>visB b.toNat)=false):Q1 130 (.v (vS l)) (.v (vS [])):=by
 have h4:0<l.length:=by rw [beq_eq_false_iff_ne] at h1; omega
 have h4i:(0:Int)<(l.length:Int):=by omega
 have h6:=c99 l hl
 rw [h5] at h6
 refine sb 1 [.tm 2] func130 ?_
 refine call0 h6 ?_
 exact fz
theorem c130e (hl : l.length ≤ 9223372036854775807) (h1 : ((l.length : Int) == 0) = false) (h2 : ¬ (200 : Int) < (l.length : Int)) (h3 : (((l.getD 0 0).toNat : Int) != 47) = false) (h5 : (l.all fun b => visB b.toNat) = true) (R : List UInt8)
   (hR : ((l.any fun b => [35,63].contains b) = true → R = [])) (hR2 : ((l.any fun b => [35,63].contains b) = false → R = 47 :: Lib.join (normC (spl 47 ((pct l).drop 1))) [47])) : Q1 130 (.v (vS l)) (.v (vS R)) := by
  have h4 : 0 < l.length := by rw [beq_eq_false_iff_ne] at h1; omega
  have h4i : (0 : Int) < (l.length : Int) := by omega
  have h6 := c99 l hl
  rw [h5,decide_eq_true h4] at h6
  refine sb 1 [.tm 2] func130 ?_
  refine call0 h6 ?_
  clear h6
  refine loopZ (fun i : Nat => pE 114 [.v (vS l),.dead,.dead,.v (vI i)]) [0,3] (fun i => i ≤ l.length ∧ ((l.take i).any fun b => [35,63].contains b) = false) (fun i => l.length - i) 0 rfl ⟨by simp,by simp⟩ ?_
  intro i ⟨hi,hany⟩
  with_reducible intro _
  by_cases hc : i < l.length
  · have hw := wrapN hc hl
    have hs := any_take_succ (p := fun b => [35,63].contains b) (d := 0) hc
    rw [hany] at hs
    have hx : [35,63].contains (l.getD i 0) = ((((l.getD i 0).toNat : Int) == 35) || (((l.getD i 0).toNat : Int) == 63)) := by
      rw [Bool.eq_iff_iff]
      simp only [List.contains_cons,List.contains_nil,Bool.or_false,Bool.or_eq_true,beq_iff_eq,← UInt8.toNat_inj]
      show (l.getD i 0).toNat = 35 ∨ (l.getD i 0).toNat = 63 ↔ _
      omega
    cases e : [35,63].contains (l.getD i 0)
    · rw [e] at hx hs
      replace hx := hx.symm
      rw [Bool.or_eq_false_iff] at hx
      obtain ⟨x1,x2⟩ := hx
      refine Z ?_
      exact ⟨i + 1,rfl,⟨hc,by simpa using hs⟩,by omega⟩
    · rw [hR (any_true_at (d := 0) hc e)]
      rw [e] at hx
      replace hx := hx.symm
      cases x1 : ((l.getD i 0).toNat : Int) == 35
      · rw [x1,Bool.false_or] at hx
        refine Z ?_
        exact fz
      · refine Z ?_
        exact fz
  · have hany : (l.any fun b => [35,63].contains b) = false := by rw [List.take_of_length_le (by omega)] at hany; exact hany
    rw [hR2 hany]
    have hp : 1 ≤ (pct l).length := pct_pos (by
      cases l with
      | nil => simp at h4
      | cons a l =>
        rw [bne_eq_false_iff_eq] at h3
        have : a = 47 := by rw [← UInt8.toNat_inj]; show a.toNat = 47; have : ((a.toNat : Int)) = 47 := h3; omega
        rw [this]; simp)
    obtain ⟨h6,h7,h8,h9⟩ := cat_le (l := l) (by omega)
    have h11 := c175o ((pct l).drop 1) 47 (by have := pct_len l; rw [List.length_drop]; omega)
    have h12 := spl_ne 47 ((pct l).drop 1)
    refine Z ?_
    refine call0 (c176 l (by omega)) ?_
    refine call0 h11 ?_
    clear h11 hR hR2 hany hp
    generalize spl 47 ((pct l).drop 1) = g at h6 h7 h8 h9 h12 ⊢
    refine loopZ (fun s : Nat × Bool => pE 114 [.dead,.dead,.dead,.dead,.own 9 (rowsS g),oD 9 s.2 (rowsS (pre g s.1)),.v (vI s.1)]) [4,5,6] (fun s => s.1 ≤ g.length ∧ (s.2 = true → pre g s.1 = [])) (fun s => g.length - s.1) (0,true) rfl ⟨by simp,fun _ => pre_0⟩ ?_
    rintro ⟨i,b⟩ ⟨hi,hb⟩
    with_reducible intro hg
    dsimp only at hi hb
    by_cases hc2 : i < g.length
    · have hw := wrapN hc2 hg
      have h13 := rowsS_getD hc2
      have hps := pre_s hc2
      have hpl := pre_len hc2
      generalize pre g i = o at hb hps hpl ⊢
      generalize g.getD i [] = s at hps h13
      have hol : o.length ≤ 9223372036854775807 := by omega
      have hle : (((i + 1 : Nat) : Int) == (g.length : Int)) = decide (i + 1 = g.length) := by rw [Bool.eq_iff_iff,beq_iff_eq,decide_eq_true_eq]; omega
      generalize decide (i + 1 = g.length) = la at hle hps
      unfold dotsB at hps
      cases e1 : s == [46]
      · cases e2 : s == [46,46]
        · rw [e1,e2,stepC_c e1 e2] at hps
          replace hps : pre g (i + 1) = o ++ [s] := by cases la <;> exact hps
          cases b
          · refine Z ?_
            refine And.intro (by omega) ⟨(i + 1,false),?_,⟨hc2,fun h => by cases h⟩,by simp only; omega⟩
            dsimp only
            rw [hps,oD_f,← rowsS_snoc']; rfl
          · rw [hb rfl] at hps ⊢
            refine Z ?_
            refine ⟨(i + 1,false),?_,⟨hc2,fun h => by cases h⟩,by simp only; omega⟩
            dsimp only
            rw [hps]; rfl
        · rw [e1,e2,stepC_b e1 e2] at hps
          by_cases hz : o = []
          · subst hz
            cases la
            · replace hps : pre g (i + 1) = [] := hps
              cases b
              · refine Z ?_
                refine ⟨(i + 1,false),?_,⟨hc2,fun h => by cases h⟩,by simp only; omega⟩
                dsimp only
                rw [hps]; rfl
              · refine Z ?_
                refine ⟨(i + 1,true),?_,⟨hc2,fun _ => hps⟩,by simp only; omega⟩
                dsimp only
                rw [hps]; rfl
            · replace hps : pre g (i + 1) = [[]] := hps
              cases b
              · refine Z ?_
                refine ⟨(i + 1,false),?_,⟨hc2,fun h => by cases h⟩,by simp only; omega⟩
                dsimp only
                rw [hps]; rfl
              · refine Z ?_
                refine ⟨(i + 1,false),?_,⟨hc2,fun h => by cases h⟩,by simp only; omega⟩
                dsimp only
                rw [hps]; rfl
          · have hz1 : 0 < o.length := List.length_pos_iff.2 hz
            have hz2 : (0 : Int) < (o.length : Int) := by omega
            have hw2 : IntKind.i64.wrap ((o.length : Int) - 1) = ((o.length - 1 : Nat) : Int) := by rw [wrapI (by omega)]; omega
            have hz3 : o.length - 1 ≤ o.length := by omega
            cases b
            · cases la
              · replace hps : pre g (i + 1) = o.take (o.length - 1) := hps
                refine Z ?_
                refine ⟨(i + 1,false),?_,⟨hc2,fun h => by cases h⟩,by simp only; omega⟩
                dsimp only
                rw [hps,oD_f,← rowsS_take]; rfl
              · replace hps : pre g (i + 1) = o.take (o.length - 1) ++ [[]] := hps
                refine Z ?_
                refine And.intro (by simp only [List.length_take,rowsS_length]; omega) ⟨(i + 1,false),?_,⟨hc2,fun h => by cases h⟩,by simp only; omega⟩
                dsimp only
                rw [hps,oD_f,← rowsS_snoc',← rowsS_take]; rfl
            · exact absurd (hb rfl) hz
      · have e2 : (s == [46,46]) = false := by rw [beq_iff_eq] at e1; rw [e1]; rfl
        rw [e1,stepC_a e1] at hps
        cases la
        · replace hps : pre g (i + 1) = o := hps
          cases b
          · refine Z ?_
            refine ⟨(i + 1,false),?_,⟨hc2,fun h => by cases h⟩,by simp only; omega⟩
            dsimp only
            rw [hps]; rfl
          · rw [hb rfl] at hps ⊢
            refine Z ?_
            refine ⟨(i + 1,true),?_,⟨hc2,fun _ => hps⟩,by simp only; omega⟩
            dsimp only
            rw [hps]; rfl
        · replace hps : pre g (i + 1) = o ++ [[]] := hps
          cases b
          · refine Z ?_
            refine And.intro (by omega) ⟨(i + 1,false),?_,⟨hc2,fun h => by cases h⟩,by simp only; omega⟩
            dsimp only
            rw [hps,oD_f,← rowsS_snoc']; rfl
          · rw [hb rfl] at hps ⊢
            refine Z ?_
            refine ⟨(i + 1,false),?_,⟨hc2,fun h => by cases h⟩,by simp only; omega⟩
            dsimp only
            rw [hps]; rfl
    · have hpe : pre g i = normC g := by unfold pre; rw [if_pos (by omega)]
      rw [hpe] at hb ⊢
      refine Z ?_
      generalize normC g = o at hb h6 h7 ⊢
      have hol : o.length ≤ 9223372036854775807 := by omega
      have hof : ∀ k,(catC (o.take k)).length ≤ (catC o).length := by
        intro k
        have h := congrArg (fun x => (catC x).length) (List.take_append_drop k o)
        simp only [catC,List.flatMap_append,List.length_append] at h ⊢
        omega
      cases b
      · refine loopZ (fun k : Nat => pE 114 [.dead,.dead,.dead,.dead,.dead,.own 9 (rowsS o),.dead,.dead,.v (vS (catC (o.take k))),.v (vI k)]) [5,8,9] (fun k => k ≤ o.length) (fun k => o.length - k) 0 rfl (by simp) ?_
        intro k hk
        with_reducible intro _
        by_cases hc3 : k < o.length
        · have hw := wrapN hc3 hol
          have h13 := rowsS_getD hc3
          have hcs : catC (o.take (k + 1)) = catC (o.take k) ++ [47] ++ o.getD k [] := by
            rw [List.take_succ_eq_append_getElem hc3,catC,catC,List.flatMap_append,List.append_assoc]
            simp [gDg,hc3]
          have hc4 := hof (k + 1)
          rw [hcs] at hc4
          simp only [List.length_append,List.length_cons,List.length_nil] at hc4
          generalize o.getD k [] = s at h13 hcs hc4
          refine Z ?_
          refine ⟨by omega,by simp only [List.length_append,List.length_cons,List.length_nil]; omega,k + 1,?_,hc3,by omega⟩
          rw [hcs]; rfl
        · rw [List.take_of_length_le (by omega)]
          by_cases ho : o = []
          · subst ho
            refine Z ?_
            exact fz
          · have hne : (catC o == []) = false ∧ 47 :: Lib.join o [47] = catC o := by
              cases o with
              | nil => exact absurd rfl ho
              | cons x o => exact ⟨rfl,cat_join x o⟩
            rw [hne.2]
            replace hne := hne.1
            refine Z ?_
            exact fz
      · refine loopZ (fun k : Nat => pE 114 [.dead,.dead,.dead,.dead,.dead,.nil,.dead,.dead,.v (vS (catC (o.take k))),.v (vI k)]) [5,8,9] (fun k => k ≤ o.length) (fun k => o.length - k) 0 rfl (by simp) ?_
        intro k hk
        rw [hb rfl] at hk ⊢
        have hk0 : k = 0 := by simpa using hk
        subst hk0
        refine Z ?_
        exact fz
theorem c130 (hl:l.length≤9223372036854775807):Q1 130 (.v (vS l)) (.v (vS (cleanB l))):=by
 have hx:∀ h:l≠[],[47].isPrefixOf l = !(((l.getD 0 0).toNat:Int) != 47):=by
  intro h
  cases l with
  | nil=>exact absurd rfl h
  | cons a l =>
   have e:(47==a) = !((a.toNat:Int) != 47):=by
    rw [Bool.eq_iff_iff,bne,Bool.not_not,beq_iff_eq,beq_iff_eq,←UInt8.toNat_inj]
    show 47=a.toNat↔_
    omega
   rw [show [47].isPrefixOf (a::l)=((47==a)&&([]:List UInt8).isPrefixOf l) from rfl,show ([]:List UInt8).isPrefixOf l=true by cases l<;>rfl,Bool.and_true]
   exact e
 cases h1:(l.length:Int)==0
 ·have hne:l≠[]:=fun h=>by rw [h] at h1; cases h1
  replace hx:=hx hne
  by_cases h2:(200:Int)<l.length
  ·rw [cleanB,clean0,decide_eq_false (by omega:¬ l.length≤200),Bool.and_false,Bool.false_and,Bool.false_and]; exact c130b l hl h1 h2
  have h2':decide (l.length≤200)=true:=decide_eq_true (by omega)
  cases h3:((l.getD 0 0).toNat:Int) != 47
  ·rw [h3] at hx
   cases h4:l.all fun b=>visB b.toNat
   ·rw [cleanB,clean0,hx,h2',h4]; exact c130d l hl h1 h2 h3 h4
   ·refine c130e l hl h1 h2 h3 h4 _ (fun h => ?_) (fun h => ?_)
    ·rw [cleanB,clean0,hx,h2',h4,h]; rfl
    ·rw [cleanB,clean0,hx,h2',h4,h]; rfl
  ·rw [h3] at hx
   rw [cleanB,clean0,hx]; exact c130c l hl h1 h2 h3
 ·have hz:l=[]:=by rw [beq_iff_eq] at h1; exact List.length_eq_zero_iff.1 (by omega)
  have:=c130a l hl h1
  rw [hz] at this ⊢
  exact this
end
def valD:List UInt8→Nat→Nat
 | [],n=>n
 | b::l,n=>valD l (10*n+(b.toNat-48))
theorem valD_snoc (l:List UInt8) (b:UInt8):∀ n,valD (l++[b]) n=10*valD l n+(b.toNat-48):=by
 induction l with
 | nil=>intro n; rfl
 | cons a l ih=>intro n; exact ih _
theorem dig_nat {k:Nat} (h:k<10):(UInt8.ofNat (48+k)).toNat=48+k:=by
 rw [UInt8.toNat_ofNat',Nat.mod_eq_of_lt (by omega)]
theorem digs_all (u:Nat):∀ b,b∈Lib.decDigits u→48≤b.toNat∧b.toNat≤57:=by
 induction u using Nat.strongRecOn with
 | _ u ih =>
  intro b hb
  by_cases h:u<10
  ·rw [decDigits_small h,List.mem_singleton] at hb
   rw [hb,dig_nat h]; omega
  ·rw [decDigits_big h] at hb
   rcases List.mem_append.1 hb with hb | hb
   ·exact ih _ (by omega) b hb
   ·rw [List.mem_singleton] at hb
    rw [hb,dig_nat (by omega)]; omega
theorem valD_dec (u:Nat):valD (Lib.decDigits u) 0=u:=by
 induction u using Nat.strongRecOn with
 | _ u ih =>
  by_cases h:u<10
  ·rw [decDigits_small h]
   show 10*0+((UInt8.ofNat (48+u)).toNat-48)=u
   rw [dig_nat h]; omega
  ·rw [decDigits_big h,valD_snoc,ih _ (by omega),dig_nat (by omega)]; omega
theorem valD_le (l:List UInt8):∀ n,n≤valD l n:=by
 induction l with
 | nil=>intro n; exact Nat.le_refl _
 | cons b l ih=>intro n; have:=ih (10*n+(b.toNat-48)); show n≤valD l (10*n+(b.toNat-48)); omega
theorem parse_dig:∀ (l:List UInt8) (acc:Nat),(∀ b,b∈l→48≤b.toNat∧b.toNat≤57)→valD l acc<1000000000000000000→Lib.parseUint10 acc l = .ok (valD l acc)
 | [],acc,_,_=>rfl
 | b::l,acc,h,hv=>by
  have hb:=h b List.mem_cons_self
  have hv:valD l (10*acc+(b.toNat-48))<1000000000000000000:=hv
  have hle:=valD_le l (10*acc+(b.toNat-48))
  rw [Lib.parseUint10,if_pos hb,if_neg (by omega),if_neg (by omega),Nat.mul_comm acc 10,parse_dig l _ (fun x hx=>h x (List.mem_cons_of_mem _ hx)) hv]
  rfl
theorem dec_ne (u:Nat):Lib.decDigits u≠[]:=by
 by_cases h:u<10
 ·rw [decDigits_small h]; simp
 ·rw [decDigits_big h]; simp
theorem atoi_dec (u:Nat) (h:u<1000000000000000000):Lib.atoiAll (Lib.decDigits u) = .ok (u:Int):=by
 have hd:=digs_all u
 have hp:=parse_dig (Lib.decDigits u) 0 hd (by rw [valD_dec]; exact h)
 have hv:=valD_dec u
 generalize hs:Lib.decDigits u=s at hd hp hv
 cases s with
 | nil=>exact absurd hs (dec_ne u)
 | cons c r =>
  have hc:=hd c List.mem_cons_self
  rw [Lib.atoiAll_plain c r (by omega) (by omega),Lib.parseMag,if_neg (by simp),hp,hv]
  show (if _ then _ else _)=_
  rw [if_neg (by omega)]
theorem dec_len15 {u:Nat} (h:u≤999999999999999):(Lib.decDigits u).length≤15:=by
 have h0:∀ k u:Nat,u<10 ^ (k+1)→(Lib.decDigits u).length≤k+1:=by
  intro k
  induction k with
  | zero=>intro u hu; rw [decDigits_small (by simpa using hu)]; simp
  | succ k ih =>
   intro u hu
   by_cases h:u<10
   ·rw [decDigits_small h]; simp
   ·rw [decDigits_big h]
    have:=ih (u / 10) (by rw [Nat.pow_succ] at hu; omega)
    simp; omega
 exact h0 14 u (by omega)
def readD (s:List UInt8):Option Nat:=if valD s 0≤999999999999999∧Lib.decDigits (valD s 0)=s then some (valD s 0) else none
theorem readD_iff {s:List UInt8} {n:Nat}:readD s=some n↔n≤999999999999999∧Lib.decDigits n=s:=by
 unfold readD
 constructor
 ·intro h
  split at h
  ·injection h with h; subst h; assumption
  ·cases h
 ·rintro ⟨h1,rfl⟩
  rw [valD_dec,if_pos ⟨h1,rfl⟩]
theorem readD_none {s:List UInt8} (h:∀ n,n≤999999999999999→Lib.decDigits n≠s):readD s=none:=by
 cases e:readD s with
 | none=>rfl
 | some n=>obtain ⟨h1,h2⟩:=readD_iff.1 e; exact absurd h2 (h n h1)
def decD (s:List UInt8):D := .tup [.v (vI ((readD s).getD 0:Nat)),.v (vB (readD s).isSome)]
theorem c183 (n:Nat) (hn:n≤999999999999999):Q1 183 (.v (vI n)) (.v (vS (Lib.decDigits n))):=by
 refine sf 1 [.tm 2] func183 ?_
 have h7:=c116 n 0 999999999999999
 have hin:inB 0 999999999999999 n=true:=by unfold inB; simp; omega
 rw [hin] at h7
 have h9:=c93 n (by omega) (by omega) (by rw [itoa_nat]; have:=decDigits_len n; omega)
 rw [itoa_nat] at h9
 simp only [go_sem,Nat.reduceAdd,Nat.reduceSub,f183,cfg]
 refine cf h7 ?_
 simp only [go_sem,Nat.reduceAdd]
 refine cf h9 ?_
 simp only [go_sem,Nat.reduceAdd,Nat.reduceBNe]
 exact fz
theorem c129a (l:List UInt8) (hl:l.length≤1048576) (hlen:1≤l.length∧l.length≤15):Q1 129 (.v (vS l)) (decD l):=by
 refine sf 1 [.tm 2,.tm 3] func129 ?_
 have hL:l.length≤9223372036854775807:=by omega
 have z1:¬ ((l.length:Int)=0):=by omega
 have z1b:((l.length:Int)==0)=false:=by rw [beq_eq_false_iff_ne]; exact z1
 have z2:¬ ((15:Int)<(l.length:Int)):=by omega
 have z3:¬ (15<l.length):=by omega
 simp only [go_sem,Nat.reduceSub,f129,cfg,z1b,z2,hL]
 refine loop_on (fun i:Nat=>pE 38 [.v (vS l),.dead,.v (vI 0),.v (vB false),.v (vI (valD (l.take i) 0:Nat)),.v (vI i)]) [0,2,3,4,5] (fun i=>i≤l.length∧(∀ b,b∈l.take i→48≤b.toNat∧b.toNat≤57)∧valD (l.take i) 0<10 ^ i) (fun i=>l.length-i) 0 rfl ⟨by omega,by simp,by simp [valD]⟩ ?_
 intro i ⟨hi,hall,hv1⟩
 have hv2:valD (l.take i) 0≤999999999999999:=by
  have:(10:Nat) ^ i≤10 ^ 15:=Nat.pow_le_pow_right (by decide) (by omega)
  omega
 generalize hvv:valD (l.take i) 0=v at hv1 hv2 ⊢
 simp only [go_sem]
 try (with_reducible intro hlen)
 by_cases hc:i<l.length
 ·have hw:=wrapN hc hL
  have hsn:valD (l.take (i+1)) 0=10*v+((l.getD i 0).toNat-48):=by rw [take_snoc hc,valD_snoc,hvv]
  cases hd:isDigitB (l.getD i 0).toNat
  ·have hd':=(digit_no _).1 hd
   have hno:readD l=none:=readD_none (by
    intro n _ e
    have hm:l.getD i 0∈l:=by
     rw [gDg,gEg hc]; exact List.getElem_mem hc
    rw [←e] at hm
    have:=digs_all n _ hm
    rw [e] at this
    omega)
   simp only [go_sem,hc]
   refine cf (c174 _) ?_
   simp only [go_sem,Nat.reduceAdd,hd]
   first | (refine fq ?_; unfold decD; rw [hno]; rfl)
  ·have hd':=(digit_iff _).1 hd
   have m1:IntKind.i64.wrap ((v:Int)*10)=(v:Int)*10:=wrapI (by omega)
   have m2:IntKind.u8.wrap (((l.getD i 0).toNat:Int)-48)=((l.getD i 0).toNat:Int)-48:=w8 (by have:=u255 (l.getD i 0); omega)
   have m3:IntKind.i64.wrap (((l.getD i 0).toNat:Int)-48)=((l.getD i 0).toNat:Int)-48:=wrapI (by have:=u255 (l.getD i 0); omega)
   have m4:IntKind.i64.wrap ((v:Int)*10+(((l.getD i 0).toNat:Int)-48))=((valD (l.take (i+1)) 0:Nat):Int):=by
    rw [wrapI (by have:=u255 (l.getD i 0); omega),hsn]; omega
   simp only [go_sem,hc]
   refine cf (c174 _) ?_
   simp only [go_sem,Nat.reduceAdd,Nat.reduceBNe,hd,hc,m1,m2,m3,m4,hw]
   refine ⟨i+1,by first | rfl,⟨hc,?_,?_⟩,by omega⟩
   ·rw [take_snoc hc]
    intro b hb
    rcases List.mem_append.1 hb with hb | hb
    ·exact hall b hb
    ·rw [List.mem_singleton] at hb; rw [hb]; omega
   ·rw [hsn,Nat.pow_succ]; omega
 ·have he:i=l.length:=by omega
  subst he
  rw [List.take_length] at hvv hall
  have h85:=c102 v hv2
  cases hq:(Lib.decDigits v==l)
  ·have hno:readD l=none:=by
    unfold readD
    rw [hvv,if_neg]
    rintro ⟨_,e⟩
    rw [e] at hq
    simp at hq
   simp only [go_sem,hc]
   refine cf h85 ?_
   simp only [go_sem,Nat.reduceAdd,hq]
   first | (refine fq ?_; unfold decD; rw [hno]; rfl)
  ·have hyes:readD l=some v:=readD_iff.2 ⟨hv2,beq_iff_eq.1 hq⟩
   simp only [go_sem,hc]
   refine cf h85 ?_
   simp only [go_sem,Nat.reduceAdd,Nat.reduceBNe,hq]
   first | (refine fq ?_; unfold decD; rw [hyes]; rfl)
theorem c129b (l:List UInt8) (hl:l.length≤1048576) (hlen:¬ (1≤l.length∧l.length≤15)):Q1 129 (.v (vS l)) (decD l):=by
 refine sf 1 [.tm 2,.tm 3] func129 ?_
 have hL:l.length≤9223372036854775807:=by omega
 have hno:readD l=none:=readD_none (by
  intro n hn e
  have h1:=dec_len15 hn
  have h2:=dec_ne n
  rw [e] at h1 h2
  exact hlen ⟨by cases l with | nil=>exact absurd rfl h2 | cons=>simp,h1⟩)
 unfold decD
 rw [hno]
 simp only [go_sem,Nat.reduceSub,f129,cfg]
 repeat' ((first | with_reducible intro _ | split)<;>(try simp only [go_sem,reduceCtorEq, *]))
 all_goals first
  | exact fz
  | (exfalso; omega)
  | (exfalso; simp only [beq_eq_false_iff_ne,ne_eq] at *; omega)
  
theorem c129 (l:List UInt8) (hl:l.length≤1048576):Q1 129 (.v (vS l)) (decD l):=by
 by_cases h:1≤l.length∧l.length≤15
 ·exact c129a l hl h
 ·exact c129b l hl h
def fs26_0:List (List Nat):=[[4,5,6,7,8,9,10,11,2],[5,6,7,8,9,10,11,2],[3,6,7,8,9,10,11,2],[3,4,5,7,8,9,10,11,2],[3,4,5,8,9,10,11,2],[3,4,6,9,10,11,2],[3,4,5,6,7,8,10,11,2],[3,4,5,6,8,11,2],[3,4,5,6,7,9,2],[]]
attribute [go_sem] fs26_0
def fs48_0:List (List Nat):=[[4,5,6,7,8,9,10,11,12,13,14,2],[5,6,7,8,9,10,11,12,13,14,2],[3,6,7,8,9,10,11,12,13,14,2],[3,4,5,7,8,9,10,11,12,13,14,2],[3,4,5,8,9,10,11,12,13,14,2],[3,4,6,9,10,11,12,13,14,2],[3,4,5,6,7,8,10,11,12,13,14,2],[3,4,5,6,7,8,11,12,13,14,2],[3,4,5,6,7,9,12,13,14,2],[3,4,5,6,7,8,9,10,11,13,14,2],[3,4,5,6,8,9,10,11,14,2],[3,4,5,6,7,8,9,10,12,2],[]]
attribute [go_sem] fs48_0
def fs61_0:List (List Nat):=[[4,5,6,7,8,9,10,11,12,13,14,15,16,17,18,19,20,21,22,23,24,25],[5,6,7,8,9,10,11,12,13,14,15,16,17,18,19,20,21,22,23,24,25],[3,6,7,8,9,10,11,12,13,14,15,16,17,18,19,20,21,22,23,24,25],[3,4,7,8,9,10,11,12,13,14,15,16,17,18,19,20,21,22,23,24,25],[3,4,8,9,10,11,12,13,14,15,16,17,18,19,20,21,22,23,24,25],[3,4,5,6,9,10,11,12,13,14,15,16,17,18,19,20,21,22,23,24,25],[3,4,5,6,10,11,12,13,14,15,16,17,18,19,20,21,22,23,24,25],[3,4,5,6,8,11,12,13,14,15,16,17,18,19,20,21,22,23,24,25],[3,4,5,6,8,9,12,13,14,15,16,17,18,19,20,21,22,23,24,25],[3,4,5,6,8,9,10,13,14,15,16,17,18,19,20,21,22,23,24,25],[3,4,5,6,7,8,9,11,14,15,16,17,18,19,20,21,22,23,24,25],[3,4,5,6,7,8,9,10,11,12,15,16,17,18,19,20,21,22,23,24,25],[3,4,5,6,7,8,9,10,11,12,16,17,18,19,20,21,22,23,24,25],[3,4,5,6,7,8,9,10,11,12,14,17,18,19,20,21,22,23,24,25],[3,4,5,6,7,8,9,10,11,12,14,15,18,19,20,21,22,23,24,25],[3,4,5,6,7,8,9,10,11,12,14,15,16,19,20,21,22,23,24,25],[3,4,5,6,7,8,9,10,11,12,13,14,15,16,17,20,21,22,23,24,25],[3,4,5,6,7,8,9,10,11,12,13,14,15,16,17,21,22,23,24,25],[3,4,5,6,7,8,9,10,11,12,13,14,15,16,17,19,22,23,24,25],[3,4,5,6,7,8,9,10,11,12,13,14,15,16,17,19,20,21,23,24,25],[3,4,5,6,7,8,9,10,11,12,13,14,15,16,17,19,20,21,24,25],[3,4,5,6,7,8,9,10,11,12,13,14,15,16,17,19,20,22,25],[3,4,5,6,7,8,9,10,11,12,13,14,15,16,17,19,20,21,22,23]]
attribute [go_sem] fs61_0
def fs37_0:List (List Nat):=[[4,5,6,7,8,9,10,11,12,13,14,15,16,17,18,19,20,21,22,23,24,25,26,27,28,29,30,31,32,33,34,35,36,37,38,39],[5,6,7,8,9,10,11,12,13,14,15,16,17,18,19,20,21,22,23,24,25,26,27,28,29,30,31,32,33,34,35,36,37,38,39],[3,6,7,8,9,10,11,12,13,14,15,16,17,18,19,20,21,22,23,24,25,26,27,28,29,30,31,32,33,34,35,36,37,38,39],[3,4,7,8,9,10,11,12,13,14,15,16,17,18,19,20,21,22,23,24,25,26,27,28,29,30,31,32,33,34,35,36,37,38,39],[3,4,8,9,10,11,12,13,14,15,16,17,18,19,20,21,22,23,24,25,26,27,28,29,30,31,32,33,34,35,36,37,38,39],[3,4,5,6,9,10,11,12,13,14,15,16,17,18,19,20,21,22,23,24,25,26,27,28,29,30,31,32,33,34,35,36,37,38,39],[3,4,5,6,10,11,12,13,14,15,16,17,18,19,20,21,22,23,24,25,26,27,28,29,30,31,32,33,34,35,36,37,38,39],[3,4,5,6,8,11,12,13,14,15,16,17,18,19,20,21,22,23,24,25,26,27,28,29,30,31,32,33,34,35,36,37,38,39],[3,4,5,6,8,9,12,13,14,15,16,17,18,19,20,21,22,23,24,25,26,27,28,29,30,31,32,33,34,35,36,37,38,39],[3,4,5,6,8,9,10,13,14,15,16,17,18,19,20,21,22,23,24,25,26,27,28,29,30,31,32,33,34,35,36,37,38,39],[3,4,5,6,7,8,9,10,11,14,15,16,17,18,19,20,21,22,23,24,25,26,27,28,29,30,31,32,33,34,35,36,37,38,39],[3,4,5,6,7,8,9,10,11,15,16,17,18,19,20,21,22,23,24,25,26,27,28,29,30,31,32,33,34,35,36,37,38,39],[3,4,5,6,7,8,9,10,11,13,16,17,18,19,20,21,22,23,24,25,26,27,28,29,30,31,32,33,34,35,36,37,38,39],[3,4,5,6,7,8,9,10,11,13,14,17,18,19,20,21,22,23,24,25,26,27,28,29,30,31,32,33,34,35,36,37,38,39],[3,4,5,6,7,8,9,10,11,13,14,15,18,19,20,21,22,23,24,25,26,27,28,29,30,31,32,33,34,35,36,37,38,39],[3,4,5,6,7,8,9,10,11,12,13,14,15,16,19,20,21,22,23,24,25,26,27,28,29,30,31,32,33,34,35,36,37,38,39],[3,4,5,6,7,8,9,10,11,12,13,14,15,16,20,21,22,23,24,25,26,27,28,29,30,31,32,33,34,35,36,37,38,39],[3,4,5,6,7,8,9,10,11,12,13,14,15,16,18,21,22,23,24,25,26,27,28,29,30,31,32,33,34,35,36,37,38,39],[3,4,5,6,7,8,9,10,11,12,13,14,15,16,18,19,22,23,24,25,26,27,28,29,30,31,32,33,34,35,36,37,38,39],[3,4,5,6,7,8,9,10,11,12,13,14,15,16,18,19,20,23,24,25,26,27,28,29,30,31,32,33,34,35,36,37,38,39],[3,4,5,6,7,8,9,10,11,12,13,14,15,16,17,18,19,20,21,24,25,26,27,28,29,30,31,32,33,34,35,36,37,38,39],[3,4,5,6,7,8,9,10,11,12,13,14,15,16,17,18,19,20,21,25,26,27,28,29,30,31,32,33,34,35,36,37,38,39],[3,4,5,6,7,8,9,10,11,12,13,14,15,16,17,18,19,20,21,23,26,27,28,29,30,31,32,33,34,35,36,37,38,39],[3,4,5,6,7,8,9,10,11,12,13,14,15,16,17,18,19,20,21,23,24,25,27,28,29,30,31,32,33,34,35,36,37,38,39],[3,4,5,6,7,8,9,10,11,12,13,14,15,16,17,18,19,20,21,23,24,25,28,29,30,31,32,33,34,35,36,37,38,39],[3,4,5,6,7,8,9,10,11,12,13,14,15,16,17,18,19,20,21,23,24,26,29,30,31,32,33,34,35,36,37,38,39],[3,4,5,6,7,8,9,10,11,12,13,14,15,16,17,18,19,20,21,23,24,25,26,27,30,31,32,33,34,35,36,37,38,39],[3,4,5,6,7,8,9,10,11,12,13,14,15,16,17,18,19,20,21,22,23,24,26,27,28,31,32,33,34,35,36,37,38,39],[3,4,5,6,7,8,9,10,11,12,13,14,15,16,17,18,19,20,21,22,23,24,25,26,27,28,29,32,33,34,35,36,37,38,39],[3,4,5,6,7,8,9,10,11,12,13,14,15,16,17,18,19,20,21,22,23,24,25,26,27,28,29,33,34,35,36,37,38,39],[3,4,5,6,7,8,9,10,11,12,13,14,15,16,17,18,19,20,21,22,23,24,25,26,27,28,29,31,34,35,36,37,38,39],[3,4,5,6,7,8,9,10,11,12,13,14,15,16,17,18,19,20,21,22,23,24,25,26,27,28,29,31,32,35,36,37,38,39],[3,4,5,6,7,8,9,10,11,12,13,14,15,16,17,18,19,20,21,22,23,24,25,26,27,28,29,30,31,32,33,36,37,38,39],[3,4,5,6,7,8,9,10,11,12,13,14,15,16,17,18,19,20,21,22,23,24,25,26,27,28,29,30,31,32,33,37,38,39],[3,4,5,6,7,8,9,10,11,12,13,14,15,16,17,18,19,20,21,22,23,24,25,26,27,28,29,30,31,32,33,35,38,39],[3,4,5,6,7,8,9,10,11,12,13,14,15,16,17,18,19,20,21,22,23,24,25,26,27,28,29,31,32,33,35,36,39],[3,4,5,6,7,8,9,10,11,12,13,14,15,16,17,18,19,20,21,22,23,24,25,26,27,28,29,31,32,33,34,35,36,37]]
attribute [go_sem] fs37_0
def fs37_1:List (List Nat):=[[41,42,43,44,45,46,47,48,49,50,51,52,53,54,55,56,57,58,59,60,61,62],[42,43,44,45,46,47,48,49,50,51,52,53,54,55,56,57,58,59,60,61,62],[40,43,44,45,46,47,48,49,50,51,52,53,54,55,56,57,58,59,60,61,62],[40,41,44,45,46,47,48,49,50,51,52,53,54,55,56,57,58,59,60,61,62],[40,41,42,45,46,47,48,49,50,51,52,53,54,55,56,57,58,59,60,61,62],[40,41,42,43,46,47,48,49,50,51,52,53,54,55,56,57,58,59,60,61,62],[40,41,42,43,47,48,49,50,51,52,53,54,55,56,57,58,59,60,61,62],[40,41,42,43,45,48,49,50,51,52,53,54,55,56,57,58,59,60,61,62],[40,41,42,43,45,46,49,50,51,52,53,54,55,56,57,58,59,60,61,62],[40,41,42,43,44,45,46,47,50,51,52,53,54,55,56,57,58,59,60,61,62],[40,41,42,43,44,45,46,47,51,52,53,54,55,56,57,58,59,60,61,62],[40,41,42,43,44,45,46,47,49,52,53,54,55,56,57,58,59,60,61,62],[40,41,42,43,44,45,46,47,49,50,53,54,55,56,57,58,59,60,61,62],[40,41,42,43,45,46,47,49,50,51,54,55,56,57,58,59,60,61,62],[40,41,42,43,45,46,47,48,49,50,51,52,55,56,57,58,59,60,61,62],[40,41,42,43,44,45,46,47,48,49,50,52,53,56,57,58,59,60,61,62],[40,41,42,43,44,45,46,47,48,49,50,51,52,53,54,57,58,59,60,61,62],[40,41,42,43,44,45,46,47,48,49,50,51,52,53,54,58,59,60,61,62],[40,41,42,43,44,45,46,47,48,49,50,51,52,53,54,56,59,60,61,62],[40,41,42,43,44,45,46,47,48,49,50,51,52,53,54,56,57,58,60,61,62],[40,41,42,43,44,45,46,47,48,49,50,51,52,53,54,56,57,58,61,62],[40,41,42,43,44,45,46,47,48,49,50,51,52,53,54,56,57,59,62],[40,41,42,43,44,45,46,47,48,49,50,51,52,53,54,56,57,58,59,60]]
attribute [go_sem] fs37_1
def portB (p:Nat):List UInt8:=if ((p:Int)==80)=true then [] else 58::Lib.decDigits p
def queryB (q:List UInt8) (b:Bool):List UInt8:=if b then 63::q else []
def httpB:List UInt8:=[104,116,116,112,58,47,47]
def urlT (ho:List UInt8) (p:Nat) (pa q:List UInt8) (b:Bool):List UInt8:=httpB++ho++portB p++(pa++queryB q b)
abbrev urlD (ho:List UInt8) (p:Nat) (pa q:List UInt8) (b:Bool):D := .agg [.v (vS ho),.v (vI p),.v (vS pa),.v (vS q),.v (vB b)]
theorem port_len (p:Nat) (h:p≤999999999999999):(portB p).length≤16:=by
 have:=dec_len15 h
 unfold portB
 split<;>simp<;>omega
theorem query_len (q:List UInt8) (b:Bool):(queryB q b).length≤q.length+1:=by unfold queryB; split<;>simp
section
variable (ho:List UInt8) (p:Nat) (pa q:List UInt8) (b:Bool)
theorem c172 (hp:p≤999999999999999):Q1 172 (urlD ho p pa q b) (.v (vS (portB p))):=by
 unfold portB
 have h1:=dec_len15 hp
 have h2:=c93 p (by omega) (by omega) (by rw [itoa_nat]; omega)
 rw [itoa_nat] at h2
 cases h:(p:Int)==80
 ·refine sb 1 [.tm 2] func172 ?_
  refine call0 h2 ?_
  exact sid fz
 ·refine sb 1 [.tm 2] func172 ?_
  exact fz
theorem c215 (hp:p≤999999999999999):Q1 215 (urlD ho p pa q b) (.v (vS (portB p))):=by
 unfold portB
 have h1:=dec_len15 hp
 cases h:(p:Int)==80
 ·refine sb 1 [.tm 2] func215 ?_
  refine call0 (c102 p hp) ?_
  exact sid fz
 ·refine sb 1 [.tm 2] func215 ?_
  exact fz
theorem c173 (h1:pa.length≤1048576) (h2:q.length≤1048576):Q1 173 (urlD ho p pa q b) (.v (vS (pa++queryB q b))):=by
 cases b
 ·rw [show pa++queryB q false=pa from List.append_nil _]
  refine sb 1 [.tm 2] func173 ?_
  exact fz
 ·rw [show pa++queryB q true=pa++[63]++q by simp [queryB]]
  refine sb 1 [.tm 2] func173 ?_
  exact sid (sid fz)
theorem c216 (h2:q.length≤1048576):Q1 216 (urlD ho p pa q b) (.v (vS (queryB q b))):=by
 cases b
 ·refine sb 1 [.tm 2] func216 ?_
  exact fz
 ·refine sb 1 [.tm 2] func216 ?_
  exact sid fz
theorem c126 (h0:ho.length≤1048576) (hp:p≤999999999999999) (h1:pa.length≤1048576) (h2:q.length≤1048576):Q1 126 (urlD ho p pa q b) (.v (vS (urlT ho p pa q b))):=by
 have h3:=port_len p hp
 have h4:=query_len q b
 have h5:=c172 ho p pa q b hp
 have h6:=c173 ho p pa q b h1 h2
 have h7:(7+ho.length)≤9223372036854775807:=by omega
 refine sb 1 [.tm 2] func126 ?_
 refine draw_intro 10 fs26_0 mixedOk rfl ?_
 refine Z ?_
 refine drawn0 h5 ?_
 refine sid ?_
 refine drawn0 h6 ?_
 exact sid fz
theorem urlT_len (hp:p≤999999999999999):(urlT ho p pa q b).length≤24+ho.length+pa.length+q.length:=by
 have h3:=port_len p hp
 have h4:=query_len q b
 simp only [urlT,httpB,List.length_append,List.length_cons,List.length_nil]
 omega
theorem c170 (h0:ho.length≤1048576) (hp:p≤999999999999999) (h1:pa.length≤1048576) (h2:q.length≤1048576):Q1 170 (urlD ho p pa q b) (.v (vS (urlT ho p pa q b))):=by
 have h3:=port_len p hp
 have h4:=query_len q b
 have h7:(7+ho.length)≤9223372036854775807:=by omega
 have e:urlT ho p pa q b=httpB++ho++portB p++pa++queryB q b:=(List.append_assoc _ _ _).symm
 rw [e]
 refine sb 1 [.tm 2] func170 ?_
 refine draw_intro 13 fs48_0 mixedOk rfl ?_
 refine Z ?_
 refine drawn0 (c215 ho p pa q b hp) ?_
 refine sid (sid ?_)
 refine drawn0 (c216 ho p pa q b h2) ?_
 exact sid fz
def urlB:Bool:=hostB ho&&inB 1 65535 p && !(pa==[])&&(cleanB pa==pa)&&((q.all fun c=>visB c.toNat) && !(q.contains 35)&&(b || q==[]))&&decide (((urlT ho p pa q b).length:Int)≤200)
theorem urlT_le (h0:ho.length≤1048576) (hp:p≤999999999999999) (h1:pa.length≤1048576) (h2:q.length≤1048576):(urlT ho p pa q b).length≤9223372036854775807:=by
 have:=urlT_len ho p pa q b hp
 omega
theorem c140 (h0:ho.length≤1048576) (hp:p≤999999999999999) (h1:pa.length≤1048576) (h2:q.length≤1048576):Q1 140 (urlD ho p pa q b) (.v (vB (urlB ho p pa q b))):=by
 unfold urlB
 have hu:=fun b=>urlT_le ho p pa q b h0 hp h1 h2
 refine sb 1 [.tm 2] func140 ?_
 refine draw_intro 23 fs61_0 mixedOk rfl ?_
 refine Z ?_
 refine drawn0 (c189 ho h0) ?_
 refine bc (hostB ho) (fun e1 => ?_) fun e1 => ?_
 ·refine Z ?_
  exact fzs
 refine Z ?_
 refine drawn0 (c116 p 1 65535) ?_
 refine bc (inB 1 65535 p) (fun e2 => ?_) fun e2 => ?_
 ·refine Z ?_
  exact fzs
 refine bc (pa==[]) (fun e3 => ?_) fun e3 => ?_
 ·refine Z ?_
  refine drawn0 (c139 pa (by omega)) ?_
  refine bc (cleanB pa==pa) (fun e4 => ?_) fun e4 => ?_
  ·refine Z ?_
   exact fzs
  refine Z ?_
  refine call0 (c133 q 134 visB rfl rfl c134 (by omega)) ?_
  refine bc (q.all fun c=>visB c.toNat) (fun e5 => ?_) fun e5 => ?_
  ·refine Z ?_
   exact fzs
  refine Z ?_
  refine call0 (c135 q 35) ?_
  refine bc (q.contains 35) (fun e6 => ?_) fun e6 => ?_
  ·refine bc b (fun e7 => ?_) fun e7 => ?_
   ·subst e7
    refine bc (q==[]) (fun e8 => ?_) fun e8 => ?_
    ·refine Z ?_
     exact fzs
    ·refine Z ?_
     refine call0 (c126 ho p pa q false h0 hp h1 h2) ?_
     exact fzs
   ·subst e7
    refine Z ?_
    refine call0 (c126 ho p pa q true h0 hp h1 h2) ?_
    exact fzs
  ·refine Z ?_
   exact fzs
 ·refine Z ?_
  exact fzs
theorem in_t {a c n:Int} (h:inB a c n=true):¬ n<a∧¬ c<n:=by unfold inB at h; simp at h; omega
theorem in_f {a c n:Int} (h:inB a c n=false):n<a∨(¬ n<a∧c<n):=by unfold inB at h; simp at h; omega
theorem upto_eq {c:UInt8} {s:List UInt8}:(upto c s==s) = !(s.contains c):=by
 cases h:s.contains c
 ·rw [(upto_all h).1]; simp
 ·rw [Bool.not_true,beq_eq_false_iff_ne]
  intro e
  have hm:c∈upto c s:=by rw [e]; exact List.contains_iff_mem.1 h
  have:=List.all_eq_true.1 (List.all_takeWhile (p:=fun b=>b != c) (l:=s)) c hm
  simp at this
theorem c131 (h0:ho.length≤1048576) (hp:p≤999999999999999) (h1:pa.length≤1048576) (h2:q.length≤1048576):Q1 131 (urlD ho p pa q b) (.v (vB (urlB ho p pa q b))):=by
 unfold urlB
 have hu:=fun b=>urlT_le ho p pa q b h0 hp h1 h2
 have hq:q.length≤9223372036854775807:=by omega
 refine sb 1 [.tm 2] func131 ?_
 refine draw_intro 37 fs37_0 mixedOk rfl ?_
 refine Z ?_
 refine drawn0 (c177 ho h0) ?_
 refine bc (hostB ho) (fun e1 => ?_) fun e1 => ?_
 ·refine Z ?_
  exact fzs
 refine bc (inB 1 65535 p) (fun e2 => ?_) fun e2 => ?_
 ·refine Or.elim (in_f e2) (fun p1 => ?_) fun p1 => ?_
  ·refine Z ?_
   exact fzs
  ·refine Z ?_
   exact fzs
 have pp:=in_t e2
 refine bc (pa==[]) (fun e3 => ?_) fun e3 => ?_
 ·refine Z ?_
  refine drawn0 (c130 pa (by omega)) ?_
  refine bc (cleanB pa==pa) (fun e4 => ?_) fun e4 => ?_
  ·refine Z ?_
   exact fzs
  refine bc b (fun e7 => ?_) fun e7 => ?_
  ·refine bc (q==[]) (fun e8 => ?_) fun e8 => ?_
   ·refine Z ?_
    exact fzs
   ·have z:q=[]:=beq_iff_eq.1 e8
    refine Z ?_
    refine draw_intro 23 fs37_1 mixedOk rfl ?_
    have hup:upto 35 []=[]:=rfl
    have hu0:=urlT_le ho p pa [] false h0 hp h1 (by decide)
    refine Z ?_
    refine drawn0 (c128 [] 35 (by decide)) ?_
    refine call0 (c170 ho p pa [] false h0 hp h1 (by decide)) ?_
    exact fzs
  ·refine Z ?_
   refine draw_intro 23 fs37_1 mixedOk rfl ?_
   have hup:(upto 35 q==q) = !(q.contains 35):=upto_eq
   refine bc (decide ((200:Int)<q.length)) (fun e9 => ?_) fun e9 => ?_
   ·have e9':¬ (200:Int)<q.length:=of_decide_eq_false e9
    refine bc (q==[]) (fun e8 => ?_) fun e8 => ?_
    ·have hne:0<q.length:=by rw [beq_eq_false_iff_ne] at e8; exact List.length_pos_iff.2 e8
     refine Z ?_
     refine drawn0 (c99 q hq) ?_
     refine bc (q.all fun c=>visB c.toNat) (fun e5 => ?_) fun e5 => ?_
     ·refine Z ?_
      exact fzs
     ·refine Z ?_
      refine drawn0 (c128 q 35 (by omega)) ?_
      refine bc (q.contains 35) (fun e6 => ?_) fun e6 => ?_
      ·refine Z ?_
       refine call0 (c170 ho p pa q true h0 hp h1 h2) ?_
       exact fzs
      ·refine Z ?_
       exact fzs
    ·have z:q=[]:=beq_iff_eq.1 e8
     have hup:upto 35 []=[]:=rfl
     have hu0:=urlT_le ho p pa [] true h0 hp h1 (by decide)
     refine Z ?_
     refine drawn0 (c128 [] 35 (by decide)) ?_
     refine call0 (c170 ho p pa [] true h0 hp h1 (by decide)) ?_
     exact fzs
   ·have e9':(200:Int)<q.length:=of_decide_eq_true e9
    have hbig:¬ ((urlT ho p pa q true).length:Int)≤200:=by
     simp only [urlT,queryB,List.length_append,if_true,List.length_cons]
     omega
    refine Z ?_
    exact fzs
 ·refine Z ?_
  exact fzs
end
end Go.Proofs.YtbdfdfhamlmodaaGreatDoor.Fw
