/- Texts of the proof: FgL FgM FgN FgO FgP FgQ FgR FgS FiC FiD FiB FgV FiE FiF FgT FgU FiG FiH FgZ FiI. -/
import Derived.Lib.Bytealg
import Derived.Test.YtbdfdfhamlmodaaGreatDoorH5
set_option linter.unusedSimpArgs false
set_option linter.unusedVariables false
/- Contracts: messages read (program). -/
namespace Go.Proofs.YtbdfdfhamlmodaaGreatDoor.Fw
open Go
open Go.Proofs.Tryz
set_option maxRecDepth 100000
set_option maxHeartbeats 4000000
attribute [local congr] c_bnd c_slot c_cell c_all c_len c_chk c_asm c_opdR c_wp c_pwp c_pOps c_Done c_nx c_blk c_fin c_coeLeaf c_coeLeaves c_argR c_argsR c_partsR c_ite c_wpF c_OutF c_pHead c_pHeadN c_pDraw
section
variable (l:List Fld)
theorem fD_mv {p:Lf}:mvLeaf p (fD l)=fD l:=by cases l<;>rfl
theorem fD_as {t:Nat}:asMove t (fD l)=fD l:=by cases l<;>rfl
theorem fD_own:D.isOwn (fD l)=false:=by cases l<;>rfl
theorem fD_oi:D.ownish (fD l)=false:=by cases l<;>rfl
theorem fD_mp {g:Nat→D→D}:D.mapP g (fD l)=g 0 (fD l):=by cases l<;>rfl
theorem fD_lf {g:Lf→D→D} {p:Lf}:lf1 g p (fD l)=g p (fD l):=by cases l<;>rfl
theorem fD_rb {q p:Lf}:reB q p (fD l)=fD l:=by cases l<;>rfl
theorem fD_wb {r:Lf}:wbG [] r (fD l)=fD l:=by cases l<;>rfl
theorem fD_bn {α:Type} {k:D→Rdr α}:bnd (fD l) k=k (fD l):=id rfl
theorem fD_ar {acc:CallAcc} {k:CallAcc→Rdr Stp}:argR tb 23 0 (fD l) acc k=k (acc.push (.imm 105 (rowsF l)) [] []):=by cases l<;>rfl
end
theorem fD_res {me ta re bo:List UInt8} {st:Int} {ba:Bool} {l:List Fld} {a b:Value}:D.anyL (fun d => !d.resLeaf) (.tup [mD me ta st re ba (fD l) bo,.v a,.v b])=false:=by cases l<;>rfl
theorem callf {P:Program} {K:Env→Prop} {E:Env} {f:FuncId} {a0 a1 d0 d1 r:D} {ce cl:List (Option (List D))} {t:Nat} {q:Prop} (h:Sem P f ⟨[a0,a1],ce⟩ ⟨[d0,d1,r],cl⟩) (h3:r.anyL (fun d => !d.resLeaf)=false) (x:q)
  (e:K (E.app [.ca [] [] [],.rw t r])=q:=by simp only [go_sem,Nat.reduceLeDiff,Nat.reduceLT,Nat.reduceAdd,Nat.reduceSub,Nat.reduceMul,Nat.reduceBEq,Nat.reduceBNe,Nat.reduceEqDiff,reduceCtorEq,reduceIte,Int.reduceLT,Int.reduceLE,Int.reduceAdd,Int.reduceSub,Int.reduceNeg,Int.reduceEq,Int.reduceBEq,Int.reduceBNe,Int.reduceToNat,Nat.reduceDiv,Nat.reduceMod, *]; rfl):Done P K E (.call f ⟨[a0,a1],ce⟩ (retW ⟨[a0,a1],ce,[],[],[],[]⟩ (some t))):=by
 cases h4:r.anyL D.isImm
 ·exact ev_call h (retW0 rfl rfl h3 h4) (e▸x)
 ·exact ev_call (ws:=[.fz [],.ca [] [] [],.rw t r]) h (retWi rfl rfl h3 h4) (by have e2:K (E.app [.fz [],.ca [] [] [],.rw t r])=q:=e; exact e2▸x)
attribute [local go_sem ↓ high] fD_mv fD_as fD_own fD_oi fD_mp fD_lf fD_rb fD_bn fD_ar fD_wb
attribute [local go_sem] sdF_nil rowsF_length
theorem headR_code {t:List UInt8} {an:Bool} {k:Nat} (h:headR t an = .error k):k≠0:=by
 have hd:∀ (n a:Nat) (l:List Fld) (k:Nat),hdR t n a l = .error k→k≠0:=by
  intro n
  induction n with
  | zero=>intro a l k h; injection h with h; omega
  | succ n ih =>
   intro a l k h
   unfold hdR at h
   repeat' split at h
   all_goals first | exact ih _ _ _ h | (injection h with h; omega) | cases h
 unfold headR at h
 repeat' split at h
 all_goals first
  | (injection h with h; omega)
  | cases h
  | (rename_i me ta st re _; cases hh:hdR t 21 _ [] with | error j=>(rw [hh] at h; injection h with h; subst h; exact hd _ _ _ _ hh) | ok r=>(rw [hh] at h; cases h))
theorem fram_le (l:List Fld) (an ba:Bool):(framR l an ba).1≤4:=by
 unfold framR
 repeat' split
 all_goals (simp only; omega)
def AB (an hd:Bool) (st:Int) (ba:Bool):Prop:=(an=false∧ba=false)∨(an=true∧hd=true∧ba=true)∨(an=true∧hd=false∧ba=bareB st)
theorem AB_of (an hd:Bool) (st:Int):AB an hd st (an&&(hd || bareB st)):=by
 cases an
 ·exact .inl ⟨rfl,rfl⟩
 ·cases hd
  ·exact .inr (.inr ⟨rfl,rfl,by simp⟩)
  ·exact .inr (.inl ⟨rfl,rfl,rfl⟩)
section
variable (t:List UInt8) (hl:t.length≤1048576) (an hd:Bool)
include hl
theorem c45e (k:Nat) (hk:k≠0) (h:headR t an = .error k):Q3 45 (.v (vS t)) (.v (vB an)) (.v (vB hd)) (readE (.error k)):=by
 have x1:=c110 t an hl
 rw [h] at x1
 simp only [headD] at x1
 have h1:((k:Int) != 0)=true:=by rw [bne_iff_ne]; omega
 clear h hk
 refine sb 3 [.ce 6 25,.tm 7] func45 ?_
 refine call0 x1 ?_
 exact fz
variable (me ta re:List UInt8) (st a:Nat) (l:List Fld) (ba:Bool) (k n:Nat) (h:headR t an = .ok (me,ta,st,re,a,l)) (hab:AB an hd st ba) (hfr:framR l an ba=(k,n))
include h hab hfr
theorem c45a (hk:k=4):Q3 45 (.v (vS t)) (.v (vB an)) (.v (vB hd)) (readE (.error 400)):=by
 have hL:t.length≤9223372036854775807:=by omega
 obtain ⟨ha,hfl,b1,b2,b3⟩:=headR_ok h
 have hsm:=small_of hfl
 have x1:=c110 t an hl
 rw [h] at x1
 simp only [headD] at x1
 have x2:=c91 st
 have x3:=c111 l hsm an ba
 rw [hfr] at x3
 simp only [framD] at x3
 have hr:(t.drop a).length≤9223372036854775807:=by rw [List.length_drop]; omega
 have t1:(t.drop a).take (t.length-a)=t.drop a:=take_rest
 subst hk
 clear h hfr
 rcases hab with ⟨rfl,rfl⟩ | ⟨rfl,rfl,rfl⟩ | ⟨rfl,rfl,rfl⟩
 all_goals refine sb 3 [.ce 6 25,.tm 7] func45 ?_
 all_goals refine callf x1 fD_res ?_
 rotate_left 2
 refine call0 x2 ?_
 rotate_left 1
 all_goals refine call0 x3 ?_
 all_goals exact fz
theorem c45b (hk:k=0) (h0:¬ t.drop a=[]):Q3 45 (.v (vS t)) (.v (vB an)) (.v (vB hd)) (readE (.error 400)):=by
 have hL:t.length≤9223372036854775807:=by omega
 obtain ⟨ha,hfl,b1,b2,b3⟩:=headR_ok h
 have hsm:=small_of hfl
 have x1:=c110 t an hl
 rw [h] at x1
 simp only [headD] at x1
 have x2:=c91 st
 have x3:=c111 l hsm an ba
 rw [hfr] at x3
 simp only [framD] at x3
 have hr:(t.drop a).length≤9223372036854775807:=by rw [List.length_drop]; omega
 have t1:(t.drop a).take (t.length-a)=t.drop a:=take_rest
 subst hk
 have h1:(t.drop a==[])=false:=beq_eq_false_iff_ne.2 h0
 clear h0
 clear h hfr
 rcases hab with ⟨rfl,rfl⟩ | ⟨rfl,rfl,rfl⟩ | ⟨rfl,rfl,rfl⟩
 all_goals refine sb 3 [.ce 6 25,.tm 7] func45 ?_
 all_goals refine callf x1 fD_res ?_
 rotate_left 2
 refine call0 x2 ?_
 rotate_left 1
 all_goals refine call0 x3 ?_
 all_goals exact fz
theorem c45c (hk:k=1) (h0:600<n):Q3 45 (.v (vS t)) (.v (vB an)) (.v (vB hd)) (readE (.error 413)):=by
 have hL:t.length≤9223372036854775807:=by omega
 obtain ⟨ha,hfl,b1,b2,b3⟩:=headR_ok h
 have hsm:=small_of hfl
 have x1:=c110 t an hl
 rw [h] at x1
 simp only [headD] at x1
 have x2:=c91 st
 have x3:=c111 l hsm an ba
 rw [hfr] at x3
 simp only [framD] at x3
 have hr:(t.drop a).length≤9223372036854775807:=by rw [List.length_drop]; omega
 have t1:(t.drop a).take (t.length-a)=t.drop a:=take_rest
 subst hk
 have h1:(600:Int)<n:=by omega
 clear h0
 clear h hfr
 rcases hab with ⟨rfl,rfl⟩ | ⟨rfl,rfl,rfl⟩ | ⟨rfl,rfl,rfl⟩
 all_goals refine sb 3 [.ce 6 25,.tm 7] func45 ?_
 all_goals refine callf x1 fD_res ?_
 rotate_left 2
 refine call0 x2 ?_
 rotate_left 1
 all_goals refine call0 x3 ?_
 all_goals exact fz
theorem c45d (hk:k=1) (h0:¬ 600<n) (h2:¬ (t.drop a).length=n):Q3 45 (.v (vS t)) (.v (vB an)) (.v (vB hd)) (readE (.error 400)):=by
 have hL:t.length≤9223372036854775807:=by omega
 obtain ⟨ha,hfl,b1,b2,b3⟩:=headR_ok h
 have hsm:=small_of hfl
 have x1:=c110 t an hl
 rw [h] at x1
 simp only [headD] at x1
 have x2:=c91 st
 have x3:=c111 l hsm an ba
 rw [hfr] at x3
 simp only [framD] at x3
 have hr:(t.drop a).length≤9223372036854775807:=by rw [List.length_drop]; omega
 have t1:(t.drop a).take (t.length-a)=t.drop a:=take_rest
 subst hk
 have h1:¬ (600:Int)<n:=by omega
 have h3:(((t.drop a).length:Int) != n)=true:=by rw [bne_iff_ne]; omega
 clear h0 h2
 clear h hfr
 rcases hab with ⟨rfl,rfl⟩ | ⟨rfl,rfl,rfl⟩ | ⟨rfl,rfl,rfl⟩
 all_goals refine sb 3 [.ce 6 25,.tm 7] func45 ?_
 all_goals refine callf x1 fD_res ?_
 rotate_left 2
 refine call0 x2 ?_
 rotate_left 1
 all_goals refine call0 x3 ?_
 all_goals exact fz
theorem c45f (hk:k=2) (h0:(chR (t.drop a) 0 []).1≠0):Q3 45 (.v (vS t)) (.v (vB an)) (.v (vB hd)) (readE (.error (chR (t.drop a) 0 []).1)):=by
 have hL:t.length≤9223372036854775807:=by omega
 obtain ⟨ha,hfl,b1,b2,b3⟩:=headR_ok h
 have hsm:=small_of hfl
 have x1:=c110 t an hl
 rw [h] at x1
 simp only [headD] at x1
 have x2:=c91 st
 have x3:=c111 l hsm an ba
 rw [hfr] at x3
 simp only [framD] at x3
 have hr:(t.drop a).length≤9223372036854775807:=by rw [List.length_drop]; omega
 have t1:(t.drop a).take (t.length-a)=t.drop a:=take_rest
 subst hk
 have x4:=c43 (t.drop a) (by rw [List.length_drop]; omega)
 generalize chR (t.drop a) 0 []=C at x4 h0 ⊢
 obtain ⟨c,bo⟩:=C
 simp only [chD] at x4
 have h1:((c:Int) != 0)=true:=by rw [bne_iff_ne]; simp only at h0; omega
 clear h0
 clear h hfr
 rcases hab with ⟨rfl,rfl⟩ | ⟨rfl,rfl,rfl⟩ | ⟨rfl,rfl,rfl⟩
 all_goals refine sb 3 [.ce 6 25,.tm 7] func45 ?_
 all_goals refine callf x1 fD_res ?_
 rotate_left 2
 refine call0 x2 ?_
 rotate_left 1
 all_goals refine call0 x3 ?_
 all_goals refine call0 x4 ?_
 all_goals exact fz
theorem c45g (hk:k=3) (h0:600<(t.drop a).length):Q3 45 (.v (vS t)) (.v (vB an)) (.v (vB hd)) (readE (.error 413)):=by
 have hL:t.length≤9223372036854775807:=by omega
 obtain ⟨ha,hfl,b1,b2,b3⟩:=headR_ok h
 have hsm:=small_of hfl
 have x1:=c110 t an hl
 rw [h] at x1
 simp only [headD] at x1
 have x2:=c91 st
 have x3:=c111 l hsm an ba
 rw [hfr] at x3
 simp only [framD] at x3
 have hr:(t.drop a).length≤9223372036854775807:=by rw [List.length_drop]; omega
 have t1:(t.drop a).take (t.length-a)=t.drop a:=take_rest
 subst hk
 have h1:(600:Int)<(t.drop a).length:=by omega
 clear h0
 clear h hfr
 rcases hab with ⟨rfl,rfl⟩ | ⟨rfl,rfl,rfl⟩ | ⟨rfl,rfl,rfl⟩
 all_goals refine sb 3 [.ce 6 25,.tm 7] func45 ?_
 all_goals refine callf x1 fD_res ?_
 rotate_left 2
 refine call0 x2 ?_
 rotate_left 1
 all_goals refine call0 x3 ?_
 all_goals exact fz
end
attribute [local go_sem ↓ high] fD_mv fD_as fD_own fD_oi fD_mp fD_lf fD_rb fD_bn fD_ar fD_wb
attribute [local go_sem] sdF_nil rowsF_length
section
variable (t:List UInt8) (hl:t.length≤1048576) (an hd:Bool)
include hl
variable (me ta re:List UInt8) (st a:Nat) (l:List Fld) (ba:Bool) (k n:Nat) (h:headR t an = .ok (me,ta,st,re,a,l)) (hab:AB an hd st ba) (hfr:framR l an ba=(k,n))
include h hab hfr
theorem c45pn (hk:k=0) (h0:t.drop a=[]) (hn:keepL l=[]):Q3 45 (.v (vS t)) (.v (vB an)) (.v (vB hd)) (if msgB me ta (st:Nat) re ba (keepL l) []=true then readE (.ok (me,ta,st,re,ba,keepL l,[])) else readE (.error 431)):=by
 have hL:t.length≤9223372036854775807:=by omega
 obtain ⟨ha,hfl,b1,b2,b3⟩:=headR_ok h
 have hsm:=small_of hfl
 have x1:=c110 t an hl
 rw [h] at x1
 simp only [headD] at x1
 have x2:=c91 st
 have x3:=c111 l hsm an ba
 rw [hfr] at x3
 simp only [framD] at x3
 have hr:(t.drop a).length≤9223372036854775807:=by rw [List.length_drop]; omega
 have t1:(t.drop a).take (t.length-a)=t.drop a:=take_rest
 subst hk
 have h1:(t.drop a==[])=true:=beq_iff_eq.2 h0
 rw [h0] at t1
 have hk9:fieldsB (keepL l)=true:=keepL_ok hfl
 have x6:=c112 l hsm hfl
 have x7:=c36 c37 me ta st re ba (keepL l) [] (by omega) (by omega) (by omega) (by first | omega | (simp; done)) (small_of hk9)
 rw [hn] at x6 x7 ⊢
 generalize hmb:msgB me ta (st:Nat) re ba [] []=mb at x7 ⊢
 have hok:readE (.ok (me,ta,st,re,ba,[],[])) = .tup [mD me ta (st:Nat) re ba .nil [],.v (vI 0)]:=rfl
 rw [hok]
 clear hok hmb hn hk9 hsm hfl
 clear h hfr
 rcases hab with ⟨rfl,rfl⟩ | ⟨rfl,rfl,rfl⟩ | ⟨rfl,rfl,rfl⟩
 all_goals refine sb 3 [.ce 6 25,.tm 7] func45 ?_
 all_goals refine callf x1 fD_res ?_
 rotate_left 2
 refine call0 x2 ?_
 rotate_left 1
 all_goals refine call0 x3 ?_
 all_goals refine call0 x6 ?_
 all_goals cases mb
 all_goals refine call0 x7 ?_
 all_goals exact fz
theorem c45po (hk:k=0) (h0:t.drop a=[]) (hn:keepL l≠[]):Q3 45 (.v (vS t)) (.v (vB an)) (.v (vB hd)) (if msgB me ta (st:Nat) re ba (keepL l) []=true then readE (.ok (me,ta,st,re,ba,keepL l,[])) else readE (.error 431)):=by
 have hL:t.length≤9223372036854775807:=by omega
 obtain ⟨ha,hfl,b1,b2,b3⟩:=headR_ok h
 have hsm:=small_of hfl
 have x1:=c110 t an hl
 rw [h] at x1
 simp only [headD] at x1
 have x2:=c91 st
 have x3:=c111 l hsm an ba
 rw [hfr] at x3
 simp only [framD] at x3
 have hr:(t.drop a).length≤9223372036854775807:=by rw [List.length_drop]; omega
 have t1:(t.drop a).take (t.length-a)=t.drop a:=take_rest
 subst hk
 have h1:(t.drop a==[])=true:=beq_iff_eq.2 h0
 rw [h0] at t1
 have hk9:fieldsB (keepL l)=true:=keepL_ok hfl
 have x6:=c112 l hsm hfl
 have x7:=c36 c37 me ta st re ba (keepL l) [] (by omega) (by omega) (by omega) (by first | omega | (simp; done)) (small_of hk9)
 have hsd:=sd_own (e:=105) (rowsF_ne hn)
 rw [hsd] at x6
 generalize hmb:msgB me ta (st:Nat) re ba (keepL l) []=mb at x7 ⊢
 have hok:readE (.ok (me,ta,st,re,ba,keepL l,[])) = .tup [mD me ta (st:Nat) re ba (.own 105 (rowsF (keepL l))) [],.v (vI 0)]:=by show D.tup [mD me ta (st:Nat) re ba (sd 105 (rowsF (keepL l))) [],.v (vI 0)]=_; rw [hsd]
 generalize rowsF (keepL l)=KL at x6 x7 hok
 clear hsd
 rw [hok]
 clear hok hmb hn hk9 hsm hfl
 clear h hfr
 rcases hab with ⟨rfl,rfl⟩ | ⟨rfl,rfl,rfl⟩ | ⟨rfl,rfl,rfl⟩
 all_goals refine sb 3 [.ce 6 25,.tm 7] func45 ?_
 all_goals refine callf x1 fD_res ?_
 rotate_left 2
 refine call0 x2 ?_
 rotate_left 1
 all_goals refine call0 x3 ?_
 all_goals refine call0 x6 ?_
 all_goals cases mb
 all_goals refine call0 x7 ?_
 all_goals exact fz
theorem c45qn (hk:k=1) (h0:¬ 600<n) (h2:(t.drop a).length=n) (hn:keepL l=[]):Q3 45 (.v (vS t)) (.v (vB an)) (.v (vB hd)) (if msgB me ta (st:Nat) re ba (keepL l) (t.drop a)=true then readE (.ok (me,ta,st,re,ba,keepL l,(t.drop a))) else readE (.error 431)):=by
 have hL:t.length≤9223372036854775807:=by omega
 obtain ⟨ha,hfl,b1,b2,b3⟩:=headR_ok h
 have hsm:=small_of hfl
 have x1:=c110 t an hl
 rw [h] at x1
 simp only [headD] at x1
 have x2:=c91 st
 have x3:=c111 l hsm an ba
 rw [hfr] at x3
 simp only [framD] at x3
 have hr:(t.drop a).length≤9223372036854775807:=by rw [List.length_drop]; omega
 have t1:(t.drop a).take (t.length-a)=t.drop a:=take_rest
 subst hk
 have h1:¬ (600:Int)<n:=by omega
 have h3:(((t.drop a).length:Int) != n)=false:=by rw [h2]; simp
 clear h0 h2
 have hk9:fieldsB (keepL l)=true:=keepL_ok hfl
 have x6:=c112 l hsm hfl
 have x7:=c36 c37 me ta st re ba (keepL l) (t.drop a) (by omega) (by omega) (by omega) (by first | omega | (simp; done)) (small_of hk9)
 rw [hn] at x6 x7 ⊢
 generalize hmb:msgB me ta (st:Nat) re ba [] (t.drop a)=mb at x7 ⊢
 have hok:readE (.ok (me,ta,st,re,ba,[],(t.drop a))) = .tup [mD me ta (st:Nat) re ba .nil (t.drop a),.v (vI 0)]:=rfl
 rw [hok]
 clear hok hmb hn hk9 hsm hfl
 clear h hfr
 rcases hab with ⟨rfl,rfl⟩ | ⟨rfl,rfl,rfl⟩ | ⟨rfl,rfl,rfl⟩
 all_goals refine sb 3 [.ce 6 25,.tm 7] func45 ?_
 all_goals refine callf x1 fD_res ?_
 rotate_left 2
 refine call0 x2 ?_
 rotate_left 1
 all_goals refine call0 x3 ?_
 all_goals refine call0 x6 ?_
 all_goals cases mb
 all_goals refine call0 x7 ?_
 all_goals exact fz
theorem c45qo (hk:k=1) (h0:¬ 600<n) (h2:(t.drop a).length=n) (hn:keepL l≠[]):Q3 45 (.v (vS t)) (.v (vB an)) (.v (vB hd)) (if msgB me ta (st:Nat) re ba (keepL l) (t.drop a)=true then readE (.ok (me,ta,st,re,ba,keepL l,(t.drop a))) else readE (.error 431)):=by
 have hL:t.length≤9223372036854775807:=by omega
 obtain ⟨ha,hfl,b1,b2,b3⟩:=headR_ok h
 have hsm:=small_of hfl
 have x1:=c110 t an hl
 rw [h] at x1
 simp only [headD] at x1
 have x2:=c91 st
 have x3:=c111 l hsm an ba
 rw [hfr] at x3
 simp only [framD] at x3
 have hr:(t.drop a).length≤9223372036854775807:=by rw [List.length_drop]; omega
 have t1:(t.drop a).take (t.length-a)=t.drop a:=take_rest
 subst hk
 have h1:¬ (600:Int)<n:=by omega
 have h3:(((t.drop a).length:Int) != n)=false:=by rw [h2]; simp
 clear h0 h2
 have hk9:fieldsB (keepL l)=true:=keepL_ok hfl
 have x6:=c112 l hsm hfl
 have x7:=c36 c37 me ta st re ba (keepL l) (t.drop a) (by omega) (by omega) (by omega) (by first | omega | (simp; done)) (small_of hk9)
 have hsd:=sd_own (e:=105) (rowsF_ne hn)
 rw [hsd] at x6
 generalize hmb:msgB me ta (st:Nat) re ba (keepL l) (t.drop a)=mb at x7 ⊢
 have hok:readE (.ok (me,ta,st,re,ba,keepL l,(t.drop a))) = .tup [mD me ta (st:Nat) re ba (.own 105 (rowsF (keepL l))) (t.drop a),.v (vI 0)]:=by show D.tup [mD me ta (st:Nat) re ba (sd 105 (rowsF (keepL l))) (t.drop a),.v (vI 0)]=_; rw [hsd]
 generalize rowsF (keepL l)=KL at x6 x7 hok
 clear hsd
 rw [hok]
 clear hok hmb hn hk9 hsm hfl
 clear h hfr
 rcases hab with ⟨rfl,rfl⟩ | ⟨rfl,rfl,rfl⟩ | ⟨rfl,rfl,rfl⟩
 all_goals refine sb 3 [.ce 6 25,.tm 7] func45 ?_
 all_goals refine callf x1 fD_res ?_
 rotate_left 2
 refine call0 x2 ?_
 rotate_left 1
 all_goals refine call0 x3 ?_
 all_goals refine call0 x6 ?_
 all_goals cases mb
 all_goals refine call0 x7 ?_
 all_goals exact fz
theorem c45rn (hk:k=2) (h0:(chR (t.drop a) 0 []).1=0) (hn:keepL l=[]):Q3 45 (.v (vS t)) (.v (vB an)) (.v (vB hd)) (if msgB me ta (st:Nat) re ba (keepL l) (chR (t.drop a) 0 []).2=true then readE (.ok (me,ta,st,re,ba,keepL l,(chR (t.drop a) 0 []).2)) else readE (.error 431)):=by
 have hL:t.length≤9223372036854775807:=by omega
 obtain ⟨ha,hfl,b1,b2,b3⟩:=headR_ok h
 have hsm:=small_of hfl
 have x1:=c110 t an hl
 rw [h] at x1
 simp only [headD] at x1
 have x2:=c91 st
 have x3:=c111 l hsm an ba
 rw [hfr] at x3
 simp only [framD] at x3
 have hr:(t.drop a).length≤9223372036854775807:=by rw [List.length_drop]; omega
 have t1:(t.drop a).take (t.length-a)=t.drop a:=take_rest
 subst hk
 have x4:=c43 (t.drop a) (by rw [List.length_drop]; omega)
 have hb9:=chR_len (t.drop a) _ 0 [] (Nat.lt_succ_self _) (Nat.zero_le _)
 generalize chR (t.drop a) 0 []=C at x4 h0 hb9 ⊢
 obtain ⟨c,bo⟩:=C
 simp only at h0 hb9
 subst h0
 simp only [chD] at x4
 dsimp only
 have hk9:fieldsB (keepL l)=true:=keepL_ok hfl
 have x6:=c112 l hsm hfl
 have x7:=c36 c37 me ta st re ba (keepL l) bo (by omega) (by omega) (by omega) (by omega) (small_of hk9)
 rw [hn] at x6 x7 ⊢
 generalize hmb:msgB me ta (st:Nat) re ba [] bo=mb at x7 ⊢
 have hok:readE (.ok (me,ta,st,re,ba,[],bo)) = .tup [mD me ta (st:Nat) re ba .nil bo,.v (vI 0)]:=rfl
 rw [hok]
 clear hok hmb hn hk9 hsm hfl
 clear h hfr
 rcases hab with ⟨rfl,rfl⟩ | ⟨rfl,rfl,rfl⟩ | ⟨rfl,rfl,rfl⟩
 all_goals refine sb 3 [.ce 6 25,.tm 7] func45 ?_
 all_goals refine callf x1 fD_res ?_
 rotate_left 2
 refine call0 x2 ?_
 rotate_left 1
 all_goals refine call0 x3 ?_
 all_goals refine call0 x4 ?_
 all_goals refine call0 x6 ?_
 all_goals cases mb
 all_goals refine call0 x7 ?_
 all_goals exact fz
theorem c45ro (hk:k=2) (h0:(chR (t.drop a) 0 []).1=0) (hn:keepL l≠[]):Q3 45 (.v (vS t)) (.v (vB an)) (.v (vB hd)) (if msgB me ta (st:Nat) re ba (keepL l) (chR (t.drop a) 0 []).2=true then readE (.ok (me,ta,st,re,ba,keepL l,(chR (t.drop a) 0 []).2)) else readE (.error 431)):=by
 have hL:t.length≤9223372036854775807:=by omega
 obtain ⟨ha,hfl,b1,b2,b3⟩:=headR_ok h
 have hsm:=small_of hfl
 have x1:=c110 t an hl
 rw [h] at x1
 simp only [headD] at x1
 have x2:=c91 st
 have x3:=c111 l hsm an ba
 rw [hfr] at x3
 simp only [framD] at x3
 have hr:(t.drop a).length≤9223372036854775807:=by rw [List.length_drop]; omega
 have t1:(t.drop a).take (t.length-a)=t.drop a:=take_rest
 subst hk
 have x4:=c43 (t.drop a) (by rw [List.length_drop]; omega)
 have hb9:=chR_len (t.drop a) _ 0 [] (Nat.lt_succ_self _) (Nat.zero_le _)
 generalize chR (t.drop a) 0 []=C at x4 h0 hb9 ⊢
 obtain ⟨c,bo⟩:=C
 simp only at h0 hb9
 subst h0
 simp only [chD] at x4
 dsimp only
 have hk9:fieldsB (keepL l)=true:=keepL_ok hfl
 have x6:=c112 l hsm hfl
 have x7:=c36 c37 me ta st re ba (keepL l) bo (by omega) (by omega) (by omega) (by omega) (small_of hk9)
 have hsd:=sd_own (e:=105) (rowsF_ne hn)
 rw [hsd] at x6
 generalize hmb:msgB me ta (st:Nat) re ba (keepL l) bo=mb at x7 ⊢
 have hok:readE (.ok (me,ta,st,re,ba,keepL l,bo)) = .tup [mD me ta (st:Nat) re ba (.own 105 (rowsF (keepL l))) bo,.v (vI 0)]:=by show D.tup [mD me ta (st:Nat) re ba (sd 105 (rowsF (keepL l))) bo,.v (vI 0)]=_; rw [hsd]
 generalize rowsF (keepL l)=KL at x6 x7 hok
 clear hsd
 rw [hok]
 clear hok hmb hn hk9 hsm hfl
 clear h hfr
 rcases hab with ⟨rfl,rfl⟩ | ⟨rfl,rfl,rfl⟩ | ⟨rfl,rfl,rfl⟩
 all_goals refine sb 3 [.ce 6 25,.tm 7] func45 ?_
 all_goals refine callf x1 fD_res ?_
 rotate_left 2
 refine call0 x2 ?_
 rotate_left 1
 all_goals refine call0 x3 ?_
 all_goals refine call0 x4 ?_
 all_goals refine call0 x6 ?_
 all_goals cases mb
 all_goals refine call0 x7 ?_
 all_goals exact fz
theorem c45sn (hk:k=3) (h0:¬ 600<(t.drop a).length) (hn:keepL l=[]):Q3 45 (.v (vS t)) (.v (vB an)) (.v (vB hd)) (if msgB me ta (st:Nat) re ba (keepL l) (t.drop a)=true then readE (.ok (me,ta,st,re,ba,keepL l,(t.drop a))) else readE (.error 431)):=by
 have hL:t.length≤9223372036854775807:=by omega
 obtain ⟨ha,hfl,b1,b2,b3⟩:=headR_ok h
 have hsm:=small_of hfl
 have x1:=c110 t an hl
 rw [h] at x1
 simp only [headD] at x1
 have x2:=c91 st
 have x3:=c111 l hsm an ba
 rw [hfr] at x3
 simp only [framD] at x3
 have hr:(t.drop a).length≤9223372036854775807:=by rw [List.length_drop]; omega
 have t1:(t.drop a).take (t.length-a)=t.drop a:=take_rest
 subst hk
 have h1:¬ (600:Int)<(t.drop a).length:=by omega
 clear h0
 have hk9:fieldsB (keepL l)=true:=keepL_ok hfl
 have x6:=c112 l hsm hfl
 have x7:=c36 c37 me ta st re ba (keepL l) (t.drop a) (by omega) (by omega) (by omega) (by first | omega | (simp; done)) (small_of hk9)
 rw [hn] at x6 x7 ⊢
 generalize hmb:msgB me ta (st:Nat) re ba [] (t.drop a)=mb at x7 ⊢
 have hok:readE (.ok (me,ta,st,re,ba,[],(t.drop a))) = .tup [mD me ta (st:Nat) re ba .nil (t.drop a),.v (vI 0)]:=rfl
 rw [hok]
 clear hok hmb hn hk9 hsm hfl
 clear h hfr
 rcases hab with ⟨rfl,rfl⟩ | ⟨rfl,rfl,rfl⟩ | ⟨rfl,rfl,rfl⟩
 all_goals refine sb 3 [.ce 6 25,.tm 7] func45 ?_
 all_goals refine callf x1 fD_res ?_
 rotate_left 2
 refine call0 x2 ?_
 rotate_left 1
 all_goals refine call0 x3 ?_
 all_goals refine call0 x6 ?_
 all_goals cases mb
 all_goals refine call0 x7 ?_
 all_goals exact fz
theorem c45so (hk:k=3) (h0:¬ 600<(t.drop a).length) (hn:keepL l≠[]):Q3 45 (.v (vS t)) (.v (vB an)) (.v (vB hd)) (if msgB me ta (st:Nat) re ba (keepL l) (t.drop a)=true then readE (.ok (me,ta,st,re,ba,keepL l,(t.drop a))) else readE (.error 431)):=by
 have hL:t.length≤9223372036854775807:=by omega
 obtain ⟨ha,hfl,b1,b2,b3⟩:=headR_ok h
 have hsm:=small_of hfl
 have x1:=c110 t an hl
 rw [h] at x1
 simp only [headD] at x1
 have x2:=c91 st
 have x3:=c111 l hsm an ba
 rw [hfr] at x3
 simp only [framD] at x3
 have hr:(t.drop a).length≤9223372036854775807:=by rw [List.length_drop]; omega
 have t1:(t.drop a).take (t.length-a)=t.drop a:=take_rest
 subst hk
 have h1:¬ (600:Int)<(t.drop a).length:=by omega
 clear h0
 have hk9:fieldsB (keepL l)=true:=keepL_ok hfl
 have x6:=c112 l hsm hfl
 have x7:=c36 c37 me ta st re ba (keepL l) (t.drop a) (by omega) (by omega) (by omega) (by first | omega | (simp; done)) (small_of hk9)
 have hsd:=sd_own (e:=105) (rowsF_ne hn)
 rw [hsd] at x6
 generalize hmb:msgB me ta (st:Nat) re ba (keepL l) (t.drop a)=mb at x7 ⊢
 have hok:readE (.ok (me,ta,st,re,ba,keepL l,(t.drop a))) = .tup [mD me ta (st:Nat) re ba (.own 105 (rowsF (keepL l))) (t.drop a),.v (vI 0)]:=by show D.tup [mD me ta (st:Nat) re ba (sd 105 (rowsF (keepL l))) (t.drop a),.v (vI 0)]=_; rw [hsd]
 generalize rowsF (keepL l)=KL at x6 x7 hok
 clear hsd
 rw [hok]
 clear hok hmb hn hk9 hsm hfl
 clear h hfr
 rcases hab with ⟨rfl,rfl⟩ | ⟨rfl,rfl,rfl⟩ | ⟨rfl,rfl,rfl⟩
 all_goals refine sb 3 [.ce 6 25,.tm 7] func45 ?_
 all_goals refine callf x1 fD_res ?_
 rotate_left 2
 refine call0 x2 ?_
 rotate_left 1
 all_goals refine call0 x3 ?_
 all_goals refine call0 x6 ?_
 all_goals cases mb
 all_goals refine call0 x7 ?_
 all_goals exact fz
end
theorem c45 (t:List UInt8) (hl:t.length≤1048576) (an hd:Bool):Q3 45 (.v (vS t)) (.v (vB an)) (.v (vB hd)) (readE (readR t an hd)):=by
 unfold readR
 cases h:headR t an with
 | error k=>exact c45e t hl an hd k (headR_code h) h
 | ok x =>
  obtain ⟨me,ta,st,re,a,l⟩:=x
  simp only
  have hab:=AB_of an hd (st:Nat)
  generalize (an&&(hd || bareB (st:Nat)))=ba at hab ⊢
  cases hfr:framR l an ba with
  | mk k n =>
  simp only
  have hk:=fram_le l an ba
  rw [hfr] at hk
  simp only at hk
  have go:∀ bo:List UInt8,(Q3 45 (.v (vS t)) (.v (vB an)) (.v (vB hd)) (if msgB me ta (st:Nat) re ba (keepL l) bo=true then readE (.ok (me,ta,st,re,ba,keepL l,bo)) else readE (.error 431)))→Q3 45 (.v (vS t)) (.v (vB an)) (.v (vB hd)) (readE (if msgB me ta (st:Nat) re ba (keepL l) bo=true then .ok (me,ta,st,re,ba,keepL l,bo) else .error 431)):=fun bo x=>by
   rw [←apply_ite readE] at x
   exact x
  unfold bodyR
  match k,hk with
  | 0,_ =>
   by_cases h0:t.drop a=[]
   ·simp only [if_pos h0,if_true]
    by_cases hn:keepL l=[]
    ·exact go _ (c45pn t hl an hd me ta re st a l ba 0 n h hab hfr rfl h0 hn)
    ·exact go _ (c45po t hl an hd me ta re st a l ba 0 n h hab hfr rfl h0 hn)
   ·simp only [if_neg h0]
    exact c45b t hl an hd me ta re st a l ba 0 n h hab hfr rfl h0
  | 1,_ =>
   by_cases h0:600<n
   ·simp only [if_pos h0]
    exact c45c t hl an hd me ta re st a l ba 1 n h hab hfr rfl h0
   ·simp only [if_neg h0]
    by_cases h2:(t.drop a).length=n
    ·simp only [if_pos h2,if_true]
     by_cases hn:keepL l=[]
     ·exact go _ (c45qn t hl an hd me ta re st a l ba 1 n h hab hfr rfl h0 h2 hn)
     ·exact go _ (c45qo t hl an hd me ta re st a l ba 1 n h hab hfr rfl h0 h2 hn)
    ·simp only [if_neg h2]
     exact c45d t hl an hd me ta re st a l ba 1 n h hab hfr rfl h0 h2
  | 2,_ =>
   by_cases h0:(chR (t.drop a) 0 []).1=0
   ·simp only [if_pos h0]
    by_cases hn:keepL l=[]
    ·exact go _ (c45rn t hl an hd me ta re st a l ba 2 n h hab hfr rfl h0 hn)
    ·exact go _ (c45ro t hl an hd me ta re st a l ba 2 n h hab hfr rfl h0 hn)
   ·simp only [if_neg h0]
    exact c45f t hl an hd me ta re st a l ba 2 n h hab hfr rfl h0
  | 3,_ =>
   by_cases h0:600<(t.drop a).length
   ·simp only [if_pos h0]
    exact c45g t hl an hd me ta re st a l ba 3 n h hab hfr rfl h0
   ·simp only [if_neg h0,if_true]
    by_cases hn:keepL l=[]
    ·exact go _ (c45sn t hl an hd me ta re st a l ba 3 n h hab hfr rfl h0 hn)
    ·exact go _ (c45so t hl an hd me ta re st a l ba 3 n h hab hfr rfl h0 hn)
  | 4,_=>exact c45a t hl an hd me ta re st a l ba 4 n h hab hfr rfl
attribute [local go_sem ↓ high] fD_mv fD_as fD_own fD_oi fD_mp fD_lf fD_rb fD_bn fD_ar fD_wb
attribute [local go_sem] sdF_nil rowsF_length
section
variable (t:List UInt8) (hl:t.length≤1048576) (an hd:Bool)
include hl
theorem c121e (k:Nat) (hk:k≠0) (h:headR t an = .error k):Q3 121 (.v (vS t)) (.v (vB an)) (.v (vB hd)) (readE (.error k)):=by
 have x1:=c166 t an hl
 rw [h] at x1
 simp only [headD] at x1
 have h1:((k:Int) != 0)=true:=by rw [bne_iff_ne]; omega
 clear h hk
 refine sb 3 [.ce 6 25,.tm 7] func121 ?_
 refine call0 x1 ?_
 exact fz
variable (me ta re:List UInt8) (st a:Nat) (l:List Fld) (ba:Bool) (k n:Nat) (h:headR t an = .ok (me,ta,st,re,a,l)) (hab:AB an hd st ba) (hfr:framR l an ba=(k,n))
include h hab hfr
theorem c121a (hk4:k≤4) (h0:(bodyR (t.drop a) k n).1≠0):Q3 121 (.v (vS t)) (.v (vB an)) (.v (vB hd)) (readE (.error (bodyR (t.drop a) k n).1)):=by
 have hL:t.length≤9223372036854775807:=by omega
 obtain ⟨ha,hfl,b1,b2,b3⟩:=headR_ok h
 have hsm:=small_of hfl
 have x1:=c166 t an hl
 rw [h] at x1
 simp only [headD] at x1
 have x2:=c101 st
 have x3:=c167 l hsm an ba
 rw [hfr] at x3
 simp only [framD] at x3
 have hr:(t.drop a).length≤9223372036854775807:=by rw [List.length_drop]; omega
 have t1:(t.drop a).take (t.length-a)=t.drop a:=take_rest
 have x4:=c168 (t.drop a) (by rw [List.length_drop]; omega) k n hk4
 generalize bodyR (t.drop a) k n=C at x4 h0 ⊢
 obtain ⟨c,bo⟩:=C
 simp only [chD] at x4
 have h1:((c:Int) != 0)=true:=by rw [bne_iff_ne]; simp only at h0; omega
 clear h0
 clear h hfr
 rcases hab with ⟨rfl,rfl⟩ | ⟨rfl,rfl,rfl⟩ | ⟨rfl,rfl,rfl⟩
 all_goals refine sb 3 [.ce 6 25,.tm 7] func121 ?_
 all_goals refine callf x1 fD_res ?_
 rotate_left 2
 refine call0 x2 ?_
 rotate_left 1
 all_goals refine call0 x3 ?_
 all_goals refine call0 x4 ?_
 all_goals exact fz
theorem c121m (hk4:k≤4) (h0:(bodyR (t.drop a) k n).1=0) (n1:withoutB clN l=[]):Q3 121 (.v (vS t)) (.v (vB an)) (.v (vB hd)) (if msgB me ta (st:Nat) re ba (withoutB trN (withoutB teN (withoutB clN l))) (bodyR (t.drop a) k n).2=true then readE (.ok (me,ta,st,re,ba,withoutB trN (withoutB teN (withoutB clN l)),(bodyR (t.drop a) k n).2)) else readE (.error 431)):=by
 have hL:t.length≤9223372036854775807:=by omega
 obtain ⟨ha,hfl,b1,b2,b3⟩:=headR_ok h
 have hsm:=small_of hfl
 have x1:=c166 t an hl
 rw [h] at x1
 simp only [headD] at x1
 have x2:=c101 st
 have x3:=c167 l hsm an ba
 rw [hfr] at x3
 simp only [framD] at x3
 have hr:(t.drop a).length≤9223372036854775807:=by rw [List.length_drop]; omega
 have t1:(t.drop a).take (t.length-a)=t.drop a:=take_rest
 have x4:=c168 (t.drop a) (by rw [List.length_drop]; omega) k n hk4
 have hb9:=bodyR_len (t.drop a) k n
 generalize bodyR (t.drop a) k n=C at x4 h0 hb9 ⊢
 obtain ⟨c,bo⟩:=C
 simp only at h0 hb9
 subst h0
 simp only [chD] at x4
 have k1:=wo_ok clN hfl
 have k2:=wo_ok teN k1
 have k3:=wo_ok trN k2
 have x5:=c169 l hsm clN (by decide) hfl
 have x6:=c169 _ (small_of k1) teN (by decide) k1
 have x7:=c169 _ (small_of k2) trN (by decide) k2
 have x8:=c11 me ta st re ba (withoutB trN (withoutB teN (withoutB clN l))) bo (by omega) (by omega) (by omega) (by omega) (small_of k3)
 rw [n1] at x5 x6 x7 x8 ⊢
 rw [show withoutB teN []=[] from rfl] at x6 x7 x8 ⊢
 rw [show withoutB trN []=[] from rfl] at x7 x8 ⊢
 generalize hmb:msgB me ta (st:Nat) re ba ([]) bo=mb at x8 ⊢
 have hok:readE (.ok (me,ta,st,re,ba,[],bo)) = .tup [mD me ta (st:Nat) re ba .nil bo,.v (vI 0)]:=rfl
 rw [hok]
 clear hok hmb hsm hfl k1 k2 k3
 clear h hfr
 rcases hab with ⟨rfl,rfl⟩ | ⟨rfl,rfl,rfl⟩ | ⟨rfl,rfl,rfl⟩
 all_goals refine sb 3 [.ce 6 25,.tm 7] func121 ?_
 all_goals refine callf x1 fD_res ?_
 rotate_left 2
 refine call0 x2 ?_
 rotate_left 1
 all_goals refine call0 x3 ?_
 all_goals refine call0 x4 ?_
 all_goals refine call0 x5 ?_
 all_goals refine call0 x6 ?_
 all_goals refine call0 x7 ?_
 all_goals cases mb
 all_goals refine call0 x8 ?_
 all_goals exact fz
theorem c121n (hk4:k≤4) (h0:(bodyR (t.drop a) k n).1=0) (n1:withoutB clN l≠[]) (n2:withoutB teN (withoutB clN l)=[]):Q3 121 (.v (vS t)) (.v (vB an)) (.v (vB hd)) (if msgB me ta (st:Nat) re ba (withoutB trN (withoutB teN (withoutB clN l))) (bodyR (t.drop a) k n).2=true then readE (.ok (me,ta,st,re,ba,withoutB trN (withoutB teN (withoutB clN l)),(bodyR (t.drop a) k n).2)) else readE (.error 431)):=by
 have hL:t.length≤9223372036854775807:=by omega
 obtain ⟨ha,hfl,b1,b2,b3⟩:=headR_ok h
 have hsm:=small_of hfl
 have x1:=c166 t an hl
 rw [h] at x1
 simp only [headD] at x1
 have x2:=c101 st
 have x3:=c167 l hsm an ba
 rw [hfr] at x3
 simp only [framD] at x3
 have hr:(t.drop a).length≤9223372036854775807:=by rw [List.length_drop]; omega
 have t1:(t.drop a).take (t.length-a)=t.drop a:=take_rest
 have x4:=c168 (t.drop a) (by rw [List.length_drop]; omega) k n hk4
 have hb9:=bodyR_len (t.drop a) k n
 generalize bodyR (t.drop a) k n=C at x4 h0 hb9 ⊢
 obtain ⟨c,bo⟩:=C
 simp only at h0 hb9
 subst h0
 simp only [chD] at x4
 have k1:=wo_ok clN hfl
 have k2:=wo_ok teN k1
 have k3:=wo_ok trN k2
 have x5:=c169 l hsm clN (by decide) hfl
 have x6:=c169 _ (small_of k1) teN (by decide) k1
 have x7:=c169 _ (small_of k2) trN (by decide) k2
 have x8:=c11 me ta st re ba (withoutB trN (withoutB teN (withoutB clN l))) bo (by omega) (by omega) (by omega) (by omega) (small_of k3)
 rw [n2] at x6 x7 x8 ⊢
 rw [show withoutB trN []=[] from rfl] at x7 x8 ⊢
 rw [sd_own (rowsF_ne n1)] at x5
 generalize hmb:msgB me ta (st:Nat) re ba ([]) bo=mb at x8 ⊢
 have hok:readE (.ok (me,ta,st,re,ba,[],bo)) = .tup [mD me ta (st:Nat) re ba .nil bo,.v (vI 0)]:=rfl
 generalize rowsF (withoutB clN l)=K1 at x5 x6
 rw [hok]
 clear hok hmb hsm hfl k1 k2 k3 n1
 clear h hfr
 rcases hab with ⟨rfl,rfl⟩ | ⟨rfl,rfl,rfl⟩ | ⟨rfl,rfl,rfl⟩
 all_goals refine sb 3 [.ce 6 25,.tm 7] func121 ?_
 all_goals refine callf x1 fD_res ?_
 rotate_left 2
 refine call0 x2 ?_
 rotate_left 1
 all_goals refine call0 x3 ?_
 all_goals refine call0 x4 ?_
 all_goals refine call0 x5 ?_
 all_goals refine call0 x6 ?_
 all_goals refine call0 x7 ?_
 all_goals cases mb
 all_goals refine call0 x8 ?_
 all_goals exact fz
theorem c121o (hk4:k≤4) (h0:(bodyR (t.drop a) k n).1=0) (n1:withoutB clN l≠[]) (n2:withoutB teN (withoutB clN l)≠[]) (n3:withoutB trN (withoutB teN (withoutB clN l))=[]):Q3 121 (.v (vS t)) (.v (vB an)) (.v (vB hd)) (if msgB me ta (st:Nat) re ba (withoutB trN (withoutB teN (withoutB clN l))) (bodyR (t.drop a) k n).2=true then readE (.ok (me,ta,st,re,ba,withoutB trN (withoutB teN (withoutB clN l)),(bodyR (t.drop a) k n).2)) else readE (.error 431)):=by
 have hL:t.length≤9223372036854775807:=by omega
 obtain ⟨ha,hfl,b1,b2,b3⟩:=headR_ok h
 have hsm:=small_of hfl
 have x1:=c166 t an hl
 rw [h] at x1
 simp only [headD] at x1
 have x2:=c101 st
 have x3:=c167 l hsm an ba
 rw [hfr] at x3
 simp only [framD] at x3
 have hr:(t.drop a).length≤9223372036854775807:=by rw [List.length_drop]; omega
 have t1:(t.drop a).take (t.length-a)=t.drop a:=take_rest
 have x4:=c168 (t.drop a) (by rw [List.length_drop]; omega) k n hk4
 have hb9:=bodyR_len (t.drop a) k n
 generalize bodyR (t.drop a) k n=C at x4 h0 hb9 ⊢
 obtain ⟨c,bo⟩:=C
 simp only at h0 hb9
 subst h0
 simp only [chD] at x4
 have k1:=wo_ok clN hfl
 have k2:=wo_ok teN k1
 have k3:=wo_ok trN k2
 have x5:=c169 l hsm clN (by decide) hfl
 have x6:=c169 _ (small_of k1) teN (by decide) k1
 have x7:=c169 _ (small_of k2) trN (by decide) k2
 have x8:=c11 me ta st re ba (withoutB trN (withoutB teN (withoutB clN l))) bo (by omega) (by omega) (by omega) (by omega) (small_of k3)
 rw [n3] at x7 x8 ⊢
 rw [sd_own (rowsF_ne n1)] at x5
 rw [sd_own (rowsF_ne n2)] at x6
 generalize hmb:msgB me ta (st:Nat) re ba ([]) bo=mb at x8 ⊢
 have hok:readE (.ok (me,ta,st,re,ba,[],bo)) = .tup [mD me ta (st:Nat) re ba .nil bo,.v (vI 0)]:=rfl
 generalize rowsF (withoutB teN (withoutB clN l))=K2 at x6 x7
 generalize rowsF (withoutB clN l)=K1 at x5 x6
 rw [hok]
 clear hok hmb hsm hfl k1 k2 k3 n1 n2
 clear h hfr
 rcases hab with ⟨rfl,rfl⟩ | ⟨rfl,rfl,rfl⟩ | ⟨rfl,rfl,rfl⟩
 all_goals refine sb 3 [.ce 6 25,.tm 7] func121 ?_
 all_goals refine callf x1 fD_res ?_
 rotate_left 2
 refine call0 x2 ?_
 rotate_left 1
 all_goals refine call0 x3 ?_
 all_goals refine call0 x4 ?_
 all_goals refine call0 x5 ?_
 all_goals refine call0 x6 ?_
 all_goals refine call0 x7 ?_
 all_goals cases mb
 all_goals refine call0 x8 ?_
 all_goals exact fz
theorem c121p (hk4:k≤4) (h0:(bodyR (t.drop a) k n).1=0) (n1:withoutB clN l≠[]) (n2:withoutB teN (withoutB clN l)≠[]) (n3:withoutB trN (withoutB teN (withoutB clN l))≠[]):Q3 121 (.v (vS t)) (.v (vB an)) (.v (vB hd)) (if msgB me ta (st:Nat) re ba (withoutB trN (withoutB teN (withoutB clN l))) (bodyR (t.drop a) k n).2=true then readE (.ok (me,ta,st,re,ba,withoutB trN (withoutB teN (withoutB clN l)),(bodyR (t.drop a) k n).2)) else readE (.error 431)):=by
 have hL:t.length≤9223372036854775807:=by omega
 obtain ⟨ha,hfl,b1,b2,b3⟩:=headR_ok h
 have hsm:=small_of hfl
 have x1:=c166 t an hl
 rw [h] at x1
 simp only [headD] at x1
 have x2:=c101 st
 have x3:=c167 l hsm an ba
 rw [hfr] at x3
 simp only [framD] at x3
 have hr:(t.drop a).length≤9223372036854775807:=by rw [List.length_drop]; omega
 have t1:(t.drop a).take (t.length-a)=t.drop a:=take_rest
 have x4:=c168 (t.drop a) (by rw [List.length_drop]; omega) k n hk4
 have hb9:=bodyR_len (t.drop a) k n
 generalize bodyR (t.drop a) k n=C at x4 h0 hb9 ⊢
 obtain ⟨c,bo⟩:=C
 simp only at h0 hb9
 subst h0
 simp only [chD] at x4
 have k1:=wo_ok clN hfl
 have k2:=wo_ok teN k1
 have k3:=wo_ok trN k2
 have x5:=c169 l hsm clN (by decide) hfl
 have x6:=c169 _ (small_of k1) teN (by decide) k1
 have x7:=c169 _ (small_of k2) trN (by decide) k2
 have x8:=c11 me ta st re ba (withoutB trN (withoutB teN (withoutB clN l))) bo (by omega) (by omega) (by omega) (by omega) (small_of k3)
 rw [sd_own (rowsF_ne n1)] at x5
 rw [sd_own (rowsF_ne n2)] at x6
 have hsd:=sd_own (e:=105) (rowsF_ne n3)
 rw [hsd] at x7
 generalize hmb:msgB me ta (st:Nat) re ba (withoutB trN (withoutB teN (withoutB clN l))) bo=mb at x8 ⊢
 have hok:readE (.ok (me,ta,st,re,ba,withoutB trN (withoutB teN (withoutB clN l)),bo)) = .tup [mD me ta (st:Nat) re ba (.own 105 (rowsF (withoutB trN (withoutB teN (withoutB clN l))))) bo,.v (vI 0)]:=by show D.tup [mD me ta (st:Nat) re ba (sd 105 (rowsF (withoutB trN (withoutB teN (withoutB clN l))))) bo,.v (vI 0)]=_; rw [hsd]
 generalize rowsF (withoutB trN (withoutB teN (withoutB clN l)))=KL at x7 x8 hok
 clear hsd
 generalize rowsF (withoutB teN (withoutB clN l))=K2 at x6 x7
 generalize rowsF (withoutB clN l)=K1 at x5 x6
 rw [hok]
 clear hok hmb hsm hfl k1 k2 k3 n1 n2 n3
 clear h hfr
 rcases hab with ⟨rfl,rfl⟩ | ⟨rfl,rfl,rfl⟩ | ⟨rfl,rfl,rfl⟩
 all_goals refine sb 3 [.ce 6 25,.tm 7] func121 ?_
 all_goals refine callf x1 fD_res ?_
 rotate_left 2
 refine call0 x2 ?_
 rotate_left 1
 all_goals refine call0 x3 ?_
 all_goals refine call0 x4 ?_
 all_goals refine call0 x5 ?_
 all_goals refine call0 x6 ?_
 all_goals refine call0 x7 ?_
 all_goals cases mb
 all_goals refine call0 x8 ?_
 all_goals exact fz
end
theorem c121 (t:List UInt8) (hl:t.length≤1048576) (an hd:Bool):Q3 121 (.v (vS t)) (.v (vB an)) (.v (vB hd)) (readE (readR t an hd)):=by
 unfold readR
 cases h:headR t an with
 | error k=>exact c121e t hl an hd k (headR_code h) h
 | ok x =>
  obtain ⟨me,ta,st,re,a,l⟩:=x
  simp only
  have hab:=AB_of an hd (st:Nat)
  generalize (an&&(hd || bareB (st:Nat)))=ba at hab ⊢
  cases hfr:framR l an ba with
  | mk k n =>
  simp only
  have hk:=fram_le l an ba
  rw [hfr] at hk
  simp only at hk
  by_cases h0:(bodyR (t.drop a) k n).1=0
  ·rw [if_pos h0,←keep_wo]
   rw [apply_ite readE]
   by_cases n1:withoutB clN l=[]
   ·exact c121m t hl an hd me ta re st a l ba k n h hab hfr hk h0 n1
   ·by_cases n2:withoutB teN (withoutB clN l)=[]
    ·exact c121n t hl an hd me ta re st a l ba k n h hab hfr hk h0 n1 n2
    ·by_cases n3:withoutB trN (withoutB teN (withoutB clN l))=[]
     ·exact c121o t hl an hd me ta re st a l ba k n h hab hfr hk h0 n1 n2 n3
     ·exact c121p t hl an hd me ta re st a l ba k n h hab hfr hk h0 n1 n2 n3
  ·rw [if_neg h0]
   exact c121a t hl an hd me ta re st a l ba k n h hab hfr hk h0
def gs10_0:List (Option (List Nat)):=[some [8,9],some [8,9],some [6,7],some [6,7],none,none]
attribute [go_sem] gs10_0
def gs59_0:List (Option (List Nat)):=[some [8,9],some [8,9],some [6,7],some [6,7],none,none]
attribute [go_sem] gs59_0
attribute [local go_sem ↓ high] fD_mv fD_as fD_own fD_oi fD_mp fD_lf fD_rb fD_bn fD_ar fD_wb
attribute [local go_sem] sdF_nil rowsF_length
theorem fD_cl {α:Type} {l:List Fld} {k:D→List Lf→Rdr α}:coeLeaf 105 (fD l) k=k (.imm 105 (rowsF l)) []:=by cases l<;>rfl
attribute [local go_sem ↓ high] fD_cl
theorem fzi {cfg:Cfg} {ts:List RV} {E E0:Env} {r:D} {x:Go.Exit} (q:Lf) (hq:E.frz q=some E0:=by simp only [go_sem,Env.frz,frzB,reduceIte,reduceCtorEq,Nat.reduceEqDiff]; rfl) (he:x = .normal∨x = .ret:=by first | exact .inr rfl | exact .inl rfl) (hk:cfg.keep=fun _=>false:=by rfl) (hce:E0.ce.take cfg.np=List.replicate cfg.np none:=by rfl) (hok:shutOk cfg ts E0=true:=by rfl) (hr:shutR E0 ts=r:=by rfl) :
  Fin cfg ts ⟨List.replicate cfg.np .dead++[r],List.replicate cfg.np none⟩ x E:=by
 refine ⟨he,E0,.inr (.inr (.inr (.inl ⟨q,hq⟩))),hok,?_⟩
 unfold shut
 rw [hr,map_const_range cfg.np (shutP cfg.keep E0) .dead fun i _=>shutP_none hk,map_const_range cfg.np (fun i=>E0.ce.getD i none) none]
 intro i hi
 have:(E0.ce.take cfg.np)[i]? = some none:=by rw [hce,List.getElem?_replicate,if_pos hi]
 rw [List.getElem?_take_of_lt hi] at this
 rw [gDg,this]; rfl
def reqD:MR→D
 | .error k => .tup [mZ,.v (vI (k:Nat))]
 | .ok (me,ta,st,re,ba,l,bo) => .tup [mD me ta (st:Nat) re ba (fD l) bo,.v (vI 0)]
def wmT (me ta:List UInt8) (st:Int) (re:List UInt8) (ba:Bool) (l:List Fld) (bo:List UInt8):List UInt8:=if msgB me ta st re ba l bo=true then headT me ta st re ba l bo++bo else []
def canR (s:List UInt8):Option (List UInt8):=(readU s).map fun a=>urlT a.ho a.p a.pa a.q a.b
def canD:Option (List UInt8)→D
 | none => .tup [.v (vS []),.v (vB false)]
 | some u => .tup [.v (vS u),.v (vB true)]
theorem resU_none':resU none = .tup [zeroU,.v (vB false)]:=rfl
theorem resU_some' {a:Adr}:resU (some a) = .tup [urlD a.ho a.p a.pa a.q a.b,.v (vB true)]:=rfl
theorem ru_in {s:List UInt8} {a:Adr} (hs:s.length≤1048576) (h:readU s=some a):a.ho.length≤200∧a.p≤999999999999999∧a.pa.length≤100001∧a.q.length≤200∧urlB a.ho a.p a.pa a.q a.b=true:=by
 unfold readU at h
 split at h
 ·rename_i h0
  have hl:s.length≤200:=by
   unfold headB at h0
   simp only [Bool.and_eq_true,decide_eq_true_eq] at h0
   exact h0.1.1.1.1
  have hd:(s.drop 7).length≤200:=by rw [List.length_drop]; omega
  generalize s.drop 7=r at h hd
  split at h
  ·cases h
  ·rename_i p hp
   split at h
   ·rename_i hu
    injection h with h
    subst h
    refine ⟨?_,?_,path_len r,Nat.le_trans (query_le r) hd,hu⟩
    ·have h1:=upto_le 58 (authB r)
     have h2:=auth_le r
     simp only [hostR,foldB,List.length_map]; omega
    ·unfold portR at hp
     split at hp
     ·exact readD_le hp
     ·injection hp with hp; subst hp; exact (by decide:80≤999999999999999)
   ·cases h
 ·cases h
theorem msg_in {me ta re bo:List UInt8} {st:Int} {ba:Bool} {l:List Fld} (h:msgB me ta st re ba l bo=true):fieldsB l=true∧me.length≤20∧ta.length≤200∧re.length≤40∧(0≤st∧st≤999)∧bo.length≤600:=by
 unfold msgB at h
 simp only [Bool.and_eq_true,decide_eq_true_eq] at h
 obtain ⟨⟨⟨⟨⟨h1,_⟩,_⟩,h2⟩,h3⟩,_⟩:=h
 refine ⟨h1,?_⟩
 by_cases hm:me=[]
 ·subst hm
  rw [if_pos (by rfl)] at h3
  unfold answerB statusB inB reasonB at h3
  simp only [Bool.and_eq_true,decide_eq_true_eq,beq_iff_eq] at h3
  obtain ⟨⟨⟨⟨h4,h5⟩,h6⟩,_⟩,_⟩:=h3
  subst h4
  exact ⟨by simp,by simp,h6.1,⟨by omega,by omega⟩,h2⟩
 ·rw [if_neg (by simpa using hm)] at h3
  unfold requestB methodB targetB inB at h3
  simp only [Bool.and_eq_true,decide_eq_true_eq,beq_iff_eq] at h3
  obtain ⟨⟨⟨⟨h4,h5⟩,h6⟩,h7⟩,_⟩:=h3
  subst h6 h7
  exact ⟨h4.2,by omega,by simp,⟨by decide,by decide⟩,h2⟩
section
variable (s:List UInt8) (hs:s.length≤1048576)
include hs
theorem c13:Q1 13 (.v (vS s)) (reqD (readR s false false)):=by
 have x1:=c45 s hs false false
 cases hr:readR s false false with
 | error k =>
  rw [hr] at x1
  simp only [readE] at x1
  clear hr
  refine sb 1 [.ce 2 25,.tm 3] func13 ?_
  refine call0 x1 ?_
  exact fz
 | ok x =>
  obtain ⟨me,ta,st,re,ba,l,bo⟩:=x
  rw [hr] at x1
  simp only [readE] at x1
  clear hr
  by_cases h0:l=[]
  ·subst h0
   rw [sdF_nil] at x1
   refine sb 1 [.ce 2 25,.tm 3] func13 ?_
   refine call0 x1 ?_
   exact fz
  ·rw [sd_own (rowsF_ne h0)] at x1
   have hD:reqD (.ok (me,ta,st,re,ba,l,bo)) = .tup [mD me ta (st:Nat) re ba (.imm 105 (rowsF l)) bo,.v (vI 0)]:=by
    show D.tup [mD me ta (st:Nat) re ba (fD l) bo,.v (vI 0)]=_
    rw [fD_ne h0]
   rw [hD]
   clear h0 hD
   refine sb 1 [.ce 2 25,.tm 3] func13 ?_
   refine call0 x1 ?_
   exact fzi ⟨true,2,5⟩
theorem c58:Q1 58 (.v (vS s)) (reqD (readR s false false)):=by
 have x1:=c121 s hs false false
 cases hr:readR s false false with
 | error k =>
  rw [hr] at x1
  simp only [readE] at x1
  clear hr
  refine sb 1 [.ce 2 25,.tm 3] func58 ?_
  refine call0 x1 ?_
  exact fz
 | ok x =>
  obtain ⟨me,ta,st,re,ba,l,bo⟩:=x
  rw [hr] at x1
  simp only [readE] at x1
  clear hr
  by_cases h0:l=[]
  ·subst h0
   rw [sdF_nil] at x1
   refine sb 1 [.ce 2 25,.tm 3] func58 ?_
   refine call0 x1 ?_
   exact fz
  ·rw [sd_own (rowsF_ne h0)] at x1
   have hD:reqD (.ok (me,ta,st,re,ba,l,bo)) = .tup [mD me ta (st:Nat) re ba (.imm 105 (rowsF l)) bo,.v (vI 0)]:=by
    show D.tup [mD me ta (st:Nat) re ba (fD l) bo,.v (vI 0)]=_
    rw [fD_ne h0]
   rw [hD]
   clear h0 hD
   refine sb 1 [.ce 2 25,.tm 3] func58 ?_
   refine call0 x1 ?_
   exact fzi ⟨true,2,5⟩
theorem c15 (hd:Bool):Q2 15 (.v (vS s)) (.v (vB hd)) (reqD (readR s true hd)):=by
 have x1:=c45 s hs true hd
 cases hr:readR s true hd with
 | error k =>
  rw [hr] at x1
  simp only [readE] at x1
  clear hr
  refine sb 2 [.ce 4 25,.tm 5] func15 ?_
  refine call0 x1 ?_
  exact fz
 | ok x =>
  obtain ⟨me,ta,st,re,ba,l,bo⟩:=x
  rw [hr] at x1
  simp only [readE] at x1
  clear hr
  by_cases h0:l=[]
  ·subst h0
   rw [sdF_nil] at x1
   refine sb 2 [.ce 4 25,.tm 5] func15 ?_
   refine call0 x1 ?_
   exact fz
  ·rw [sd_own (rowsF_ne h0)] at x1
   have hD:reqD (.ok (me,ta,st,re,ba,l,bo)) = .tup [mD me ta (st:Nat) re ba (.imm 105 (rowsF l)) bo,.v (vI 0)]:=by
    show D.tup [mD me ta (st:Nat) re ba (fD l) bo,.v (vI 0)]=_
    rw [fD_ne h0]
   rw [hD]
   clear h0 hD
   refine sb 2 [.ce 4 25,.tm 5] func15 ?_
   refine call0 x1 ?_
   exact fzi ⟨true,4,5⟩
theorem c171 (hd:Bool):Q2 171 (.v (vS s)) (.v (vB hd)) (reqD (readR s true hd)):=by
 have x1:=c121 s hs true hd
 cases hr:readR s true hd with
 | error k =>
  rw [hr] at x1
  simp only [readE] at x1
  clear hr
  refine sb 2 [.ce 4 25,.tm 5] func171 ?_
  refine call0 x1 ?_
  exact fz
 | ok x =>
  obtain ⟨me,ta,st,re,ba,l,bo⟩:=x
  rw [hr] at x1
  simp only [readE] at x1
  clear hr
  by_cases h0:l=[]
  ·subst h0
   rw [sdF_nil] at x1
   refine sb 2 [.ce 4 25,.tm 5] func171 ?_
   refine call0 x1 ?_
   exact fz
  ·rw [sd_own (rowsF_ne h0)] at x1
   have hD:reqD (.ok (me,ta,st,re,ba,l,bo)) = .tup [mD me ta (st:Nat) re ba (.imm 105 (rowsF l)) bo,.v (vI 0)]:=by
    show D.tup [mD me ta (st:Nat) re ba (fD l) bo,.v (vI 0)]=_
    rw [fD_ne h0]
   rw [hD]
   clear h0 hD
   refine sb 2 [.ce 4 25,.tm 5] func171 ?_
   refine call0 x1 ?_
   exact fzi ⟨true,4,5⟩
theorem c66:Q1 66 (.v (vS s)) (canD (canR s)):=by
 have x1:=c71 s hs
 unfold canR
 cases hr:readU s with
 | none =>
  rw [hr,resU_none'] at x1
  clear hr
  refine sb 1 [.tm 2,.tm 3] func66 ?_
  refine call0 x1 ?_
  exact fz
 | some a =>
  obtain ⟨b1,b2,b3,b4,b5⟩:=ru_in hs hr
  rw [hr,resU_some'] at x1
  have x2:=c126 a.ho a.p a.pa a.q a.b (by omega) b2 (by omega) (by omega)
  clear hr b5
  refine sb 1 [.tm 2,.tm 3] func66 ?_
  refine call0 x1 ?_
  refine call0 x2 ?_
  exact fz
theorem c61:Q1 61 (.v (vS s)) (canD (canR s)):=by
 have x1:=c69 s hs
 unfold canR
 cases hr:readU s with
 | none =>
  rw [hr,resU_none'] at x1
  clear hr
  refine sb 1 [.tm 2,.tm 3] func61 ?_
  refine call0 x1 ?_
  exact fz
 | some a =>
  obtain ⟨b1,b2,b3,b4,b5⟩:=ru_in hs hr
  rw [hr,resU_some'] at x1
  have x2:=c123 a.ho a.p a.pa a.q a.b (by omega) b2 (by omega) (by omega) b5
  clear hr b5
  refine sb 1 [.tm 2,.tm 3] func61 ?_
  refine call0 x1 ?_
  refine call0 x2 ?_
  exact fz
end
theorem msg_head {me ta re bo:List UInt8} {st:Int} {ba:Bool} {l:List Fld} (h:msgB me ta st re ba l bo=true):(headT me ta st re ba l bo).length≤1500:=by
 unfold msgB at h
 simp only [Bool.and_eq_true,decide_eq_true_eq] at h
 have:=h.2
 omega
theorem c10 (me ta:List UInt8) (st:Int) (re:List UInt8) (ba:Bool) (l:List Fld) (bo:List UInt8) (h1:me.length≤1048576) (h2:ta.length≤1048576) (h3:re.length≤1048576) (h4:bo.length≤1048576) (hl:Small l):Q1 10 (mD me ta st re ba (.imm 105 (rowsF l)) bo) (.v (vS (wmT me ta st re ba l bo))):=by
 have x1:=c36 c37 me ta st re ba l bo (by omega) (by omega) (by omega) (by omega) hl
 unfold wmT
 cases hm:msgB me ta st re ba l bo with
 | false =>
  rw [hm] at x1
  rw [if_neg (by simp)]
  clear hm
  refine sb 1 [.tm 2] func10 ?_
  refine call0 x1 ?_
  exact fz
 | true =>
  rw [hm] at x1
  rw [if_pos rfl]
  obtain ⟨g1,g2,g3,g4,g5,g6⟩:=msg_in hm
  obtain ⟨n,rfl⟩:∃ n:Nat,st=n:=⟨st.toNat,by omega⟩
  have x2:=c37 me ta n re ba l bo hl g1 g2 g3 g4 (by omega) g6
  have g7:(headT me ta (n:Nat) re ba l bo).length+bo.length≤9223372036854775807:=by
   have:=msg_head hm
   omega
  clear hm g1
  refine sb 1 [.tm 2] func10 ?_
  refine call0 x1 ?_
  refine draw_new gs10_0 mixedOk (by kernel_rfl) ?_
  refine Z ?_
  refine drawn0 x2 ?_
  refine Z ?_
  exact fz
theorem c59 (me ta:List UInt8) (st:Int) (re:List UInt8) (ba:Bool) (l:List Fld) (bo:List UInt8) (h1:me.length≤1048576) (h2:ta.length≤1048576) (h3:re.length≤1048576) (h4:bo.length≤1048576) (hl:Small l):Q1 59 (mD me ta st re ba (.imm 105 (rowsF l)) bo) (.v (vS (wmT me ta st re ba l bo))):=by
 have x1:=c11 me ta st re ba l bo (by omega) (by omega) (by omega) (by omega) hl
 unfold wmT
 cases hm:msgB me ta st re ba l bo with
 | false =>
  rw [hm] at x1
  rw [if_neg (by simp)]
  clear hm
  refine sb 1 [.tm 2] func59 ?_
  refine call0 x1 ?_
  exact fz
 | true =>
  rw [hm] at x1
  rw [if_pos rfl]
  obtain ⟨g1,g2,g3,g4,g5,g6⟩:=msg_in hm
  obtain ⟨n,rfl⟩:∃ n:Nat,st=n:=⟨st.toNat,by omega⟩
  have x2:=c42 me ta n re ba l bo hl g1 g2 g3 g4 (by omega) g6
  have g7:(headT me ta (n:Nat) re ba l bo).length+bo.length≤9223372036854775807:=by
   have:=msg_head hm
   omega
  clear hm g1
  refine sb 1 [.tm 2] func59 ?_
  refine call0 x1 ?_
  refine draw_new gs59_0 mixedOk (by kernel_rfl) ?_
  refine Z ?_
  refine drawn0 x2 ?_
  refine Z ?_
  exact fz
def gs68_0:List (Option (List Nat)):=[none,none,none,none,none,none,none,some [68,69],some [67],some [67],none,none,none,some [75,76],some [75,76],some [73,74],some [73,74],none,none]
attribute [go_sem] gs68_0
def gs68_1:List (Option (List Nat)):=[some [82],some [81,2],some [82],none,none]
attribute [go_sem] gs68_1
def gs124_0:List (Option (List Nat)):=[none,none,none,some [79,80],some [79,80],some [77,78],some [77,78],none,none]
attribute [go_sem] gs124_0
def gs124_1:List (Option (List Nat)):=[some [86],some [85,2],some [86],none,none]
attribute [go_sem] gs124_1
attribute [local go_sem ↓ high] fD_mv fD_as fD_own fD_oi fD_mp fD_lf fD_rb fD_bn fD_ar fD_wb fD_cl
def timeB (n:Int):Bool:=inB 0 253402300799 n
def sideB (n:Int):Bool:=(n==0) || (n==1)
theorem c127 (n:Int):Q1 127 (.v (vI n)) (.v (vB (sideB n))):=by
 unfold sideB
 cases h:n==0 with
 | true =>
  refine sb 1 [.tm 2] func127 ?_
  exact fz
 | false =>
  refine sb 1 [.tm 2] func127 ?_
  exact fz
theorem c67 (n:Int):Q1 67 (.v (vI n)) (.v (vB (timeB n))):=by
 have x1:=c116 n 0 253402300799
 refine sb 1 [.tm 2] func67 ?_
 refine call0 x1 ?_
 exact fz
theorem c62 (n:Int):Q1 62 (.v (vI n)) (.v (vB (timeB n))):=by
 unfold timeB inB
 by_cases h:0≤n
 ·refine sb 1 [.tm 2] func62 ?_
  refine fq ?_
  simp [shutR,shutD,h]
 ·refine sb 1 [.tm 2] func62 ?_
  refine fq ?_
  simp [shutR,shutD,h]
structure Ex where
 sd:Int
 aq:Int
 at':Int
 ur:List UInt8
 rq:List UInt8
 an:List UInt8
def headN:List UInt8:=[72,69,65,68]
abbrev exD (e:Ex):D := .agg [.v (vI e.sd),.v (vI e.aq),.v (vI e.at'),.v (vS e.ur),.v (vS e.rq),.v (vS e.an)]
def preB (e:Ex):Bool:=sideB e.sd&&timeB e.aq&&timeB e.at' && !decide (e.at'<e.aq)
def exB (e:Ex):Bool:=preB e&&match readR e.rq false false with
 | .error _=>false
 | .ok (me,ta,_,_,_,_,_)=>match canR ta with
  | none=>false
  | some u=>(u==e.ur)&&match readR e.an true (me==headN) with
   | .error _=>false
   | .ok (me2,ta2,st2,re2,ba2,l2,bo2)=>wmT me2 ta2 (st2:Nat) re2 ba2 l2 bo2==e.an
abbrev no3:D := .tup [mZ,mZ,.v (vB false)]
theorem readR_in {t:List UInt8} {an hd ba:Bool} {me ta re bo:List UInt8} {st:Nat} {l:List Fld} (h:readR t an hd = .ok (me,ta,st,re,ba,l,bo)):me.length≤20∧ta.length≤200∧re.length≤40∧bo.length≤600∧Small l:=by
 unfold readR at h
 cases hh:headR t an with
 | error k=>rw [hh] at h; cases h
 | ok x =>
  obtain ⟨me',ta',st',re',a,l'⟩:=x
  rw [hh] at h
  simp only at h
  split at h
  ·split at h
   ·rename_i hm
    injection h with h
    injection h with h1 h
    injection h with h2 h
    injection h with h3 h
    injection h with h4 h
    injection h with h5 h
    injection h with h6 h7
    subst h1 h2 h3 h4 h5 h6 h7
    obtain ⟨g1,g2,g3,g4,g5,g6⟩:=msg_in hm
    exact ⟨g2,g3,g4,g6,small_of g1⟩
   ·cases h
  ·cases h
theorem readR_code {t:List UInt8} {an hd:Bool} {k:Nat} (h:readR t an hd = .error k):((k:Int) != 0)=true:=by
 rw [bne_iff_ne]
 unfold readR at h
 cases hh:headR t an with
 | error j =>
  rw [hh] at h
  injection h with h
  have:=headR_code hh
  omega
 | ok x =>
  obtain ⟨me',ta',st',re',a,l'⟩:=x
  rw [hh] at h
  simp only at h
  split at h
  ·split at h
   ·cases h
   ·injection h with h; omega
  ·injection h with h; rename_i h0; omega
theorem drZ {cfg:Cfg} {l:List Oper} {E:Env} {K:Env→Prop} {q:Prop} (fs:List (Option (List Nat))) (x:q) (e:pHeadN prog cfg l (l.zip fs) E K=q:=by simp only [go_sem,Nat.reduceLeDiff,Nat.reduceLT,Nat.reduceAdd,Nat.reduceSub,Nat.reduceMul,Nat.reduceBEq,Nat.reduceBNe,Nat.reduceEqDiff,reduceCtorEq,reduceIte,Int.reduceLT,Int.reduceLE,Int.reduceAdd,Int.reduceSub,Int.reduceNeg,Int.reduceEq,Int.reduceBEq,Int.reduceBNe,Int.reduceToNat,Nat.reduceDiv,Nat.reduceMod, *]; rfl) (hok:drawN l fs=true:=by kernel_rfl):pDraw prog cfg l E K:=draw_new fs mixedOk hok (Eq.mpr e x)
theorem side_no {n:Int} (h:sideB n=false):(n != 0)=true∧(n != 1)=true:=by
 unfold sideB at h
 rw [Bool.or_eq_false_iff] at h
 exact ⟨by rw [bne,h.1]; rfl,by rw [bne,h.2]; rfl⟩
theorem side_or {n:Int} (h:sideB n=true):(n != 0)=false∨((n != 0)=true∧(n != 1)=false):=by
 unfold sideB at h
 rw [Bool.or_eq_true] at h
 cases h0:n==0 with
 | true=>exact .inl (by rw [bne,h0]; rfl)
 | false =>
  rw [h0] at h
  rcases h with h | h
  ·cases h
  ·exact .inr ⟨by rw [bne,h0]; rfl,by rw [bne,h]; rfl⟩
theorem fD_re1 {me ta re bo:List UInt8} {st:Int} {ba:Bool} {l:List Fld} {a:Value}:D.anyL (fun d => !d.resLeaf) (.tup [mD me ta st re ba (fD l) bo,.v a])=false:=by cases l<;>rfl
theorem callr {P:Program} {K:Env→Prop} {E:Env} {f:FuncId} {a0 d0 r:D} {ce cl:List (Option (List D))} {t:Nat} {q:Prop} (h:Sem P f ⟨[a0],ce⟩ ⟨[d0,r],cl⟩) (h3:r.anyL (fun d => !d.resLeaf)=false) (x:q)
  (e:K (E.app [.ca [] [] [],.rw t r])=q:=by simp only [go_sem,Nat.reduceLeDiff,Nat.reduceLT,Nat.reduceAdd,Nat.reduceSub,Nat.reduceMul,Nat.reduceBEq,Nat.reduceBNe,Nat.reduceEqDiff,reduceCtorEq,reduceIte,Int.reduceLT,Int.reduceLE,Int.reduceAdd,Int.reduceSub,Int.reduceNeg,Int.reduceEq,Int.reduceBEq,Int.reduceBNe,Int.reduceToNat,Nat.reduceDiv,Nat.reduceMod, *]; rfl):Done P K E (.call f ⟨[a0],ce⟩ (retW ⟨[a0],ce,[],[],[],[]⟩ (some t))):=by
 cases h4:r.anyL D.isImm
 ·exact ev_call h (retW0 rfl rfl h3 h4) (e▸x)
 ·exact ev_call (ws:=[.fz [],.ca [] [] [],.rw t r]) h (retWi rfl rfl h3 h4) (by have e2:K (E.app [.fz [],.ca [] [] [],.rw t r])=q:=e; exact e2▸x)
theorem c68a (e:Ex) (p:sideB e.sd=false):Q1 68 (exD e) no3:=by
 have t1:=c127 e.sd
 rw [p] at t1
 refine sb 1 [.ce 2 25,.ce 3 25,.tm 4] func68 ?_
 refine call0 t1 ?_
 exact fz
theorem c68b (e:Ex) (p:sideB e.sd=true) (q:timeB e.aq=false):Q1 68 (exD e) no3:=by
 have t1:=c127 e.sd
 have t2:=c67 e.aq
 rw [p] at t1
 rw [q] at t2
 refine sb 1 [.ce 2 25,.ce 3 25,.tm 4] func68 ?_
 refine call0 t1 ?_
 refine call0 t2 ?_
 exact fz
theorem c68c (e:Ex) (p:sideB e.sd=true) (q:timeB e.aq=true) (r:timeB e.at'=false):Q1 68 (exD e) no3:=by
 have t1:=c127 e.sd
 have t2:=c67 e.aq
 have t3:=c67 e.at'
 rw [p] at t1
 rw [q] at t2
 rw [r] at t3
 refine sb 1 [.ce 2 25,.ce 3 25,.tm 4] func68 ?_
 refine call0 t1 ?_
 refine call0 t2 ?_
 refine call0 t3 ?_
 exact fz
theorem c68d (e:Ex) (p:sideB e.sd=true) (q:timeB e.aq=true) (r:timeB e.at'=true) (s:e.at'<e.aq):Q1 68 (exD e) no3:=by
 have t1:=c127 e.sd
 have t2:=c67 e.aq
 have t3:=c67 e.at'
 rw [p] at t1
 rw [q] at t2
 rw [r] at t3
 refine sb 1 [.ce 2 25,.ce 3 25,.tm 4] func68 ?_
 refine call0 t1 ?_
 refine call0 t2 ?_
 refine call0 t3 ?_
 exact fz
theorem c68e (e:Ex) (h2:e.rq.length≤1048576) (p:preB e=true) (k:Nat) (g:readR e.rq false false = .error k):Q1 68 (exD e) no3:=by
 unfold preB at p
 simp only [Bool.and_eq_true,Bool.not_eq_true',decide_eq_false_iff_not] at p
 obtain ⟨⟨⟨p,q⟩,r⟩,s⟩:=p
 have t1:=c127 e.sd
 have t2:=c67 e.aq
 have t3:=c67 e.at'
 rw [p] at t1
 rw [q] at t2
 rw [r] at t3
 have x1:=c13 e.rq h2
 rw [g] at x1
 simp only [reqD] at x1
 have g1:=readR_code g
 clear g
 refine sb 1 [.ce 2 25,.ce 3 25,.tm 4] func68 ?_
 refine call0 t1 ?_
 refine call0 t2 ?_
 refine call0 t3 ?_
 refine call0 x1 ?_
 exact fz
theorem c68f (e:Ex) (h2:e.rq.length≤1048576) (h3:e.an.length≤1048576) (p:preB e=true) (me ta:List UInt8) (st:Nat) (re:List UInt8) (ba:Bool) (l:List Fld) (bo:List UInt8) (g:readR e.rq false false = .ok (me,ta,st,re,ba,l,bo)) (k:Nat) (f:readR e.an true (me==headN) = .error k) (c:canR ta=none):Q1 68 (exD e) no3:=by
 unfold preB at p
 simp only [Bool.and_eq_true,Bool.not_eq_true',decide_eq_false_iff_not] at p
 obtain ⟨⟨⟨p,q⟩,r⟩,s⟩:=p
 have t1:=c127 e.sd
 have t2:=c67 e.aq
 have t3:=c67 e.at'
 rw [p] at t1
 rw [q] at t2
 rw [r] at t3
 have x1:=c13 e.rq h2
 rw [g] at x1
 simp only [reqD] at x1
 obtain ⟨b1,b2,b3,b4,b5⟩:=readR_in g
 have x2:=c15 e.an h3 (me==headN)
 have x3:=c66 ta (by omega)
 rw [f] at x2
 simp only [reqD] at x2
 have f1:=readR_code f
 rw [c] at x3
 simp only [canD] at x3
 clear g f c
 refine sb 1 [.ce 2 25,.ce 3 25,.tm 4] func68 ?_
 refine call0 t1 ?_
 refine call0 t2 ?_
 refine call0 t3 ?_
 refine callr x1 fD_re1 ?_
 refine call0 x2 ?_
 refine call0 x3 ?_
 refine drZ gs68_0 ?_
 exact fz
theorem c68f2 (e:Ex) (h2:e.rq.length≤1048576) (h3:e.an.length≤1048576) (p:preB e=true) (me ta:List UInt8) (st:Nat) (re:List UInt8) (ba:Bool) (l:List Fld) (bo:List UInt8) (g:readR e.rq false false = .ok (me,ta,st,re,ba,l,bo)) (k:Nat) (f:readR e.an true (me==headN) = .error k) (u:List UInt8) (c:canR ta=some u):Q1 68 (exD e) no3:=by
 unfold preB at p
 simp only [Bool.and_eq_true,Bool.not_eq_true',decide_eq_false_iff_not] at p
 obtain ⟨⟨⟨p,q⟩,r⟩,s⟩:=p
 have t1:=c127 e.sd
 have t2:=c67 e.aq
 have t3:=c67 e.at'
 rw [p] at t1
 rw [q] at t2
 rw [r] at t3
 have x1:=c13 e.rq h2
 rw [g] at x1
 simp only [reqD] at x1
 obtain ⟨b1,b2,b3,b4,b5⟩:=readR_in g
 have x2:=c15 e.an h3 (me==headN)
 have x3:=c66 ta (by omega)
 rw [f] at x2
 simp only [reqD] at x2
 have f1:=readR_code f
 rw [c] at x3
 simp only [canD] at x3
 clear g f c
 refine sb 1 [.ce 2 25,.ce 3 25,.tm 4] func68 ?_
 refine call0 t1 ?_
 refine call0 t2 ?_
 refine call0 t3 ?_
 refine callr x1 fD_re1 ?_
 refine call0 x2 ?_
 refine call0 x3 ?_
 refine drZ gs68_0 ?_
 exact fz
theorem c68g (e:Ex) (h2:e.rq.length≤1048576) (h3:e.an.length≤1048576) (p:preB e=true) (me ta:List UInt8) (st:Nat) (re:List UInt8) (ba:Bool) (l:List Fld) (bo:List UInt8) (g:readR e.rq false false = .ok (me,ta,st,re,ba,l,bo)) (me2 ta2:List UInt8) (st2:Nat) (re2:List UInt8) (ba2:Bool) (l2:List Fld) (bo2:List UInt8) (f:readR e.an true (me==headN) = .ok (me2,ta2,st2,re2,ba2,l2,bo2)) (c:canR ta=none):Q1 68 (exD e) no3:=by
 unfold preB at p
 simp only [Bool.and_eq_true,Bool.not_eq_true',decide_eq_false_iff_not] at p
 obtain ⟨⟨⟨p,q⟩,r⟩,s⟩:=p
 have t1:=c127 e.sd
 have t2:=c67 e.aq
 have t3:=c67 e.at'
 rw [p] at t1
 rw [q] at t2
 rw [r] at t3
 have x1:=c13 e.rq h2
 rw [g] at x1
 simp only [reqD] at x1
 obtain ⟨b1,b2,b3,b4,b5⟩:=readR_in g
 have x2:=c15 e.an h3 (me==headN)
 have x3:=c66 ta (by omega)
 rw [f] at x2
 simp only [reqD] at x2
 obtain ⟨d1,d2,d3,d4,d5⟩:=readR_in f
 have x4:=c10 me2 ta2 (st2:Nat) re2 ba2 l2 bo2 (by omega) (by omega) (by omega) (by omega) d5
 rw [c] at x3
 simp only [canD] at x3
 clear g f c
 refine sb 1 [.ce 2 25,.ce 3 25,.tm 4] func68 ?_
 refine call0 t1 ?_
 refine call0 t2 ?_
 refine call0 t3 ?_
 refine callr x1 fD_re1 ?_
 refine callf x2 fD_re1 ?_
 refine call0 x3 ?_
 refine drZ gs68_0 ?_
 exact fz
theorem c68h (e:Ex) (h2:e.rq.length≤1048576) (h3:e.an.length≤1048576) (p:preB e=true) (me ta:List UInt8) (st:Nat) (re:List UInt8) (ba:Bool) (l:List Fld) (bo:List UInt8) (g:readR e.rq false false = .ok (me,ta,st,re,ba,l,bo)) (me2 ta2:List UInt8) (st2:Nat) (re2:List UInt8) (ba2:Bool) (l2:List Fld) (bo2:List UInt8) (f:readR e.an true (me==headN) = .ok (me2,ta2,st2,re2,ba2,l2,bo2)) (u:List UInt8) (c:canR ta=some u) (y:(u==e.ur)=false):Q1 68 (exD e) no3:=by
 unfold preB at p
 simp only [Bool.and_eq_true,Bool.not_eq_true',decide_eq_false_iff_not] at p
 obtain ⟨⟨⟨p,q⟩,r⟩,s⟩:=p
 have t1:=c127 e.sd
 have t2:=c67 e.aq
 have t3:=c67 e.at'
 rw [p] at t1
 rw [q] at t2
 rw [r] at t3
 have x1:=c13 e.rq h2
 rw [g] at x1
 simp only [reqD] at x1
 obtain ⟨b1,b2,b3,b4,b5⟩:=readR_in g
 have x2:=c15 e.an h3 (me==headN)
 have x3:=c66 ta (by omega)
 rw [f] at x2
 simp only [reqD] at x2
 obtain ⟨d1,d2,d3,d4,d5⟩:=readR_in f
 have x4:=c10 me2 ta2 (st2:Nat) re2 ba2 l2 bo2 (by omega) (by omega) (by omega) (by omega) d5
 rw [c] at x3
 simp only [canD] at x3
 clear g f c
 refine sb 1 [.ce 2 25,.ce 3 25,.tm 4] func68 ?_
 refine call0 t1 ?_
 refine call0 t2 ?_
 refine call0 t3 ?_
 refine callr x1 fD_re1 ?_
 refine callf x2 fD_re1 ?_
 refine call0 x3 ?_
 refine drZ gs68_0 ?_
 exact fz
theorem c68i (e:Ex) (h2:e.rq.length≤1048576) (h3:e.an.length≤1048576) (p:preB e=true) (me ta:List UInt8) (st:Nat) (re:List UInt8) (ba:Bool) (l:List Fld) (bo:List UInt8) (g:readR e.rq false false = .ok (me,ta,st,re,ba,l,bo)) (me2 ta2:List UInt8) (st2:Nat) (re2:List UInt8) (ba2:Bool) (l2:List Fld) (bo2:List UInt8) (f:readR e.an true (me==headN) = .ok (me2,ta2,st2,re2,ba2,l2,bo2)) (u:List UInt8) (c:canR ta=some u) (y:(u==e.ur)=true) (z:(wmT me2 ta2 (st2:Nat) re2 ba2 l2 bo2==e.an)=false):Q1 68 (exD e) no3:=by
 unfold preB at p
 simp only [Bool.and_eq_true,Bool.not_eq_true',decide_eq_false_iff_not] at p
 obtain ⟨⟨⟨p,q⟩,r⟩,s⟩:=p
 have t1:=c127 e.sd
 have t2:=c67 e.aq
 have t3:=c67 e.at'
 rw [p] at t1
 rw [q] at t2
 rw [r] at t3
 have x1:=c13 e.rq h2
 rw [g] at x1
 simp only [reqD] at x1
 obtain ⟨b1,b2,b3,b4,b5⟩:=readR_in g
 have x2:=c15 e.an h3 (me==headN)
 have x3:=c66 ta (by omega)
 rw [f] at x2
 simp only [reqD] at x2
 obtain ⟨d1,d2,d3,d4,d5⟩:=readR_in f
 have x4:=c10 me2 ta2 (st2:Nat) re2 ba2 l2 bo2 (by omega) (by omega) (by omega) (by omega) d5
 rw [c] at x3
 simp only [canD] at x3
 clear g f c
 refine sb 1 [.ce 2 25,.ce 3 25,.tm 4] func68 ?_
 refine call0 t1 ?_
 refine call0 t2 ?_
 refine call0 t3 ?_
 refine callr x1 fD_re1 ?_
 refine callf x2 fD_re1 ?_
 refine call0 x3 ?_
 refine drZ gs68_0 ?_
 refine drawn0 x4 ?_
 exact fz
theorem c68j (e:Ex) (h2:e.rq.length≤1048576) (h3:e.an.length≤1048576) (p:preB e=true) (me ta:List UInt8) (st:Nat) (re:List UInt8) (ba:Bool) (l:List Fld) (bo:List UInt8) (g:readR e.rq false false = .ok (me,ta,st,re,ba,l,bo)) (me2 ta2:List UInt8) (st2:Nat) (re2:List UInt8) (ba2:Bool) (l2:List Fld) (bo2:List UInt8) (f:readR e.an true (me==headN) = .ok (me2,ta2,st2,re2,ba2,l2,bo2)) (u:List UInt8) (c:canR ta=some u) (y:(u==e.ur)=true) (z:(wmT me2 ta2 (st2:Nat) re2 ba2 l2 bo2==e.an)=true):Q1 68 (exD e) (.tup [mD me ta (st:Nat) re ba (fD l) bo,mD me2 ta2 (st2:Nat) re2 ba2 (fD l2) bo2,.v (vB true)]):=by
 unfold preB at p
 simp only [Bool.and_eq_true,Bool.not_eq_true',decide_eq_false_iff_not] at p
 obtain ⟨⟨⟨p,q⟩,r⟩,s⟩:=p
 have t1:=c127 e.sd
 have t2:=c67 e.aq
 have t3:=c67 e.at'
 rw [p] at t1
 rw [q] at t2
 rw [r] at t3
 have x1:=c13 e.rq h2
 rw [g] at x1
 simp only [reqD] at x1
 obtain ⟨b1,b2,b3,b4,b5⟩:=readR_in g
 have x2:=c15 e.an h3 (me==headN)
 have x3:=c66 ta (by omega)
 rw [f] at x2
 simp only [reqD] at x2
 obtain ⟨d1,d2,d3,d4,d5⟩:=readR_in f
 have x4:=c10 me2 ta2 (st2:Nat) re2 ba2 l2 bo2 (by omega) (by omega) (by omega) (by omega) d5
 rw [c] at x3
 simp only [canD] at x3
 clear g f c
 refine sb 1 [.ce 2 25,.ce 3 25,.tm 4] func68 ?_
 refine call0 t1 ?_
 refine call0 t2 ?_
 refine call0 t3 ?_
 refine callr x1 fD_re1 ?_
 refine callf x2 fD_re1 ?_
 refine call0 x3 ?_
 refine drZ gs68_0 ?_
 refine drawn0 x4 ?_
 refine drZ gs68_1 ?_
 exact fz (hok:=by cases l<;>cases l2<;>rfl)
theorem c124a (e:Ex) (p:sideB e.sd=false):Q1 124 (exD e) no3:=by
 obtain ⟨p1,p2⟩:=side_no p
 clear p
 refine sb 1 [.ce 2 25,.ce 3 25,.tm 4] func124 ?_
 exact fz
theorem c124b (e:Ex) (p:sideB e.sd=true) (q:timeB e.aq=false):Q1 124 (exD e) no3:=by
 have t2:=c62 e.aq
 rw [q] at t2
 rcases side_or p with p1 | ⟨p1,p2⟩
 all_goals clear p
 all_goals refine sb 1 [.ce 2 25,.ce 3 25,.tm 4] func124 ?_
 all_goals refine call0 t2 ?_
 all_goals exact fz
theorem c124c (e:Ex) (p:sideB e.sd=true) (q:timeB e.aq=true) (r:timeB e.at'=false):Q1 124 (exD e) no3:=by
 have t2:=c62 e.aq
 have t3:=c62 e.at'
 rw [q] at t2
 rw [r] at t3
 rcases side_or p with p1 | ⟨p1,p2⟩
 all_goals clear p
 all_goals refine sb 1 [.ce 2 25,.ce 3 25,.tm 4] func124 ?_
 all_goals refine call0 t2 ?_
 all_goals refine call0 t3 ?_
 all_goals exact fz
theorem c124d (e:Ex) (p:sideB e.sd=true) (q:timeB e.aq=true) (r:timeB e.at'=true) (s:e.at'<e.aq):Q1 124 (exD e) no3:=by
 have t2:=c62 e.aq
 have t3:=c62 e.at'
 rw [q] at t2
 rw [r] at t3
 rcases side_or p with p1 | ⟨p1,p2⟩
 all_goals clear p
 all_goals refine sb 1 [.ce 2 25,.ce 3 25,.tm 4] func124 ?_
 all_goals refine call0 t2 ?_
 all_goals refine call0 t3 ?_
 all_goals exact fz
theorem c124e (e:Ex) (h2:e.rq.length≤1048576) (p:preB e=true) (k:Nat) (g:readR e.rq false false = .error k):Q1 124 (exD e) no3:=by
 unfold preB at p
 simp only [Bool.and_eq_true,Bool.not_eq_true',decide_eq_false_iff_not] at p
 obtain ⟨⟨⟨p,q⟩,r⟩,s⟩:=p
 have t2:=c62 e.aq
 have t3:=c62 e.at'
 rw [q] at t2
 rw [r] at t3
 have x1:=c58 e.rq h2
 rw [g] at x1
 simp only [reqD] at x1
 have g1:=readR_code g
 clear g
 rcases side_or p with p1 | ⟨p1,p2⟩
 all_goals clear p
 all_goals refine sb 1 [.ce 2 25,.ce 3 25,.tm 4] func124 ?_
 all_goals refine call0 t2 ?_
 all_goals refine call0 t3 ?_
 all_goals refine call0 x1 ?_
 all_goals exact fz
theorem c124g (e:Ex) (h2:e.rq.length≤1048576) (h3:e.an.length≤1048576) (p:preB e=true) (me ta:List UInt8) (st:Nat) (re:List UInt8) (ba:Bool) (l:List Fld) (bo:List UInt8) (g:readR e.rq false false = .ok (me,ta,st,re,ba,l,bo)) (c:canR ta=none):Q1 124 (exD e) no3:=by
 unfold preB at p
 simp only [Bool.and_eq_true,Bool.not_eq_true',decide_eq_false_iff_not] at p
 obtain ⟨⟨⟨p,q⟩,r⟩,s⟩:=p
 have t2:=c62 e.aq
 have t3:=c62 e.at'
 rw [q] at t2
 rw [r] at t3
 have x1:=c58 e.rq h2
 rw [g] at x1
 simp only [reqD] at x1
 obtain ⟨b1,b2,b3,b4,b5⟩:=readR_in g
 have x2:=c171 e.an h3 (me==headN)
 have x3:=c61 ta (by omega)
 rw [c] at x3
 simp only [canD] at x3
 clear g c
 rcases side_or p with p1 | ⟨p1,p2⟩
 all_goals clear p
 all_goals refine sb 1 [.ce 2 25,.ce 3 25,.tm 4] func124 ?_
 all_goals refine call0 t2 ?_
 all_goals refine call0 t3 ?_
 all_goals refine callr x1 fD_re1 ?_
 all_goals refine call0 x3 ?_
 all_goals exact fz
theorem c124h (e:Ex) (h2:e.rq.length≤1048576) (h3:e.an.length≤1048576) (p:preB e=true) (me ta:List UInt8) (st:Nat) (re:List UInt8) (ba:Bool) (l:List Fld) (bo:List UInt8) (g:readR e.rq false false = .ok (me,ta,st,re,ba,l,bo)) (u:List UInt8) (c:canR ta=some u) (y:(u==e.ur)=false):Q1 124 (exD e) no3:=by
 unfold preB at p
 simp only [Bool.and_eq_true,Bool.not_eq_true',decide_eq_false_iff_not] at p
 obtain ⟨⟨⟨p,q⟩,r⟩,s⟩:=p
 have t2:=c62 e.aq
 have t3:=c62 e.at'
 rw [q] at t2
 rw [r] at t3
 have x1:=c58 e.rq h2
 rw [g] at x1
 simp only [reqD] at x1
 obtain ⟨b1,b2,b3,b4,b5⟩:=readR_in g
 have x2:=c171 e.an h3 (me==headN)
 have x3:=c61 ta (by omega)
 rw [c] at x3
 simp only [canD] at x3
 clear g c
 rcases side_or p with p1 | ⟨p1,p2⟩
 all_goals clear p
 all_goals refine sb 1 [.ce 2 25,.ce 3 25,.tm 4] func124 ?_
 all_goals refine call0 t2 ?_
 all_goals refine call0 t3 ?_
 all_goals refine callr x1 fD_re1 ?_
 all_goals refine call0 x3 ?_
 all_goals exact fz
theorem c124f (e:Ex) (h2:e.rq.length≤1048576) (h3:e.an.length≤1048576) (p:preB e=true) (me ta:List UInt8) (st:Nat) (re:List UInt8) (ba:Bool) (l:List Fld) (bo:List UInt8) (g:readR e.rq false false = .ok (me,ta,st,re,ba,l,bo)) (u:List UInt8) (c:canR ta=some u) (y:(u==e.ur)=true) (k:Nat) (f:readR e.an true (me==headN) = .error k):Q1 124 (exD e) no3:=by
 unfold preB at p
 simp only [Bool.and_eq_true,Bool.not_eq_true',decide_eq_false_iff_not] at p
 obtain ⟨⟨⟨p,q⟩,r⟩,s⟩:=p
 have t2:=c62 e.aq
 have t3:=c62 e.at'
 rw [q] at t2
 rw [r] at t3
 have x1:=c58 e.rq h2
 rw [g] at x1
 simp only [reqD] at x1
 obtain ⟨b1,b2,b3,b4,b5⟩:=readR_in g
 have x2:=c171 e.an h3 (me==headN)
 have x3:=c61 ta (by omega)
 rw [f] at x2
 simp only [reqD] at x2
 have f1:=readR_code f
 rw [c] at x3
 simp only [canD] at x3
 clear g f c
 rcases side_or p with p1 | ⟨p1,p2⟩
 all_goals clear p
 all_goals refine sb 1 [.ce 2 25,.ce 3 25,.tm 4] func124 ?_
 all_goals refine call0 t2 ?_
 all_goals refine call0 t3 ?_
 all_goals refine callr x1 fD_re1 ?_
 all_goals refine call0 x3 ?_
 all_goals refine call0 x2 ?_
 all_goals refine drZ gs124_0 ?_
 all_goals exact fz
theorem c124i (e:Ex) (h2:e.rq.length≤1048576) (h3:e.an.length≤1048576) (p:preB e=true) (me ta:List UInt8) (st:Nat) (re:List UInt8) (ba:Bool) (l:List Fld) (bo:List UInt8) (g:readR e.rq false false = .ok (me,ta,st,re,ba,l,bo)) (u:List UInt8) (c:canR ta=some u) (y:(u==e.ur)=true) (me2 ta2:List UInt8) (st2:Nat) (re2:List UInt8) (ba2:Bool) (l2:List Fld) (bo2:List UInt8) (f:readR e.an true (me==headN) = .ok (me2,ta2,st2,re2,ba2,l2,bo2)) (z:(wmT me2 ta2 (st2:Nat) re2 ba2 l2 bo2==e.an)=false):Q1 124 (exD e) no3:=by
 unfold preB at p
 simp only [Bool.and_eq_true,Bool.not_eq_true',decide_eq_false_iff_not] at p
 obtain ⟨⟨⟨p,q⟩,r⟩,s⟩:=p
 have t2:=c62 e.aq
 have t3:=c62 e.at'
 rw [q] at t2
 rw [r] at t3
 have x1:=c58 e.rq h2
 rw [g] at x1
 simp only [reqD] at x1
 obtain ⟨b1,b2,b3,b4,b5⟩:=readR_in g
 have x2:=c171 e.an h3 (me==headN)
 have x3:=c61 ta (by omega)
 rw [f] at x2
 simp only [reqD] at x2
 obtain ⟨d1,d2,d3,d4,d5⟩:=readR_in f
 have x4:=c59 me2 ta2 (st2:Nat) re2 ba2 l2 bo2 (by omega) (by omega) (by omega) (by omega) d5
 rw [c] at x3
 simp only [canD] at x3
 clear g f c
 rcases side_or p with p1 | ⟨p1,p2⟩
 all_goals clear p
 all_goals refine sb 1 [.ce 2 25,.ce 3 25,.tm 4] func124 ?_
 all_goals refine call0 t2 ?_
 all_goals refine call0 t3 ?_
 all_goals refine callr x1 fD_re1 ?_
 all_goals refine call0 x3 ?_
 all_goals refine callf x2 fD_re1 ?_
 all_goals refine drZ gs124_0 ?_
 all_goals refine drawn0 x4 ?_
 all_goals exact fz
theorem c124j (e:Ex) (h2:e.rq.length≤1048576) (h3:e.an.length≤1048576) (p:preB e=true) (me ta:List UInt8) (st:Nat) (re:List UInt8) (ba:Bool) (l:List Fld) (bo:List UInt8) (g:readR e.rq false false = .ok (me,ta,st,re,ba,l,bo)) (u:List UInt8) (c:canR ta=some u) (y:(u==e.ur)=true) (me2 ta2:List UInt8) (st2:Nat) (re2:List UInt8) (ba2:Bool) (l2:List Fld) (bo2:List UInt8) (f:readR e.an true (me==headN) = .ok (me2,ta2,st2,re2,ba2,l2,bo2)) (z:(wmT me2 ta2 (st2:Nat) re2 ba2 l2 bo2==e.an)=true):Q1 124 (exD e) (.tup [mD me ta (st:Nat) re ba (fD l) bo,mD me2 ta2 (st2:Nat) re2 ba2 (fD l2) bo2,.v (vB true)]):=by
 unfold preB at p
 simp only [Bool.and_eq_true,Bool.not_eq_true',decide_eq_false_iff_not] at p
 obtain ⟨⟨⟨p,q⟩,r⟩,s⟩:=p
 have t2:=c62 e.aq
 have t3:=c62 e.at'
 rw [q] at t2
 rw [r] at t3
 have x1:=c58 e.rq h2
 rw [g] at x1
 simp only [reqD] at x1
 obtain ⟨b1,b2,b3,b4,b5⟩:=readR_in g
 have x2:=c171 e.an h3 (me==headN)
 have x3:=c61 ta (by omega)
 rw [f] at x2
 simp only [reqD] at x2
 obtain ⟨d1,d2,d3,d4,d5⟩:=readR_in f
 have x4:=c59 me2 ta2 (st2:Nat) re2 ba2 l2 bo2 (by omega) (by omega) (by omega) (by omega) d5
 rw [c] at x3
 simp only [canD] at x3
 clear g f c
 rcases side_or p with p1 | ⟨p1,p2⟩
 all_goals clear p
 all_goals refine sb 1 [.ce 2 25,.ce 3 25,.tm 4] func124 ?_
 all_goals refine call0 t2 ?_
 all_goals refine call0 t3 ?_
 all_goals refine callr x1 fD_re1 ?_
 all_goals refine call0 x3 ?_
 all_goals refine callf x2 fD_re1 ?_
 all_goals refine drZ gs124_0 ?_
 all_goals refine drawn0 x4 ?_
 all_goals refine drZ gs124_1 ?_
 all_goals exact fz (hok:=by cases l<;>cases l2<;>rfl)
theorem pre_cases {e:Ex} (h:preB e=false):sideB e.sd=false∨(sideB e.sd=true∧timeB e.aq=false)∨(sideB e.sd=true∧timeB e.aq=true∧timeB e.at'=false)∨(sideB e.sd=true∧timeB e.aq=true∧timeB e.at'=true∧e.at'<e.aq):=by
 unfold preB at h
 cases h1:sideB e.sd with
 | false=>exact .inl rfl
 | true =>
  cases h2:timeB e.aq with
  | false=>exact .inr (.inl ⟨rfl,rfl⟩)
  | true =>
   cases h3:timeB e.at' with
   | false=>exact .inr (.inr (.inl ⟨rfl,rfl,rfl⟩))
   | true =>
    rw [h1,h2,h3] at h
    exact .inr (.inr (.inr ⟨rfl,rfl,rfl,by simpa using h⟩))
theorem c68 (e:Ex) (h2:e.rq.length≤1048576) (h3:e.an.length≤1048576):(exB e=false∧Q1 68 (exD e) no3)∨(exB e=true∧∃ (me ta:List UInt8) (st:Nat) (re:List UInt8) (ba:Bool) (l:List Fld) (bo me2 ta2:List UInt8) (st2:Nat) (re2:List UInt8) (ba2:Bool) (l2:List Fld) (bo2:List UInt8),readR e.rq false false = .ok (me,ta,st,re,ba,l,bo)∧readR e.an true (me==headN) = .ok (me2,ta2,st2,re2,ba2,l2,bo2)∧Q1 68 (exD e) (.tup [mD me ta (st:Nat) re ba (fD l) bo,mD me2 ta2 (st2:Nat) re2 ba2 (fD l2) bo2,.v (vB true)])):=by
 cases p:preB e with
 | false =>
  refine .inl ⟨by rw [exB,p]; rfl,?_⟩
  rcases pre_cases p with a | ⟨a,b⟩ | ⟨a,b,c⟩ | ⟨a,b,c,d⟩
  ·exact c68a e a
  ·exact c68b e a b
  ·exact c68c e a b c
  ·exact c68d e a b c d
 | true =>
  cases g:readR e.rq false false with
  | error k=>exact .inl ⟨by rw [exB,p,g]; rfl,c68e e h2 p k g⟩
  | ok x =>
   obtain ⟨me,ta,st,re,ba,l,bo⟩:=x
   cases c:canR ta with
   | none =>
    refine .inl ⟨by rw [exB,p,g]; simp only [c]; rfl,?_⟩
    cases f:readR e.an true (me==headN) with
    | error k=>exact c68f e h2 h3 p me ta st re ba l bo g k f c
    | ok x2 =>
     obtain ⟨me2,ta2,st2,re2,ba2,l2,bo2⟩:=x2
     exact c68g e h2 h3 p me ta st re ba l bo g me2 ta2 st2 re2 ba2 l2 bo2 f c
   | some u =>
    cases y:u==e.ur with
    | false =>
     refine .inl ⟨by rw [exB,p,g]; simp only [c,y]; rfl,?_⟩
     cases f:readR e.an true (me==headN) with
     | error k=>exact c68f2 e h2 h3 p me ta st re ba l bo g k f u c
     | ok x2 =>
      obtain ⟨me2,ta2,st2,re2,ba2,l2,bo2⟩:=x2
      exact c68h e h2 h3 p me ta st re ba l bo g me2 ta2 st2 re2 ba2 l2 bo2 f u c y
    | true =>
     cases f:readR e.an true (me==headN) with
     | error k =>
      refine .inl ⟨by rw [exB,p,g]; simp only [c,y,f]; rfl,?_⟩
      exact c68f2 e h2 h3 p me ta st re ba l bo g k f u c
     | ok x2 =>
      obtain ⟨me2,ta2,st2,re2,ba2,l2,bo2⟩:=x2
      cases z:wmT me2 ta2 (st2:Nat) re2 ba2 l2 bo2==e.an with
      | false =>
       refine .inl ⟨by rw [exB,p,g]; simp only [c,y,f,z]; rfl,?_⟩
       exact c68i e h2 h3 p me ta st re ba l bo g me2 ta2 st2 re2 ba2 l2 bo2 f u c y z
      | true =>
       refine .inr ⟨by rw [exB,p,g]; simp only [c,y,f,z]; rfl,me,ta,st,re,ba,l,bo,me2,ta2,st2,re2,ba2,l2,bo2,rfl,f,?_⟩
       exact c68j e h2 h3 p me ta st re ba l bo g me2 ta2 st2 re2 ba2 l2 bo2 f u c y z
theorem c124 (e:Ex) (h2:e.rq.length≤1048576) (h3:e.an.length≤1048576):(exB e=false∧Q1 124 (exD e) no3)∨(exB e=true∧∃ (me ta:List UInt8) (st:Nat) (re:List UInt8) (ba:Bool) (l:List Fld) (bo me2 ta2:List UInt8) (st2:Nat) (re2:List UInt8) (ba2:Bool) (l2:List Fld) (bo2:List UInt8),readR e.rq false false = .ok (me,ta,st,re,ba,l,bo)∧readR e.an true (me==headN) = .ok (me2,ta2,st2,re2,ba2,l2,bo2)∧Q1 124 (exD e) (.tup [mD me ta (st:Nat) re ba (fD l) bo,mD me2 ta2 (st2:Nat) re2 ba2 (fD l2) bo2,.v (vB true)])):=by
 cases p:preB e with
 | false =>
  refine .inl ⟨by rw [exB,p]; rfl,?_⟩
  rcases pre_cases p with a | ⟨a,b⟩ | ⟨a,b,c⟩ | ⟨a,b,c,d⟩
  ·exact c124a e a
  ·exact c124b e a b
  ·exact c124c e a b c
  ·exact c124d e a b c d
 | true =>
  cases g:readR e.rq false false with
  | error k=>exact .inl ⟨by rw [exB,p,g]; rfl,c124e e h2 p k g⟩
  | ok x =>
   obtain ⟨me,ta,st,re,ba,l,bo⟩:=x
   cases c:canR ta with
   | none =>
    refine .inl ⟨by rw [exB,p,g]; simp only [c]; rfl,?_⟩
    exact c124g e h2 h3 p me ta st re ba l bo g c
   | some u =>
    cases y:u==e.ur with
    | false =>
     refine .inl ⟨by rw [exB,p,g]; simp only [c,y]; rfl,?_⟩
     exact c124h e h2 h3 p me ta st re ba l bo g u c y
    | true =>
     cases f:readR e.an true (me==headN) with
     | error k =>
      refine .inl ⟨by rw [exB,p,g]; simp only [c,y,f]; rfl,?_⟩
      exact c124f e h2 h3 p me ta st re ba l bo g u c y k f
     | ok x2 =>
      obtain ⟨me2,ta2,st2,re2,ba2,l2,bo2⟩:=x2
      cases z:wmT me2 ta2 (st2:Nat) re2 ba2 l2 bo2==e.an with
      | false =>
       refine .inl ⟨by rw [exB,p,g]; simp only [c,y,f,z]; rfl,?_⟩
       exact c124i e h2 h3 p me ta st re ba l bo g u c y me2 ta2 st2 re2 ba2 l2 bo2 f z
      | true =>
       refine .inr ⟨by rw [exB,p,g]; simp only [c,y,f,z]; rfl,me,ta,st,re,ba,l,bo,me2,ta2,st2,re2,ba2,l2,bo2,rfl,f,?_⟩
       exact c124j e h2 h3 p me ta st re ba l bo g u c y me2 ta2 st2 re2 ba2 l2 bo2 f z
attribute [local go_sem ↓ high] fD_mv fD_as fD_own fD_oi fD_mp fD_lf fD_rb fD_bn fD_ar fD_wb fD_cl
theorem fD_re3 {me ta re bo me2 ta2 re2 bo2:List UInt8} {st st2:Int} {ba ba2:Bool} {l l2:List Fld} {a:Value}:D.anyL (fun d => !d.resLeaf) (.tup [mD me ta st re ba (fD l) bo,mD me2 ta2 st2 re2 ba2 (fD l2) bo2,.v a])=false:=by cases l<;>cases l2<;>rfl
theorem c119 (e:Ex) (h2:e.rq.length≤1048576) (h3:e.an.length≤1048576):Q1 119 (exD e) (.v (vB (exB e))):=by
 rcases c68 e h2 h3 with ⟨h,x⟩ | ⟨h,me,ta,st,re,ba,l,bo,me2,ta2,st2,re2,ba2,l2,bo2,_,_,x⟩
 ·rw [h]
  clear h
  refine sb 1 [.tm 2] func119 ?_
  refine call0 x ?_
  exact fz
 ·rw [h]
  clear h
  refine sb 1 [.tm 2] func119 ?_
  refine callr x fD_re3 ?_
  exact fz
theorem c117 (e:Ex) (h2:e.rq.length≤1048576) (h3:e.an.length≤1048576):Q1 117 (exD e) (.v (vB (exB e))):=by
 rcases c124 e h2 h3 with ⟨h,x⟩ | ⟨h,me,ta,st,re,ba,l,bo,me2,ta2,st2,re2,ba2,l2,bo2,_,_,x⟩
 ·rw [h]
  clear h
  refine sb 1 [.tm 2] func117 ?_
  refine call0 x ?_
  exact fz
 ·rw [h]
  clear h
  refine sb 1 [.tm 2] func117 ?_
  refine callr x fD_re3 ?_
  exact fz
def dayB (n:Int):Bool:=inB 4 1000000 n&&(n.tmod 4==0)
theorem c51 (n:Int):Q1 51 (.v (vI n)) (.v (vB (dayB n))):=by
 have x1:=c116 n 4 1000000
 unfold dayB
 cases h:inB 4 1000000 n with
 | false =>
  rw [h] at x1
  refine sb 1 [.tm 2] func51 ?_
  refine call0 x1 ?_
  exact fz
 | true =>
  rw [h] at x1
  clear h
  refine sb 1 [.tm 2] func51 ?_
  refine call0 x1 ?_
  refine ⟨by decide,?_⟩
  exact fz
attribute [local go_sem ↓ high] fD_mv fD_as fD_own fD_oi fD_mp fD_lf fD_rb fD_bn fD_ar fD_wb fD_cl
def rowE (e:Ex):List T:=[.v (vI e.sd),.v (vI e.aq),.v (vI e.at'),.v (vS e.ur),.v (vS e.rq),.v (vS e.an)]
def rowsE (l:List Ex):List (List T):=l.map rowE
def ex0:Ex:=⟨0,0,0,[],[],[]⟩
theorem rowsE_length {l:List Ex}:(rowsE l).length=l.length:=List.length_map ..
theorem rowsE_getD {l:List Ex} {i:Nat} (h:i<l.length):(rowsE l).getD i []=[.v (vI (l.getD i ex0).sd),.v (vI (l.getD i ex0).aq),.v (vI (l.getD i ex0).at'),.v (vS (l.getD i ex0).ur),.v (vS (l.getD i ex0).rq),.v (vS (l.getD i ex0).an)]:=by
 simp [rowsE,rowE,gDg,h]
theorem rowsE_ne {l:List Ex} (h:l≠[]):rowsE l≠[]:=by
 cases l with
 | nil=>exact absurd rfl h
 | cons x l=>simp [rowsE]
def SmallE (l:List Ex):Prop:=l.length≤9223372036854775807∧∀ e,e∈l→e.ur.length≤1048576∧e.rq.length≤1048576∧e.an.length≤1048576
theorem SmallE.at {l:List Ex} (h:SmallE l) {i:Nat} (hi:i<l.length):(l.getD i ex0).ur.length≤1048576∧(l.getD i ex0).rq.length≤1048576∧(l.getD i ex0).an.length≤1048576:=by
 refine h.2 _ ?_
 rw [gDg,gEg hi]
 exact List.getElem_mem hi
def goodE (l:List Ex):List Ex:=if 200<l.length then [] else l.filter exB
theorem filE_hit {l:List Ex} {i:Nat} (h:i<l.length) (hb:exB (l.getD i ex0)=true):(l.take (i+1)).filter exB=(l.take i).filter exB++[l.getD i ex0]:=by
 have:[l.getD i ex0].filter exB=[l.getD i ex0]:=by rw [List.filter_cons,if_pos hb]; rfl
 rw [take_at (d:=ex0) h,List.filter_append,this]
theorem filE_miss {l:List Ex} {i:Nat} (h:i<l.length) (hb:exB (l.getD i ex0)=false):(l.take (i+1)).filter exB=(l.take i).filter exB:=by
 have:[l.getD i ex0].filter exB=[]:=by rw [List.filter_cons,if_neg (by rw [hb]; simp)]; rfl
 rw [take_at (d:=ex0) h,List.filter_append,this,List.append_nil]
theorem filE_le (l:List Ex) (i:Nat):((l.take i).filter exB).length≤i:=by
 refine Nat.le_trans (List.length_filter_le _ _) ?_
 rw [List.length_take]; omega
theorem sdE_nil:sd 71 (rowsE []) = .nil:=id rfl
attribute [local go_sem] rowsE_length sdE_nil
theorem c54a (l:List Ex) (h:200<l.length) (hL:l.length≤9223372036854775807):Q1 54 (.imm 71 (rowsE l)) .nil:=by
 have h1:(200:Int)<l.length:=by omega
 refine sb 1 [.tm 2] func54 ?_
 exact fz
theorem c56a (l:List Ex) (h:200<l.length) (hL:l.length≤9223372036854775807):Q1 56 (.imm 71 (rowsE l)) .nil:=by
 have h1:(200:Int)<l.length:=by omega
 refine sb 1 [.tm 2] func56 ?_
 exact fz
theorem c54b (l:List Ex) (hl:SmallE l) (h:¬ 200<l.length):Q1 54 (.imm 71 (rowsE l)) (sd 71 (rowsE (l.filter exB))):=by
 have hL:l.length≤9223372036854775807:=hl.1
 have h1:¬ (200:Int)<l.length:=by omega
 refine sb 1 [.tm 2] func54 ?_
 refine loopZ (fun i:Nat=>pE 27 [.imm 71 (rowsE l),.dead,.nil,sd 71 (rowsE ((l.take i).filter exB)),.v (vI i)]) [0,2,3,4] (fun i=>i≤l.length) (fun i=>l.length-i) 0 rfl (Nat.zero_le _) ?_
 intro i hi
 have hle:=filE_le l i
 by_cases hc:i<l.length
 ·have w1:=wrapN hc hL
  have e1:=rowsE_getD hc
  have hsm:=hl.at hc
  have x2:=c117 (l.getD i ex0) hsm.2.1 hsm.2.2
  have khit:=filE_hit (l:=l) hc
  have kmiss:=filE_miss (l:=l) hc
  cases hb:exB (l.getD i ex0) with
  | false =>
   rw [hb] at x2
   have kmiss:=kmiss hb
   by_cases h0:(l.take i).filter exB=[]
   ·rw [h0] at kmiss ⊢
    clear khit hb h0
    refine Z ?_
    refine call0 x2 ?_
    exact ⟨i+1,by rw [kmiss]; rfl,hc,by omega⟩
   ·have hsd:=sd_own (e:=71) (rowsE_ne h0)
    clear khit hb h0
    refine X2 hsd e1 ?_
    refine Z ?_
    refine call0 x2 ?_
    exact ⟨i+1,by rw [kmiss,hsd]; rfl,hc,by omega⟩
  | true =>
   rw [hb] at x2
   have khit:=khit hb
   have esd:∀ k:List Ex,sd 71 (rowsE (k++[l.getD i ex0])) = .own 71 (rowsE k++[rowE (l.getD i ex0)]):=fun k=>by
    rw [show rowsE (k++[l.getD i ex0])=rowsE k++[rowE (l.getD i ex0)] by simp [rowsE]]
    exact sd_own (by simp)
   by_cases h0:(l.take i).filter exB=[]
   ·rw [h0] at khit ⊢
    clear kmiss hb h0
    refine Z ?_
    refine call0 x2 ?_
    exact ⟨i+1,by rw [khit,esd]; rfl,hc,by omega⟩
   ·have hsd:=sd_own (e:=71) (rowsE_ne h0)
    have hb4:(((l.take i).filter exB).length+1)*72≤140737488355328:=by omega
    clear kmiss hb h0
    refine X2 hsd e1 ?_
    refine Z ?_
    refine call0 x2 ?_
    exact ⟨i+1,by rw [khit,esd]; rfl,hc,by omega⟩
 ·have he:l.take i=l:=List.take_of_length_le (by omega)
  rw [he]
  by_cases h0:l.filter exB=[]
  ·rw [h0]
   clear he
   refine Z ?_
   exact fz
  ·have hsd:=sd_own (e:=71) (rowsE_ne h0)
   rw [hsd]
   clear he h0
   refine Z ?_
   exact fz
theorem c54 (l:List Ex) (hl:SmallE l):Q1 54 (.imm 71 (rowsE l)) (sd 71 (rowsE (goodE l))):=by
 by_cases h:200<l.length
 ·rw [goodE,if_pos h]; exact c54a l h hl.1
 ·rw [goodE,if_neg h]; exact c54b l hl h
theorem c56b (l:List Ex) (hl:SmallE l) (h:¬ 200<l.length):Q1 56 (.imm 71 (rowsE l)) (sd 71 (rowsE (l.filter exB))):=by
 have hL:l.length≤9223372036854775807:=hl.1
 have h1:¬ (200:Int)<l.length:=by omega
 refine sb 1 [.tm 2] func56 ?_
 refine loopZ (fun i:Nat=>pE 23 [.imm 71 (rowsE l),.dead,.nil,sd 71 (rowsE ((l.take i).filter exB)),.dead,.dead,.dead,.dead,.dead,.imm 71 (rowsE l),.v (vI l.length),.v (vI i)]) [0,2,3,9,10,11] (fun i=>i≤l.length) (fun i=>l.length-i) 0 rfl (Nat.zero_le _) ?_
 intro i hi
 have hle:=filE_le l i
 by_cases hc:i<l.length
 ·have w1:=wrapN hc hL
  have e1:=rowsE_getD hc
  have hsm:=hl.at hc
  have x2:=c119 (l.getD i ex0) hsm.2.1 hsm.2.2
  have khit:=filE_hit (l:=l) hc
  have kmiss:=filE_miss (l:=l) hc
  cases hb:exB (l.getD i ex0) with
  | false =>
   rw [hb] at x2
   have kmiss:=kmiss hb
   by_cases h0:(l.take i).filter exB=[]
   ·rw [h0] at kmiss ⊢
    clear khit hb h0
    refine Z ?_
    refine call0 x2 ?_
    exact ⟨i+1,by rw [kmiss]; rfl,hc,by omega⟩
   ·have hsd:=sd_own (e:=71) (rowsE_ne h0)
    clear khit hb h0
    refine X2 hsd e1 ?_
    refine Z ?_
    refine call0 x2 ?_
    exact ⟨i+1,by rw [kmiss,hsd]; rfl,hc,by omega⟩
  | true =>
   rw [hb] at x2
   have khit:=khit hb
   have esd:∀ k:List Ex,sd 71 (rowsE (k++[l.getD i ex0])) = .own 71 (rowsE k++[rowE (l.getD i ex0)]):=fun k=>by
    rw [show rowsE (k++[l.getD i ex0])=rowsE k++[rowE (l.getD i ex0)] by simp [rowsE]]
    exact sd_own (by simp)
   by_cases h0:(l.take i).filter exB=[]
   ·rw [h0] at khit ⊢
    clear kmiss hb h0
    refine Z ?_
    refine call0 x2 ?_
    exact ⟨i+1,by rw [khit,esd]; rfl,hc,by omega⟩
   ·have hsd:=sd_own (e:=71) (rowsE_ne h0)
    have hb4:(((l.take i).filter exB).length+1)*72≤140737488355328:=by omega
    clear kmiss hb h0
    refine X2 hsd e1 ?_
    refine Z ?_
    refine call0 x2 ?_
    exact ⟨i+1,by rw [khit,esd]; rfl,hc,by omega⟩
 ·have he:l.take i=l:=List.take_of_length_le (by omega)
  rw [he]
  by_cases h0:l.filter exB=[]
  ·rw [h0]
   clear he
   refine Z ?_
   exact fz
  ·have hsd:=sd_own (e:=71) (rowsE_ne h0)
   rw [hsd]
   clear he h0
   refine Z ?_
   exact fz
theorem c56 (l:List Ex) (hl:SmallE l):Q1 56 (.imm 71 (rowsE l)) (sd 71 (rowsE (goodE l))):=by
 by_cases h:200<l.length
 ·rw [goodE,if_pos h]; exact c56a l h hl.1
 ·rw [goodE,if_neg h]; exact c56b l hl h
end Go.Proofs.YtbdfdfhamlmodaaGreatDoor.Fw
namespace Go.Proofs.YtbdfdfhamlmodaaGreatDoor.Fw
open Go
theorem ltB_nil (a:List UInt8):ltB a []=false:=by cases a<;>rfl
theorem ltB_nc (b:UInt8) (y:List UInt8):ltB [] (b::y)=true:=rfl
theorem ltB_cc (a b:UInt8) (x y:List UInt8):ltB (a::x) (b::y)=(decide (a<b) || (a==b&&ltB x y)):=rfl
theorem cmpB_lt:∀ a b:List UInt8,Lib.compareBytes a b<0↔ltB a b=true
 | [],[]=>by decide
 | [],_::_=>by simp [Lib.compareBytes,ltB_nc]
 | _::_,[]=>by simp [Lib.compareBytes,ltB_nil]
 | a::x,b::y=>by
  have ih:=cmpB_lt x y
  rw [Lib.compareBytes,ltB_cc]
  by_cases h1:a<b
  ·simp [h1]
  ·by_cases h2:b<a
   ·have h3:¬ a=b:=by rintro rfl; exact h1 h2
    simp [h1,h2,h3]
   ·have h3:a=b:=by rw [UInt8.lt_iff_toNat_lt] at h1 h2; exact UInt8.toNat_inj.1 (by omega)
    simp [h3,ih]
theorem cmpB_eq:∀ a b:List UInt8,Lib.compareBytes a b=0↔a=b
 | [],[]=>by simp [Lib.compareBytes]
 | [],_::_=>by simp [Lib.compareBytes]
 | _::_,[]=>by simp [Lib.compareBytes]
 | a::x,b::y=>by
  have ih:=cmpB_eq x y
  rw [Lib.compareBytes]
  by_cases h1:a<b
  ·have h3:¬ a=b:=by rintro rfl; rw [UInt8.lt_iff_toNat_lt] at h1; omega
   simp [h1,h3]
  ·by_cases h2:b<a
   ·have h3:¬ a=b:=by rintro rfl; exact h1 h2
    simp [h1,h2,h3]
   ·have h3:a=b:=by rw [UInt8.lt_iff_toNat_lt] at h1 h2; exact UInt8.toNat_inj.1 (by omega)
    simp [h3,ih]
theorem ltB_irr:∀ a:List UInt8,ltB a a=false
 | []=>rfl
 | a::x=>by rw [ltB_cc,ltB_irr x]; simp [UInt8.lt_iff_toNat_lt]
theorem ltB_tr:∀ {a b c:List UInt8},ltB a b=true→ltB b c=true→ltB a c=true
 | _,[],_,h,_=>by rw [ltB_nil] at h; cases h
 | _,_::_,[],_,h=>by rw [ltB_nil] at h; cases h
 | [],_::_,_::_,_,_=>rfl
 | a::x,b::y,c::z,h,k=>by
  rw [ltB_cc] at h k ⊢
  simp only [Bool.or_eq_true,decide_eq_true_eq,Bool.and_eq_true,beq_iff_eq] at h k ⊢
  simp only [UInt8.lt_iff_toNat_lt] at h k ⊢
  rcases h with h | ⟨rfl,h⟩
  ·rcases k with k | ⟨rfl,k⟩
   ·exact .inl (by omega)
   ·exact .inl h
  ·rcases k with k | ⟨rfl,k⟩
   ·exact .inl k
   ·exact .inr ⟨rfl,ltB_tr h k⟩
theorem ltB_or:∀ {a b:List UInt8},a≠b→ltB a b=false→ltB b a=true
 | [],[],h,_=>absurd rfl h
 | [],_::_,_,h=>by rw [ltB_nc] at h; cases h
 | _::_,[],_,_=>rfl
 | a::x,b::y,h,k=>by
  rw [ltB_cc] at k ⊢
  simp only [Bool.or_eq_true,decide_eq_true_eq,Bool.and_eq_true,beq_iff_eq,Bool.or_eq_false_iff,decide_eq_false_iff_not,Bool.and_eq_false_iff,beq_eq_false_iff_ne] at k ⊢
  simp only [UInt8.lt_iff_toNat_lt] at k ⊢
  by_cases e:a=b
  ·subst e
   refine .inr ⟨rfl,ltB_or (fun e=>h (by rw [e])) ?_⟩
   rcases k.2 with k | k
   ·exact absurd rfl k
   ·exact k
  ·have:¬ a.toNat=b.toNat:=fun e'=>e (UInt8.toNat_inj.1 e')
   exact .inl (by omega)
def Asc (N:List (List UInt8)):Prop:=N.Pairwise fun a b=>ltB a b=true
def lowN (h:List UInt8) (N:List (List UInt8)):Nat:=(N.takeWhile fun n=>ltB n h).length
def putG (h:List UInt8):List (List UInt8)→Bool→List (List UInt8)
 | [],d=>if d=true then [] else [h]
 | x::l,d=>if (!d&&ltB h x)=true then h::x::putG h l true else x::putG h l d
def putL (h:List UInt8) (N:List (List UInt8)):List (List UInt8):=if N.contains h=true then N else putG h N false
theorem low_le (h:List UInt8) (N:List (List UInt8)):lowN h N≤N.length:=(List.takeWhile_prefix _).length_le
theorem low_cons (h x:List UInt8) (N:List (List UInt8)):lowN h (x::N)=if ltB x h=true then lowN h N+1 else 0:=by
 unfold lowN; rw [List.takeWhile_cons]; split<;>rfl
theorem low_lt {h:List UInt8}:∀ {N:List (List UInt8)} {i:Nat},i<lowN h N→ltB (N.getD i []) h=true
 | [],i,hi=>by simp [lowN] at hi
 | x::N,i,hi=>by
  rw [low_cons] at hi
  split at hi
  ·rename_i hx
   cases i with
   | zero=>exact hx
   | succ i=>exact low_lt (N:=N) (by omega)
  ·omega
theorem asc_getD {N:List (List UInt8)} (hs:Asc N) {i j:Nat} (hij:i<j) (hj:j<N.length):ltB (N.getD i []) (N.getD j [])=true:=by
 have:=List.pairwise_iff_getElem.1 hs i j (by omega) hj hij
 rwa [gDg,gDg,gEg hj,gEg (by omega)]
theorem low_at {h:List UInt8}:∀ {N:List (List UInt8)},lowN h N<N.length→ltB (N.getD (lowN h N) []) h=false
 | [],hi=>by simp at hi
 | x::N,hi=>by
  rw [low_cons] at hi ⊢
  by_cases hx:ltB x h=true
  ·rw [if_pos hx] at hi ⊢
   exact low_at (N:=N) (by simp only [List.length_cons] at hi; omega)
  ·rw [if_neg hx]
   show ltB x h=false
   simpa using hx
theorem low_ge {h:List UInt8} {N:List (List UInt8)} (hs:Asc N) {i:Nat} (hi:lowN h N≤i) (hl:i<N.length):ltB (N.getD i []) h=false:=by
 have h0:=low_at (h:=h) (N:=N) (by omega)
 rcases Nat.lt_or_ge (lowN h N) i with h1 | h1
 ·cases h2:ltB (N.getD i []) h with
  | false=>rfl
  | true=>rw [ltB_tr (asc_getD hs h1 hl) h2] at h0; cases h0
 ·have:lowN h N=i:=by omega
  rw [←this]; exact h0
theorem mem_getD {N:List (List UInt8)} {h:List UInt8} (hm:h∈N):∃ i,i<N.length∧N.getD i []=h:=by
 obtain ⟨i,hi,e⟩:=List.getElem_of_mem hm
 exact ⟨i,hi,by rw [gDg,gEg hi]; exact e⟩
theorem getD_mem {N:List (List UInt8)} {i:Nat} (hi:i<N.length):N.getD i []∈N:=by
 rw [gDg,gEg hi]; exact List.getElem_mem hi
theorem low_mem {h:List UInt8} {N:List (List UInt8)} (hs:Asc N):h∈N↔lowN h N<N.length∧N.getD (lowN h N) []=h:=by
 constructor
 ·intro hm
  obtain ⟨i,hi,e⟩:=mem_getD hm
  have h1:lowN h N≤i:=by
   rcases Nat.lt_or_ge i (lowN h N) with h1 | h1
   ·have:=low_lt h1
    rw [e,ltB_irr] at this; cases this
   ·exact h1
  rcases Nat.lt_or_ge (lowN h N) i with h2 | h2
  ·have h3:=asc_getD hs h2 hi
   rw [e] at h3
   have:=low_at (h:=h) (N:=N) (by omega)
   rw [h3] at this; cases this
  ·have:lowN h N=i:=by omega
   rw [this]; exact ⟨hi,e⟩
 ·rintro ⟨h1,h2⟩
  rw [←h2]; exact getD_mem h1
theorem putG_true (h:List UInt8):∀ l,putG h l true=l
 | []=>rfl
 | x::l=>by rw [putG,putG_true h l]; rfl
theorem mem_putG {h:List UInt8} {y:List UInt8}:∀ {l:List (List UInt8)},y∈putG h l false↔y=h∨y∈l
 | []=>by simp [putG]
 | x::l=>by
  rw [putG]
  split
  ·rw [putG_true]; simp
  ·rw [List.mem_cons,mem_putG (l:=l),List.mem_cons]
   constructor
   ·rintro (h | h | h)
    ·exact .inr (.inl h)
    ·exact .inl h
    ·exact .inr (.inr h)
   ·rintro (h | h | h)
    ·exact .inr (.inl h)
    ·exact .inl h
    ·exact .inr (.inr h)
theorem mem_putL {h y:List UInt8} {N:List (List UInt8)}:y∈putL h N↔y=h∨y∈N:=by
 unfold putL
 split
 ·rename_i hc
  have hc:h∈N:=by simpa using hc
  constructor
  ·exact .inr
  ·rintro (rfl | h)
   ·exact hc
   ·exact h
 ·exact mem_putG
theorem putG_asc {h:List UInt8}:∀ {l:List (List UInt8)},Asc l→h ∉ l→Asc (putG h l false)
 | [],_,_=>by simp [putG,Asc]
 | x::l,hs,hn=>by
  obtain ⟨h1,h2⟩:=List.pairwise_cons.1 hs
  have hx:h≠x:=fun e=>hn (by rw [e]; exact List.mem_cons_self)
  have hl:h ∉ l:=fun e=>hn (List.mem_cons_of_mem _ e)
  rw [putG]
  split
  ·rename_i hc
   have hc:ltB h x=true:=by simpa using hc
   rw [putG_true]
   refine List.pairwise_cons.2 ⟨fun y hy => ?_,hs⟩
   rcases List.mem_cons.1 hy with rfl | hy
   ·exact hc
   ·exact ltB_tr hc (h1 y hy)
  ·rename_i hc
   have hc:ltB h x=false:=by simpa using hc
   refine List.pairwise_cons.2 ⟨fun y hy => ?_,putG_asc h2 hl⟩
   rcases mem_putG.1 hy with rfl | hy
   ·exact ltB_or hx hc
   ·exact h1 y hy
theorem putL_asc {h:List UInt8} {N:List (List UInt8)} (hs:Asc N):Asc (putL h N):=by
 unfold putL
 split
 ·exact hs
 ·rename_i hc
  exact putG_asc hs (by simpa using hc)
theorem putG_ins {h:List UInt8}:∀ {l:List (List UInt8)},Asc l→h ∉ l→putG h l false=l.take (lowN h l)++([h]++l.drop (lowN h l))
 | [],_,_=>rfl
 | x::l,hs,hn=>by
  obtain ⟨h1,h2⟩:=List.pairwise_cons.1 hs
  have hx:h≠x:=fun e=>hn (by rw [e]; exact List.mem_cons_self)
  have hl:h ∉ l:=fun e=>hn (List.mem_cons_of_mem _ e)
  rw [putG,low_cons]
  by_cases hc:ltB h x=true
  ·have hno:¬ ltB x h=true:=fun k=>by have:=ltB_tr hc k; rw [ltB_irr] at this; cases this
   rw [if_pos (by rw [hc]; rfl),if_neg hno,putG_true]; rfl
  ·have hc':ltB h x=false:=by simpa using hc
   rw [if_neg (by rw [hc']; decide),if_pos (ltB_or hx hc'),putG_ins h2 hl]; rfl
theorem putG_len {h:List UInt8}:∀ (l:List (List UInt8)) (d:Bool),(putG h l d).length≤l.length+1
 | [],d=>by unfold putG; split<;>simp
 | x::l,d=>by
  rw [putG]
  split
  ·rw [putG_true]; simp
  ·have:=putG_len (h:=h) l d
   simp only [List.length_cons]; omega
theorem putL_len {h:List UInt8} (N:List (List UInt8)):(putL h N).length≤N.length+1:=by
 unfold putL
 split
 ·omega
 ·exact putG_len N false
set_option maxRecDepth 100000
def hostE (e:Ex):List UInt8:=match readU e.ur with | some a=>a.ho | none=>[]
def namN (g:List Ex):Nat→List (List UInt8)
 | 0=>[]
 | i+1=>if ((g.getD i ex0).sd==0)=true then putL (hostE (g.getD i ex0)) (namN g i) else namN g i
def isH (g:List Ex) (h:List UInt8) (i:Nat):Bool:=(g.getD i ex0).sd==0&&hostE (g.getD i ex0)==h
def cntN (g:List Ex) (h:List UInt8):Nat→Nat
 | 0=>0
 | i+1=>if isH g h i=true then cntN g h i+1 else cntN g h i
def bytN (g:List Ex) (h:List UInt8):Nat→Nat
 | 0=>0
 | i+1=>if isH g h i=true then bytN g h i+(g.getD i ex0).an.length else bytN g h i
abbrev Hc:=List UInt8 × Nat × Nat
def hcN (g:List Ex) (i:Nat) (n:List UInt8):Hc:=(n,cntN g n i,bytN g n i)
def hcR (g:List Ex) (i:Nat):List Hc:=(namN g i).map (hcN g i)
def rowH (p:Hc):List T:=[.v (vS p.1),.v (vI (p.2.1:Nat)),.v (vI (p.2.2:Nat))]
def rowsH (l:List Hc):List (List T):=l.map rowH
def hc0:Hc:=([],0,0)
theorem rowsH_length {l:List Hc}:(rowsH l).length=l.length:=List.length_map ..
theorem rowsH_getD {l:List Hc} {i:Nat} (h:i<l.length):(rowsH l).getD i []=[.v (vS (l.getD i hc0).1),.v (vI ((l.getD i hc0).2.1:Nat)),.v (vI ((l.getD i hc0).2.2:Nat))]:=by
 simp [rowsH,rowH,gDg,h]
theorem rowsH_ne {l:List Hc} (h:l≠[]):rowsH l≠[]:=by
 cases l with
 | nil=>exact absurd rfl h
 | cons x l=>simp [rowsH]
theorem namN_asc (g:List Ex):∀ i,Asc (namN g i)
 | 0=>List.Pairwise.nil
 | i+1=>by
  rw [namN]
  split
  ·exact putL_asc (namN_asc g i)
  ·exact namN_asc g i
theorem namN_le (g:List Ex):∀ i,(namN g i).length≤i
 | 0=>Nat.le_refl _
 | i+1=>by
  have:=namN_le g i
  rw [namN]
  split
  ·have:=putL_len (h:=hostE (g.getD i ex0)) (namN g i); omega
  ·omega
theorem cntN_le (g:List Ex) (h:List UInt8):∀ i,cntN g h i≤i
 | 0=>Nat.le_refl _
 | i+1=>by have:=cntN_le g h i; rw [cntN]; split<;>omega
theorem bytN_le {g:List Ex} (hg:∀ e,e∈g→e.an.length≤1048576) (h:List UInt8):∀ i,i≤g.length→bytN g h i≤i*1048576
 | 0,_=>Nat.le_refl _
 | i+1,hi=>by
  have:=bytN_le hg h i (by omega)
  have he:(g.getD i ex0).an.length≤1048576:=hg _ (by rw [gDg,gEg (by omega)]; exact List.getElem_mem _)
  have e:(i+1)*1048576=i*1048576+1048576:=Nat.succ_mul _ _
  rw [bytN,e]
  generalize i*1048576=m at this ⊢
  generalize bytN g h i=b at this ⊢
  generalize (g.getD i ex0).an.length=c at he ⊢
  split
  ·exact Nat.add_le_add this he
  ·exact Nat.le_trans this (Nat.le_add_right _ _)
theorem notN {g:List Ex} {h:List UInt8}:∀ {i:Nat},h ∉ namN g i→cntN g h i=0∧bytN g h i=0
 | 0,_=>⟨rfl,rfl⟩
 | i+1,hn=>by
  rw [namN] at hn
  rw [cntN,bytN]
  by_cases hc:((g.getD i ex0).sd==0)=true
  ·rw [if_pos hc,mem_putL] at hn
   have e:isH g h i=false:=by
    unfold isH; rw [hc,Bool.true_and,beq_eq_false_iff_ne]
    exact fun e=>hn (.inl e.symm)
   rw [e]; exact notN (fun k=>hn (.inr k))
  ·rw [if_neg hc] at hn
   have e:isH g h i=false:=by
    unfold isH
    rw [Bool.not_eq_true] at hc
    rw [hc]; rfl
   rw [e]; exact notN hn
theorem hcR_skip {g:List Ex} {i:Nat} (h:((g.getD i ex0).sd==0)=false):hcR g (i+1)=hcR g i:=by
 have e:∀ n,isH g n i=false:=fun n=>by unfold isH; rw [h]; rfl
 unfold hcR hcN
 rw [namN,h,if_neg Bool.false_ne_true]
 refine List.map_congr_left fun n _ => ?_
 rw [cntN,bytN,e]; rfl
theorem hcN_other {g:List Ex} {i:Nat} {n:List UInt8} (h:n≠hostE (g.getD i ex0)):hcN g (i+1) n=hcN g i n:=by
 have e:isH g n i=false:=by
  unfold isH
  rw [beq_eq_false_iff_ne.2 (fun k=>h k.symm),Bool.and_false]
 unfold hcN; rw [cntN,bytN,e]; rfl
theorem hcN_own {g:List Ex} {i:Nat} (hc:((g.getD i ex0).sd==0)=true):hcN g (i+1) (hostE (g.getD i ex0))=(hostE (g.getD i ex0),cntN g (hostE (g.getD i ex0)) i+1,bytN g (hostE (g.getD i ex0)) i+(g.getD i ex0).an.length):=by
 have e:isH g (hostE (g.getD i ex0)) i=true:=by
  unfold isH
  rw [hc]; simp
 unfold hcN; rw [cntN,bytN,e]; rfl
theorem hcR_hit {g:List Ex} {i:Nat} (hc:((g.getD i ex0).sd==0)=true) (hm:(namN g i).contains (hostE (g.getD i ex0))=true) :
  lowN (hostE (g.getD i ex0)) (namN g i)<(hcR g i).length∧(hcR g i).getD (lowN (hostE (g.getD i ex0)) (namN g i)) hc0=hcN g i (hostE (g.getD i ex0)) ∧
  hcR g (i+1)=(hcR g i).set (lowN (hostE (g.getD i ex0)) (namN g i)) (hcN g (i+1) (hostE (g.getD i ex0))):=by
 obtain ⟨h1,h2⟩:=(low_mem (namN_asc g i)).1 (by simpa using hm:hostE (g.getD i ex0)∈namN g i)
 have hs:=namN_asc g i
 have e0:namN g (i+1)=namN g i:=by rw [namN,if_pos hc,putL,if_pos hm]
 generalize hh:hostE (g.getD i ex0)=h at h1 h2 ⊢
 generalize hk:lowN h (namN g i)=k at h1 h2 ⊢
 refine ⟨by unfold hcR; rw [List.length_map]; exact h1,?_,?_⟩
 ·unfold hcR
  rw [gDg,List.getElem?_map,gEg h1]
  rw [gDg,gEg h1] at h2
  exact congrArg (hcN g i) h2
 ·unfold hcR
  rw [e0]
  refine List.ext_getElem (by simp) fun j h3 h4 => ?_
  simp only [List.length_map] at h3
  rw [List.getElem_map,List.getElem_set]
  split
  ·rename_i e
   subst e
   rw [gDg,gEg h1] at h2
   exact congrArg (hcN g (i+1)) h2
  ·rename_i hne
   rw [List.getElem_map]
   refine hcN_other ?_
   rw [hh]
   intro e
   have e':(namN g i).getD j []=h:=by rw [gDg,gEg h3]; exact e
   rcases Nat.lt_or_ge j k with hjk | hjk
   ·have:=asc_getD hs hjk h1
    rw [e',h2,ltB_irr] at this; cases this
   ·have:=asc_getD hs (by omega:k<j) h3
    rw [e',h2,ltB_irr] at this; cases this
theorem hcR_new {g:List Ex} {i:Nat} (hc:((g.getD i ex0).sd==0)=true) (hm:(namN g i).contains (hostE (g.getD i ex0))=false) :
  hcN g (i+1) (hostE (g.getD i ex0))=(hostE (g.getD i ex0),0+1,0+(g.getD i ex0).an.length) ∧
  hcR g (i+1)=(hcR g i).take (lowN (hostE (g.getD i ex0)) (namN g i))++([hcN g (i+1) (hostE (g.getD i ex0))]++(hcR g i).drop (lowN (hostE (g.getD i ex0)) (namN g i))):=by
 have hn:hostE (g.getD i ex0) ∉ namN g i:=fun k=>by
  have:(namN g i).contains (hostE (g.getD i ex0))=true:=by simpa using k
  rw [this] at hm; cases hm
 obtain ⟨n1,n2⟩:=notN hn
 refine ⟨by rw [hcN_own hc,n1,n2],?_⟩
 have e0:namN g (i+1)=putG (hostE (g.getD i ex0)) (namN g i) false:=by rw [namN,if_pos hc,putL,hm,if_neg Bool.false_ne_true]
 have hoth:∀ l:List (List UInt8),(∀ n,n∈l→n∈namN g i)→l.map (hcN g (i+1))=l.map (hcN g i):=fun l hl =>
  List.map_congr_left fun n hn'=>hcN_other fun e=>hn (e▸hl n hn')
 show (namN g (i+1)).map _=_
 rw [e0,putG_ins (namN_asc g i) hn,List.map_append,List.map_append,hoth _ fun n h=>List.mem_of_mem_take h,hoth _ fun n h=>List.mem_of_mem_drop h,List.map_take,List.map_drop]
 rfl
end Go.Proofs.YtbdfdfhamlmodaaGreatDoor.Fw
namespace Go.Proofs.YtbdfdfhamlmodaaGreatDoor.Fw
open Go
open Go.Proofs.Tryz
set_option maxRecDepth 100000
set_option maxHeartbeats 4000000
theorem cells94:prog.cellsOf 94=3:=(tbOk 94 _ rfl).cellsOf
theorem fl94:flatP prog 94=true:=by rw [←(tbOk 94 _ rfl).flat]; rfl
theorem un51:prog.underlying 51=some (.slice 94):=Go.Proofs.Tryz.underlying51
structure Cel (xs:List (List T)) (vs:List Value):Prop where
 len:vs.length=xs.length*3
 get:∀ i k t,T.get? xs i k=some t→∃ v,vs[i*3+k]? = some v∧t = .v v∧scal v=true
 row:∀ (i:Nat) (r:List T),xs[i]? = some r→r.length=3
 one:∀ v∈vs,one v=true
theorem Cel.in {xs:List (List T)} {vs:List Value} (h:Cel xs vs) {i k:Nat} {t:T} (ht:T.get? xs i k=some t):i<xs.length∧k<3:=by
 unfold T.get? at ht
 cases hx:xs[i]? with
 | none=>rw [hx] at ht; simp at ht
 | some r =>
  rw [hx] at ht
  have:=(gSm (by simpa using ht:r[k]? = some t)).1
  exact ⟨(gSm hx).1,by rw [←h.row i r hx]; exact this⟩
theorem Cel.app {xs ys:List (List T)} {vs us:List Value} (h:Cel xs vs) (g:Cel ys us):Cel (xs++ys) (vs++us):=by
 refine ⟨by rw [List.length_append,List.length_append,h.len,g.len]; omega,?_,?_,?_⟩
 ·intro i k t ht
  rw [get?_append] at ht
  split at ht
  ·obtain ⟨v,h1,h2⟩:=h.get i k t ht
   exact ⟨v,by rw [List.getElem?_append_left (gSm h1).1]; exact h1,h2⟩
  ·obtain ⟨v,h1,h2⟩:=g.get _ k t ht
   refine ⟨v,?_,h2⟩
   have e:i*3+k=vs.length+((i-xs.length)*3+k):=by rw [h.len]; omega
   rw [e,List.getElem?_append_right (by omega),Nat.add_sub_cancel_left]; exact h1
 ·intro i r hr
  by_cases hi:i<xs.length
  ·rw [List.getElem?_append_left hi] at hr; exact h.row i r hr
  ·rw [List.getElem?_append_right (by omega)] at hr; exact g.row _ r hr
 ·intro v hv
  rcases List.mem_append.1 hv with hv | hv
  ·exact h.one v hv
  ·exact g.one v hv
theorem Cel.take {xs:List (List T)} {vs:List Value} (h:Cel xs vs) (n:Nat):Cel (xs.take n) (vs.take (n*3)):=by
 refine ⟨by rw [List.length_take,List.length_take,h.len]; omega,?_,?_,fun v hv=>h.one v (List.mem_of_mem_take hv)⟩
 ·intro i k t ht
  have hi:i<n:=by
   unfold T.get? at ht
   rw [List.getElem?_take] at ht
   split at ht
   ·assumption
   ·simp at ht
  have ht2:T.get? xs i k=some t:=by
   unfold T.get? at ht ⊢
   rwa [List.getElem?_take_of_lt hi] at ht
  obtain ⟨v,h1,h2⟩:=h.get i k t ht2
  have:=h.in ht2
  exact ⟨v,by rw [List.getElem?_take_of_lt (by omega)]; exact h1,h2⟩
 ·intro i r hr
  rw [List.getElem?_take] at hr
  split at hr
  ·exact h.row i r hr
  ·cases hr
theorem Cel.drop {xs:List (List T)} {vs:List Value} (h:Cel xs vs) (n:Nat):Cel (xs.drop n) (vs.drop (n*3)):=by
 refine ⟨by rw [List.length_drop,List.length_drop,h.len]; omega,?_,?_,fun v hv=>h.one v (List.mem_of_mem_drop hv)⟩
 ·intro i k t ht
  have ht2:T.get? xs (n+i) k=some t:=by
   unfold T.get? at ht ⊢
   rwa [List.getElem?_drop] at ht
  obtain ⟨v,h1,h2⟩:=h.get _ k t ht2
  exact ⟨v,by rw [List.getElem?_drop,←h1]; congr 1; omega,h2⟩
 ·intro i r hr
  rw [List.getElem?_drop] at hr
  exact h.row _ r hr
def insT (xs:List (List T)) (k:Nat) (r:List T):List (List T):=xs.take k++([r]++xs.drop k)
theorem insT_length {xs:List (List T)} {k:Nat} (h:k≤xs.length) (r:List T):(insT xs k r).length=xs.length+1:=by
 simp [insT]; omega
def insC (os:List Value) (k:Nat) (ns:List Value):List Value:=os.take (k*3)++(ns++os.drop (k*3))
theorem insC_get {os ns:List Value} {k m:Nat} (hk:k*3≤os.length) (hn:ns.length=3):(insC os k ns)[m]? = if k*3≤m∧m<k*3+3 then ns[m-k*3]? else if (k+1)*3≤m then os[m-3]? else os[m]? := by
 have hl:(os.take (k*3)).length=k*3:=by rw [List.length_take]; omega
 unfold insC
 by_cases h1:m<k*3
 ·rw [if_neg (by omega),if_neg (by omega),List.getElem?_append_left (by omega),List.getElem?_take_of_lt h1]
 ·rw [List.getElem?_append_right (by omega),hl]
  by_cases h2:m<k*3+3
  ·rw [if_pos (by omega),List.getElem?_append_left (by omega)]
  ·rw [if_neg (by omega),if_pos (by omega),List.getElem?_append_right (by omega),List.getElem?_drop]
   congr 1; omega
def InsOut (w:World) (F:Nat→Prop) (zs:List (List T)) (e:Go.Ending) (w':World):Prop :=
 ∃ v',e = .returned v'∧((w'=w∧OwnT prog w (.sl 94 zs) v' F)∨(∃ b cs fr cs',F b∧Wrt w w' b cs 94 fr cs'∧OwnT prog w' (.sl 94 zs) v' F) ∨
  (Ext w w'∧w'.heap.size=w.heap.size+1∧OwnT prog w' (.sl 94 zs) v' (fun b=>b=w.heap.size)))
theorem flat3 {zs:List (List T)} {vs:List Value} (h:Cel zs vs):flatP prog 94=true→∀ i j t,T.get? zs i j=some t→t.isV=true:=by
 intro _ i j t ht
 obtain ⟨v,_,rfl,_⟩:=h.get i j t ht
 rfl
theorem ins_core {w:World} {xs:List (List T)} {r:List T} {v0 v2:Value} {F0 F2:Nat→Prop} (ho:OwnT prog w (.sl 94 xs) v0 F0) (h2:OwnT prog w (.sl 94 [r]) v2 F2) (hd:∀ b,F0 b→¬ F2 b) {k:Nat} (hk:k≤xs.length)
  (hbig:(xs.length+1)*32≤140737488355328):Calls prog 75 #[v0,vI k,v2] w (InsOut w F0 (insT xs k r)):=by
 have h94:=cells94
 obtain ⟨base2,cap2,ns,rfl,n2,n3,n4,n5,n6,n7⟩:=flat_cells (h2.rd (S:=fun _=>True) fun _ _=>trivial) fl94 (by omega) (by decide)
 obtain ⟨base,cap,os,rfl,b2,b3,b4,b5,b6,b7⟩:=flat_cells (ho.rd (S:=fun _=>True) fun _ _=>trivial) fl94 (by omega) (by decide)
 rw [h94] at n2 n6 n7 b2 b6 b7
 have C2:Cel [r] ns:=⟨n2,n6,n7,n5⟩
 have C0:Cel xs os:=⟨b2,b6,b7,b5⟩
 have nl:ns.length=3:=by simpa using n2
 have CI:Cel (insT xs k r) (insC os k ns):=(C0.take k).app (C2.app (C0.drop k))
 have hil:=insT_length hk r
 cases h2 with
 | row _ _ vb vo _ csv frv _ G2 X2 p1 p2 p3 p4 p5 p6 p7 p8 p9 p10 p11 p12 =>
 rw [h94] at p3 p4
 have p5:1≤cap2:=p5
 have hov:=n4 _ rfl
 simp only [add_plain] at hov
 by_cases hkn:k=xs.length
 ·subst hkn
  have e1:insT xs xs.length r=xs++[r]:=by simp [insT]
  rw [e1]
  have hs:SrcT prog w 51 94 (.slice (some ⟨vb,vo,none⟩) [r].length cap2) [r] ns:=by
   refine ⟨?_,n5,?_,?_⟩
   ·exact Src.ofSlice w un51 _ [r].length cap2 ns (by rw [h94]; exact n2) (n4 _ rfl) (fun u hu=>one_oneCell (n5 u hu))
   ·rw [h94]; exact n6
   ·rw [h94]; exact n7
  have key:∀ v' w',(Builtin.append_ #[51,51] 51 #[.slice base xs.length cap,.slice (some ⟨vb,vo,none⟩) [r].length cap2]).run prog w = .ok v' w'→Calls prog 75 #[.slice base xs.length cap,vI xs.length,.slice (some ⟨vb,vo,none⟩) [r].length cap2] w fun e w2=>e = .returned v'∧w2=w':=by
   intro v' w' hr
   cases ho with
   | emp=>exact Go.Proofs.ins_end none 0 0 vb vo cap2 v' w w' (Nat.le_refl _) (by omega) (fun _=>⟨rfl,rfl⟩) (fun a h=>by cases h) fun ty=>hr
   | row _ _ b o _ cs fr _ G X g1 g2 g3 g4 g5 g6 g7 g8 g9 g10 g11 g12=>exact Go.Proofs.ins_end _ xs.length cap vb vo cap2 v' w w' g5 g6 (fun h=>by cases h) (fun a h=>by cases h; rfl) fun ty=>hr
  rcases append_core (ty:=51) un51 (tbOk 94 _ rfl) fl94 (by decide) (by decide) ho hs (by simpa using hbig) with ⟨v',h1,h2⟩ | ⟨v',w',b,cs,fr,cs',h1,hb,x,h2⟩ | ⟨v',w',h1,x,hsz,h2⟩
  ·refine (key _ _ h1).mono ?_
   rintro e w2 ⟨rfl,rfl⟩
   exact ⟨v',rfl,.inl ⟨rfl,h2⟩⟩
  ·refine (key _ _ h1).mono ?_
   rintro e w2 ⟨rfl,rfl⟩
   exact ⟨v',rfl,.inr (.inl ⟨b,cs,fr,cs',hb,x,h2⟩)⟩
  ·refine (key _ _ h1).mono ?_
   rintro e w2 ⟨rfl,rfl⟩
   exact ⟨v',rfl,.inr (.inr ⟨x,hsz,h2⟩)⟩
 ·have hlt:k<xs.length:=by omega
  cases ho with
  | emp=>simp at hlt
  | row _ _ b o _ cs fr _ G X g1 g2 g3 g4 g5 g6 g7 g8 g9 g10 g11 g12 =>
  rw [h94] at g3 g4
  have hob:=b4 _ rfl
  simp only [add_plain] at hob
  have hob2:∀ j,j<os.length→cs[o+j]? = os[j]? := by
   intro j hj
   have:=hob j _ (gEg hj)
   rw [cell_of g1] at this
   rw [this,gEg hj]
  by_cases hroom:xs.length+1≤cap
  ·have hcap3:(xs.length+1)*3≤cap*3:=Nat.mul_le_mul_right _ hroom
   have hc:=Go.Proofs.ins_shift b o xs.length cap k vb vo cap2 os ns w hlt hroom g6 (by rintro rfl; exact hd _ g2 p2) b2 nl hob
    (by intro j hj; rw [cell_of g1,Array.getElem?_eq_getElem (by omega)]; rfl)
    (by intro j hj; have:=g3 (o+j) (by omega); simp [World.frozen?,g1]; omega)
    hov (fun v hv=>one_oneCell (b5 v hv)) (fun v hv=>one_oneCell (n5 v hv)) 94 94 csv.size cs.size (by simp [World.shape?,p1]) (by simp [World.shape?,g1]) (by omega)
    (by have:=p3 vo (by omega); simp [World.frozen?,p1]; omega) (by have:=p3 csv.size (by omega); simp [World.frozen?,p1]; omega)
   refine Calls.mono hc ?_
   rintro e w2 ⟨rfl,rfl⟩
   have hdl:(os.drop (k*3)).length=(xs.length-k)*3:=by rw [List.length_drop,b2]; omega
   obtain ⟨cs1,x1,f1⟩:=setCells_wrt b 94 fr (os.drop (k*3)) (o+(k+1)*3) w.drew cs g1 (by rw [hdl]; omega)
   obtain ⟨cs2,x2,f2⟩:=setCells_wrt b 94 fr ns (o+k*3) _ cs1 x1.new (by rw [nl,x1.sz]; omega)
   have x:Wrt w ((w.drew.setCells b (o+(k+1)*3) (os.drop (k*3))).setCells b (o+k*3) ns) b cs 94 fr cs2 :=
    ⟨x2.os.trans x1.os,x2.tape.trans x1.tape,x2.output.trans x1.output,x2.size.trans x1.size,fun i hi=>(x2.kept i hi).trans (x1.kept i hi),g1,x2.new,x2.sz.trans x1.sz⟩
   generalize (w.drew.setCells b (o+(k+1)*3) (os.drop (k*3))).setCells b (o+k*3) ns=W2 at x ⊢
   refine ⟨_,rfl,.inr (.inl ⟨b,cs,fr,cs2,g2,x,?_⟩)⟩
   have hO:OwnT prog W2 (.sl 94 (insT xs k r)) (.slice (some ⟨b,o,none⟩) (insT xs k r).length cap) (fun b'=>b'=b):=by
    refine OwnT.simple (cs:=cs2) (fr:=fr) x.new ?_ ?_ (by rw [hil]; exact hroom) g6 (by rw [h94]; exact CI.row) ?_ (flat3 CI)
    ·rw [h94,x.sz]; exact g3
    ·rw [h94,x.sz]; exact g4
    ·intro i j t ht
     obtain ⟨v,h1,h2⟩:=CI.get i j t ht
     refine ⟨v,?_,.inl h2⟩
     rw [insC_get (by omega) nl] at h1
     rw [h94,f2,nl,Nat.add_assoc]
     by_cases c1:k*3≤i*3+j∧i*3+j<k*3+3
     ·rw [if_pos c1] at h1
      rw [if_pos (by omega),←h1]; congr 1; omega
     ·rw [if_neg c1] at h1
      rw [if_neg (by omega),f1,hdl]
      by_cases c2:(k+1)*3≤i*3+j
      ·rw [if_pos c2] at h1
       have:=(gSm h1).1
       rw [if_pos (by omega),List.getElem?_drop,←h1]; congr 1; omega
      ·rw [if_neg c2] at h1
       rw [if_neg (by omega),hob2 _ (by omega)]; exact h1
   rw [hil] at hO
   exact hO.mono (fun b' hb=>by rw [hb]; exact g2) fun _ _ _=>rfl
  ·have hc:=Go.Proofs.ins_grow b o xs.length cap k vb vo cap2 os ns w hlt g5 (by omega) hbig b2 nl hob hov (fun v hv=>one_oneCell (b5 v hv)) (fun v hv=>one_oneCell (n5 v hv))
   refine Calls.mono hc ?_
   have hcap:xs.length+1≤grownCap w (xs.length+1) cap 94∧grownCap w (xs.length+1) cap 94≤9223372036854775807:=by
    unfold grownCap Question.cut
    simp only
    have:w.tape w.drawn (.appendCap (xs.length+1) cap 94) % (2 ^ 63-(xs.length+1))<2 ^ 63-(xs.length+1):=Nat.mod_lt _ (by omega)
    omega
   generalize grownCap w (xs.length+1) cap 94=nc at hcap ⊢
   rintro e w2 ⟨rfl,rfl⟩
   generalize hROW:(os.take (k*3)).toArray++Builtin.zeroCells Go.Proofs.zHC.cells (xs.length+1-k)++Builtin.zeroCells Go.Proofs.zHC.cells (nc-(xs.length+1))=ROW
   have hsz:ROW.size=nc*3:=by
    rw [←hROW]
    simp [Builtin.zeroCells,Go.Proofs.zHC,Value.cells,b2]
    omega
   have hR:∀ j,j<k*3→ROW[j]? = os[j]? := by
    intro j hj
    rw [←hROW,Array.append_assoc,Array.getElem?_append_left (by simp [b2]; omega)]
    simp [hj]
   have hnew:((w.alloc (.cells ROW 94)).drew).heap[w.heap.size]? = some (.cells ROW 94 (0,0)):=heap_new w _
   have hdl:(os.drop (k*3)).length=(xs.length-k)*3:=by rw [List.length_drop,b2]; omega
   obtain ⟨cs1,x1,f1⟩:=setCells_wrt w.heap.size 94 (0,0) ns (k*3) _ ROW hnew (by rw [nl,hsz]; omega)
   obtain ⟨cs2,x2,f2⟩:=setCells_wrt w.heap.size 94 (0,0) (os.drop (k*3)) ((k+1)*3) ((((w.alloc (.cells ROW 94)).drew).setCells w.heap.size (k*3) ns).drew) cs1 x1.new (by rw [hdl,x1.sz,hsz]; omega)
   have hx2:cs2.size=nc*3:=by rw [x2.sz,x1.sz,hsz]
   have xe:Ext w ((((w.alloc (.cells ROW 94)).drew.setCells w.heap.size (k*3) ns).drew).setCells w.heap.size ((k+1)*3) (os.drop (k*3))):=by
    refine ⟨x2.os.trans x1.os,x2.tape.trans x1.tape,x2.output.trans x1.output,?_,?_⟩
    ·rw [x2.size]
     show _≤(((w.alloc (.cells ROW 94)).drew).setCells w.heap.size (k*3) ns).heap.size
     rw [x1.size]
     exact (Ext.alloc w _).size
    ·intro b' hb'
     refine (x2.kept b' (by omega)).trans ((x1.kept b' (by omega)).trans ?_)
     exact (Ext.alloc w _).kept b' hb'
   have xs2:=x2.size
   have x2n:=x2.new
   have xz:((((w.alloc (.cells ROW 94)).drew.setCells w.heap.size (k*3) ns).drew).setCells w.heap.size ((k+1)*3) (os.drop (k*3))).heap.size=w.heap.size+1:=by
    rw [xs2]
    show (((w.alloc (.cells ROW 94)).drew).setCells w.heap.size (k*3) ns).heap.size=_
    rw [x1.size]
    exact size_alloc w _
   generalize (((w.alloc (.cells ROW 94)).drew.setCells w.heap.size (k*3) ns).drew).setCells w.heap.size ((k+1)*3) (os.drop (k*3))=W2 at xe xz x2n ⊢
   refine ⟨_,rfl,.inr (.inr ⟨xe,xz,?_⟩)⟩
   ·have hO:OwnT prog W2 (.sl 94 (insT xs k r)) (.slice (some ⟨w.heap.size,0,none⟩) (insT xs k r).length nc) (fun b'=>b'=w.heap.size):=by
     refine OwnT.simple (cs:=cs2) (fr:=(0,0)) x2n (fun o' _ h=>by simp at h) ?_ (by rw [hil]; exact hcap.1) hcap.2 (by rw [h94]; exact CI.row) ?_ (flat3 CI)
     ·rw [h94,hx2]; omega
     ·intro i j t ht
      obtain ⟨v,h1,h2⟩:=CI.get i j t ht
      refine ⟨v,?_,.inl h2⟩
      rw [insC_get (by omega) nl] at h1
      rw [h94,Nat.zero_add,f2,hdl]
      by_cases c2:(k+1)*3≤i*3+j
      ·rw [if_neg (by omega),if_pos c2] at h1
       have:=(gSm h1).1
       rw [if_pos (by omega),List.getElem?_drop,←h1]; congr 1; omega
      ·rw [if_neg (by omega),f1,nl]
       by_cases c1:k*3≤i*3+j∧i*3+j<k*3+3
       ·rw [if_pos c1] at h1
        rw [if_pos c1]; exact h1
       ·rw [if_neg c1,if_neg c2] at h1
        rw [if_neg c1,hR _ (by omega)]; exact h1
    rw [hil] at hO
    exact hO
theorem tmps3 {a:Act} (hsz:a.tmps.size=3):a.tmps = #[a.tmps.getD 0 undef,a.tmps.getD 1 undef,a.tmps.getD 2 undef]:=by
 apply Array.ext
 ·simpa using hsz
 ·intro i hi hi2
  have:i=0∨i=1∨i=2:=by simp at hi2; omega
  rcases this with rfl | rfl | rfl<;>simp [Array.getD,hsz]
theorem c75 {xs:List (List T)} {r:List T} {k:Nat} (hk:k≤xs.length) (hbig:(xs.length+1)*32≤140737488355328) :
  Sem prog 75 ⟨[.own 94 xs,.v (vI k),.own 94 [r]],[none,none,none]⟩ ⟨[.dead,.dead,.dead,.own 94 (insT xs k r)],[none,none,none,none]⟩:=by
 intro w a F loc M R
 refine .inl ⟨enter_of func75 rfl rfl _ _,?_⟩
 have h0:=slot_of R (i:=0) (d := .own 94 xs) rfl rfl (by simp)
 have h1:=slot_of R (i:=1) (d := .v (vI k)) rfl rfl (by simp)
 have h2:=slot_of R (i:=2) (d := .own 94 [r]) rfl rfl (by simp)
 have hl:a.tmps.size=3:=R.tmps
 have ha:=tmps3 hl
 generalize a.tmps.getD 0 undef=v0 at h0 ha
 generalize a.tmps.getD 1 undef=v1 at h1 ha
 generalize a.tmps.getD 2 undef=v2 at h2 ha
 cases h0 with
 | own _ _ _ o0 =>
 cases h1
 cases h2 with
 | own _ _ _ o2 =>
 have hc:=ins_core o0 o2 (fun b h h'=>by have:=R.disj ⟨false,0,0⟩ ⟨false,2,0⟩ b h h'; simp at this) hk hbig
 rw [ha]
 refine hc.mono ?_
 rintro e w' ⟨v',rfl,hx⟩
 refine ⟨v',rfl,?_⟩
 have R1:Rel w (lentOf ⟨[.own 94 xs,.v (vI k),.own 94 [r]],[none,none,none]⟩ F loc) ⟨prog,⟨[.dead,.dead,.dead],[none,none,none]⟩,a,w,F,loc,M⟩:=R.kill fun _=>true
 have hdead:∀ (e:TypeId) (ys:List (List T)),(⟨[.dead,.dead,.dead,.dead],[none,none,none,none]⟩:Env).leaf ⟨false,0,0⟩ ≠ .own e ys:=fun e ys h=>by cases h
 have R2:=R1.pad 1
 have ep:(⟨prog,⟨[.dead,.dead,.dead],[none,none,none]⟩,a,w,F,loc,M⟩:Ctx).E.pad 1=⟨[.dead,.dead,.dead,.dead],[none,none,none,none]⟩:=rfl
 have eset:(a.tmps++Array.replicate 1 undef).setIfInBounds 3 v'=a.tmps.push v':=by
  have:=set_push a.tmps v'
  rw [hl] at this
  exact this
 rw [ep] at R2
 rcases hx with ⟨rfl,h⟩ | ⟨b,cs,fr,cs',hb,x,h⟩ | ⟨x,hs,h⟩
 ·obtain ⟨F',R3⟩:=R2.put2 (q:=⟨false,0,0⟩) hdead (t:=3) rfl h
  refine ⟨F',loc,fun _ _=>rfl,?_⟩
  have R3:Rel w' _ ⟨prog,⟨[.dead,.dead,.dead,.own 94 (insT xs k r)],[none,none,none,none]⟩,⟨(a.tmps++Array.replicate 1 undef).setIfInBounds 3 v',[]⟩,w',F',loc,M⟩:=R3
  rw [eset,ha] at R3
  exact R3
 ·have R3:=R2.wrf (q:=⟨false,0,0⟩) hb hdead x
  obtain ⟨F',R4⟩:=R3.put2 (q:=⟨false,0,0⟩) hdead (t:=3) rfl h
  refine ⟨F',loc,fun _ _=>rfl,?_⟩
  have R4:Rel w _ ⟨prog,⟨[.dead,.dead,.dead,.own 94 (insT xs k r)],[none,none,none,none]⟩,⟨(a.tmps++Array.replicate 1 undef).setIfInBounds 3 v',[]⟩,w',F',loc,M⟩:=R4
  rw [eset,ha] at R4
  exact R4
 ·obtain ⟨F',R3⟩:=R2.wr1 x 3 94 (insT xs k r) v' (fun b=>b=w.heap.size) (by rintro b rfl; rw [hs]; exact ⟨Nat.le_refl _,Nat.lt_succ_self _⟩) h
  refine ⟨F',loc,fun _ _=>rfl,?_⟩
  have R3:Rel w _ ⟨prog,⟨[.dead,.dead,.dead,.own 94 (insT xs k r)],[none,none,none,none]⟩,⟨(a.tmps++Array.replicate 1 undef).setIfInBounds 3 v',[]⟩,w',F',loc,M⟩:=R3
  rw [eset,ha] at R3
  exact R3
end Go.Proofs.YtbdfdfhamlmodaaGreatDoor.Fw
namespace Go.Proofs.YtbdfdfhamlmodaaGreatDoor.Fw
open Go
open Go.Proofs.Tryz
set_option maxRecDepth 100000
set_option maxHeartbeats 4000000
attribute [local congr] c_bnd c_slot c_cell c_all c_len c_chk c_asm c_opdR c_wp c_pwp c_pOps c_Done c_nx c_blk c_fin c_coeLeaf c_coeLeaves c_argR c_argsR c_partsR c_ite c_wpF c_OutF c_pHead c_pHeadN c_pDraw
attribute [local go_sem] rowsE_length
def szX (e:Ex) (k:Int):Int:=if k-e.ur.length<0 then -1 else if k-e.ur.length-e.rq.length<0 then -1 else if k-e.ur.length-e.rq.length-e.an.length<0 then -1 else k-e.ur.length-e.rq.length-e.an.length
def szXs:List Ex→Int→Int
 | [],k=>k
 | e::l,k=>if szX e k<0 then -1 else szXs l (szX e k)
theorem szX_le {e:Ex} {k:Int} (h:0≤k):szX e k≤k:=by unfold szX; split<;>(try split)<;>(try split)<;>omega
theorem szX_in {e:Ex} {k:Int} (hk:k≤1048576) (h:¬ szX e k<0):e.ur.length≤1048576∧e.rq.length≤1048576∧e.an.length≤1048576:=by
 unfold szX at h
 split at h
 ·exact absurd (by decide) h
 split at h
 ·exact absurd (by decide) h
 split at h
 ·exact absurd (by decide) h
 exact ⟨by omega,by omega,by omega⟩
theorem szXs_in:∀ {l:List Ex} {k:Int},0≤k→k≤1048576→¬ szXs l k<0→∀ e,e∈l→e.ur.length≤1048576∧e.rq.length≤1048576∧e.an.length≤1048576
 | [],_,_,_,_,e,he=>by simp at he
 | a::l,k,h0,hk,h,e,he=>by
  rw [szXs] at h
  by_cases hz:szX a k<0
  ·rw [if_pos hz] at h; exact absurd (by decide) h
  ·rw [if_neg hz] at h
   rcases List.mem_cons.1 he with rfl | he
   ·exact szX_in hk hz
   ·exact szXs_in (by omega) (Int.le_trans (szX_le h0) hk) h e he
def BigE (l:List Ex):Prop:=l.length≤9223372036854775807∧∀ e,e∈l→e.ur.length≤9223372036854775807∧e.rq.length≤9223372036854775807∧e.an.length≤9223372036854775807
theorem BigE.at {l:List Ex} (h:BigE l) {i:Nat} (hi:i<l.length):(l.getD i ex0).ur.length≤9223372036854775807∧(l.getD i ex0).rq.length≤9223372036854775807∧(l.getD i ex0).an.length≤9223372036854775807:=by
 refine h.2 _ ?_
 rw [gDg,gEg hi]
 exact List.getElem_mem hi
def szE (l:List Ex) (k:Int):Int:=if k-l.length<0 then -1 else szXs l (k-l.length)
theorem szE_in {l:List Ex} (h:¬ szE l 1048576<0):SmallE l∧l.length≤1048576:=by
 unfold szE at h
 split at h
 ·exact absurd (by decide) h
 ·exact ⟨⟨by omega,szXs_in (by omega) (by omega) h⟩,by omega⟩
theorem c47 (e:Ex) (h1:e.ur.length≤9223372036854775807) (h2:e.rq.length≤9223372036854775807) (h3:e.an.length≤9223372036854775807) (k:Int) (h0:0≤k) (hk:k≤1048576):Q2 47 (exD e) (.v (vI k)) (.v (vI (szX e k))):=by
 have w1:IntKind.i64.wrap (k-e.ur.length)=k-e.ur.length:=wrapI (by omega)
 unfold szX
 by_cases a1:k-e.ur.length<0
 ·rw [if_pos a1]
  refine sb 2 [.tm 4] func47 ?_
  exact fz
 have w2:IntKind.i64.wrap (k-e.ur.length-e.rq.length)=k-e.ur.length-e.rq.length:=wrapI (by omega)
 rw [if_neg a1]
 by_cases a2:k-e.ur.length-e.rq.length<0
 ·rw [if_pos a2]
  refine sb 2 [.tm 4] func47 ?_
  exact fz
 have w3:IntKind.i64.wrap (k-e.ur.length-e.rq.length-e.an.length)=k-e.ur.length-e.rq.length-e.an.length:=wrapI (by omega)
 rw [if_neg a2]
 by_cases a3:k-e.ur.length-e.rq.length-e.an.length<0
 ·rw [if_pos a3]
  refine sb 2 [.tm 4] func47 ?_
  exact fz
 ·rw [if_neg a3]
  refine sb 2 [.tm 4] func47 ?_
  exact fz
theorem c50 (e:Ex):Q1 50 (exD e) (exD e):=by
 refine sb 1 [.ce 2 71] func50 ?_
 exact fz
theorem c53 (e:Ex):Q2 53 (exD e) (exD e) (.v (vB true)):=by
 have b1:∀ x:Int,(x != x)=false:=fun x=>by simp
 have b2:∀ x:List UInt8,(x != x)=false:=fun x=>by simp
 refine sb 2 [.tm 4] func53 ?_
 exact fz
theorem c16 (l:List Ex) (hl:BigE l):Q2 16 (.imm 67 (rowsE l)) (.v (vI 1048576)) (.v (vI (szE l 1048576))):=by
 have hs:l.length≤9223372036854775807:=hl.1
 have w0:IntKind.i64.wrap ((1048576:Int)-l.length)=1048576-l.length:=wrapI (by omega)
 unfold szE
 by_cases a1:(1048576:Int)-l.length<0
 ·rw [if_pos a1]
  refine sb 2 [.tm 4] func16 ?_
  exact fz
 rw [if_neg a1]
 refine sb 2 [.tm 4] func16 ?_
 refine loopZ (fun s:Nat × Int=>pE 27 [.imm 67 (rowsE l),.v (vI s.2),.dead,.dead,.v (vI 0),.v (vI s.1)]) [0,1,4,5] (fun s=>s.1≤l.length∧0≤s.2∧s.2≤1048576∧szXs (l.drop s.1) s.2=szXs l (1048576-l.length)) (fun s=>l.length-s.1) (0,1048576-l.length) rfl ⟨by show 0≤_; omega,by show 0≤(1048576:Int)-_; omega,by show (1048576:Int)-_≤_; omega,rfl⟩ ?_
 intro ⟨i,kk⟩ ⟨hi,hk0,hk1,hsz⟩
 simp only at hi hk0 hk1 hsz ⊢
 by_cases hc:i<l.length
 ·have hw:=wrapN hc hs
  have e1:=rowsE_getD hc
  have hsm:=hl.at hc
  rw [drop_at (d:=ex0) hc] at hsz
  have x1:=c47 (l.getD i ex0) hsm.1 hsm.2.1 hsm.2.2 kk hk0 hk1
  have hup:szX (l.getD i ex0) kk≤kk:=szX_le hk0
  have hm1:szX (l.getD i ex0) kk<0→szXs (l.getD i ex0::l.drop (i+1)) kk=-1:=fun h=>by rw [szXs,if_pos h]
  have hm2:¬ szX (l.getD i ex0) kk<0→szXs (l.getD i ex0::l.drop (i+1)) kk=szXs (l.drop (i+1)) (szX (l.getD i ex0) kk):=fun h=>by rw [szXs,if_neg h]
  generalize szX (l.getD i ex0) kk=z at x1 hup hm1 hm2
  by_cases hz:z<0
  ·rw [hm1 hz] at hsz
   rw [←hsz]
   clear hm1 hm2 hsz hup
   refine Z ?_
   refine call0 x1 ?_
   exact fz
  ·rw [hm2 hz] at hsz
   clear hm1 hm2
   refine X4 hc hs hw e1 ?_
   refine call0 x1 ?_
   exact ⟨(i+1,z),rfl,⟨hc,by show 0≤z; omega,by show z≤_; omega,hsz⟩,by show _-(i+1)<_; omega⟩
 ·rw [List.drop_of_length_le (by omega)] at hsz
  have hsz:kk=szXs l (1048576-l.length):=hsz
  rw [←hsz]
  clear hsz
  refine Z ?_
  exact fz
def gs30_0:List (Option (List Nat)):=[some [18,21,22,23,24],some [17,21,22,23,24],some [21,22,23,24],some [21,22,23,24],some [17,18,19,20,22],some [17,18,19,20,21],some [17,18,19,20],some [17,18,19,20],none,none]
attribute [go_sem] gs30_0
def gs33_0:List (Option (List Nat)):=[some [13,17,18],some [12,17,18],some [17,18],some [17,18],some [17,18],some [12,13,14,15,16],some [12,13,14,15,16],none]
attribute [go_sem] gs33_0
attribute [local go_sem] rowsH_length rowsS_length rowsE_length List.length_set List.set_set
theorem c74 (a b:List UInt8):Sem prog 74 ⟨[.v (vS a),.v (vS b)],[none,none]⟩ ⟨[.v (vS a),.v (vS b),.v (vI (Lib.compareBytes a b))],[none,none,none]⟩:=by
 refine sem_calls (Ein:=⟨[.v (vS a),.v (vS b)],[none,none]⟩) (r:=vI (Lib.compareBytes a b)) (enter_of func74 rfl rfl) rfl rfl rfl ?_
 intro w act F loc M R
 have h0:=slot_of R (i:=0) (d := .v (vS a)) rfl rfl (by simp)
 have h1:=slot_of R (i:=1) (d := .v (vS b)) rfl rfl (by simp)
 rw [args2 R.tmps]
 generalize act.tmps.getD 0 undef=v0 at h0
 generalize act.tmps.getD 1 undef=v1 at h1
 cases h0
 cases h1
 exact (Go.Proofs.cmp_str (ofL a) (ofL b) w).mono fun e w' ⟨he,hw⟩=>⟨he,hw▸RowKit.Below.refl _ _⟩
theorem c73 (a b:List UInt8) (m n:Int):Q2 73 (.agg [.v (vS a),.v (vI m),.v (vI n)]) (.v (vS b)) (.v (vI (Lib.compareBytes a b))):=by
 have x1:=c74 a b
 refine sb 2 [.tm 4] func73 ?_
 refine call0 x1 ?_
 exact fz
theorem c76 (p:Hc):Q2 76 (.agg [.v (vS p.1),.v (vI (p.2.1:Nat)),.v (vI (p.2.2:Nat))]) (.agg [.v (vS p.1),.v (vI (p.2.1:Nat)),.v (vI (p.2.2:Nat))]) (.v (vB true)):=by
 have b1:∀ x:Int,(x != x)=false:=fun x=>by simp
 have b2:∀ x:List UInt8,(x != x)=false:=fun x=>by simp
 refine sb 2 [.tm 4] func76 ?_
 exact fz
theorem c30 (l:List Hc) (hs:l.length≤9223372036854775807):Q2 30 (.imm 94 (rowsH l)) (.imm 94 (rowsH l)) (.v (vB true)):=by
 have hne:((l.length:Int) != (l.length:Int))=false:=by simp
 refine sb 2 [.tm 4] func30 ?_
 refine loopZ (fun i:Nat=>pE 27 [.imm 94 (rowsH l),.imm 94 (rowsH l),.dead,.dead,.v (vB false),.v (vI i)]) [0,1,4,5] (fun i=>i≤l.length) (fun i=>l.length-i) 0 rfl (Nat.zero_le _) ?_
 intro i hi
 by_cases hc:i<l.length
 ·have hw:=wrapN hc hs
  have e1:=rowsH_getD hc
  have x1:=c76 (l.getD i hc0)
  refine Z ?_
  refine draw_new gs30_0 mixedOk (by kernel_rfl) ?_
  refine Z ?_
  refine call0 x1 ?_
  exact ⟨i+1,rfl,hc,by omega⟩
 ·refine Z ?_
  exact fz
def mkH (j:Nat):Hc:=(markT (1+3*j),2+3*j,3+3*j)
def mkL (l:List Hc) (i:Nat):List Hc:=(List.range i).map mkH++l.drop i
theorem mkL_len {l:List Hc} {i:Nat} (h:i≤l.length):(mkL l i).length=l.length:=by simp [mkL]; omega
theorem mkL_all (l:List Hc):mkL l l.length=(List.range l.length).map mkH:=by simp [mkL]
theorem mkL_set {l:List Hc} {i:Nat} (h:i<l.length):(rowsH (mkL l i)).set i [.v (vS (markT (1+3*i))),.v (vI ((2+3*i:Nat):Int)),.v (vI ((3+3*i:Nat):Int))]=rowsH (mkL l (i+1)):=by
 unfold mkL rowsH
 rw [List.range_succ,List.map_append,List.map_append,List.map_append,List.map_append,List.set_append_right _ _ (by simp),drop_at (d:=hc0) h]
 simp [rowH,mkH]
def cfgK:Cfg:=⟨2,fun t=>t==0,tb,pts,md⟩
attribute [go_sem] cfgK
theorem c32 (l:List Hc) (hl:l.length≤100000):Sem prog 32 ⟨[.own 94 (rowsH l),.v (vI 1)],[none,none]⟩ ⟨[.own 94 (rowsH ((List.range l.length).map mkH)),.dead,.v (vI ((1+3*l.length:Nat):Int))],[none,none]⟩:=by
 have hs:l.length≤9223372036854775807:=by omega
 refine sem_fin (cfg:=cfgK) (ts:=[.tm 4]) tbOk func32 rfl rfl rfl rfl (fun t h=>by simpa [cfgK] using (show t=0 by simpa [cfgK] using h)▸(by decide:(0:Nat)<2)) ?_
 refine Z ?_
 refine loopZ (fun i:Nat=>pE 35 [.own 94 (rowsH (mkL l i)),.v (vI ((1+3*i:Nat):Int)),.dead,.dead,.v (vI 0),.v (vI i)]) [0,1,4,5] (fun i=>i≤l.length) (fun i=>l.length-i) 0 rfl (Nat.zero_le _) ?_
 intro i hi
 have hm:=mkL_len hi
 by_cases hc:i<l.length
 ·have hw:=wrapN hc hs
  have hc2:i<(mkL l i).length:=by omega
  have e1:=rowsH_getD hc2
  have e2:∀ r,((rowsH (mkL l i)).set i r).getD i []=r:=fun r=>by rw [gDg,List.getElem?_set_self (by rw [rowsH_length]; omega)]; rfl
  have e3:=mkL_set hc
  have x1:=c77 (1+3*i) (by omega) (by omega)
  have w2:IntKind.i64.wrap (((1+3*i:Nat):Int)+1)=((2+3*i:Nat):Int):=by rw [wrapI (by omega)]; omega
  have w3:IntKind.i64.wrap (((2+3*i:Nat):Int)+1)=((3+3*i:Nat):Int):=by rw [wrapI (by omega)]; omega
  have w4:IntKind.i64.wrap (((3+3*i:Nat):Int)+1)=((1+3*(i+1):Nat):Int):=by rw [wrapI (by omega)]; omega
  generalize ((1+3*i:Nat):Int)=k1 at x1 w2
  generalize ((2+3*i:Nat):Int)=k2 at w2 w3 e3
  generalize ((3+3*i:Nat):Int)=k3 at w3 w4 e3
  refine Z ?_
  refine call0 x1 ?_
  exact ⟨i+1,rfl,hc,by omega⟩
 ·have he:i=l.length:=by omega
  subst he
  have h3:=mkL_all l
  have h4:((List.range l.length).map mkH).length=l.length:=by simp
  clear hm
  refine Z ?_
  exact ⟨.inr rfl,_,.inl rfl,rfl,rfl⟩
theorem c33 (n:Nat) (hn:n≤100000):Q2 33 (.imm 94 (rowsH ((List.range n).map mkH))) (.v (vI 1)) (.v (vI ((1+3*n:Nat):Int))):=by
 have hl:((List.range n).map mkH).length=n:=by simp
 refine sb 2 [.tm 4] func33 ?_
 refine loopZ (fun i:Nat=>pE 41 [.imm 94 (rowsH ((List.range n).map mkH)),.v (vI ((1+3*i:Nat):Int)),.dead,.dead,.v (vI 0),.v (vI i)]) [0,1,4,5] (fun i=>i≤n) (fun i=>n-i) 0 rfl (Nat.zero_le _) ?_
 intro i hi
 have hn9:n≤9223372036854775807:=by omega
 by_cases hc:i<n
 ·have hw:=wrapN hc hn9
  have e1:(rowsH ((List.range n).map mkH)).getD i []=[.v (vS (markT (1+3*i))),.v (vI ((2+3*i:Nat):Int)),.v (vI ((3+3*i:Nat):Int))]:=by
   rw [gDg]; simp [rowsH,rowH,mkH,hc]
  have x1:=c77 (1+3*i) (by omega) (by omega)
  have b1:∀ x:Int,(x != x)=false:=fun x=>by simp
  have b2:∀ x:List UInt8,(x != x)=false:=fun x=>by simp
  have w2:IntKind.i64.wrap (((1+3*i:Nat):Int)+1)=((2+3*i:Nat):Int):=by rw [wrapI (by omega)]; omega
  have w3:IntKind.i64.wrap (((2+3*i:Nat):Int)+1)=((3+3*i:Nat):Int):=by rw [wrapI (by omega)]; omega
  have w4:IntKind.i64.wrap (((3+3*i:Nat):Int)+1)=((1+3*(i+1):Nat):Int):=by rw [wrapI (by omega)]; omega
  generalize ((1+3*i:Nat):Int)=k1 at x1 w2
  generalize ((2+3*i:Nat):Int)=k2 at w2 w3 e1
  generalize ((3+3*i:Nat):Int)=k3 at w3 w4 e1
  refine Z ?_
  refine draw_new gs33_0 mixedOk (by kernel_rfl) ?_
  refine Z ?_
  refine drawn0 x1 ?_
  exact ⟨i+1,rfl,hc,by omega⟩
 ·have he:i=n:=by omega
  subst he
  refine Z ?_
  exact fz
theorem c72 (L:List Hc) (hs:Asc (L.map (·.1))) (hL:L.length≤100000) (h:List UInt8):Q3 72 (.imm 94 (rowsH L)) (.v (vS h)) (.clo 73 []) (.tup [.v (vI (lowN h (L.map (·.1)))),.v (vB ((L.map (·.1)).contains h))]):=by
 have hl9:L.length≤9223372036854775807:=by omega
 have hle:=low_le h (L.map (·.1))
 have hmem:=low_mem (h:=h) hs
 have hlt:∀ i,i<lowN h (L.map (·.1))→(Lib.compareBytes (L.getD i hc0).1 h<0)=True:=fun i hi=>by
  rw [cmpB_lt]
  have:=low_lt hi
  rw [List.length_map] at hle
  rw [gDg,List.getElem?_map,gEg (by omega)] at this
  rw [gDg,gEg (by omega)]
  exact eq_true this
 have hge:∀ i,lowN h (L.map (·.1))≤i→i<L.length→(Lib.compareBytes (L.getD i hc0).1 h<0)=False:=fun i hi h2=>by
  rw [cmpB_lt]
  have:=low_ge hs hi (by rw [List.length_map]; exact h2)
  rw [gDg,List.getElem?_map,gEg (by omega)] at this
  rw [gDg,gEg (by omega)]
  have this:ltB (L[i]).1 h=false:=this
  simp only [Option.getD_some,this,Bool.false_eq_true]
 have heq:lowN h (L.map (·.1))<L.length→(L.map (·.1)).contains h=(Lib.compareBytes (L.getD (lowN h (L.map (·.1))) hc0).1 h==0):=fun h2=>by
  rw [Bool.eq_iff_iff,beq_iff_eq,cmpB_eq,List.contains_iff_mem,hmem,List.length_map]
  rw [gDg,List.getElem?_map,gEg h2,gDg,gEg h2]
  exact ⟨fun h=>h.2,fun h=>⟨h2,h⟩⟩
 have hno:¬ lowN h (L.map (·.1))<L.length→(L.map (·.1)).contains h=false:=fun h2=>by
  have hq:¬ h∈L.map (·.1):=fun k=>h2 (by have:=(hmem.1 k).1; rwa [List.length_map] at this)
  simpa using hq
 rw [List.length_map] at hle
 generalize lowN h (L.map (·.1))=k at hle hlt hge heq hno ⊢
 generalize (L.map (·.1)).contains h=fd at heq hno ⊢
 clear hmem hs
 refine sb 3 [.tm 6,.tm 7] func72 ?_
 refine loopZ (fun s:Nat × Nat=>pE 49 [.imm 94 (rowsH L),.v (vS h),.clo 73 [],.dead,.dead,.dead,.v (vI 0),.v (vB false),.v (vI L.length),.v (vI s.1),.v (vI s.2)]) [0,1,2,6,7,8,9,10] (fun s=>s.1≤k∧k≤s.2∧s.2≤L.length) (fun s=>s.2-s.1) (0,L.length) rfl ⟨Nat.zero_le _,hle,Nat.le_refl _⟩ ?_
 intro ⟨i,j⟩ ⟨hi,hj,hjl⟩
 simp only at hi hj hjl ⊢
 by_cases hc:i<j
 ·have hmi:i≤(i+j) / 2:=by omega
  have hmj:(i+j) / 2<j:=by omega
  have hml:(i+j) / 2<L.length:=by omega
  have w1:IntKind.i64.wrap ((i:Int)+j)=((i+j:Nat):Int):=by rw [wrapI (by omega)]; omega
  have w2:IntKind.u64.wrap ((i+j:Nat):Int)=((i+j:Nat):Int):=by unfold IntKind.wrap; simp [IntKind.signed,IntKind.bits]; omega
  have w3:((i+j:Nat):Int).fdiv (2 ^ min 1 64)=(((i+j) / 2:Nat):Int):=by show ((i+j:Nat):Int).fdiv 2=_; rw [Int.fdiv_eq_ediv_of_nonneg _ (by omega)]; omega
  have w4:IntKind.i64.wrap (((i+j) / 2:Nat):Int)=(((i+j) / 2:Nat):Int):=wrapI (by omega)
  have w5:IntKind.i64.wrap ((((i+j) / 2:Nat):Int)+1)=(((i+j) / 2+1:Nat):Int):=by rw [wrapI (by omega)]; rfl
  have e1:=rowsH_getD hml
  have hm1:((((i+j) / 2:Nat):Int)<(L.length:Int)):=by omega
  have hk:=hlt ((i+j) / 2)
  have hg:=fun x=>hge ((i+j) / 2) x hml
  have x1:=c73 (L.getD ((i+j) / 2) hc0).1 h ((L.getD ((i+j) / 2) hc0).2.1:Nat) ((L.getD ((i+j) / 2) hc0).2.2:Nat)
  clear hlt hge heq hno
  generalize hmm:(i+j) / 2=m at *
  by_cases hkm:m<k
  ·have hk:=hk hkm
   clear hg
   refine Z ?_
   refine call0 x1 ?_
   exact ⟨(m+1,j),rfl,⟨hkm,hj,hjl⟩,by show j-(m+1)<j-i; omega⟩
  ·have hg:=hg (by omega)
   clear hk
   refine Z ?_
   refine call0 x1 ?_
   exact ⟨(i,m),rfl,⟨hi,by show k≤m; omega,by show m≤_; omega⟩,by show m-i<j-i; omega⟩
 ·have hik:i=k:=by omega
  subst hik
  clear hlt hge
  by_cases h2:i<L.length
  ·have h3:=heq h2
   have e1:=rowsH_getD h2
   have x1:=c73 (L.getD i hc0).1 h ((L.getD i hc0).2.1:Nat) ((L.getD i hc0).2.2:Nat)
   rw [h3]
   clear heq hno h3
   refine Z ?_
   refine call0 x1 ?_
   exact fz
  ·have h3:=hno h2
   rw [h3]
   clear heq hno h3
   refine Z ?_
   exact fz
attribute [local go_sem] rowsH_length rowsS_length rowsE_length List.length_set List.set_set sdE_nil
theorem sdS_nil:sd 9 (rowsS []) = .nil:=id rfl
theorem sdH_nil:sd 94 (rowsH []) = .nil:=id rfl
attribute [local go_sem] sdS_nil sdH_nil
theorem retWm2 {dst:Option Tmp} {args:List D} {ce:List (Option (List D))} {bor:List Lf} {borc:List Nat} {Eout:Env} {r:D} {p i p' i':Lf} {e e':TypeId} {ys ys':List (List T)} (h5:Env.leaf ⟨args,ce⟩ i = .own e ys) (h6:Eout.leaf i = .dead) (h7:Env.leaf ⟨args,ce⟩ i' = .own e' ys') (h8:Eout.leaf i' = .dead)
  (h1:Eout.sl.length=args.length+1) (h2:Eout.sl.getD args.length .dead=r) (h3:r.anyL (fun d => !d.resLeaf)=false) (h4:r.anyL D.isImm=false) :
  retW ⟨args,ce,[(p,i),(p',i')],[],bor,borc⟩ dst Eout=some (.ca [p,p'] [] []::(match dst with | none=>[] | some t=>[.rw t r])):=by
 have hg:gones Eout [(p,i),(p',i')]=[p,p']:=by simp [gones,h6,h8,D.isDead]
 simp only [retW,wbs,wcs,retIm,h2,h3,h4,h1,h5,h6,h7,h8,hg]
 simp
 cases dst<;>rfl
theorem callm2 {P:Program} {K:Env→Prop} {E Ein Eout:Env} {f:FuncId} {k:Env→Option (List W)} {ws:List W} {q:Prop} (h:Sem P f Ein Eout) (x:q) (hk:k Eout=some ws:=by exact retWm2 rfl rfl rfl rfl rfl rfl rfl rfl)
  (e:K (E.app ws)=q:=by simp only [go_sem,Nat.reduceLeDiff,Nat.reduceLT,Nat.reduceAdd,Nat.reduceSub,Nat.reduceMul,Nat.reduceBEq,Nat.reduceBNe,Nat.reduceEqDiff,reduceCtorEq,reduceIte,Int.reduceLT,Int.reduceLE,Int.reduceAdd,Int.reduceSub,Int.reduceNeg,Int.reduceEq,Int.reduceBEq,Int.reduceBNe,Int.reduceToNat,Nat.reduceDiv,Nat.reduceMod, *]; rfl):Done P K E (.call f Ein k) :=
 ev_call h hk (e▸x)
theorem sdS1 {l:List (List UInt8)} {s:List UInt8}:sd 9 (rowsS (l++[s])) = .own 9 (rowsS l++[[.v (vS s)]]):=by
 rw [rowsS_snoc]; exact sd_own (by simp)
theorem putG_ne {h:List UInt8}:∀ {l:List (List UInt8)},putG h l false≠[]
 | []=>by simp [putG]
 | x::l=>by rw [putG]; split<;>simp
theorem putL_ne {h:List UInt8} {l:List (List UInt8)}:putL h l≠[]:=by
 unfold putL
 split
 ·rename_i hc; rintro rfl; simp at hc
 ·exact putG_ne
theorem c70 (N:List (List UInt8)) (hN:N.length≤100000) (h:List UInt8):Q2 70 (.own 9 (rowsS N)) (.v (vS h)) (.own 9 (rowsS (putL h N))):=by
 have hN9:N.length≤9223372036854775807:=by omega
 have x1:=c132 N h hN9
 unfold putL
 cases hm:N.contains h with
 | true =>
  rw [hm] at x1
  rw [if_pos rfl]
  clear hm
  refine sb 2 [.tm 4] func70 ?_
  refine call0 x1 ?_
  exact fz
 | false =>
  rw [hm] at x1
  rw [if_neg Bool.false_ne_true]
  clear hm
  generalize hG:putG h N false=G
  refine sb 2 [.tm 4] func70 ?_
  refine call0 x1 ?_
  refine loopZ (fun s:Nat × Bool × List (List UInt8)=>pE 46 [.own 9 (rowsS N),.v (vS h),.dead,.dead,.nil,sd 9 (rowsS s.2.2),.v (vB s.2.1),.v (vI s.1)]) [0,1,4,5,6,7] (fun s=>s.1≤N.length∧s.2.2.length≤s.1+s.2.1.toNat∧s.2.2++putG h (N.drop s.1) s.2.1=G) (fun s=>N.length-s.1) (0,false,[]) rfl ⟨Nat.zero_le _,Nat.zero_le _,by rw [←hG]; rfl⟩ ?_
  intro ⟨i,dn,out⟩ ⟨hi,ho,hg⟩
  simp only at hi ho hg ⊢
  clear x1
  have ho2:out.length≤i+1:=by cases dn<;>simp at ho<;>omega
  have hb1:(out.length+1)*16≤140737488355328:=by omega
  have hb3:∀ r:List T,((rowsS out++[r]).length+1)*16≤140737488355328:=fun r=>by rw [List.length_append,rowsS_length]; simp only [List.length_singleton]; omega
  by_cases hc:i<N.length
  ·have w1:=wrapN hc hN9
   have e1:=rowsS_getD hc
   rw [drop_at (d:=[]) hc] at hg
   generalize N.getD i []=x at e1 hg
   cases dn with
   | true =>
    have hg:(out++[x])++putG h (N.drop (i+1)) true=G:=by rw [List.append_assoc,←hg,putG]; rfl
    by_cases h0:out=[]
    ·subst h0
     refine Z ?_
     exact ⟨(i+1,true,[]++[x]),rfl,⟨hc,by simp,hg⟩,by show _-(i+1)<_; omega⟩
    ·have hsd:=sd_own (e:=9) (rowsS_ne h0)
     clear h0
     refine X2 hsd e1 ?_
     refine Z ?_
     exact ⟨(i+1,true,out++[x]),by rw [sdS1]; rfl,⟨hc,by simp at ho ⊢; omega,hg⟩,by show _-(i+1)<_; omega⟩
   | false =>
    cases hl:ltB h x with
    | true =>
     have hg:(out++[h]++[x])++putG h (N.drop (i+1)) true=G:=by rw [←hg,putG,hl]; simp
     by_cases h0:out=[]
     ·subst h0
      refine Z ?_
      exact ⟨(i+1,true,[]++[h]++[x]),rfl,⟨hc,by simp,hg⟩,by show _-(i+1)<_; omega⟩
     ·have hsd:=sd_own (e:=9) (rowsS_ne h0)
      clear h0
      refine X4 hsd e1 hl hb3 ?_
      refine Z ?_
      exact ⟨(i+1,true,out++[h]++[x]),by rw [sdS1,rowsS_snoc]; rfl,⟨hc,by simp at ho ⊢; omega,hg⟩,by show _-(i+1)<_; omega⟩
    | false =>
     have hg:(out++[x])++putG h (N.drop (i+1)) false=G:=by rw [←hg,putG,hl]; simp
     by_cases h0:out=[]
     ·subst h0
      refine Z ?_
      exact ⟨(i+1,false,[]++[x]),rfl,⟨hc,by simp,hg⟩,by show _-(i+1)<_; omega⟩
     ·have hsd:=sd_own (e:=9) (rowsS_ne h0)
      clear h0
      refine X4 hsd e1 hl hb3 ?_
      refine Z ?_
      exact ⟨(i+1,false,out++[x]),by rw [sdS1]; rfl,⟨hc,by simp at ho ⊢; omega,hg⟩,by show _-(i+1)<_; omega⟩
  ·rw [List.drop_of_length_le (by omega)] at hg
   cases dn with
   | true =>
    have hg:out=G:=by rw [←hg]; simp [putG]
    subst hg
    have h0:out≠[]:=by rw [←hG]; exact putG_ne
    have hsd:=sd_own (e:=9) (rowsS_ne h0)
    clear h0 hG
    refine X1 hsd ?_
    refine Z ?_
    exact fz
   | false =>
    have hg:out++[h]=G:=by rw [←hg]; rfl
    subst hg
    rw [rowsS_snoc]
    clear hG
    by_cases h0:out=[]
    ·subst h0
     refine Z ?_
     exact fz
    ·have hsd:=sd_own (e:=9) (rowsS_ne h0)
     clear h0
     refine X1 hsd ?_
     refine Z ?_
     exact fz
theorem rowsE_set {l:List Ex} {i:Nat} (a b c:Int) (u v w:List UInt8):(rowsE l).set i [.v (vI a),.v (vI b),.v (vI c),.v (vS u),.v (vS v),.v (vS w)]=rowsE (l.set i ⟨a,b,c,u,v,w⟩):=by
 unfold rowsE; rw [List.map_set]; rfl
theorem c31 (l:List Ex) (hl:l.length≤1048576):Q2 31 (.own 71 (rowsE l)) (.v (vI 1)) (.v (vI ((1+6*l.length:Nat):Int))):=by
 have hs:l.length≤9223372036854775807:=by omega
 refine sb 2 [.tm 4] func31 ?_
 refine loopZ (fun s:Nat × List Ex=>pE 58 [.own 71 (rowsE s.2),.v (vI ((1+6*s.1:Nat):Int)),.dead,.dead,.v (vI 0),.v (vI s.1)]) [0,1,4,5] (fun s=>s.1≤l.length∧s.2.length=l.length) (fun s=>l.length-s.1) (0,l) rfl ⟨Nat.zero_le _,rfl⟩ ?_
 intro ⟨i,m⟩ ⟨hi,hm⟩
 simp only at hi hm ⊢
 by_cases hc:i<l.length
 ·have hw:=wrapN hc hs
  have hc2:i<m.length:=by omega
  have e1:=rowsE_getD hc2
  have e2:∀ r,((rowsE m).set i r).getD i []=r:=fun r=>by rw [gDg,List.getElem?_set_self (by rw [rowsE_length]; omega)]; rfl
  have x1:=c77 (4+6*i) (by omega) (by omega)
  have x2:=c77 (5+6*i) (by omega) (by omega)
  have x3:=c77 (6+6*i) (by omega) (by omega)
  have w2:IntKind.i64.wrap (((1+6*i:Nat):Int)+1)=((2+6*i:Nat):Int):=by rw [wrapI (by omega)]; omega
  have w3:IntKind.i64.wrap (((2+6*i:Nat):Int)+1)=((3+6*i:Nat):Int):=by rw [wrapI (by omega)]; omega
  have w4:IntKind.i64.wrap (((3+6*i:Nat):Int)+1)=((4+6*i:Nat):Int):=by rw [wrapI (by omega)]; omega
  have w5:IntKind.i64.wrap (((4+6*i:Nat):Int)+1)=((5+6*i:Nat):Int):=by rw [wrapI (by omega)]; omega
  have w6:IntKind.i64.wrap (((5+6*i:Nat):Int)+1)=((6+6*i:Nat):Int):=by rw [wrapI (by omega)]; omega
  have w7:IntKind.i64.wrap (((6+6*i:Nat):Int)+1)=((1+6*(i+1):Nat):Int):=by rw [wrapI (by omega)]; omega
  generalize ((1+6*i:Nat):Int)=k1 at w2
  generalize ((2+6*i:Nat):Int)=k2 at w2 w3
  generalize ((3+6*i:Nat):Int)=k3 at w3 w4
  generalize ((4+6*i:Nat):Int)=k4 at w4 w5 x1
  generalize ((5+6*i:Nat):Int)=k5 at w5 w6 x2
  generalize ((6+6*i:Nat):Int)=k6 at w6 w7 x3
  refine Z ?_
  refine call0 x1 ?_
  refine call0 x2 ?_
  refine call0 x3 ?_
  exact ⟨(i+1,m.set i ⟨k1,k2,k3,markT (4+6*i),markT (5+6*i),markT (6+6*i)⟩),by simp only [rowsE_set]; rfl,⟨hc,by simp only [List.length_set]; exact hm⟩,by show _-(i+1)<_; omega⟩
 ·have he:i=l.length:=by omega
  subst he
  refine Z ?_
  exact fz
theorem goodE_in {l:List Ex} {i:Nat} (h:i<(goodE l).length):exB ((goodE l).getD i ex0)=true∧(goodE l).getD i ex0∈l:=by
 have hm:(goodE l).getD i ex0∈goodE l:=by
  rw [gDg,gEg h]
  exact List.getElem_mem h
 generalize (goodE l).getD i ex0=e at hm
 unfold goodE at hm
 split at hm
 ·simp at hm
 ·exact ⟨(List.mem_filter.1 hm).2,(List.mem_filter.1 hm).1⟩
theorem resU_host (e:Ex):∃ (p:Nat) (pa q:List UInt8) (b ok:Bool),resU (readU e.ur) = .tup [urlD (hostE e) p pa q b,.v (vB ok)]:=by
 unfold hostE
 cases readU e.ur with
 | none=>exact ⟨0,[],[],false,false,rfl⟩
 | some a=>exact ⟨a.p,a.pa,a.q,a.b,true,rfl⟩
end Go.Proofs.YtbdfdfhamlmodaaGreatDoor.Fw
namespace Go.Proofs.YtbdfdfhamlmodaaGreatDoor.Fw
open Go
end Go.Proofs.YtbdfdfhamlmodaaGreatDoor.Fw
namespace Go.Proofs.YtbdfdfhamlmodaaGreatDoor.Fw
open Go
open Go.Proofs.Tryz
set_option maxRecDepth 100000
set_option maxHeartbeats 4000000
attribute [local congr] c_bnd c_slot c_cell c_all c_len c_chk c_asm c_opdR c_wp c_pwp c_pOps c_Done c_nx c_blk c_fin c_coeLeaf c_coeLeaves c_argR c_argsR c_partsR c_ite c_wpF c_OutF c_pHead c_pHeadN c_pDraw
attribute [local go_sem] rowsE_length sdE_nil
theorem goodE_le (l:List Ex):(goodE l).length≤200:=by
 unfold goodE
 split
 ·simp
 ·exact Nat.le_trans (List.length_filter_le _ _) (by omega)
def gs28_0:List (Option (List Nat)):=[some [86,87,88,89,90,91],some [86,87,88,89,90,91],some [84,85,87],some [84,85,86],some [84,85],some [84,85],some [84,85],some [84,85],none,none,none]
attribute [go_sem] gs28_0
attribute [local go_sem] rowsH_length rowsS_length rowsE_length List.length_set List.set_set sdE_nil sdS_nil sdH_nil
theorem rowsH_snoc {l:List Hc} {p:Hc}:rowsH (l++[p])=rowsH l++[rowH p]:=by simp [rowsH]
theorem sdH1 {l:List Hc} {p:Hc}:sd 94 (rowsH (l++[p])) = .own 94 (rowsH l++[rowH p]):=by
 rw [rowsH_snoc]; exact sd_own (by simp)
theorem c28 (l:List Ex) (hl:SmallE l):Q1 28 (.imm 71 (rowsE l)) (sd 94 (rowsH (hcR (goodE l) (goodE l).length))):=by
 have x1:=c54 l hl
 have hg2:=goodE_le l
 have hm:∀ i,i<(goodE l).length→((goodE l).getD i ex0).ur.length≤1048576∧((goodE l).getD i ex0).an.length≤1048576:=fun i hi=>⟨(hl.2 _ (goodE_in hi).2).1,(hl.2 _ (goodE_in hi).2).2.2⟩
 have hby:∀ h i,i≤(goodE l).length→bytN (goodE l) h i≤i*1048576:=bytN_le (g:=goodE l) (fun e he=>by
  obtain ⟨i,hi,rfl⟩:=List.getElem_of_mem he
  have:=(hm i hi).2
  rwa [gDg,gEg hi] at this)
 clear hl
 generalize goodE l=g at x1 hg2 hm hby ⊢
 have hgl:g.length≤9223372036854775807:=by omega
 by_cases hg:g=[]
 ·subst hg
  clear hm hby hg2 hgl
  refine sb 1 [.tm 2] func28 ?_
  refine call0 x1 ?_
  refine loopZ (fun i:Nat=>pE 99 [.imm 71 (rowsE l),.dead,.nil,.nil,.nil,.nil,.v (vI 0)]) [0,2,3,4,5,6] (fun i=>i=0) (fun i=>i) 0 rfl rfl ?_
  intro i hi
  refine Z ?_
  refine loopZ (fun i:Nat=>pE 99 [.imm 71 (rowsE l),.dead,.nil,.nil,.nil,.nil,.dead,.dead,.dead,.v (vI 0)]) [0,2,3,4,5,9] (fun i=>i=0) (fun i=>i) 0 rfl rfl ?_
  intro i hi
  refine Z ?_
  exact fz
 ·rw [sd_own (rowsE_ne hg)] at x1
  refine sb 1 [.tm 2] func28 ?_
  refine call0 x1 ?_
  clear x1
  refine loopZ (fun i:Nat=>pE 99 [.imm 71 (rowsE l),.dead,.nil,sd 9 (rowsS (namN g i)),.nil,.own 71 (rowsE g),.v (vI i)]) [0,2,3,4,5,6] (fun i=>i≤g.length) (fun i=>g.length-i) 0 rfl (Nat.zero_le _) ?_
  intro i hi
  have hnl:=namN_le g i
  by_cases hc:i<g.length
  ·have w1:=wrapN hc hgl
   have e1:=rowsE_getD hc
   have x2:=c69 (g.getD i ex0).ur (hm i hc).1
   obtain ⟨pp,pa,qq,bb,ok,hr⟩:=resU_host (g.getD i ex0)
   rw [hr] at x2
   clear hr hm hby
   cases hb:(g.getD i ex0).sd==0 with
   | false =>
    have hn:namN g (i+1)=namN g i:=by rw [namN,hb,if_neg Bool.false_ne_true]
    by_cases hN:namN g i=[]
    ·rw [hN] at hn ⊢
     refine Z ?_
     exact ⟨i+1,by rw [hn]; rfl,hc,by omega⟩
    ·have hsd:=sd_own (e:=9) (rowsS_ne hN)
     clear hN
     refine X3 hsd e1 hb ?_
     refine Z ?_
     exact ⟨i+1,by rw [hn,hsd]; rfl,hc,by omega⟩
   | true =>
    have hn:namN g (i+1)=putL (hostE (g.getD i ex0)) (namN g i):=by rw [namN,hb,if_pos rfl]
    have x3:=c70 (namN g i) (by omega) (hostE (g.getD i ex0))
    have hs2:sd 9 (rowsS (namN g (i+1))) = .own 9 (rowsS (putL (hostE (g.getD i ex0)) (namN g i))):=by rw [hn]; exact sd_own (rowsS_ne putL_ne)
    clear hn
    by_cases hN:namN g i=[]
    ·rw [hN] at x3 hs2 ⊢
     refine Z ?_
     refine call0 x2 ?_
     refine call0 x3 ?_
     exact ⟨i+1,by rw [hs2]; rfl,hc,by omega⟩
    ·have hsd:=sd_own (e:=9) (rowsS_ne hN)
     clear hN
     refine X3 hsd e1 hb ?_
     refine Z ?_
     refine call0 x2 ?_
     refine callm x3 ?_
     exact ⟨i+1,by rw [hs2]; rfl,hc,by omega⟩
  ·have hi':i=g.length:=by omega
   subst hi'
   have hF:hcR g g.length=(namN g g.length).map (hcN g g.length):=rfl
   rw [hF]
   clear hF
   generalize namN g g.length=N at hnl ⊢
   have hNl:N.length≤9223372036854775807:=by omega
   by_cases hN:N=[]
   ·subst hN
    clear hm hby hnl hNl hi
    refine Z ?_
    refine loopZ (fun i:Nat=>pE 99 [.imm 71 (rowsE l),.dead,.nil,.nil,.nil,.own 71 (rowsE g),.dead,.dead,.dead,.v (vI 0)]) [0,2,3,4,5,9] (fun i=>i=0) (fun i=>i) 0 rfl rfl ?_
    intro i hi
    refine Z ?_
    exact fz
   ·have hsN:=sd_own (e:=9) (rowsS_ne hN)
    rw [hsN]
    clear hsN hN hi
    refine Z ?_
    refine loopZ (fun k:Nat=>pE 99 [.imm 71 (rowsE l),.dead,.nil,.own 9 (rowsS N),sd 94 (rowsH ((N.take k).map (hcN g g.length))),.own 71 (rowsE g),.dead,.dead,.dead,.v (vI k)]) [0,2,3,4,5,9] (fun k=>k≤N.length) (fun k=>N.length-k) 0 rfl (Nat.zero_le _) ?_
    intro k hk
    by_cases hck:k<N.length
    ·have w1:=wrapN hck hNl
     have e1:=rowsS_getD hck
     have htk:(N.take (k+1)).map (hcN g g.length)=(N.take k).map (hcN g g.length)++[hcN g g.length (N.getD k [])]:=by rw [take_at (d:=[]) hck,List.map_append]; rfl
     generalize hh:N.getD k []=h at e1 htk
     have hkl:((N.take k).map (hcN g g.length)).length=k:=by simp; omega
     have hb4:(k+1)*32≤140737488355328:=by omega
     by_cases h0:(N.take k).map (hcN g g.length)=[]
     ·rw [h0] at htk ⊢
      clear h0 hh hkl hb4
      refine Z ?_
      refine loopZ (fun j:Nat=>pC 99 [.imm 71 (rowsE l),.dead,.nil,.own 9 (rowsS N),.nil,.own 71 (rowsE g),.dead,.dead,.dead,.v (vI k),.cref 10 0,.v (vI j)] [none,none,none,none,none,none,none,none,none,none,some [.v (vS h),.v (vI (cntN g h j:Nat)),.v (vI (bytN g h j:Nat))]]) [0,2,3,4,5,9,10,11] (fun j=>j≤g.length) (fun j=>g.length-j) 0 rfl (Nat.zero_le _) ?_
      intro j hj
      by_cases hcj:j<g.length
      ·have w2:=wrapN hcj hgl
       have e2:=rowsE_getD hcj
       have x2:=c69 (g.getD j ex0).ur (hm j hcj).1
       have ha:=(hm j hcj).2
       have hb1:=cntN_le g h j
       have hb2:=hby h j hj
       have ha9:(g.getD j ex0).an.length≤9223372036854775807:=by omega
       have u1:IntKind.i64.wrap ((cntN g h j:Int)+1)=((cntN g h j+1:Nat):Int):=by rw [wrapI (by omega)]; rfl
       have u2:IntKind.i64.wrap ((bytN g h j:Int)+(g.getD j ex0).an.length)=((bytN g h j+(g.getD j ex0).an.length:Nat):Int):=by rw [wrapI (by omega)]; rfl
       obtain ⟨pp,pa,qq,bb,ok,hr⟩:=resU_host (g.getD j ex0)
       rw [hr] at x2
       have s1:cntN g h (j+1)=if isH g h j=true then cntN g h j+1 else cntN g h j:=rfl
       have s2:bytN g h (j+1)=if isH g h j=true then bytN g h j+(g.getD j ex0).an.length else bytN g h j:=rfl
       have hI:isH g h j=((g.getD j ex0).sd==0&&hostE (g.getD j ex0)==h):=rfl
       rw [hI] at s1 s2
       clear hI hr hm hby hb1 hb2 ha
       cases hb:(g.getD j ex0).sd==0 with
       | false =>
        rw [hb,Bool.false_and,if_neg Bool.false_ne_true] at s1 s2
        refine X5 hcj e2 hb w2 hgl ?_
        refine call0 x2 ?_
        exact ⟨j+1,by rw [s1,s2]; rfl,hcj,by omega⟩
       | true =>
        rw [hb,Bool.true_and] at s1 s2
        cases hq:hostE (g.getD j ex0)==h with
        | false =>
         rw [hq,if_neg Bool.false_ne_true] at s1 s2
         refine X5 hcj e2 hb w2 hgl ?_
         refine call0 x2 ?_
         exact ⟨j+1,by rw [s1,s2]; rfl,hcj,by omega⟩
        | true =>
         rw [hq,if_pos rfl] at s1 s2
         refine X5 hcj e2 hb w2 hgl ?_
         refine call0 x2 ?_
         refine drZ gs28_0 ?_
         exact ⟨j+1,by rw [s1,s2]; rfl,hcj,by omega⟩
      ·have hj':j=g.length:=by omega
       subst hj'
       have hq:rowH (hcN g g.length h)=[.v (vS h),.v (vI (cntN g h g.length:Nat)),.v (vI (bytN g h g.length:Nat))]:=rfl
       have hs2:sd 94 (rowsH ((N.take (k+1)).map (hcN g g.length))) = .own 94 (rowsH []++[[.v (vS h),.v (vI (cntN g h g.length:Nat)),.v (vI (bytN g h g.length:Nat))]]):=by rw [htk,←hq]; exact sdH1
       clear hm hby htk hq hj
       refine Z ?_
       exact ⟨k+1,by rw [hs2]; rfl,hck,by omega⟩
     ·have hsd:=sd_own (e:=94) (rowsH_ne h0)
      rw [hsd]
      clear h0 hh
      refine Z ?_
      refine loopZ (fun j:Nat=>pC 99 [.imm 71 (rowsE l),.dead,.nil,.own 9 (rowsS N),.own 94 (rowsH ((N.take k).map (hcN g g.length))),.own 71 (rowsE g),.dead,.dead,.dead,.v (vI k),.cref 10 0,.v (vI j)] [none,none,none,none,none,none,none,none,none,none,some [.v (vS h),.v (vI (cntN g h j:Nat)),.v (vI (bytN g h j:Nat))]]) [0,2,3,4,5,9,10,11] (fun j=>j≤g.length) (fun j=>g.length-j) 0 rfl (Nat.zero_le _) ?_
      intro j hj
      by_cases hcj:j<g.length
      ·have w2:=wrapN hcj hgl
       have e2:=rowsE_getD hcj
       have x2:=c69 (g.getD j ex0).ur (hm j hcj).1
       have ha:=(hm j hcj).2
       have hb1:=cntN_le g h j
       have hb2:=hby h j hj
       have ha9:(g.getD j ex0).an.length≤9223372036854775807:=by omega
       have u1:IntKind.i64.wrap ((cntN g h j:Int)+1)=((cntN g h j+1:Nat):Int):=by rw [wrapI (by omega)]; rfl
       have u2:IntKind.i64.wrap ((bytN g h j:Int)+(g.getD j ex0).an.length)=((bytN g h j+(g.getD j ex0).an.length:Nat):Int):=by rw [wrapI (by omega)]; rfl
       obtain ⟨pp,pa,qq,bb,ok,hr⟩:=resU_host (g.getD j ex0)
       rw [hr] at x2
       have s1:cntN g h (j+1)=if isH g h j=true then cntN g h j+1 else cntN g h j:=rfl
       have s2:bytN g h (j+1)=if isH g h j=true then bytN g h j+(g.getD j ex0).an.length else bytN g h j:=rfl
       have hI:isH g h j=((g.getD j ex0).sd==0&&hostE (g.getD j ex0)==h):=rfl
       rw [hI] at s1 s2
       clear hI hr hm hby hb1 hb2 ha
       cases hb:(g.getD j ex0).sd==0 with
       | false =>
        rw [hb,Bool.false_and,if_neg Bool.false_ne_true] at s1 s2
        refine X5 hcj e2 hb w2 hgl ?_
        refine call0 x2 ?_
        exact ⟨j+1,by rw [s1,s2]; rfl,hcj,by omega⟩
       | true =>
        rw [hb,Bool.true_and] at s1 s2
        cases hq:hostE (g.getD j ex0)==h with
        | false =>
         rw [hq,if_neg Bool.false_ne_true] at s1 s2
         refine X5 hcj e2 hb w2 hgl ?_
         refine call0 x2 ?_
         exact ⟨j+1,by rw [s1,s2]; rfl,hcj,by omega⟩
        | true =>
         rw [hq,if_pos rfl] at s1 s2
         refine X5 hcj e2 hb w2 hgl ?_
         refine call0 x2 ?_
         refine drZ gs28_0 ?_
         exact ⟨j+1,by rw [s1,s2]; rfl,hcj,by omega⟩
      ·have hj':j=g.length:=by omega
       subst hj'
       have hq:rowH (hcN g g.length h)=[.v (vS h),.v (vI (cntN g h g.length:Nat)),.v (vI (bytN g h g.length:Nat))]:=rfl
       have hs2:sd 94 (rowsH ((N.take (k+1)).map (hcN g g.length))) = .own 94 (rowsH ((N.take k).map (hcN g g.length))++[[.v (vS h),.v (vI (cntN g h g.length:Nat)),.v (vI (bytN g h g.length:Nat))]]):=by rw [htk,←hq]; exact sdH1
       clear hm hby htk hq hj
       refine Z ?_
       exact ⟨k+1,by rw [hs2]; rfl,hck,by omega⟩
    ·have he:k=N.length:=by omega
     subst he
     rw [List.take_length]
     by_cases h0:N.map (hcN g g.length)=[]
     ·rw [h0]
      clear h0
      refine Z ?_
      exact fz
     ·have hsd:=sd_own (e:=94) (rowsH_ne h0)
      rw [hsd]
      clear h0
      refine Z ?_
      exact fz
def gs29_0:List (Option (List Nat)):=[some [51,55,56,57],some [50,55,56,57],some [55,56,57],some [55,56,57],some [55,56,57],some [50,51,52,53,54],some [50,51,52,53,54],some [50,51,52,53,54],none,none,none,none]
attribute [go_sem] gs29_0
attribute [local go_sem] rowsH_length rowsS_length rowsE_length List.length_set List.set_set sdE_nil sdS_nil sdH_nil
theorem ev_cag2 {E:Env} {q q':Lf}:E.app1 (.ca [q,q'] [] [])=E.kill fun r=>r==q || r==q':=by
 show (E.kill fun p=>inWc [] p || [q,q'].contains p).mapP (wbG [])=_
 have e2:wbG []=fun _ d=>d:=by
  funext p d
  simp only [wbG,wbFind]
  cases d<;>simp
 have e1:(fun p=>inWc [] p || [q,q'].contains p)=fun r=>r==q || r==q':=by
  funext p
  simp only [inWc,Bool.false_or,List.contains_cons,List.contains_nil,Bool.or_false]
 rw [e1,e2,Env.mapP_id]
attribute [local go_sem] ev_cag2
theorem hcR_fst (g:List Ex) (i:Nat):(hcR g i).map (·.1)=namN g i:=by
 unfold hcR; rw [List.map_map]; exact List.map_id' _
theorem insT_rows {l:List Hc} {k:Nat} {p:Hc}:rowsH (l.take k++([p]++l.drop k))=insT (rowsH l) k (rowH p):=by
 simp [insT,rowsH,List.map_take,List.map_drop]
theorem insT_set {xs:List (List T)} {k:Nat} (hk:k≤xs.length) (r s:List T):(insT xs k r).set k s=insT xs k s:=by
 have h:(xs.take k).length=k:=by rw [List.length_take]; omega
 unfold insT
 rw [List.set_append_right _ _ (by omega),h,Nat.sub_self]; rfl
theorem insT_getD {xs:List (List T)} {k:Nat} (hk:k≤xs.length) (r:List T):(insT xs k r).getD k []=r:=by
 have h:(xs.take k).length=k:=by rw [List.length_take]; omega
 unfold insT
 rw [gDg,List.getElem?_append_right (by omega),h,Nat.sub_self]; rfl
theorem set_getD {xs:List (List T)} {k:Nat} (hk:k<xs.length) (r:List T):(xs.set k r).getD k []=r:=by
 rw [gDg,List.getElem?_set_self hk]; rfl
theorem c29 (l:List Ex) (hl:SmallE l):Q1 29 (.imm 71 (rowsE l)) (sd 94 (rowsH (hcR (goodE l) (goodE l).length))):=by
 have x1:=c56 l hl
 have hg2:=goodE_le l
 have hm:∀ i,i<(goodE l).length→((goodE l).getD i ex0).ur.length≤1048576∧((goodE l).getD i ex0).an.length≤1048576:=fun i hi=>⟨(hl.2 _ (goodE_in hi).2).1,(hl.2 _ (goodE_in hi).2).2.2⟩
 have hby:∀ h i,i≤(goodE l).length→bytN (goodE l) h i≤i*1048576:=bytN_le (g:=goodE l) (fun e he=>by
  obtain ⟨i,hi,rfl⟩:=List.getElem_of_mem he
  have:=(hm i hi).2
  rwa [gDg,gEg hi] at this)
 clear hl
 generalize goodE l=g at x1 hg2 hm hby ⊢
 have hgl:g.length≤9223372036854775807:=by omega
 by_cases hg:g=[]
 ·subst hg
  clear hm hby hg2 hgl
  refine sb 1 [.tm 2] func29 ?_
  refine call0 x1 ?_
  refine loopZ (fun i:Nat=>pE 63 [.imm 71 (rowsE l),.dead,.nil,.nil,.dead,.dead,.dead,.dead,.dead,.dead,.dead,.nil,.v (vI 0),.v (vI 0)]) [0,2,3,11,12,13] (fun i=>i=0) (fun i=>i) 0 rfl rfl ?_
  intro i hi
  refine Z ?_
  exact fz
 ·rw [sd_own (rowsE_ne hg)] at x1
  refine sb 1 [.tm 2] func29 ?_
  refine call0 x1 ?_
  clear x1
  refine loopZ (fun i:Nat=>pE 63 [.imm 71 (rowsE l),.dead,.nil,sd 94 (rowsH (hcR g i)),.dead,.dead,.dead,.dead,.dead,.dead,.dead,.own 71 (rowsE g),.v (vI g.length),.v (vI i)]) [0,2,3,11,12,13] (fun i=>i≤g.length) (fun i=>g.length-i) 0 rfl (Nat.zero_le _) ?_
  intro i hi
  have hnl:=namN_le g i
  have hLl:(hcR g i).length=(namN g i).length:=by unfold hcR; exact List.length_map ..
  by_cases hc:i<g.length
  ·have w1:=wrapN hc hgl
   have e1:=rowsE_getD hc
   cases hb:(g.getD i ex0).sd==0 with
   | false =>
    have hb2:((g.getD i ex0).sd != 0)=true:=by rw [bne,hb]; rfl
    have hn:=hcR_skip hb
    clear hb hm hby hLl hnl
    by_cases hN:hcR g i=[]
    ·rw [hN] at hn ⊢
     refine Z ?_
     exact ⟨i+1,by rw [hn]; rfl,hc,by omega⟩
    ·have hsd:=sd_own (e:=94) (rowsH_ne hN)
     clear hN
     refine X5 hsd e1 hb2 hc w1 ?_
     exact ⟨i+1,by rw [hn,hsd]; rfl,hc,by omega⟩
   | true =>
    have hb2:((g.getD i ex0).sd != 0)=false:=by rw [bne,hb]; rfl
    have x2:=c71 (g.getD i ex0).ur (hm i hc).1
    obtain ⟨pp,pa,qq,bb,ok,hr⟩:=resU_host (g.getD i ex0)
    rw [hr] at x2
    have ha:=(hm i hc).2
    have ha9:(g.getD i ex0).an.length≤9223372036854775807:=by omega
    have hasc:=namN_asc g i
    have x3:=c72 (hcR g i) (by rw [hcR_fst]; exact hasc) (by omega) (hostE (g.getD i ex0))
    rw [hcR_fst] at x3
    have hn1:=cntN_le g (hostE (g.getD i ex0)) i
    have hn2:=hby (hostE (g.getD i ex0)) i hi
    have u1:IntKind.i64.wrap ((cntN g (hostE (g.getD i ex0)) i:Int)+1)=((cntN g (hostE (g.getD i ex0)) i+1:Nat):Int):=by rw [wrapI (by omega)]; rfl
    have u2:IntKind.i64.wrap ((bytN g (hostE (g.getD i ex0)) i:Int)+(g.getD i ex0).an.length)=((bytN g (hostE (g.getD i ex0)) i+(g.getD i ex0).an.length:Nat):Int):=by rw [wrapI (by omega)]; rfl
    have hkl:=low_le (hostE (g.getD i ex0)) (namN g i)
    cases hm':(namN g i).contains (hostE (g.getD i ex0)) with
    | true =>
     obtain ⟨h1,h2,h3⟩:=hcR_hit hb hm'
     have hN:hcR g i≠[]:=by intro h; rw [h] at h1; simp at h1
     have hN2:hcR g (i+1)≠[]:=by rw [h3]; simpa using hN
     rw [hm'] at x3
     have e2:=rowsH_getD h1
     rw [h2] at e2
     replace e2:(rowsH (hcR g i)).getD (lowN (hostE (g.getD i ex0)) (namN g i)) []=[.v (vS (hostE (g.getD i ex0))),.v (vI (cntN g (hostE (g.getD i ex0)) i:Nat)),.v (vI (bytN g (hostE (g.getD i ex0)) i:Nat))]:=e2
     have e3:∀ r,((rowsH (hcR g i)).set (lowN (hostE (g.getD i ex0)) (namN g i)) r).getD (lowN (hostE (g.getD i ex0)) (namN g i)) []=r:=fun r=>set_getD (by rw [rowsH_length]; exact h1) r
     have e4:sd 94 (rowsH (hcR g (i+1))) = .own 94 ((rowsH (hcR g i)).set (lowN (hostE (g.getD i ex0)) (namN g i)) [.v (vS (hostE (g.getD i ex0))),.v (vI ((cntN g (hostE (g.getD i ex0)) i+1:Nat):Int)),.v (vI ((bytN g (hostE (g.getD i ex0)) i+(g.getD i ex0).an.length:Nat):Int))]):=by
      rw [sd_own (rowsH_ne hN2),h3,hcN_own hb]
      unfold rowsH; rw [List.map_set]; rfl
     have hsd:=sd_own (e:=94) (rowsH_ne hN)
     have hki:((lowN (hostE (g.getD i ex0)) (namN g i):Nat):Int)<(hcR g i).length:=by omega
     clear hr hb hm hby hn1 hn2 hasc h2 h3 hN hN2 hLl hm' hnl ha hkl
     generalize lowN (hostE (g.getD i ex0)) (namN g i)=k at *
     refine X5 hsd e1 hb2 hc w1 ?_
     refine Z ?_
     refine call0 x2 ?_
     refine call0 x3 ?_
     refine drZ gs29_0 ?_
     exact ⟨i+1,by rw [e4]; rfl,hc,by omega⟩
    | false =>
     obtain ⟨h1,h3⟩:=hcR_new hb hm'
     have hN2:hcR g (i+1)≠[]:=by rw [h3]; simp
     rw [hm'] at x3
     have hkl:lowN (hostE (g.getD i ex0)) (namN g i)≤(hcR g i).length:=by omega
     have hkr:lowN (hostE (g.getD i ex0)) (namN g i)≤(rowsH (hcR g i)).length:=by rw [rowsH_length]; exact hkl
     have x4:=c75 (xs:=rowsH (hcR g i)) (r:=[.v (vS (hostE (g.getD i ex0))),.v (vI 0),.v (vI 0)]) hkr (by rw [rowsH_length]; omega)
     have e0:=insT_length hkr [.v (vS (hostE (g.getD i ex0))),.v (vI 0),.v (vI 0)]
     rw [rowsH_length] at e0
     have e2:=insT_getD hkr [.v (vS (hostE (g.getD i ex0))),.v (vI 0),.v (vI 0)]
     have e3:∀ r,((insT (rowsH (hcR g i)) (lowN (hostE (g.getD i ex0)) (namN g i)) [.v (vS (hostE (g.getD i ex0))),.v (vI 0),.v (vI 0)]).set (lowN (hostE (g.getD i ex0)) (namN g i)) r).getD (lowN (hostE (g.getD i ex0)) (namN g i)) []=r:=fun r=>set_getD (by omega) r
     have e4:sd 94 (rowsH (hcR g (i+1))) = .own 94 ((insT (rowsH (hcR g i)) (lowN (hostE (g.getD i ex0)) (namN g i)) [.v (vS (hostE (g.getD i ex0))),.v (vI 0),.v (vI 0)]).set (lowN (hostE (g.getD i ex0)) (namN g i)) [.v (vS (hostE (g.getD i ex0))),.v (vI 1),.v (vI ((g.getD i ex0).an.length:Nat))]):=by
      rw [sd_own (rowsH_ne hN2),h3,insT_rows,insT_set hkr,h1]
      have e:rowH (hostE (g.getD i ex0),0+1,0+(g.getD i ex0).an.length)=[.v (vS (hostE (g.getD i ex0))),.v (vI 1),.v (vI ((g.getD i ex0).an.length:Nat))]:=by rw [Nat.zero_add,Nat.zero_add]; rfl
      rw [e]
     have v1:IntKind.i64.wrap 1=1:=rfl
     have v2:IntKind.i64.wrap ((g.getD i ex0).an.length:Int)=((g.getD i ex0).an.length:Int):=wrapI (by omega)
     have hki:((lowN (hostE (g.getD i ex0)) (namN g i):Nat):Int)<(((hcR g i).length+1:Nat):Int):=by omega
     clear u1 u2 hr hb hm hby hn1 hn2 hasc h1 h3 hN2 hLl hm' hnl ha hkl hkr
     generalize lowN (hostE (g.getD i ex0)) (namN g i)=k at *
     by_cases hN:hcR g i=[]
     ·rw [hN] at x3 x4 e0 e2 e3 e4 hki ⊢
      clear hN
      replace hki:(k:Int)<1:=by simpa using hki
      generalize insT (rowsH []) k [.v (vS (hostE (g.getD i ex0))),.v (vI 0),.v (vI 0)]=X at *
      refine Z ?_
      refine call0 x2 ?_
      refine call0 x3 ?_
      refine callm x4 ?_
      refine drZ gs29_0 ?_
      exact ⟨i+1,by rw [e4]; rfl,hc,by omega⟩
     ·have hsd:=sd_own (e:=94) (rowsH_ne hN)
      clear hN
      generalize insT (rowsH (hcR g i)) k [.v (vS (hostE (g.getD i ex0))),.v (vI 0),.v (vI 0)]=X at *
      refine X5 hsd e1 hb2 hc w1 ?_
      refine Z ?_
      refine call0 x2 ?_
      refine call0 x3 ?_
      refine callm2 x4 ?_
      refine drZ gs29_0 ?_
      exact ⟨i+1,by rw [e4]; rfl,hc,by omega⟩
  ·have hi':i=g.length:=by omega
   subst hi'
   by_cases hN:hcR g g.length=[]
   ·rw [hN]
    clear hN hLl
    refine Z ?_
    exact fz
   ·have hsd:=sd_own (e:=94) (rowsH_ne hN)
    rw [hsd]
    clear hN hLl
    refine Z ?_
    exact fz
def gs20_0:List (Option (List Nat)):=[some [18,21,22,23,24],some [17,21,22,23,24],some [21,22,23,24],some [21,22,23,24],some [17,18,19,20,22],some [17,18,19,20,21],some [17,18,19,20],some [17,18,19,20],none,none]
attribute [go_sem] gs20_0
attribute [local go_sem] rowsE_length
def mkE (l:List Ex) (i:Nat):List (List T):=rowsE (l.take i)++List.replicate (l.length-i) (rowE ex0)
theorem mkE_length (l:List Ex) (i:Nat):(mkE l i).length=l.length:=by simp [mkE,rowsE_length]; omega
theorem mkE_zero (l:List Ex):mkE l 0=List.replicate l.length (rowE ex0):=by simp [mkE,rowsE]
theorem mkE_all (l:List Ex):mkE l l.length=rowsE l:=by simp [mkE]
theorem mkE_getD {l:List Ex} {i:Nat} (h:i<l.length):(mkE l i).getD i []=[.v (vI 0),.v (vI 0),.v (vI 0),.v (vS []),.v (vS []),.v (vS [])]:=by
 unfold mkE
 rw [gDg,List.getElem?_append_right (by simp [rowsE_length]; omega)]
 simp only [rowsE_length,List.length_take,Nat.min_eq_left (Nat.le_of_lt h),Nat.sub_self]
 rw [List.getElem?_replicate,if_pos (by omega)]; rfl
theorem mkE_set {l:List Ex} {i:Nat} (h:i<l.length):(mkE l i).set i [.v (vI (l.getD i ex0).sd),.v (vI (l.getD i ex0).aq),.v (vI (l.getD i ex0).at'),.v (vS (l.getD i ex0).ur),.v (vS (l.getD i ex0).rq),.v (vS (l.getD i ex0).an)]=mkE l (i+1):=by
 unfold mkE
 have h1:l.length-i=(l.length-(i+1))+1:=by omega
 rw [take_at (d:=ex0) h,h1,List.set_append_right _ _ (by simp [rowsE_length]; omega)]
 simp only [rowsE_length,List.length_take,Nat.min_eq_left (Nat.le_of_lt h),Nat.sub_self,List.replicate_succ,List.set_cons_zero]
 simp [rowsE,rowE]
theorem c18 (l:List Ex) (hl:l.length≤1048576):Q1 18 (.imm 67 (rowsE l)) (.own 71 (rowsE l)):=by
 have hb1:l.length*72≤140737488355328:=by omega
 have hs:l.length≤9223372036854775807:=by omega
 have hs':(l.length:Int)≤9223372036854775807:=by omega
 have z0:=mkE_zero l
 have hm:=mkE_length l
 refine sb 1 [.tm 2] func18 ?_
 refine loopZ (fun i:Nat=>pE 23 [.imm 67 (rowsE l),.dead,.nil,.own 71 (mkE l i),.v (vI i)]) [0,2,3,4] (fun i=>i≤l.length) (fun i=>l.length-i) 0 (by simp only [mkE_zero]; rfl) (Nat.zero_le _) ?_
 intro i hi
 by_cases hc:i<l.length
 ·have hw:=wrapN hc hs
  have e1:=rowsE_getD hc
  have h2:=mkE_getD hc
  have h3:=mkE_set hc
  have x1:=c50 (l.getD i ex0)
  clear z0
  refine Z ?_
  refine call0 x1 ?_
  exact ⟨i+1,rfl,hc,by omega⟩
 ·have he:i=l.length:=by omega
  subst he
  have h3:=mkE_all l
  clear z0
  refine Z ?_
  exact fz
theorem c20 (l:List Ex) (hs:l.length≤9223372036854775807):Q2 20 (.imm 71 (rowsE l)) (.imm 71 (rowsE l)) (.v (vB true)):=by
 have hne:((l.length:Int) != (l.length:Int))=false:=by simp
 refine sb 2 [.tm 4] func20 ?_
 refine loopZ (fun i:Nat=>pE 27 [.imm 71 (rowsE l),.imm 71 (rowsE l),.dead,.dead,.v (vB false),.v (vI i)]) [0,1,4,5] (fun i=>i≤l.length) (fun i=>l.length-i) 0 rfl (Nat.zero_le _) ?_
 intro i hi
 by_cases hc:i<l.length
 ·have hw:=wrapN hc hs
  have e1:=rowsE_getD hc
  have x1:=c53 (l.getD i ex0)
  refine Z ?_
  refine draw_new gs20_0 mixedOk (by kernel_rfl) ?_
  refine Z ?_
  refine call0 x1 ?_
  exact ⟨i+1,rfl,hc,by omega⟩
 ·refine Z ?_
  exact fz
attribute [local go_sem] rowsE_length rowsH_length
theorem c8 (l:List Ex) (hl:BigE l):Q1 8 (.imm 67 (rowsE l)) (.v (vB true)):=by
 have x1:=c16 l hl
 have hp:=szE_in (l:=l)
 generalize szE l 1048576=z at x1 hp
 by_cases hz:z<0
 ·clear hp
  refine sb 1 [.tm 2] func8 ?_
  refine call0 x1 ?_
  exact fz
 ·obtain ⟨hs,hm⟩:=hp hz
  have hl9:=hs.1
  have x2:=c18 l hm
  have x3:=c28 l hs
  have x4:=c29 l hs
  have x5:=c20 l hl9
  have x6:=c31 l hm
  have hn:=namN_le (goodE l) (goodE l).length
  have hn2:=goodE_le l
  have hR:(hcR (goodE l) (goodE l).length).length=(namN (goodE l) (goodE l).length).length:=by unfold hcR; exact List.length_map ..
  generalize hcR (goodE l) (goodE l).length=R at x3 x4 hR
  have hR2:R.length≤100000:=by omega
  clear hR hn hn2
  have x7:=c30 R (by omega)
  have x8:=c32 R hR2
  have x9:=c33 R.length hR2
  have b1:∀ x:Int,(x != x)=false:=fun x=>by simp
  have b2:¬ (((1+6*l.length:Nat):Int)<0):=by omega
  have b3:¬ (((1+3*R.length:Nat):Int)<0):=by omega
  generalize ((1+6*l.length:Nat):Int)=m6 at x6 b2
  clear hp
  by_cases h0:R=[]
  ·subst h0
   rw [sdH_nil] at x3 x4
   generalize ((1+3*([]:List Hc).length:Nat):Int)=m3 at x8 x9 b3
   refine sb 1 [.tm 2] func8 ?_
   refine call0 x1 ?_
   refine call0 x2 ?_
   refine call0 x3 ?_
   refine call0 x2 ?_
   refine call0 x4 ?_
   refine call0 x7 ?_
   refine call0 x2 ?_
   refine call0 x5 ?_
   refine callm x6 ?_
   refine call0 x7 ?_
   refine call0 x8 ?_
   refine call0 x9 ?_
   refine call0 x2 ?_
   refine call0 x4 ?_
   refine call0 x7 ?_
   refine call0 x9 ?_
   exact fz
  ·rw [sd_own (rowsH_ne h0)] at x3 x4
   generalize ((1+3*R.length:Nat):Int)=m3 at x8 x9 b3
   refine sb 1 [.tm 2] func8 ?_
   refine call0 x1 ?_
   refine call0 x2 ?_
   refine call0 x3 ?_
   refine call0 x2 ?_
   refine call0 x4 ?_
   refine call0 x7 ?_
   refine call0 x2 ?_
   refine call0 x5 ?_
   refine callm x6 ?_
   refine call0 x7 ?_
   refine call1 x8 ?_
   refine call0 x9 ?_
   refine call0 x2 ?_
   refine call0 x4 ?_
   refine call0 x7 ?_
   refine call0 x9 ?_
   exact fz
end Go.Proofs.YtbdfdfhamlmodaaGreatDoor.Fw
