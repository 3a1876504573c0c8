/- Texts of the proof: FdE FeB FeQ FeT FeC FeD FcS FeA FeU FeE FeH FeV FeR FeW FeX FeS FeZ FgA FgB. -/
import Derived.Lib.Join
import Derived.Shelf.Slices.Turned
import Derived.Shelf.Slices.Cells
import Derived.Shelf.Strconv.Itoa3
import Derived.Shelf.LaysM
import Derived.Lib.RowBridge
import Derived.Shelf.Strings.Cut
import Derived.Shelf.Strings.Split
import Derived.Shelf.Strings.Prefix
import Derived.Shelf.Strings.IndexAnyAll
import Derived.Shelf.Strings.Search1
import Derived.Shelf.Strconv.AtoiAll
import Derived.WalkKit
import Derived.BigCall
import Derived.BigGuard
import Derived.Lib.AtoiErrMem
import Derived.Test.YtbdfdfhamlmodaaGreatDoorM3
set_option linter.unusedSimpArgs false
set_option linter.unusedVariables false
/- Contracts: elements of a list. -/
namespace Go.Proofs.YtbdfdfhamlmodaaGreatDoor.Fw
open Go
open Go.Proofs.Tryz
set_option maxRecDepth 100000
set_option maxHeartbeats 4000000
attribute [local congr] c_bnd c_slot c_cell c_all c_len c_chk c_asm c_opdR c_wp c_pwp c_pOps c_Done c_nx c_blk c_fin c_coeLeaf c_coeLeaves c_argR c_argsR c_partsR c_ite c_wpF c_OutF c_pHead c_pDraw
def addE (out:List (List UInt8)) (e:List UInt8):List (List UInt8):=if e==[] then out else out++[e]
def elGo (s:List UInt8) (fr:Nat) (q:Bool) (i:Nat) (out:List (List UInt8)):List (List UInt8) :=
 if h:i<s.length then
  if s.getD i 0=34 then elGo s fr (!q) (i+1) out
  else if q=true∧s.getD i 0=92 then elGo s fr q (i+2) out
  else if q=false∧s.getD i 0=44 then elGo s (i+1) q (i+1) (addE out (trimB ((s.drop fr).take (i-fr))))
  else elGo s fr q (i+1) out
 else addE out (trimB (s.drop fr))
termination_by s.length-i
decreasing_by all_goals omega
def elB (s:List UInt8):List (List UInt8):=elGo s 0 false 0 []
theorem elGo_end {s:List UInt8} {fr:Nat} {q:Bool} {i:Nat} {out:List (List UInt8)} (h:¬ i<s.length):elGo s fr q i out=addE out (trimB (s.drop fr)):=by
 rw [elGo,dif_neg h]
theorem elGo_q {s:List UInt8} {fr:Nat} {q:Bool} {i:Nat} {out:List (List UInt8)} (h:i<s.length) (hc:s.getD i 0=34):elGo s fr q i out=elGo s fr (!q) (i+1) out:=by
 rw [elGo,dif_pos h,if_pos hc]
theorem elGo_b {s:List UInt8} {fr:Nat} {i:Nat} {out:List (List UInt8)} (h:i<s.length) (hc:s.getD i 0≠34) (hb:s.getD i 0=92):elGo s fr true i out=elGo s fr true (i+2) out:=by
 rw [elGo,dif_pos h,if_neg hc,if_pos ⟨rfl,hb⟩]
theorem elGo_c {s:List UInt8} {fr:Nat} {i:Nat} {out:List (List UInt8)} (h:i<s.length) (hc:s.getD i 0≠34) (hb:s.getD i 0=44):elGo s fr false i out=elGo s (i+1) false (i+1) (addE out (trimB ((s.drop fr).take (i-fr)))):=by
 rw [elGo,dif_pos h,if_neg hc,if_neg (by simp),if_pos ⟨rfl,hb⟩]
theorem elGo_n {s:List UInt8} {fr:Nat} {q:Bool} {i:Nat} {out:List (List UInt8)} (h:i<s.length) (hc:s.getD i 0≠34) (h1:¬ (q=true∧s.getD i 0=92)) (h2:¬ (q=false∧s.getD i 0=44)):elGo s fr q i out=elGo s fr q (i+1) out:=by
 rw [elGo,dif_pos h,if_neg hc,if_neg h1,if_neg h2]
theorem addE_len (out:List (List UInt8)) (e:List UInt8):(addE out e).length≤out.length+1:=by
 unfold addE
 split<;>simp
theorem trimB_len (l:List UInt8):(trimB l).length≤l.length:=by
 unfold trimB trimR
 rw [List.length_reverse]
 have h1:=(List.dropWhile_sublist spc (l:=(l.dropWhile spc).reverse)).length_le
 have h2:=(List.dropWhile_sublist spc (l:=l)).length_le
 rw [List.length_reverse] at h1
 omega
theorem sd_addE {out:List (List UInt8)} {e:List UInt8} (h:(e==[])=false):sd 9 (rowsS (addE out e)) = .own 9 (rowsS out++[[.v (vS e)]]):=by
 unfold addE
 rw [h,if_neg (by simp),rowsS_snoc,sd_snoc]
theorem addE_nil {out:List (List UInt8)} {e:List UInt8} (h:(e==[])=true):addE out e=out:=by
 unfold addE
 rw [if_pos h]
theorem byte_is (b:UInt8) (k:Nat) (hk:k<256):((b.toNat:Int)==(k:Int))=decide (b=UInt8.ofNat k):=by
 rw [Bool.eq_iff_iff,beq_iff_eq,decide_eq_true_eq]
 constructor
 ·intro h
  have h:b.toNat=k:=by omega
  rw [←h]; simp
 ·intro h
  rw [h]
  simp
  omega
theorem c237 (e:List UInt8) (he:e.length≤9223372036854775807) (out:List (List UInt8)) (ho:out.length≤1048576):Sem prog 237 ⟨[.v (vS e),.cref 1 0],[none,some [sd 9 (rowsS out)]]⟩ ⟨[.dead,.dead,.tup []],[none,some [sd 9 (rowsS (addE out (trimB e)))]]⟩:=by
 have hlen:out.length≤9223372036854775806:=by omega
 have hlen2:(rowsS out).length+1≤9223372036854775807:=by rw [rowsS_length]; omega
 cases hz:trimB e==[]
 ·rw [sd_addE hz]
  cases ho:rowsS out with
  | nil =>
   rw [sd_nil]
   refine sf 2 [] func237 ?_
   simp only [go_sem,Nat.reduceSub,f237,cfg]
   refine cf (c192 e he) ?_
   simp only [go_sem,Nat.reduceLeDiff,Nat.reduceLT,Nat.reduceAdd,Nat.reduceMul,Nat.reduceBNe,Nat.reduceEqDiff,reduceCtorEq,Nat.reduceDiv,Nat.reduceMod,hz]
   first | exact ⟨.inr rfl,_,.inl rfl,rfl,rfl⟩ | exact ⟨.inl rfl,_,.inl rfl,rfl,rfl⟩
  | cons x xs =>
   rw [sd_cons]
   have hlx:xs.length+1=out.length:=by rw [←rowsS_length out,ho]; rfl
   rw [ho] at hlen2
   refine sf 2 [] func237 ?_
   simp only [go_sem,Nat.reduceSub,f237,cfg]
   refine cf (c192 e he) ?_
   simp only [go_sem,Nat.reduceLeDiff,Nat.reduceLT,Nat.reduceAdd,Nat.reduceMul,Nat.reduceBNe,Nat.reduceEqDiff,reduceCtorEq,Nat.reduceDiv,Nat.reduceMod,hz]
   try (with_reducible intro hlen3)
   with_reducible refine And.intro (by omega) ?_
   first | exact ⟨.inr rfl,_,.inl rfl,rfl,rfl⟩ | exact ⟨.inl rfl,_,.inl rfl,rfl,rfl⟩
 ·rw [addE_nil hz]
  cases ho:rowsS out with
  | nil =>
   rw [sd_nil]
   refine sf 2 [] func237 ?_
   simp only [go_sem,Nat.reduceSub,f237,cfg]
   refine cf (c192 e he) ?_
   simp only [go_sem,Nat.reduceAdd,Nat.reduceBNe,hz]
   first | exact ⟨.inr rfl,_,.inl rfl,rfl,rfl⟩ | exact ⟨.inl rfl,_,.inl rfl,rfl,rfl⟩
  | cons x xs =>
   rw [sd_cons]
   refine sf 2 [] func237 ?_
   simp only [go_sem,Nat.reduceSub,f237,cfg]
   refine cf (c192 e he) ?_
   simp only [go_sem,Nat.reduceAdd,Nat.reduceBNe,hz]
   first | exact ⟨.inr rfl,_,.inl rfl,rfl,rfl⟩ | exact ⟨.inl rfl,_,.inl rfl,rfl,rfl⟩
theorem c201 (s:List UInt8) (hs:s.length≤4000):Q1 201 (.v (vS s)) (sd 9 (rowsS (elB s))):=by
 refine sf 1 [.tm 2] func201 ?_
 have hs9:s.length≤9223372036854775807:=by omega
 have hs4:¬ (4000:Int)<(s.length:Int):=by omega
 simp only [go_sem,Nat.reduceLeDiff,Nat.reduceLT,Nat.reduceAdd,Nat.reduceSub,Nat.reduceBNe,f201,cfg,hs9,hs4]
 try (with_reducible intro hlen)
 try simp only [go_sem]
 refine loop_on (fun st:Nat × Nat × Bool × List (List UInt8)=>pC 58 [.v (vS s),.dead,.nil,.cref 3 0,.clo 237 [.cref 3 0],.v (vI st.2.1),.v (vB st.2.2.1),.v (vI st.1)] [none,none,none,some [sd 9 (rowsS st.2.2.2)]]) [0,2,3,4,5,6,7] (fun st=>st.2.1≤st.1∧st.2.1≤s.length∧st.2.2.2.length≤st.1∧st.2.2.2.length≤4001∧elGo s st.2.1 st.2.2.1 st.1 st.2.2.2=elB s) (fun st=>s.length+2-st.1) (0,0,false,[]) rfl ⟨by decide,Nat.zero_le _,by simp,by simp,rfl⟩ ?_
 rintro ⟨i,fr,q,out⟩ ⟨g1,g2,g3,g5,g4⟩
 have g1:fr≤i:=g1
 have g2:fr≤s.length:=g2
 have g3:out.length≤i:=g3
 have g5:out.length≤4001:=g5
 have g4:elGo s fr q i out=elB s:=g4
 simp only [go_sem,hs9]
 try (with_reducible intro hlen2)
 refine Or.elim (Classical.em (i<s.length)) (fun hc => ?_) fun hc => ?_
 ·have hw:=wrapN hc hs9
  have hw2:IntKind.i64.wrap (((i+1:Nat):Int)+1)=((i+2:Nat):Int):=by rw [IntKind.wrap_i64]; omega
  have k34:=byte_is (s.getD i 0) 34 (by decide)
  have k92:=byte_is (s.getD i 0) 92 (by decide)
  have k44:=byte_is (s.getD i 0) 44 (by decide)
  have k34:(((s.getD i 0).toNat:Int)==34)=decide (s.getD i 0=34):=k34
  have k92:(((s.getD i 0).toNat:Int)==92)=decide (s.getD i 0=92):=k92
  have k44:(((s.getD i 0).toNat:Int)==44)=decide (s.getD i 0=44):=k44
  simp only [go_sem,Nat.reduceBNe,hc]
  by_cases hq:s.getD i 0=34
  ·rw [decide_eq_true hq] at k34
   simp only [go_sem,Nat.reduceBNe,k34,hw]
   refine ⟨(i+1,fr,!q,out),?_,⟨by show fr≤i+1; omega,g2,by show out.length≤i+1; omega,g5,(elGo_q hc hq).symm.trans g4⟩,by show s.length+2-(i+1)<s.length+2-i; omega⟩
   dsimp only
   generalize rowsS out=R
   cases R<;>rfl
  rw [decide_eq_false hq] at k34
  cases q with
  | true =>
   by_cases hb:s.getD i 0=92
   ·rw [decide_eq_true hb] at k92
    simp only [go_sem,Nat.reduceBNe,hc,k34,k92,hw,hw2]
    refine ⟨(i+2,fr,true,out),?_,⟨by show fr≤i+2; omega,g2,by show out.length≤i+2; omega,g5,(elGo_b hc hq hb).symm.trans g4⟩,by show s.length+2-(i+2)<s.length+2-i; omega⟩
    dsimp only
    generalize rowsS out=R
    cases R<;>rfl
   ·rw [decide_eq_false hb] at k92
    simp only [go_sem,Nat.reduceBNe,hc,k34,k92,hw]
    refine ⟨(i+1,fr,true,out),?_,⟨by show fr≤i+1; omega,g2,by show out.length≤i+1; omega,g5,(elGo_n hc hq (fun h=>hb h.2) (by simp)).symm.trans g4⟩,by show s.length+2-(i+1)<s.length+2-i; omega⟩
    dsimp only
    generalize rowsS out=R
    cases R<;>rfl
  | false =>
   by_cases hb:s.getD i 0=44
   ·rw [decide_eq_true hb] at k44
    have hln:((s.drop fr).take (i-fr)).length≤4000:=by rw [List.length_take,List.length_drop]; omega
    have h110:=c237 ((s.drop fr).take (i-fr)) (by omega) out (by omega)
    have gz:=(elGo_c (fr:=fr) (out:=out) hc hq hb).symm.trans g4
    have gl:=addE_len out (trimB ((s.drop fr).take (i-fr)))
    have gf:((fr:Int)≤(i:Int)):=by omega
    have gi:((i:Int)≤(s.length:Int)):=by omega
    have gi':i≤s.length:=by omega
    generalize hA:addE out (trimB ((s.drop fr).take (i-fr)))=A at h110 gz gl
    generalize hR:rowsS A=R at h110
    cases ho:rowsS out with
    | nil =>
     rw [ho,sd_nil] at h110
     cases R with
     | nil => 
      rw [sd_nil] at h110
      simp only [go_sem,Nat.reduceLT,Nat.reduceBNe,hc,k34,k44,sd_nil,gi',g1]
      refine ev_call h110 (retWc rfl rfl rfl rfl rfl rfl rfl rfl) ?_
      simp only [go_sem,Nat.reduceLT,Nat.reduceAdd,Nat.reduceBEq,Nat.reduceBNe,hw]
      refine ⟨(i+1,i+1,false,A),?_,⟨by show i+1≤i+1; omega,by show i+1≤s.length; omega,by show A.length≤i+1; omega,by show A.length≤4001; omega,gz⟩,by show s.length+2-(i+1)<s.length+2-i; omega⟩
      dsimp only
      rw [hR]
      rfl
     | cons y ys => 
      rw [sd_cons] at h110
      simp only [go_sem,Nat.reduceLT,Nat.reduceBNe,hc,k34,k44,sd_nil,gi',g1]
      refine ev_call h110 (retWc rfl rfl rfl rfl rfl rfl rfl rfl) ?_
      simp only [go_sem,Nat.reduceLT,Nat.reduceAdd,Nat.reduceBEq,Nat.reduceBNe,hw]
      refine ⟨(i+1,i+1,false,A),?_,⟨by show i+1≤i+1; omega,by show i+1≤s.length; omega,by show A.length≤i+1; omega,by show A.length≤4001; omega,gz⟩,by show s.length+2-(i+1)<s.length+2-i; omega⟩
      dsimp only
      rw [hR]
      rfl
    | cons x xs =>
     rw [ho,sd_cons] at h110
     cases R with
     | nil => 
      rw [sd_nil] at h110
      simp only [go_sem,Nat.reduceLT,Nat.reduceBNe,hc,k34,k44,sd_cons,gi',g1]
      refine ev_call h110 (retWc rfl rfl rfl rfl rfl rfl rfl rfl) ?_
      simp only [go_sem,Nat.reduceLT,Nat.reduceAdd,Nat.reduceBEq,Nat.reduceBNe,hw]
      refine ⟨(i+1,i+1,false,A),?_,⟨by show i+1≤i+1; omega,by show i+1≤s.length; omega,by show A.length≤i+1; omega,by show A.length≤4001; omega,gz⟩,by show s.length+2-(i+1)<s.length+2-i; omega⟩
      dsimp only
      rw [hR]
      rfl
     | cons y ys => 
      rw [sd_cons] at h110
      simp only [go_sem,Nat.reduceLT,Nat.reduceBNe,hc,k34,k44,sd_cons,gi',g1]
      refine ev_call h110 (retWc rfl rfl rfl rfl rfl rfl rfl rfl) ?_
      simp only [go_sem,Nat.reduceLT,Nat.reduceAdd,Nat.reduceBEq,Nat.reduceBNe,hw]
      refine ⟨(i+1,i+1,false,A),?_,⟨by show i+1≤i+1; omega,by show i+1≤s.length; omega,by show A.length≤i+1; omega,by show A.length≤4001; omega,gz⟩,by show s.length+2-(i+1)<s.length+2-i; omega⟩
      dsimp only
      rw [hR]
      rfl
   ·rw [decide_eq_false hb] at k44
    simp only [go_sem,Nat.reduceBNe,hc,k34,k44,hw]
    refine ⟨(i+1,fr,false,out),?_,⟨by show fr≤i+1; omega,g2,by show out.length≤i+1; omega,g5,(elGo_n hc hq (by simp) (fun h=>hb h.2)).symm.trans g4⟩,by show s.length+2-(i+1)<s.length+2-i; omega⟩
    dsimp only
    generalize rowsS out=R
    cases R<;>rfl
 ·have gz:elB s=addE out (trimB (s.drop fr)):=g4.symm.trans (elGo_end hc)
  rw [gz]
  have gf:((fr:Int)≤(s.length:Int)):=by omega
  have hln:(s.drop fr).length≤4000:=by rw [List.length_drop]; omega
  have h110:=c237 (s.drop fr) (by omega) out (by omega)
  have htk:(s.drop fr).take (s.length-fr)=s.drop fr:=List.take_of_length_le (by rw [List.length_drop]; omega)
  generalize rowsS (addE out (trimB (s.drop fr)))=R at h110
  cases ho:rowsS out with
  | nil =>
   rw [ho,sd_nil] at h110
   cases R with
   | nil => 
    rw [sd_nil] at h110
    rw [sd_nil]
    simp only [go_sem,Nat.reduceLT,hc,g2,htk]
    refine ev_call h110 (retWc rfl rfl rfl rfl rfl rfl rfl rfl) ?_
    simp only [go_sem,Nat.reduceLT,Nat.reduceAdd,Nat.reduceBEq,Nat.reduceBNe]
    exact fz
   | cons y ys => 
    rw [sd_cons] at h110
    rw [sd_cons]
    simp only [go_sem,Nat.reduceLT,hc,sd_nil,g2,htk]
    refine ev_call h110 (retWc rfl rfl rfl rfl rfl rfl rfl rfl) ?_
    simp only [go_sem,Nat.reduceLT,Nat.reduceAdd,Nat.reduceBEq,Nat.reduceBNe,Nat.reduceEqDiff,reduceCtorEq,Nat.reduceDiv,Nat.reduceMod]
    exact fz
  | cons x xs =>
   rw [ho,sd_cons] at h110
   cases R with
   | nil => 
    rw [sd_nil] at h110
    rw [sd_nil]
    simp only [go_sem,Nat.reduceLT,hc,sd_cons,g2,htk]
    refine ev_call h110 (retWc rfl rfl rfl rfl rfl rfl rfl rfl) ?_
    simp only [go_sem,Nat.reduceLT,Nat.reduceAdd,Nat.reduceBEq,Nat.reduceBNe]
    exact fz
   | cons y ys => 
    rw [sd_cons] at h110
    rw [sd_cons]
    simp only [go_sem,Nat.reduceLT,hc,g2,htk]
    refine ev_call h110 (retWc rfl rfl rfl rfl rfl rfl rfl rfl) ?_
    simp only [go_sem,Nat.reduceLT,Nat.reduceAdd,Nat.reduceBEq,Nat.reduceBNe,Nat.reduceEqDiff,reduceCtorEq,Nat.reduceDiv,Nat.reduceMod]
    exact fz
theorem c242 (s:List UInt8) (hs:s.length≤4000):Q1 242 (.v (vS s)) (sd 9 (rowsS (elB s))):=by
 refine sf 1 [.tm 2] func242 ?_
 have hs9:s.length≤9223372036854775807:=by omega
 have hs4:¬ (4000:Int)<(s.length:Int):=by omega
 simp only [go_sem,Nat.reduceSub,f242,cfg,hs9,hs4]
 try (with_reducible intro hlen)
 try simp only [go_sem]
 refine loop_on (fun st:Nat × Nat × Bool × List (List UInt8) × Bool=>pE 70 [.v (vS s),.dead,.nil,sd 9 (rowsS st.2.2.2.1),.v (vI st.2.1),.v (vB st.2.2.1),.v (vI st.1)]) [0,2,3,4,5,6] (fun st=>st.2.1≤s.length+1∧(st.1≤s.length→st.2.1≤st.1)∧st.2.2.2.1.length≤st.1∧st.2.2.2.1.length≤4001∧st.1≤s.length+1∧(st.2.2.2.2=(decide (st.1≤s.length)))∧(if st.2.2.2.2 then elGo s st.2.1 st.2.2.1 st.1 st.2.2.2.1 else st.2.2.2.1)=elB s) (fun st=>s.length+2-st.1) (0,0,false,[],true) rfl ⟨Nat.zero_le _,fun _=>Nat.le_refl _,by simp,by simp,Nat.zero_le _,by simp,rfl⟩ ?_
 rintro ⟨i,fr,q,out,live⟩ ⟨g1,g2,g3,g5,g6,g7,g4⟩
 have g1:fr≤s.length+1:=g1
 have g2:i≤s.length→fr≤i:=g2
 have g3:out.length≤i:=g3
 have g5:out.length≤4001:=g5
 have g6:i≤s.length+1:=g6
 have g7:live=decide (i≤s.length):=g7
 have g4:(if live then elGo s fr q i out else out)=elB s:=g4
 simp only [go_sem,hs9]
 try (with_reducible intro hlen2)
 refine Or.elim (Classical.em (i≤s.length)) (fun hle => ?_) fun hle => ?_
 ·have g2:=g2 hle
  rw [decide_eq_true hle] at g7
  rw [g7,if_pos rfl] at g4
  have hlei:((i:Int)≤(s.length:Int)):=by omega
  have hw:IntKind.i64.wrap ((i:Int)+1)=((i+1:Nat):Int):=by rw [IntKind.wrap_i64]; omega
  have hw2:IntKind.i64.wrap (((i+1:Nat):Int)+1)=((i+2:Nat):Int):=by rw [IntKind.wrap_i64]; omega
  have gf:((fr:Int)≤(i:Int)):=by omega
  have hln:((s.drop fr).take (i-fr)).length≤4000:=by rw [List.length_take,List.length_drop]; omega
  have hln9:((s.drop fr).take (i-fr)).length≤9223372036854775807:=by omega
  have h85:=c152 ((s.drop fr).take (i-fr)) hln9
  have hso:(rowsS out).length+1≤9223372036854775807:=by rw [rowsS_length]; omega
  have htl:=trimB_len ((s.drop fr).take (i-fr))
  have htl9:(trimB ((s.drop fr).take (i-fr))).length≤9223372036854775807:=by omega
  simp only [go_sem,hs9,hle]
  by_cases hend:i=s.length
  ·have heq:((i:Int)==(s.length:Int))=true:=by rw [beq_iff_eq]; omega
   have hdt:(s.drop fr).take (i-fr)=s.drop fr:=List.take_of_length_le (by rw [List.length_drop]; omega)
   have gz:addE out (trimB ((s.drop fr).take (i-fr)))=elB s:=by rw [hdt]; exact (elGo_end (by omega)).symm.trans g4
   generalize hE:(s.drop fr).take (i-fr)=el at h85 htl htl9 gz hln hln9
   cases hz:trimB el==[]
   ·have hlp:(0:Int)<((trimB el).length:Int):=by
     have:trimB el≠[]:=by rw [beq_eq_false_iff_ne] at hz; exact hz
     have:=List.length_pos_iff.2 this
     omega
    have hA:=sd_addE (out:=out) hz
    cases ho:rowsS out with
    | nil =>
     rw [ho] at hA hso
     simp only [go_sem,reduceCtorEq,hE,sd_nil,g2,hle,heq]
     refine cf h85 ?_
     simp only [go_sem,Nat.reduceLeDiff,Nat.reduceLT,Nat.reduceAdd,Nat.reduceMul,Nat.reduceBNe,Nat.reduceEqDiff,reduceCtorEq,Nat.reduceDiv,Nat.reduceMod,hlp,htl9,hw]
     try (with_reducible intro hlen3)
     try simp only [go_sem]
     refine ⟨(i+1,i+1,q,addE out (trimB el),false),?_,⟨by show i+1≤s.length+1; omega,fun h=>absurd h (by show ¬ i+1≤s.length; omega),by show (addE out (trimB el)).length≤i+1; have:=addE_len out (trimB el); omega,by show (addE out (trimB el)).length≤4001; have:=addE_len out (trimB el); omega,by show i+1≤s.length+1; omega,(decide_eq_false (by show ¬ i+1≤s.length; omega)).symm,by rw [if_neg (by simp)]; exact gz⟩,by show s.length+2-(i+1)<s.length+2-i; omega⟩
     dsimp only
     rw [hA]
     rfl
    | cons x xs =>
     have hlx:xs.length+1=out.length:=by rw [←rowsS_length out,ho]; rfl
     rw [ho] at hA hso
     simp only [go_sem,reduceCtorEq,hE,sd_cons,g2,hle,heq]
     refine cf h85 ?_
     simp only [go_sem,Nat.reduceLeDiff,Nat.reduceLT,Nat.reduceAdd,Nat.reduceMul,Nat.reduceBNe,Nat.reduceEqDiff,reduceCtorEq,Nat.reduceDiv,Nat.reduceMod,hlp,htl9,hw]
     try (with_reducible intro hlen3)
     try simp only [go_sem]
     with_reducible refine And.intro (by omega) ?_
     refine ⟨(i+1,i+1,q,addE out (trimB el),false),?_,⟨by show i+1≤s.length+1; omega,fun h=>absurd h (by show ¬ i+1≤s.length; omega),by show (addE out (trimB el)).length≤i+1; have:=addE_len out (trimB el); omega,by show (addE out (trimB el)).length≤4001; have:=addE_len out (trimB el); omega,by show i+1≤s.length+1; omega,(decide_eq_false (by show ¬ i+1≤s.length; omega)).symm,by rw [if_neg (by simp)]; exact gz⟩,by show s.length+2-(i+1)<s.length+2-i; omega⟩
     dsimp only
     rw [hA]
     rfl
   ·have hlp:¬ (0:Int)<((trimB el).length:Int):=by
     have:trimB el=[]:=by simpa using hz
     rw [this]; simp
    have hA:=addE_nil (out:=out) hz
    cases ho:rowsS out with
    | nil =>
     simp only [go_sem,reduceCtorEq,hE,sd_nil,g2,hle,heq]
     refine cf h85 ?_
     simp only [go_sem,Nat.reduceAdd,Nat.reduceBNe,hlp,htl9,hw]
     refine ⟨(i+1,i+1,q,addE out (trimB el),false),?_,⟨by show i+1≤s.length+1; omega,fun h=>absurd h (by show ¬ i+1≤s.length; omega),by show (addE out (trimB el)).length≤i+1; have:=addE_len out (trimB el); omega,by show (addE out (trimB el)).length≤4001; have:=addE_len out (trimB el); omega,by show i+1≤s.length+1; omega,(decide_eq_false (by show ¬ i+1≤s.length; omega)).symm,by rw [if_neg (by simp)]; exact gz⟩,by show s.length+2-(i+1)<s.length+2-i; omega⟩
     dsimp only
     rw [hA,ho]
     rfl
    | cons x xs =>
     simp only [go_sem,reduceCtorEq,hE,sd_cons,g2,hle,heq]
     refine cf h85 ?_
     simp only [go_sem,Nat.reduceAdd,Nat.reduceBNe,hlp,htl9,hw]
     refine ⟨(i+1,i+1,q,addE out (trimB el),false),?_,⟨by show i+1≤s.length+1; omega,fun h=>absurd h (by show ¬ i+1≤s.length; omega),by show (addE out (trimB el)).length≤i+1; have:=addE_len out (trimB el); omega,by show (addE out (trimB el)).length≤4001; have:=addE_len out (trimB el); omega,by show i+1≤s.length+1; omega,(decide_eq_false (by show ¬ i+1≤s.length; omega)).symm,by rw [if_neg (by simp)]; exact gz⟩,by show s.length+2-(i+1)<s.length+2-i; omega⟩
     dsimp only
     rw [hA,ho]
     rfl
  have hi:i<s.length:=by omega
  have heq:((i:Int)==(s.length:Int))=false:=by rw [beq_eq_false_iff_ne]; omega
  have k34:(((s.getD i 0).toNat:Int)==34)=decide (s.getD i 0=34):=byte_is (s.getD i 0) 34 (by decide)
  have k92:(((s.getD i 0).toNat:Int)==92)=decide (s.getD i 0=92):=byte_is (s.getD i 0) 92 (by decide)
  have k44:(((s.getD i 0).toNat:Int)==44)=decide (s.getD i 0=44):=byte_is (s.getD i 0) 44 (by decide)
  by_cases hq:s.getD i 0=34
  ·rw [decide_eq_true hq] at k34
   have e44:¬ s.getD i 0=44:=by rw [hq]; decide
   rw [decide_eq_false e44] at k44
   cases q with
   | true =>
    simp only [go_sem,Nat.reduceBNe,heq,hi,k34,hw]
    refine ⟨(i+1,fr,false,out,true),?_,⟨g1,fun _=>by show fr≤i+1; omega,by show out.length≤i+1; omega,g5,by show i+1≤s.length+1; omega,(decide_eq_true (by show i+1≤s.length; omega)).symm,by rw [if_pos rfl]; exact (elGo_q hi hq).symm.trans g4⟩,by show s.length+2-(i+1)<s.length+2-i; omega⟩
    dsimp only
    generalize rowsS out=R
    cases R<;>rfl
   | false =>
    simp only [go_sem,Nat.reduceBNe,heq,hi,k34,k44,hw]
    refine ⟨(i+1,fr,true,out,true),?_,⟨g1,fun _=>by show fr≤i+1; omega,by show out.length≤i+1; omega,g5,by show i+1≤s.length+1; omega,(decide_eq_true (by show i+1≤s.length; omega)).symm,by rw [if_pos rfl]; exact (elGo_q hi hq).symm.trans g4⟩,by show s.length+2-(i+1)<s.length+2-i; omega⟩
    dsimp only
    generalize rowsS out=R
    cases R<;>rfl
  rw [decide_eq_false hq] at k34
  cases q with
  | true =>
   by_cases hb:s.getD i 0=92
   ·rw [decide_eq_true hb] at k92
    by_cases hl:i+1<s.length
    ·have hl1:((i+1:Nat):Int)<(s.length:Int):=by omega
     simp only [go_sem,Nat.reduceBNe,hs9,heq,hi,k34,k92,hw,hw2,hl1]
     refine ⟨(i+2,fr,true,out,true),?_,⟨g1,fun _=>by show fr≤i+2; omega,by show out.length≤i+2; omega,g5,by show i+2≤s.length+1; omega,(decide_eq_true (by show i+2≤s.length; omega)).symm,by rw [if_pos rfl]; exact (elGo_b hi hq hb).symm.trans g4⟩,by show s.length+2-(i+2)<s.length+2-i; omega⟩
     dsimp only
     generalize rowsS out=R
     cases R<;>rfl
    ·have hl1:¬ ((i+1:Nat):Int)<(s.length:Int):=by omega
     simp only [go_sem,Nat.reduceBNe,hs9,heq,hi,k34,k92,hw,hl1]
     refine ⟨(i+1,fr,true,out,true),?_,⟨g1,fun _=>by show fr≤i+1; omega,by show out.length≤i+1; omega,g5,by show i+1≤s.length+1; omega,(decide_eq_true (by show i+1≤s.length; omega)).symm,by rw [if_pos rfl]; exact (elGo_end (by omega)).trans ((elGo_end (by omega)).symm.trans ((elGo_b hi hq hb).symm.trans g4))⟩,by show s.length+2-(i+1)<s.length+2-i; omega⟩
     dsimp only
     generalize rowsS out=R
     cases R<;>rfl
   ·rw [decide_eq_false hb] at k92
    simp only [go_sem,Nat.reduceBNe,heq,hi,k34,k92,hw]
    refine ⟨(i+1,fr,true,out,true),?_,⟨g1,fun _=>by show fr≤i+1; omega,by show out.length≤i+1; omega,g5,by show i+1≤s.length+1; omega,(decide_eq_true (by show i+1≤s.length; omega)).symm,by rw [if_pos rfl]; exact (elGo_n hi hq (fun h=>hb h.2) (by simp)).symm.trans g4⟩,by show s.length+2-(i+1)<s.length+2-i; omega⟩
    dsimp only
    generalize rowsS out=R
    cases R<;>rfl
  | false =>
   by_cases hb:s.getD i 0=44
   ·rw [decide_eq_true hb] at k44
    have gz:=(elGo_c (fr:=fr) (out:=out) hi hq hb).symm.trans g4
    generalize hE:(s.drop fr).take (i-fr)=el at h85 htl htl9 gz hln hln9
    cases hz:trimB el==[]
    ·have hlp:(0:Int)<((trimB el).length:Int):=by
      have:trimB el≠[]:=by rw [beq_eq_false_iff_ne] at hz; exact hz
      have:=List.length_pos_iff.2 this
      omega
     have hA:=sd_addE (out:=out) hz
     cases ho:rowsS out with
     | nil =>
      rw [ho] at hA hso
      simp only [go_sem,hE,sd_nil,g2,hle,heq,hi,k44]
      refine cf h85 ?_
      simp only [go_sem,Nat.reduceLeDiff,Nat.reduceLT,Nat.reduceAdd,Nat.reduceMul,Nat.reduceBNe,Nat.reduceEqDiff,reduceCtorEq,Nat.reduceDiv,Nat.reduceMod,hlp,htl9,hw]
      try (with_reducible intro hlen3)
      try simp only [go_sem]
      refine ⟨(i+1,i+1,false,addE out (trimB el),true),?_,⟨by show i+1≤s.length+1; omega,fun _=>Nat.le_refl _,by show (addE out (trimB el)).length≤i+1; have:=addE_len out (trimB el); omega,by show (addE out (trimB el)).length≤4001; have:=addE_len out (trimB el); omega,by show i+1≤s.length+1; omega,(decide_eq_true (by show i+1≤s.length; omega)).symm,by rw [if_pos rfl]; exact gz⟩,by show s.length+2-(i+1)<s.length+2-i; omega⟩
      dsimp only
      rw [hA]
      rfl
     | cons x xs =>
      have hlx:xs.length+1=out.length:=by rw [←rowsS_length out,ho]; rfl
      rw [ho] at hA hso
      simp only [go_sem,hE,sd_cons,g2,hle,heq,hi,k44]
      refine cf h85 ?_
      simp only [go_sem,Nat.reduceLeDiff,Nat.reduceLT,Nat.reduceAdd,Nat.reduceMul,Nat.reduceBNe,Nat.reduceEqDiff,reduceCtorEq,Nat.reduceDiv,Nat.reduceMod,hlp,htl9,hw]
      try (with_reducible intro hlen3)
      try simp only [go_sem]
      with_reducible refine And.intro (by omega) ?_
      refine ⟨(i+1,i+1,false,addE out (trimB el),true),?_,⟨by show i+1≤s.length+1; omega,fun _=>Nat.le_refl _,by show (addE out (trimB el)).length≤i+1; have:=addE_len out (trimB el); omega,by show (addE out (trimB el)).length≤4001; have:=addE_len out (trimB el); omega,by show i+1≤s.length+1; omega,(decide_eq_true (by show i+1≤s.length; omega)).symm,by rw [if_pos rfl]; exact gz⟩,by show s.length+2-(i+1)<s.length+2-i; omega⟩
      dsimp only
      rw [hA]
      rfl
    ·have hlp:¬ (0:Int)<((trimB el).length:Int):=by
      have:trimB el=[]:=by simpa using hz
      rw [this]; simp
     have hA:=addE_nil (out:=out) hz
     cases ho:rowsS out with
     | nil =>
      simp only [go_sem,hE,sd_nil,g2,hle,heq,hi,k44]
      refine cf h85 ?_
      simp only [go_sem,Nat.reduceAdd,Nat.reduceBNe,hlp,htl9,hw]
      refine ⟨(i+1,i+1,false,addE out (trimB el),true),?_,⟨by show i+1≤s.length+1; omega,fun _=>Nat.le_refl _,by show (addE out (trimB el)).length≤i+1; have:=addE_len out (trimB el); omega,by show (addE out (trimB el)).length≤4001; have:=addE_len out (trimB el); omega,by show i+1≤s.length+1; omega,(decide_eq_true (by show i+1≤s.length; omega)).symm,by rw [if_pos rfl]; exact gz⟩,by show s.length+2-(i+1)<s.length+2-i; omega⟩
      dsimp only
      rw [hA,ho]
      rfl
     | cons x xs =>
      simp only [go_sem,hE,sd_cons,g2,hle,heq,hi,k44]
      refine cf h85 ?_
      simp only [go_sem,Nat.reduceAdd,Nat.reduceBNe,hlp,htl9,hw]
      refine ⟨(i+1,i+1,false,addE out (trimB el),true),?_,⟨by show i+1≤s.length+1; omega,fun _=>Nat.le_refl _,by show (addE out (trimB el)).length≤i+1; have:=addE_len out (trimB el); omega,by show (addE out (trimB el)).length≤4001; have:=addE_len out (trimB el); omega,by show i+1≤s.length+1; omega,(decide_eq_true (by show i+1≤s.length; omega)).symm,by rw [if_pos rfl]; exact gz⟩,by show s.length+2-(i+1)<s.length+2-i; omega⟩
      dsimp only
      rw [hA,ho]
      rfl
   ·rw [decide_eq_false hb] at k44
    simp only [go_sem,Nat.reduceBNe,heq,hi,k34,k44,hw]
    refine ⟨(i+1,fr,false,out,true),?_,⟨g1,fun _=>by show fr≤i+1; omega,by show out.length≤i+1; omega,g5,by show i+1≤s.length+1; omega,(decide_eq_true (by show i+1≤s.length; omega)).symm,by rw [if_pos rfl]; exact (elGo_n hi hq (by simp) (fun h=>hb h.2)).symm.trans g4⟩,by show s.length+2-(i+1)<s.length+2-i; omega⟩
    dsimp only
    generalize rowsS out=R
    cases R<;>rfl
 ·have hlei:¬ ((i:Int)≤(s.length:Int)):=by omega
  rw [decide_eq_false hle] at g7
  rw [g7,if_neg (by simp)] at g4
  rw [←g4]
  simp only [go_sem,hle]
  generalize rowsS out=R
  cases R with
  | nil =>
   rw [sd_nil]
   simp only [go_sem,Nat.reduceBNe]
   exact fz
  | cons y ys =>
   rw [sd_cons]
   simp only [go_sem,Nat.reduceAdd,Nat.reduceBNe,Nat.reduceEqDiff,reduceCtorEq,Nat.reduceDiv,Nat.reduceMod]
   exact fz
theorem w8 {n:Int} (h:0≤n∧n≤255):IntKind.u8.wrap n=n:=by
 unfold IntKind.wrap
 simp [IntKind.signed,IntKind.bits]
 omega
def hexI (n:Int):Int:=if 48≤n∧n≤57 then n-48 else if 97≤n∧n≤102 then n-87 else if 65≤n∧n≤70 then n-55 else -1
def freeI (n:Int):Bool:=isLowerB n || isUpperB n || isDigitB n || (n==45) || (n==46) || (n==95) || (n==126)
def hostI (n:Int):Bool:=isLowerB n || isDigitB n || (n==45) || (n==46)
def upI (n:Int):Int:=if 97≤n∧n≤122 then n-32 else n
def freeSet:List UInt8:=[45,46,95,126]
theorem lowI_w (n:Int) (h0:0≤n) (h1:n≤255):lowI n=if 65≤n∧n≤90 then n+32 else n:=by
 unfold lowI
 split
 ·rw [w8 (by omega)]
 ·rfl
theorem c226 (n:Int):Q1 226 (.v (vC n)) (.v (vB (freeI n))):=by
 refine sf 1 [.tm 2] func226 ?_
 simp only [go_sem,Nat.reduceSub,f226,cfg, *]
 repeat' ((first | refine cf (c229 _) ?_ | refine cf (c164 _) ?_ | refine cf (c199 _) ?_ | with_reducible intro _ | split)<;>(try simp only [go_sem,Nat.reduceAdd,Nat.reduceBNe,reduceCtorEq, *]))
 all_goals
  refine fqs ?_
  refine congrArg (fun b=>D.v (vB b)) ?_
  grind [freeI,isLowerB,isUpperB,isDigitB]
theorem c228 (n:Int):Q1 228 (.v (vC n)) (.v (vB (hostI n))):=by
 refine sf 1 [.tm 2] func228 ?_
 simp only [go_sem,Nat.reduceSub,f228,cfg, *]
 repeat' ((first | refine cf (c229 _) ?_ | refine cf (c199 _) ?_ | with_reducible intro _ | split)<;>(try simp only [go_sem,Nat.reduceAdd,Nat.reduceBNe,reduceCtorEq, *]))
 all_goals
  refine fqs ?_
  refine congrArg (fun b=>D.v (vB b)) ?_
  grind [hostI,isLowerB,isDigitB]
theorem free_law (n:Int) (h0:0≤n) (h1:n≤255):(((decide (97≤lowI n)&&decide (lowI n≤122)) || isDigitB n) || hasB freeSet n)=freeI n:=by
 have h:∀ k:Nat,k<256→(((decide (97≤lowI k)&&decide (lowI k≤122)) || isDigitB k) || hasB freeSet k)=freeI k:=by decide +kernel
 obtain ⟨k,rfl⟩:∃ k:Nat,n=k:=⟨n.toNat,by omega⟩
 exact h k (by omega)
theorem digit_iff (n:Int):isDigitB n=true↔48≤n∧n≤57:=by unfold isDigitB; simp
theorem digit_no (n:Int):isDigitB n=false↔¬ (48≤n∧n≤57):=by rw [←digit_iff]; simp
theorem c218 (n:Int) (h0:0≤n) (h1:n≤255):Q1 218 (.v (vC n)) (.v (vB (freeI n))):=by
 have hfl:=free_law n h0 h1
 refine sf 1 [.tm 2] func218 ?_
 simp only [go_sem,Nat.reduceSub,f218,cfg, *]
 repeat' ((first | refine cf (c153 _) ?_ | refine cf (c174 _) ?_ | refine cf (c198 freeSet _ (by decide)) ?_ | with_reducible intro _ | split)<;>(try simp only [go_sem,Nat.reduceLeDiff,Nat.reduceAdd,Nat.reduceBNe,reduceCtorEq, *]))
 all_goals
  refine fqs ?_
  refine congrArg (fun b=>D.v (vB b)) ?_
  rw [←hfl]
  grind
theorem c219 (n:Int) (h0:0≤n) (h1:n≤255):Q1 219 (.v (vC n)) (.v (vC (upI n))):=by
 refine sf 1 [.tm 2] func219 ?_
 have hw:97≤n→IntKind.u8.wrap (n-32)=n-32:=fun h=>w8 (by omega)
 simp only [go_sem,Nat.reduceSub,f219,cfg]
 repeat' ((first | with_reducible intro _ | split)<;>(try simp only [go_sem,Nat.reduceBNe, *]))
 all_goals
  refine fqs ?_
  refine congrArg (fun b=>D.v (vC b)) ?_
  first | (unfold upI; repeat' split<;>omega)
theorem c158 (n:Int) (h0:0≤n) (h1:n≤255):Q1 158 (.v (vC n)) (.v (vI (hexI n))):=by
 refine sf 1 [.tm 2] func158 ?_
 have a1:48≤n→IntKind.u8.wrap (n-48)=n-48:=fun h=>w8 (by omega)
 have a2:97≤n→IntKind.u8.wrap (n-97)=n-97:=fun h=>w8 (by omega)
 have a3:65≤n→IntKind.u8.wrap (n-65)=n-65:=fun h=>w8 (by omega)
 have b1:IntKind.i64.wrap (n-48)=n-48:=wrapI (by omega)
 have b2:IntKind.i64.wrap (n-97)=n-97:=wrapI (by omega)
 have b3:IntKind.i64.wrap (n-65)=n-65:=wrapI (by omega)
 have d2:IntKind.i64.wrap (n-97+10)=n-87:=by rw [wrapI (by omega)]; omega
 have d3:IntKind.i64.wrap (n-65+10)=n-55:=by rw [wrapI (by omega)]; omega
 simp only [go_sem,Nat.reduceSub,Int.reduceNeg,f158,cfg]
 cases hd:isDigitB n
 ·have hd':=(digit_no n).1 hd
  refine cf (c199 _) ?_
  simp only [go_sem,Nat.reduceAdd,Nat.reduceBNe,hd]
  repeat' ((first | with_reducible intro _ | split)<;>(try simp only [go_sem,Nat.reduceBNe,Int.reduceNeg, *]))
  all_goals
   refine fqs ?_
   refine congrArg (fun b=>D.v (vI b)) ?_
   first | (unfold hexI; repeat' split<;>omega)
 ·have hd':=(digit_iff n).1 hd
  have hd2:=hd'.1
  refine cf (c199 _) ?_
  simp only [go_sem,Nat.reduceAdd,Nat.reduceBNe,hd,a1,b1,hd2]
  all_goals
   refine fqs ?_
   refine congrArg (fun b=>D.v (vI b)) ?_
   first | (unfold hexI; repeat' split<;>omega)
end Go.Proofs.YtbdfdfhamlmodaaGreatDoor.Fw
namespace Go.Proofs.YtbdfdfhamlmodaaGreatDoor.Fw
open Go
def upU (b:UInt8):UInt8:=if 97≤b.toNat∧b.toNat≤122 then UInt8.ofNat (b.toNat-32) else b
def hv (b c:UInt8):Int:=16*hexI b.toNat+hexI c.toNat
def pctP (b c:UInt8):List UInt8:=if freeI (hv b c)=true then [UInt8.ofNat (hv b c).toNat] else [37,upU b,upU c]
def pct:List UInt8→List UInt8
 | a::b::c::l=>if a=37∧0≤hexI b.toNat∧0≤hexI c.toNat then pctP b c++pct l else a::pct (b::c::l)
 | l=>l
theorem dropAt {l:List UInt8} {i:Nat} (h:i<l.length):l.drop i=l.getD i 0::l.drop (i+1):=by
 rw [List.drop_eq_getElem_cons h]; simp [gDg,h]
theorem pct_short {l:List UInt8} (h:l.length<3):pct l=l:=by
 match l,h with
 | [],_=>rfl
 | [_],_=>rfl
 | [_,_],_=>rfl
 | _::_::_::_,h=>simp at h; omega
theorem pct_step1 {l:List UInt8} {i:Nat} (h:i<l.length) (hn:¬ (l.getD i 0=37∧i+2<l.length∧0≤hexI (l.getD (i+1) 0).toNat∧0≤hexI (l.getD (i+2) 0).toNat)) :
  pct (l.drop i)=l.getD i 0::pct (l.drop (i+1)):=by
 by_cases h2:i+2<l.length
 ·rw [dropAt h,dropAt (i:=i+1) (by omega),dropAt (i:=i+1+1) (by omega)]
  rw [pct,if_neg]
  rintro ⟨a,b,c⟩
  exact hn ⟨a,h2,b,c⟩
 ·rw [pct_short (by simp; omega),pct_short (by simp; omega),←dropAt h]
theorem pct_step3 {l:List UInt8} {i:Nat} (h2:i+2<l.length) (h0:l.getD i 0=37) (hb:0≤hexI (l.getD (i+1) 0).toNat) (hc:0≤hexI (l.getD (i+2) 0).toNat) :
  pct (l.drop i)=pctP (l.getD (i+1) 0) (l.getD (i+2) 0)++pct (l.drop (i+3)):=by
 rw [dropAt (i:=i) (by omega),dropAt (i:=i+1) (by omega),dropAt (i:=i+1+1) (by omega),pct,if_pos ⟨h0,hb,hc⟩]
theorem pctP_len (b c:UInt8):(pctP b c).length≤3:=by unfold pctP; split<;>simp
theorem pct_len:∀ l:List UInt8,(pct l).length≤l.length
 | a::b::c::l=>by
  have h1:=pct_len l
  have h2:=pct_len (b::c::l)
  have h3:=pctP_len b c
  unfold pct
  split
  ·simp only [List.length_append,List.length_cons] at *; omega
  ·simp only [List.length_cons] at *; omega
 | []=>by simp [pct]
 | [_]=>by simp [pct]
 | [_,_]=>by simp [pct]
theorem hexI_lt {n:Int} (h0:0≤n) (h1:n≤255):-1≤hexI n∧hexI n≤15:=by
 unfold hexI; repeat' split<;>omega
theorem hexU (b:UInt8):-1≤hexI b.toNat∧hexI b.toNat≤15:=hexI_lt (by omega) (by have:=b.toNat_lt; omega)
theorem u255 (b:UInt8):(b.toNat:Int)≤255:=by have:=b.toNat_lt; omega
theorem u0 (b:UInt8):(0:Int)≤b.toNat:=by omega
def hexS:List UInt8:=[48,49,50,51,52,53,54,55,56,57,65,66,67,68,69,70]
theorem upU_nat (b:UInt8):((upU b).toNat:Int)=upI b.toNat:=by
 have h256:∀ n,n<256→((if 97≤n∧n≤122 then UInt8.ofNat (n-32) else UInt8.ofNat n).toNat:Int)=upI (n:Nat):=by decide +kernel
 have h:=h256 b.toNat b.toNat_lt
 rw [←h]
 unfold upU
 split
 ·rfl
 ·simp
theorem hexS_up (b:UInt8) (h:0≤hexI b.toNat):hexS.getD (hexI b.toNat).toNat 0=upU b:=by
 have h256:∀ n,n<256→0≤hexI (n:Nat)→hexS.getD (hexI (n:Nat)).toNat 0=(if 97≤n∧n≤122 then UInt8.ofNat (n-32) else UInt8.ofNat n):=by decide +kernel
 rw [h256 b.toNat b.toNat_lt h]
 unfold upU
 split
 ·rfl
 ·simp
theorem hv_le (b c:UInt8) (hb:0≤hexI b.toNat) (hc:0≤hexI c.toNat):0≤hv b c∧hv b c≤255:=by
 have h1:=hexU b; have h2:=hexU c; unfold hv; omega
theorem hv_hi (b c:UInt8) (hb:0≤hexI b.toNat) (hc:0≤hexI c.toNat):(hv b c).fdiv 16=hexI b.toNat:=by
 have h1:=hexU b; have h2:=hexU c
 unfold hv
 rw [Int.fdiv_eq_ediv_of_nonneg _ (by omega)]
 omega
theorem and15 (n:Nat) (h:n<256):IntKind.u8.wrap ((BitVec.ofInt 8 (n:Int) &&& BitVec.ofInt 8 15).toNat:Int)=((n % 16:Nat):Int):=by
 have:∀ n,n<256→IntKind.u8.wrap ((BitVec.ofInt 8 ((n:Nat):Int) &&& BitVec.ofInt 8 15).toNat:Int)=((n % 16:Nat):Int):=by decide +kernel
 exact this n h
theorem hv_lo (b c:UInt8) (hb:0≤hexI b.toNat) (hc:0≤hexI c.toNat):IntKind.u8.wrap ((BitVec.ofInt 8 (hv b c) &&& BitVec.ofInt 8 15).toNat:Int)=hexI c.toNat:=by
 have h1:=hexU b; have h2:=hexU c
 obtain ⟨h3,h4⟩:=hv_le b c hb hc
 have h:=and15 (hv b c).toNat (by omega)
 rw [Int.toNat_of_nonneg h3] at h
 rw [h]
 have h5:hv b c=16*hexI b.toNat+hexI c.toNat:=rfl
 omega
theorem bytesRows_append {a b:List UInt8}:bytesRows (a++b)=bytesRows a++bytesRows b:=by simp [bytesRows]
theorem sd_app {e:TypeId} {x:List T} {l m:List (List T)}:sd e (m++x::l) = .own e (m++x::l):=by cases m<;>rfl
def valH:List UInt8→Int→Int
 | [],n=>n
 | b::l,n=>valH l (16*n+hexI b.toNat)
theorem valH_snoc (l:List UInt8) (b:UInt8):∀ n,valH (l++[b]) n=16*valH l n+hexI b.toNat:=by
 induction l with
 | nil=>intro n; rfl
 | cons a l ih=>intro n; exact ih _
theorem hexI_low (n:Int) (h0:0≤n) (h1:n≤255):hexI n=if isDigitB (lowI n)=true then lowI n-48 else if 97≤lowI n∧lowI n≤102 then lowI n-87 else -1:=by
 have h:∀ k:Nat,k<256→hexI (k:Nat)=if isDigitB (lowI k)=true then lowI k-48 else if 97≤lowI k∧lowI k≤102 then lowI k-87 else -1:=by decide +kernel
 obtain ⟨k,rfl⟩:∃ k:Nat,n=k:=⟨n.toNat,by omega⟩
 exact h k (by omega)
theorem lowI_le (n:Int) (h0:0≤n) (h1:n≤255):0≤lowI n∧lowI n≤255:=by
 rw [lowI_w n h0 h1]; split<;>omega
theorem spl_at (c:UInt8):∀ (u v:List UInt8),(∀ b,b∈u→b≠c)→spl c (u++c::v)=u::spl c v
 | [],v,_=>by simp [spl]
 | b::u,v,h=>by
  have hb:=h b List.mem_cons_self
  have ih:=spl_at c u v fun x hx=>h x (List.mem_cons_of_mem _ hx)
  show spl c (b::(u++c::v))=_
  rw [spl,if_neg hb,ih]
theorem spl_none (c:UInt8):∀ (u:List UInt8),(∀ b,b∈u→b≠c)→spl c u=[u]
 | [],_=>by simp [spl]
 | b::u,h=>by
  have hb:=h b List.mem_cons_self
  have ih:=spl_none c u fun x hx=>h x (List.mem_cons_of_mem _ hx)
  rw [spl,if_neg hb,ih]
theorem spl_all (c:UInt8) (q:UInt8→Bool):∀ l:List UInt8,(spl c l).all (fun p=>p.all q)=l.all fun b=>(b==c) || q b
 | []=>by simp [spl]
 | b::l=>by
  have ih:=spl_all c q l
  unfold spl
  by_cases h:b=c
  ·subst h
   rw [if_pos rfl]
   simp [ih]
  ·rw [if_neg h]
   have hb:(b==c)=false:=by simpa using h
   cases hs:spl c l with
   | nil=>exact absurd hs (spl_ne c l)
   | cons x xs =>
    rw [hs] at ih
    simp only [List.all_cons,hb,Bool.false_or] at ih ⊢
    rw [←ih,Bool.and_assoc]
theorem upto_hit (c:UInt8) (u v:List UInt8) (h:∀ b,b∈u→b≠c):upto c (u++c::v)=u:=by
 unfold upto
 induction u with
 | nil=>simp
 | cons b u ih =>
  have hb:=h b List.mem_cons_self
  have ih:=ih fun x hx=>h x (List.mem_cons_of_mem _ hx)
  simp [List.takeWhile_cons,hb,ih]
theorem upto_none (c:UInt8) (u:List UInt8) (h:∀ b,b∈u→b≠c):upto c u=u:=by
 unfold upto
 induction u with
 | nil=>rfl
 | cons b u ih =>
  have hb:=h b List.mem_cons_self
  have ih:=ih fun x hx=>h x (List.mem_cons_of_mem _ hx)
  simp [List.takeWhile_cons,hb,ih]
theorem split_at' {l:List UInt8} {i:Nat} (h:i<l.length):l=l.take i++l.getD i 0::l.drop (i+1):=by
 rw [←dropAt h,List.take_append_drop]
theorem take_snoc {l:List UInt8} {i:Nat} (h:i<l.length):l.take (i+1)=l.take i++[l.getD i 0]:=by
 rw [List.take_succ_eq_append_getElem h]; simp [gDg,h]
theorem cut_at {l:List UInt8} {f i:Nat} (hf:f≤i) (h:i<l.length):l.drop f=(l.take i).drop f++l.getD i 0::l.drop (i+1):=by
 conv=>lhs; rw [split_at' h]
 rw [List.drop_append_of_le_length (by simp; omega)]
theorem cut_snoc {l:List UInt8} {f i:Nat} (hf:f≤i) (h:i<l.length):(l.take (i+1)).drop f=(l.take i).drop f++[l.getD i 0]:=by
 rw [take_snoc h,List.drop_append_of_le_length (by simp; omega)]
def dotsB (s:List UInt8):Bool:=s==[46] || s==[46,46]
def stepC (o:List (List UInt8)) (s:List UInt8):List (List UInt8):=if s==[46] then o else if s==[46,46] then o.take (o.length-1) else o++[s]
def normC (g:List (List UInt8)):List (List UInt8):=if dotsB (g.getD (g.length-1) [])=true then g.foldl stepC []++[[]] else g.foldl stepC []
def catC (o:List (List UInt8)):List UInt8:=o.flatMap fun x=>47::x
def clean0 (l:List UInt8):Bool:=[47].isPrefixOf l&&decide (l.length≤200)&&(l.all fun b=>visB b.toNat) && !(l.any fun b=>[35,63].contains b)
def cleanB (l:List UInt8):List UInt8:=if clean0 l=true then 47::Lib.join (normC (spl 47 ((pct l).drop 1))) [47] else []
theorem step_snoc {g:List (List UInt8)} {i:Nat} (h:i<g.length):(g.take (i+1)).foldl stepC []=stepC ((g.take i).foldl stepC []) (g.getD i []):=by
 rw [List.take_succ_eq_append_getElem h,List.foldl_append]
 simp [gDg,h]
theorem step_len (o:List (List UInt8)) (s:List UInt8):(stepC o s).length≤o.length+1:=by
 unfold stepC
 split
 ·omega
 split
 ·rw [List.length_take]; omega
 ·simp
theorem foldC_len:∀ (g o:List (List UInt8)),(g.foldl stepC o).length≤o.length+g.length
 | [],o=>by simp
 | s::g,o=>by
  have h1:=foldC_len g (stepC o s)
  have h2:=step_len o s
  simp only [List.foldl_cons,List.length_cons]
  omega
theorem step_mem {o:List (List UInt8)} {s x:List UInt8} (h:x∈stepC o s):x∈o∨x=s:=by
 unfold stepC at h
 split at h
 ·exact .inl h
 split at h
 ·exact .inl (List.mem_of_mem_take h)
 ·rcases List.mem_append.1 h with h | h
  ·exact .inl h
  ·exact .inr (List.mem_singleton.1 h)
theorem foldC_mem:∀ (g o:List (List UInt8)) (x:List UInt8),x∈g.foldl stepC o→x∈o∨x∈g
 | [],o,x,h => .inl h
 | s::g,o,x,h=>by
  rcases foldC_mem g (stepC o s) x h with h | h
  ·rcases step_mem h with h | h
   ·exact .inl h
   ·exact .inr (h▸List.mem_cons_self)
  ·exact .inr (List.mem_cons_of_mem _ h)
theorem cat_len:∀ (o:List (List UInt8)) (n:Nat),(∀ x,x∈o→x.length≤n)→(catC o).length≤o.length*(n+1)
 | [],n,h=>by simp [catC]
 | x::o,n,h=>by
  have h1:=cat_len o n fun y hy=>h y (List.mem_cons_of_mem _ hy)
  have h2:=h x List.mem_cons_self
  simp only [catC,List.flatMap_cons,List.length_append,List.length_cons,Nat.add_mul] at h1 ⊢
  omega
theorem cat_join (x:List UInt8) (o:List (List UInt8)):47::Lib.join (x::o) [47]=catC (x::o):=by
 have h:∀ o:List (List UInt8),Lib.joinTail [47] o=catC o:=by
  intro o
  induction o with
  | nil=>rfl
  | cons y o ih =>
   simp only [Lib.joinTail,List.map_cons,List.flatten_cons,catC,List.flatMap_cons] at ih ⊢
   rw [ih]; rfl
 rw [Lib.join_cons,h]; rfl
theorem norm_len (g:List (List UInt8)):(normC g).length≤g.length+1:=by
 have:=foldC_len g []
 unfold normC
 split<;>simp at this ⊢ <;> omega
theorem norm_mem {g:List (List UInt8)} {x:List UInt8} (h:x∈normC g):x=[]∨x∈g:=by
 unfold normC at h
 split at h
 ·rcases List.mem_append.1 h with h | h
  ·rcases foldC_mem g [] x h with h | h
   ·cases h
   ·exact .inr h
  ·exact .inl (List.mem_singleton.1 h)
 ·rcases foldC_mem g [] x h with h | h
  ·cases h
  ·exact .inr h
theorem cat_le {l:List UInt8} (h:l.length≤200):(catC (normC (spl 47 ((pct l).drop 1)))).length≤100000∧(normC (spl 47 ((pct l).drop 1))).length≤202∧(spl 47 ((pct l).drop 1)).length≤201∧∀ x,x∈spl 47 ((pct l).drop 1)→x.length≤200:=by
 have h1:=pct_len l
 have h2:((pct l).drop 1).length≤200:=by rw [List.length_drop]; omega
 generalize (pct l).drop 1=m at h2
 have h3:=spl_len 47 m
 have h4:=List.count_le_length (a:=47) (l:=m)
 have h5:=norm_len (spl 47 m)
 have h6:∀ x,x∈spl 47 m→x.length≤200:=fun x hx=>Nat.le_trans (spl_mem 47 m x hx) h2
 refine ⟨?_,by omega,by omega,h6⟩
 have h7:=cat_len (normC (spl 47 m)) 200 fun x hx=>by
  rcases norm_mem hx with rfl | hx
  ·simp
  ·exact h6 x hx
 have h8:(normC (spl 47 m)).length*(200+1)≤202*201:=Nat.mul_le_mul_right 201 (by omega)
 omega
theorem join_le {l:List UInt8} (h:l.length≤200):(Lib.join (normC (spl 47 ((pct l).drop 1))) [47]).length≤100000:=by
 have h1:=(cat_le h).1
 generalize normC (spl 47 ((pct l).drop 1))=o at h1 ⊢
 cases o with
 | nil=>simp [Lib.join]
 | cons x o =>
  rw [←cat_join] at h1
  simp only [List.length_cons] at h1
  omega
theorem clean_len (l:List UInt8):(cleanB l).length≤100001:=by
 unfold cleanB
 split
 ·rename_i h
  unfold clean0 at h
  simp only [Bool.and_eq_true,decide_eq_true_eq] at h
  have:=join_le h.1.1.2
  simp only [List.length_cons]; omega
 ·simp
end Go.Proofs.YtbdfdfhamlmodaaGreatDoor.Fw
namespace Go.Proofs.YtbdfdfhamlmodaaGreatDoor.Fw
open Go
open Go.Proofs.Tryz
set_option maxRecDepth 100000
set_option maxHeartbeats 4000000
attribute [local congr] c_bnd c_slot c_cell c_all c_len c_chk c_asm c_opdR c_wp c_pwp c_pOps c_Done c_nx c_blk c_fin c_coeLeaf c_coeLeaves c_argR c_argsR c_partsR c_ite c_wpF c_OutF c_pHead c_pDraw
theorem c128 (l:List UInt8) (c:UInt8) (hl:l.length≤1048576):Q2 128 (.v (vS l)) (.v (vC c.toNat)) (.v (vS (upto c l))):=by
 refine sf 2 [.tm 4] func128 ?_
 have hL:l.length≤9223372036854775807:=by omega
 simp only [go_sem,Nat.reduceSub,f128,cfg]
 refine loop_on (fun i:Nat=>pE 21 [.v (vS l),.v (vC c.toNat),.dead,.dead,.v (vS []),.v (vI i)]) [0,1,4,5] (fun i=>i≤l.length∧∀ b,b∈l.take i→b≠c) (fun i=>l.length-i) 0 rfl ⟨by omega,by simp⟩ ?_
 intro i ⟨hi,hall⟩
 simp only [go_sem]
 try (with_reducible intro hlen)
 by_cases hc:i<l.length
 ·have hw:=wrapN hc hL
  by_cases hb:l.getD i 0=c
  ·have e2:(((l.getD i 0).toNat:Int)==c.toNat)=true:=by rw [hb]; simp
   have hu:upto c l=l.take i:=by
    conv=>lhs; rw [split_at' hc,hb]
    exact upto_hit c _ _ hall
   simp only [go_sem,Nat.reduceBNe,hc,hi,e2]
   first | (refine fq ?_; rw [hu]; rfl)
  ·have e2:(((l.getD i 0).toNat:Int)==c.toNat)=false:=by
    rw [beq_eq_false_iff_ne]; intro e; exact hb (UInt8.toNat_inj.1 (by omega))
   simp only [go_sem,Nat.reduceBNe,hc,e2,hw]
   exact ⟨i+1,rfl,⟨hc,by rw [take_snoc hc]; intro b h; rcases List.mem_append.1 h with h | h; exact hall b h; rw [List.mem_singleton] at h; rw [h]; exact hb⟩,by omega⟩
 ·simp only [go_sem,Nat.reduceBNe,hc]
  have hu:upto c l=l:=upto_none c l (by rw [List.take_of_length_le (by omega)] at hall; exact hall)
  first | (refine fq ?_; rw [hu]; rfl)
theorem c175 (l:List UInt8) (c:UInt8) (hl:l.length≤1048576):Q2 175 (.v (vS l)) (.v (vC c.toNat)) (sd 9 (rowsS (spl c l))):=by
 refine sf 2 [.tm 4] func175 ?_
 have hL:l.length≤9223372036854775807:=by omega
 have hlen:=spl_len c l
 have hcn:=List.count_le_length (a:=c) (l:=l)
 simp only [go_sem,Nat.reduceSub,f175,cfg]
 refine loop_on (fun s:Nat × Nat × List (List UInt8)=>pE 35 [.v (vS l),.v (vC c.toNat),.dead,.dead,.nil,sd 9 (rowsS s.2.2),.v (vI s.2.1),.v (vI s.1)]) [0,1,4,5,6,7] (fun s=>(s.1≤l.length∧s.2.1≤s.1∧s.2.2++spl c (l.drop s.2.1)=spl c l∧∀ b,b∈(l.take s.1).drop s.2.1→b≠c)∨(s.1=l.length+1∧s.2.2=spl c l)) (fun s=>l.length+1-s.1) (0,0,[]) rfl (.inl ⟨by simp,by simp,by simp,by simp⟩) ?_
 rintro ⟨i,f,out⟩ hinv
 simp only at hinv
 generalize hacc:rowsS out=acc
 rcases hinv with ⟨hi,hfi,hsp,hno⟩ | ⟨hi,hsp⟩
 ·have hol:out.length≤l.length+1:=by
   have:=congrArg List.length hsp
   rw [List.length_append] at this
   omega
  cases acc with
  | nil =>
   simp only [go_sem,sd_nil]
   try (with_reducible intro hlen)
   have hlo:(1:Nat)*16≤140737488355328:=by omega
   by_cases hc:i<l.length
   ·have hw:=wrapN hc hL
    have hne:¬ ((i:Int)=(l.length:Int)):=by omega
    have hneb:((i:Int)==(l.length:Int))=false:=by rw [beq_eq_false_iff_ne]; exact hne
    by_cases hb:l.getD i 0=c
    ·have e2:(((l.getD i 0).toNat:Int)==c.toNat)=true:=by rw [hb]; simp
     simp only [go_sem,Nat.reduceLeDiff,Nat.reduceLT,Nat.reduceAdd,Nat.reduceMul,Nat.reduceBNe,Nat.reduceEqDiff,reduceCtorEq,Nat.reduceDiv,Nat.reduceMod,hc,hi,hL,e2,hw,hneb,hfi,hlo]
     refine ⟨(i+1,i+1,out++[(l.take i).drop f]),?_,.inl ⟨hc,Nat.le_refl _,?_,by simp⟩,by simp only; omega⟩
     ·first | (rw [rowsS_snoc,hacc,List.drop_take]; rfl) | (rw [rowsS_snoc,hacc,List.take_length]; rfl)
     ·rw [←hsp,cut_at hfi hc,hb,spl_at c _ _ hno]; simp
    ·have e2:(((l.getD i 0).toNat:Int)==c.toNat)=false:=by
      rw [beq_eq_false_iff_ne]; intro e; exact hb (UInt8.toNat_inj.1 (by omega))
     simp only [go_sem,Nat.reduceBNe,hc,hi,hL,e2,hw,hneb]
     refine ⟨(i+1,f,out),by rw [hacc]; rfl,.inl ⟨hc,by simp only; omega,hsp,?_⟩,by simp only; omega⟩
     intro b h
     rw [cut_snoc hfi hc] at h
     rcases List.mem_append.1 h with h | h
     ·exact hno b h
     ·rw [List.mem_singleton] at h; rw [h]; exact hb
   ·have he:i=l.length:=by omega
    subst he
    have hw:IntKind.i64.wrap ((l.length:Int)+1)=((l.length+1:Nat):Int):=by rw [wrapI (by omega)]; omega
    simp only [go_sem,Nat.reduceLeDiff,Nat.reduceLT,Nat.reduceAdd,Nat.reduceMul,Nat.reduceBNe,Nat.reduceEqDiff,reduceCtorEq,Nat.reduceDiv,Nat.reduceMod,hL,hw,hfi,hlo]
    refine ⟨(l.length+1,l.length+1,out++[(l.take l.length).drop f]),?_,.inr ⟨rfl,?_⟩,by simp only; omega⟩
    ·first | (rw [rowsS_snoc,hacc,List.drop_take]; rfl) | (rw [rowsS_snoc,hacc,List.take_length]; rfl)
    ·rw [←hsp]
     rw [List.take_length] at hno ⊢
     rw [spl_none c _ hno]
  | cons x xs =>
   simp only [go_sem,sd_cons]
   try (with_reducible intro hlen)
   have hlo:(xs.length+1+1)*16≤140737488355328:=by have h9:=congrArg List.length hacc; rw [rowsS_length] at h9; simp only [List.length_cons] at h9; omega
   by_cases hc:i<l.length
   ·have hw:=wrapN hc hL
    have hne:¬ ((i:Int)=(l.length:Int)):=by omega
    have hneb:((i:Int)==(l.length:Int))=false:=by rw [beq_eq_false_iff_ne]; exact hne
    by_cases hb:l.getD i 0=c
    ·have e2:(((l.getD i 0).toNat:Int)==c.toNat)=true:=by rw [hb]; simp
     simp only [go_sem,Nat.reduceLeDiff,Nat.reduceLT,Nat.reduceAdd,Nat.reduceMul,Nat.reduceBNe,Nat.reduceEqDiff,reduceCtorEq,Nat.reduceDiv,Nat.reduceMod,hc,hi,hL,e2,hw,hneb,hfi,hlo]
     refine ⟨(i+1,i+1,out++[(l.take i).drop f]),?_,.inl ⟨hc,Nat.le_refl _,?_,by simp⟩,by simp only; omega⟩
     ·first | (rw [rowsS_snoc,hacc,List.drop_take]; rfl) | (rw [rowsS_snoc,hacc,List.take_length]; rfl)
     ·rw [←hsp,cut_at hfi hc,hb,spl_at c _ _ hno]; simp
    ·have e2:(((l.getD i 0).toNat:Int)==c.toNat)=false:=by
      rw [beq_eq_false_iff_ne]; intro e; exact hb (UInt8.toNat_inj.1 (by omega))
     simp only [go_sem,Nat.reduceBNe,hc,hi,hL,e2,hw,hneb]
     refine ⟨(i+1,f,out),by rw [hacc]; rfl,.inl ⟨hc,by simp only; omega,hsp,?_⟩,by simp only; omega⟩
     intro b h
     rw [cut_snoc hfi hc] at h
     rcases List.mem_append.1 h with h | h
     ·exact hno b h
     ·rw [List.mem_singleton] at h; rw [h]; exact hb
   ·have he:i=l.length:=by omega
    subst he
    have hw:IntKind.i64.wrap ((l.length:Int)+1)=((l.length+1:Nat):Int):=by rw [wrapI (by omega)]; omega
    simp only [go_sem,Nat.reduceLeDiff,Nat.reduceLT,Nat.reduceAdd,Nat.reduceMul,Nat.reduceBNe,Nat.reduceEqDiff,reduceCtorEq,Nat.reduceDiv,Nat.reduceMod,hL,hw,hfi,hlo]
    refine ⟨(l.length+1,l.length+1,out++[(l.take l.length).drop f]),?_,.inr ⟨rfl,?_⟩,by simp only; omega⟩
    ·first | (rw [rowsS_snoc,hacc,List.drop_take]; rfl) | (rw [rowsS_snoc,hacc,List.take_length]; rfl)
    ·rw [←hsp]
     rw [List.take_length] at hno ⊢
     rw [spl_none c _ hno]
 ·have hni:¬ (i≤l.length):=by omega
  cases acc with
  | nil =>
   simp only [go_sem,Nat.reduceBNe,sd_nil,hni,hL]
   first | (refine fq ?_; rw [←hsp,hacc]; rfl)
  | cons x xs =>
   simp only [go_sem,Nat.reduceAdd,Nat.reduceBNe,Nat.reduceEqDiff,reduceCtorEq,Nat.reduceDiv,Nat.reduceMod,sd_cons,hni,hL]
   first | (refine fq ?_; rw [←hsp,hacc]; rfl)
theorem c217 (l:List UInt8) (hl:1≤l.length∧l.length≤7):Q1 217 (.v (vS l)) (.tup [.v (vI (if l.all (fun b=>decide (0≤hexI b.toNat))=true then valH l 0 else 0)),.v (vB (l.all fun b=>decide (0≤hexI b.toNat)))]):=by
 refine sf 1 [.tm 2,.tm 3] func217 ?_
 have hL:l.length≤9223372036854775807:=by omega
 have z1:¬ ((l.length:Int)=0):=by omega
 have z1b:((l.length:Int)==0)=false:=by rw [beq_eq_false_iff_ne]; exact z1
 have z2:¬ ((7:Int)<(l.length:Int)):=by omega
 have z3:¬ (7<l.length):=by omega
 simp only [go_sem,Nat.reduceSub,f217,cfg,z1b,z2,hL]
 refine loop_on (fun i:Nat=>pE 49 [.v (vS l),.dead,.v (vI 0),.v (vB false),.v (vI (valH (l.take i) 0)),.v (vI i)]) [0,2,3,4,5] (fun i=>i≤l.length∧(l.take i).all (fun b=>decide (0≤hexI b.toNat))=true∧0≤valH (l.take i) 0∧valH (l.take i) 0<16 ^ i) (fun i=>l.length-i) 0 rfl ⟨by omega,by simp,by simp [valH],by simp [valH]⟩ ?_
 intro i ⟨hi,hall,hv0,hv1⟩
 generalize hvv:valH (l.take i) 0=v at hv0 hv1 ⊢
 have hv2:v<268435456:=Int.lt_of_lt_of_le hv1 (by
  have:(16:Int) ^ i≤16 ^ 7:=by exact_mod_cast Nat.pow_le_pow_right (by decide) (by omega)
  exact this)
 simp only [go_sem]
 try (with_reducible intro hlen)
 by_cases hc:i<l.length
 ·have hw:=wrapN hc hL
  have hb0:=u0 (l.getD i 0)
  have hb1:=u255 (l.getD i 0)
  have hlo:=lowI_le _ hb0 hb1
  have hlw:=hexI_low _ hb0 hb1
  have hsn:valH (l.take (i+1)) 0=16*v+hexI (l.getD i 0).toNat:=by rw [take_snoc hc,valH_snoc,hvv]
  have hx16:=hexU (l.getD i 0)
  have hpow:(16:Int) ^ (i+1)=16 ^ i*16:=rfl
  have m1:IntKind.i64.wrap (v*16)=v*16:=wrapI (by omega)
  simp only [go_sem,hc]
  refine cf (c153 _) ?_
  generalize lowI (l.getD i 0).toNat=m at hlo hlw ⊢
  simp only [go_sem,Nat.reduceAdd,Nat.reduceBNe]
  refine cf (c174 _) ?_
  cases hd:isDigitB m
  ·simp only [go_sem,Nat.reduceAdd,Nat.reduceBNe]
   rw [hd] at hlw
   by_cases hx:97≤m∧m≤102
   ·have m2:IntKind.u8.wrap (m-97)=m-97:=w8 (by omega)
    have m3:IntKind.i64.wrap (m-97)=m-97:=wrapI (by omega)
    have m4:IntKind.i64.wrap (v*16+(m-97))=v*16+(m-97):=wrapI (by omega)
    have m5:IntKind.i64.wrap (v*16+(m-97)+10)=valH (l.take (i+1)) 0:=by
     rw [wrapI (by omega),hsn,hlw,if_neg (by simp),if_pos hx]; omega
    have hx1:=hx.1
    have hx2:=hx.2
    simp only [go_sem,Nat.reduceBNe,hx1,hx2,m1,m2,m3,m4,m5,hw]
    refine ⟨i+1,by first | rfl,⟨hc,?_,?_,?_⟩,by omega⟩
    ·rw [all_take_succ (d:=0) hc,hall]
     rw [if_neg (by simp),if_pos hx] at hlw
     simp only [Bool.true_and,decide_eq_true_eq]; omega
    ·rw [hsn]; rw [if_neg (by simp),if_pos hx] at hlw; omega
    ·rw [hsn,hpow]; omega
   ·have hneg:decide (0≤hexI (l.getD i 0).toNat)=false:=by
     rw [hlw,if_neg (by simp),if_neg hx]; rfl
    have hf:(l.all fun b=>decide (0≤hexI b.toNat))=false:=all_false_at hc hneg
    rw [hf,if_neg (show ¬ (false=true) from Bool.false_ne_true)]
    repeat' ((first | with_reducible intro _ | split)<;>(try simp only [go_sem,Nat.reduceBNe, *]))
    all_goals first
     | (exfalso; omega)
     | exact fz
  ·have hd':=(digit_iff m).1 hd
   rw [hd,if_pos rfl] at hlw
   have m2:IntKind.u8.wrap (m-48)=m-48:=w8 (by omega)
   have m3:IntKind.i64.wrap (m-48)=m-48:=wrapI (by omega)
   have m4:IntKind.i64.wrap (v*16+(m-48))=valH (l.take (i+1)) 0:=by
    rw [wrapI (by omega),hsn,hlw]; omega
   simp only [go_sem,Nat.reduceAdd,Nat.reduceBNe,m1,m2,m3,m4,hw]
   refine ⟨i+1,by first | rfl,⟨hc,?_,?_,?_⟩,by omega⟩
   ·rw [all_take_succ (d:=0) hc,hall]
    simp only [Bool.true_and,decide_eq_true_eq]; omega
   ·rw [hsn]; omega
   ·rw [hsn,hpow]; omega
 ·simp only [go_sem,Nat.reduceBNe,hc]
  rw [List.take_of_length_le (by omega)] at hall hvv
  first | (refine fq ?_; rw [hall,if_pos rfl,hvv]; rfl)
theorem hv_hi' (b c:UInt8) (hb:0≤hexI b.toNat) (hc:0≤hexI c.toNat):(hv b c).fdiv (2 ^ min 4 8)=hexI b.toNat:=hv_hi b c hb hc
theorem hv_lo' (b c:UInt8) (hb:0≤hexI b.toNat) (hc:0≤hexI c.toNat):IntKind.u8.wrap ((@HAnd.hAnd (BitVec 8) (BitVec 8) (BitVec 8) (@instHAndOfAndOp (BitVec IntKind.u8.bits) (@BitVec.instAndOp IntKind.u8.bits)) (BitVec.ofInt 8 (hv b c)) (BitVec.ofInt 8 15)).toNat:Int)=hexI c.toNat:=hv_lo b c hb hc
theorem hvn (b c:UInt8) (hb:0≤hexI b.toNat) (hc:0≤hexI c.toNat):((UInt8.ofNat (hv b c).toNat).toNat:Int)=hv b c:=by
 obtain ⟨h1,h2⟩:=hv_le b c hb hc
 rw [UInt8.toNat_ofNat',Nat.mod_eq_of_lt (by omega)]
 omega
theorem snoc_own {acc:List (List T)} {out:List UInt8} (b:UInt8) (h:bytesRows out=acc):sd 5 (bytesRows (out++[b])) = .own 5 (acc++[[.v (vC b.toNat)]]):=by
 rw [bytesRows_append,h]; exact sd_app
theorem pctP_own1 {acc:List (List T)} {out:List UInt8} (b c:UInt8) (h:bytesRows out=acc) (hb:0≤hexI b.toNat) (hc:0≤hexI c.toNat) (hf:freeI (hv b c)=true):sd 5 (bytesRows (out++pctP b c)) = .own 5 (acc++[[.v (vC (hv b c))]]):=by
 have e:bytesRows (pctP b c)=[[.v (vC (hv b c))]]:=by rw [pctP,if_pos hf]; show [[T.v (vC ((UInt8.ofNat (hv b c).toNat).toNat:Int))]]=_; rw [hvn b c hb hc]
 rw [bytesRows_append,h,e]; exact sd_app
theorem pctP_own3 {acc:List (List T)} {out:List UInt8} (b c:UInt8) (h:bytesRows out=acc) (hf:freeI (hv b c)=false):sd 5 (bytesRows (out++pctP b c)) = .own 5 (acc++[[.v (vC 37)],[.v (vC (upU b).toNat)],[.v (vC (upU c).toNat)]]):=by
 rw [bytesRows_append,h,pctP,if_neg (by rw [hf]; simp)]; exact sd_app
theorem c187 (l : List UInt8) (hl : l.length ≤ 1048576) : Q1 187 (.v (vS l)) (.v (vS (pct l))) := by
  refine sem_fin (cfg := cfg 1) (ts := [.tm 2]) tbOk func187 rfl rfl rfl rfl (fun t h => by cases h) ?_
  have hL : l.length ≤ 9223372036854775807 := by omega
  have hpl := pct_len l
  simp only [go_sem,Nat.reduceSub,f187,cfg]
  refine loop_on (fun s : Nat × List UInt8 => pE 77 [.v (vS l),.dead,.v (vS []),sd 5 (bytesRows s.2),.v (vI s.1)]) [0,2,3,4] (fun s => s.1 ≤ l.length ∧ s.2 ++ pct (l.drop s.1) = pct l) (fun s => l.length - s.1) (0,[]) rfl ⟨by simp,by simp⟩ ?_
  rintro ⟨i,out⟩ ⟨hi,hsp⟩
  simp only at hi hsp
  have hol : out.length ≤ l.length := by
    have := congrArg List.length hsp
    rw [List.length_append] at this
    omega
  simp only
  generalize hacc : bytesRows out = acc
  cases acc with
  | nil =>
    have hlo : (1 : Nat) * 1 ≤ 140737488355328 := by omega
    have hlo3 : (3 : Nat) * 1 ≤ 140737488355328 := by omega
    have hla : (1 : Nat) ≤ 140737488355328 := by omega
    have hla3 : (3 : Nat) ≤ 140737488355328 := by omega
    simp only [go_sem,sd_nil]
    try (with_reducible intro hlen)
    by_cases hc : i < l.length
    · have hw := wrapN hc hL
      have w2 : IntKind.i64.wrap ((i : Int) + 2) = ((i + 2 : Nat) : Int) := by rw [wrapI (by omega)]; omega
      by_cases h37 : l.getD i 0 = 37
      · have e37 : (((l.getD i 0).toNat : Int) != 37) = false := by rw [h37]; decide
        by_cases hg : i + 2 < l.length
        · have hg1 : i + 1 < l.length := by omega
          have hg2 : ¬ (l.length ≤ i + 2) := by omega
          have x1 := hexU (l.getD (i + 1) 0)
          have x2 := hexU (l.getD (i + 2) 0)
          by_cases hx1 : 0 ≤ hexI (l.getD (i + 1) 0).toNat
          · have hx1' : ¬ (hexI (l.getD (i + 1) 0).toNat < 0) := by omega
            by_cases hx2 : 0 ≤ hexI (l.getD (i + 2) 0).toNat
            · have hx2' : ¬ (hexI (l.getD (i + 2) 0).toNat < 0) := by omega
              have hle := hv_le _ _ hx1 hx2
              have m1 : IntKind.i64.wrap (16 * hexI (l.getD (i + 1) 0).toNat) = 16 * hexI (l.getD (i + 1) 0).toNat := wrapI (by omega)
              have m2 : IntKind.i64.wrap (16 * hexI (l.getD (i + 1) 0).toNat + hexI (l.getD (i + 2) 0).toNat) = hv (l.getD (i + 1) 0) (l.getD (i + 2) 0) := wrapI (by omega)
              have m3 : IntKind.u8.wrap (hv (l.getD (i + 1) 0) (l.getD (i + 2) 0)) = hv (l.getD (i + 1) 0) (l.getD (i + 2) 0) := w8 hle
              have w3 : IntKind.i64.wrap (((i + 2 : Nat) : Int) + 1) = ((i + 3 : Nat) : Int) := by rw [wrapI (by omega)]; omega
              cases hf : freeI (hv (l.getD (i + 1) 0) (l.getD (i + 2) 0))
              · have hhi := hv_hi' _ _ hx1 hx2
                have hlw := hv_lo' _ _ hx1 hx2
                have n1 : ¬ (16 ≤ hexI (l.getD (i + 1) 0).toNat) := by omega
                have n2 : hexI (l.getD (i + 1) 0).toNat < 16 := by omega
                have n3 : hexI (l.getD (i + 2) 0).toNat < 16 := by omega
                have s1 : [48,49,50,51,52,53,54,55,56,57,65,66,67,68,69,70].getD (hexI (l.getD (i + 1) 0).toNat).toNat 0 = upU (l.getD (i + 1) 0) := hexS_up _ hx1
                have s2 : [48,49,50,51,52,53,54,55,56,57,65,66,67,68,69,70].getD (hexI (l.getD (i + 2) 0).toNat).toNat 0 = upU (l.getD (i + 2) 0) := hexS_up _ hx2
                simp only [go_sem,hc,hL,hw,w2,e37,hg1,hg2]
                refine cf (c158 _ (u0 _) (u255 _)) ?_
                simp only [go_sem,Nat.reduceAdd,w2,hg,hx1']
                refine cf (c158 _ (u0 _) (u255 _)) ?_
                simp only [go_sem,Nat.reduceAdd,hx2']
                refine draw_intro 14 [[46,47,48,49,50,51,52,53,54,55,56,57,5],[45,47,48,49,50,51,52,53,54,55,56,57,5],[45,48,49,50,51,52,53,54,55,56,57,5],[46,49,50,51,52,53,54,55,56,57,5],[45,46,47,50,51,52,53,54,55,56,57,5],[45,46,47,48,51,52,53,54,55,56,57,5],[45,46,47,48,49,50,52,53,54,55,56,57,5],[45,46,47,48,49,50,51,53,54,55,56,57,5],[45,46,47,48,49,50,51,54,55,56,57,5],[45,46,47,48,49,50,52,55,56,57,5],[45,46,47,48,50,51,52,53,56,57,5],[45,46,47,48,49,51,52,53,54,57,5],[45,46,47,48,49,50,51,52,53,54,55,5],[]] mixedOk rfl ?_
                simp only [go_sem,Nat.reduceBEq,hw,hg1]
                refine df (c158 _ (u0 _) (u255 _)) ?_
                simp only [go_sem,Nat.reduceBEq,w2,hg]
                refine df (c158 _ (u0 _) (u255 _)) ?_
                simp only [go_sem,Nat.reduceBEq,Nat.reduceBNe,m1,m2,m3]
                refine cf (c226 _) ?_
                simp only [go_sem,Nat.reduceAdd,hf]
                refine draw_intro 8 [[65,66,67,68,69,70,71],[64,66,67,68,69,70,71],[64,67,68,69,70,71],[64,65,68,69,70,71],[64,65,66,67,69,70,71],[64,65,66,67,70,71],[64,65,66,67,68,71],[64,65,66,68,69]] mixedOk rfl ?_
                simp only [go_sem,Nat.reduceLeDiff,Nat.reduceLT,Nat.reduceAdd,Nat.reduceMul,Nat.reduceBEq,Nat.reduceBNe,Nat.reduceEqDiff,reduceCtorEq,Int.reduceLE,Int.reduceToNat,Nat.reduceDiv,Nat.reduceMod,hhi,hlw,hx1,hx2,n2,n3,s1,s2,hlo3,w2,w3]
                first
                  | (refine ⟨(i + 3,out ++ pctP (l.getD (i + 1) 0) (l.getD (i + 2) 0)),?_,⟨by simp only; omega,?_⟩,by simp only; omega⟩
                     · rw [pctP_own3 _ _ hacc hf]; rfl
                     · rw [← hsp,pct_step3 hg h37 hx1 hx2]; simp)
                 
              · simp only [go_sem,hc,hL,hw,w2,e37,hg1,hg2]
                refine cf (c158 _ (u0 _) (u255 _)) ?_
                simp only [go_sem,Nat.reduceAdd,w2,hg,hx1']
                refine cf (c158 _ (u0 _) (u255 _)) ?_
                simp only [go_sem,Nat.reduceAdd,hx2']
                refine draw_intro 14 [[46,47,48,49,50,51,52,53,54,55,56,57,5],[45,47,48,49,50,51,52,53,54,55,56,57,5],[45,48,49,50,51,52,53,54,55,56,57,5],[46,49,50,51,52,53,54,55,56,57,5],[45,46,47,50,51,52,53,54,55,56,57,5],[45,46,47,48,51,52,53,54,55,56,57,5],[45,46,47,48,49,50,52,53,54,55,56,57,5],[45,46,47,48,49,50,51,53,54,55,56,57,5],[45,46,47,48,49,50,51,54,55,56,57,5],[45,46,47,48,49,50,52,55,56,57,5],[45,46,47,48,50,51,52,53,56,57,5],[45,46,47,48,49,51,52,53,54,57,5],[45,46,47,48,49,50,51,52,53,54,55,5],[]] mixedOk rfl ?_
                simp only [go_sem,Nat.reduceBEq,hw,hg1]
                refine df (c158 _ (u0 _) (u255 _)) ?_
                simp only [go_sem,Nat.reduceBEq,w2,hg]
                refine df (c158 _ (u0 _) (u255 _)) ?_
                simp only [go_sem,Nat.reduceBEq,Nat.reduceBNe,m1,m2,m3]
                refine cf (c226 _) ?_
                simp only [go_sem,Nat.reduceLeDiff,Nat.reduceLT,Nat.reduceAdd,Nat.reduceMul,Nat.reduceBNe,Nat.reduceEqDiff,reduceCtorEq,Nat.reduceDiv,Nat.reduceMod,hf,hlo,w2,w3]
                first
                  | (refine ⟨(i + 3,out ++ pctP (l.getD (i + 1) 0) (l.getD (i + 2) 0)),?_,⟨by simp only; omega,?_⟩,by simp only; omega⟩
                     · rw [pctP_own1 _ _ hacc hx1 hx2 hf]; rfl
                     · rw [← hsp,pct_step3 hg h37 hx1 hx2]; simp)
                 
            · have hx2' : hexI (l.getD (i + 2) 0).toNat < 0 := by omega
              simp only [go_sem,hc,hL,hw,w2,e37,hg1,hg2]
              refine cf (c158 _ (u0 _) (u255 _)) ?_
              simp only [go_sem,Nat.reduceAdd,w2,hg,hx1']
              refine cf (c158 _ (u0 _) (u255 _)) ?_
              simp only [go_sem,Nat.reduceLeDiff,Nat.reduceLT,Nat.reduceAdd,Nat.reduceMul,Nat.reduceBNe,Nat.reduceEqDiff,reduceCtorEq,Nat.reduceDiv,Nat.reduceMod,hlo,hc,hw,hx2']
              first
                | (refine ⟨(i + 1,out ++ [l.getD i 0]),?_,⟨hc,?_⟩,by simp only; omega⟩
                   · rw [snoc_own _ hacc]; rfl
                   · rw [← hsp,pct_step1 hc (fun h => hx2 h.2.2.2)]; simp)
               
          · have hx1' : hexI (l.getD (i + 1) 0).toNat < 0 := by omega
            simp only [go_sem,hc,hL,hw,w2,e37,hg1,hg2]
            refine cf (c158 _ (u0 _) (u255 _)) ?_
            simp only [go_sem,Nat.reduceLeDiff,Nat.reduceLT,Nat.reduceAdd,Nat.reduceMul,Nat.reduceBNe,Nat.reduceEqDiff,reduceCtorEq,Nat.reduceDiv,Nat.reduceMod,hlo,hc,hw,hx1']
            first
              | (refine ⟨(i + 1,out ++ [l.getD i 0]),?_,⟨hc,?_⟩,by simp only; omega⟩
                 · rw [snoc_own _ hacc]; rfl
                 · rw [← hsp,pct_step1 hc (fun h => hx1 h.2.2.1)]; simp)
             
        · have hg2 : l.length ≤ i + 2 := by omega
          simp only [go_sem,Nat.reduceLeDiff,Nat.reduceLT,Nat.reduceAdd,Nat.reduceMul,Nat.reduceBNe,Nat.reduceEqDiff,reduceCtorEq,Nat.reduceDiv,Nat.reduceMod,hlo,hc,hL,hw,e37,w2,hg2]
          first
            | (refine ⟨(i + 1,out ++ [l.getD i 0]),?_,⟨hc,?_⟩,by simp only; omega⟩
               · rw [snoc_own _ hacc]; rfl
               · rw [← hsp,pct_step1 hc (fun h => hg h.2.1)]; simp)
           
      · have e37 : (((l.getD i 0).toNat : Int) != 37) = true := by
          rw [bne_iff_ne]; intro e; exact h37 (UInt8.toNat_inj.1 (by rw [show (37 : UInt8).toNat = 37 from rfl]; omega))
        simp only [go_sem,Nat.reduceLeDiff,Nat.reduceLT,Nat.reduceAdd,Nat.reduceMul,Nat.reduceBNe,Nat.reduceEqDiff,reduceCtorEq,Nat.reduceDiv,Nat.reduceMod,hlo,hc,hw,e37]
        first
          | (refine ⟨(i + 1,out ++ [l.getD i 0]),?_,⟨hc,?_⟩,by simp only; omega⟩
             · rw [snoc_own _ hacc]; rfl
             · rw [← hsp,pct_step1 hc (fun h => h37 h.1)]; simp)
         
    · have he : i = l.length := by omega
      subst he
      have hsp2 : out = pct l := by rw [← hsp]; simp [pct]
      simp only [go_sem,Nat.reduceBNe,hc]
      first | (refine fq ?_; rw [show pct l = [] by rw [← hsp2,← rowsBytes_bytesRows out,hacc]; rfl]; rfl)
  | cons x xs =>
    have hlo : (xs.length + 1 + 1) * 1 ≤ 140737488355328 := by have h9 := congrArg List.length hacc; rw [bytesRows_length] at h9; simp only [List.length_cons] at h9; omega
    have hlo3 : (xs.length + 1 + 1 + 1 + 1) * 1 ≤ 140737488355328 := by have h9 := congrArg List.length hacc; rw [bytesRows_length] at h9; simp only [List.length_cons] at h9; omega
    have hla : (xs.length + 1 + 1) ≤ 140737488355328 := by have h9 := congrArg List.length hacc; rw [bytesRows_length] at h9; simp only [List.length_cons] at h9; omega
    have hla3 : (xs.length + 1 + 1 + 1 + 1) ≤ 140737488355328 := by have h9 := congrArg List.length hacc; rw [bytesRows_length] at h9; simp only [List.length_cons] at h9; omega
    simp only [go_sem,sd_cons]
    try (with_reducible intro hlen)
    by_cases hc : i < l.length
    · have hw := wrapN hc hL
      have w2 : IntKind.i64.wrap ((i : Int) + 2) = ((i + 2 : Nat) : Int) := by rw [wrapI (by omega)]; omega
      by_cases h37 : l.getD i 0 = 37
      · have e37 : (((l.getD i 0).toNat : Int) != 37) = false := by rw [h37]; decide
        by_cases hg : i + 2 < l.length
        · have hg1 : i + 1 < l.length := by omega
          have hg2 : ¬ (l.length ≤ i + 2) := by omega
          have x1 := hexU (l.getD (i + 1) 0)
          have x2 := hexU (l.getD (i + 2) 0)
          by_cases hx1 : 0 ≤ hexI (l.getD (i + 1) 0).toNat
          · have hx1' : ¬ (hexI (l.getD (i + 1) 0).toNat < 0) := by omega
            by_cases hx2 : 0 ≤ hexI (l.getD (i + 2) 0).toNat
            · have hx2' : ¬ (hexI (l.getD (i + 2) 0).toNat < 0) := by omega
              have hle := hv_le _ _ hx1 hx2
              have m1 : IntKind.i64.wrap (16 * hexI (l.getD (i + 1) 0).toNat) = 16 * hexI (l.getD (i + 1) 0).toNat := wrapI (by omega)
              have m2 : IntKind.i64.wrap (16 * hexI (l.getD (i + 1) 0).toNat + hexI (l.getD (i + 2) 0).toNat) = hv (l.getD (i + 1) 0) (l.getD (i + 2) 0) := wrapI (by omega)
              have m3 : IntKind.u8.wrap (hv (l.getD (i + 1) 0) (l.getD (i + 2) 0)) = hv (l.getD (i + 1) 0) (l.getD (i + 2) 0) := w8 hle
              have w3 : IntKind.i64.wrap (((i + 2 : Nat) : Int) + 1) = ((i + 3 : Nat) : Int) := by rw [wrapI (by omega)]; omega
              cases hf : freeI (hv (l.getD (i + 1) 0) (l.getD (i + 2) 0))
              · have hhi := hv_hi' _ _ hx1 hx2
                have hlw := hv_lo' _ _ hx1 hx2
                have n1 : ¬ (16 ≤ hexI (l.getD (i + 1) 0).toNat) := by omega
                have n2 : hexI (l.getD (i + 1) 0).toNat < 16 := by omega
                have n3 : hexI (l.getD (i + 2) 0).toNat < 16 := by omega
                have s1 : [48,49,50,51,52,53,54,55,56,57,65,66,67,68,69,70].getD (hexI (l.getD (i + 1) 0).toNat).toNat 0 = upU (l.getD (i + 1) 0) := hexS_up _ hx1
                have s2 : [48,49,50,51,52,53,54,55,56,57,65,66,67,68,69,70].getD (hexI (l.getD (i + 2) 0).toNat).toNat 0 = upU (l.getD (i + 2) 0) := hexS_up _ hx2
                simp only [go_sem,hc,hL,hw,w2,e37,hg1,hg2]
                refine cf (c158 _ (u0 _) (u255 _)) ?_
                simp only [go_sem,Nat.reduceAdd,w2,hg,hx1']
                refine cf (c158 _ (u0 _) (u255 _)) ?_
                simp only [go_sem,Nat.reduceAdd,hx2']
                refine draw_intro 14 [[46,47,48,49,50,51,52,53,54,55,56,57,5],[45,47,48,49,50,51,52,53,54,55,56,57,5],[45,48,49,50,51,52,53,54,55,56,57,5],[46,49,50,51,52,53,54,55,56,57,5],[45,46,47,50,51,52,53,54,55,56,57,5],[45,46,47,48,51,52,53,54,55,56,57,5],[45,46,47,48,49,50,52,53,54,55,56,57,5],[45,46,47,48,49,50,51,53,54,55,56,57,5],[45,46,47,48,49,50,51,54,55,56,57,5],[45,46,47,48,49,50,52,55,56,57,5],[45,46,47,48,50,51,52,53,56,57,5],[45,46,47,48,49,51,52,53,54,57,5],[45,46,47,48,49,50,51,52,53,54,55,5],[]] mixedOk rfl ?_
                simp only [go_sem,Nat.reduceBEq,hw,hg1]
                refine df (c158 _ (u0 _) (u255 _)) ?_
                simp only [go_sem,Nat.reduceBEq,w2,hg]
                refine df (c158 _ (u0 _) (u255 _)) ?_
                simp only [go_sem,Nat.reduceBEq,Nat.reduceBNe,m1,m2,m3]
                refine cf (c226 _) ?_
                simp only [go_sem,Nat.reduceAdd,hf]
                refine draw_intro 8 [[65,66,67,68,69,70,71],[64,66,67,68,69,70,71],[64,67,68,69,70,71],[64,65,68,69,70,71],[64,65,66,67,69,70,71],[64,65,66,67,70,71],[64,65,66,67,68,71],[64,65,66,68,69]] mixedOk rfl ?_
                simp only [go_sem,Nat.reduceLeDiff,Nat.reduceLT,Nat.reduceAdd,Nat.reduceMul,Nat.reduceBEq,Nat.reduceBNe,Nat.reduceEqDiff,reduceCtorEq,Int.reduceLE,Int.reduceToNat,Nat.reduceDiv,Nat.reduceMod,hhi,hlw,hx1,hx2,n2,n3,s1,s2,hlo3,w2,w3]
                first
                  | (refine ⟨(i + 3,out ++ pctP (l.getD (i + 1) 0) (l.getD (i + 2) 0)),?_,⟨by simp only; omega,?_⟩,by simp only; omega⟩
                     · rw [pctP_own3 _ _ hacc hf]; rfl
                     · rw [← hsp,pct_step3 hg h37 hx1 hx2]; simp)
                 
              · simp only [go_sem,hc,hL,hw,w2,e37,hg1,hg2]
                refine cf (c158 _ (u0 _) (u255 _)) ?_
                simp only [go_sem,Nat.reduceAdd,w2,hg,hx1']
                refine cf (c158 _ (u0 _) (u255 _)) ?_
                simp only [go_sem,Nat.reduceAdd,hx2']
                refine draw_intro 14 [[46,47,48,49,50,51,52,53,54,55,56,57,5],[45,47,48,49,50,51,52,53,54,55,56,57,5],[45,48,49,50,51,52,53,54,55,56,57,5],[46,49,50,51,52,53,54,55,56,57,5],[45,46,47,50,51,52,53,54,55,56,57,5],[45,46,47,48,51,52,53,54,55,56,57,5],[45,46,47,48,49,50,52,53,54,55,56,57,5],[45,46,47,48,49,50,51,53,54,55,56,57,5],[45,46,47,48,49,50,51,54,55,56,57,5],[45,46,47,48,49,50,52,55,56,57,5],[45,46,47,48,50,51,52,53,56,57,5],[45,46,47,48,49,51,52,53,54,57,5],[45,46,47,48,49,50,51,52,53,54,55,5],[]] mixedOk rfl ?_
                simp only [go_sem,Nat.reduceBEq,hw,hg1]
                refine df (c158 _ (u0 _) (u255 _)) ?_
                simp only [go_sem,Nat.reduceBEq,w2,hg]
                refine df (c158 _ (u0 _) (u255 _)) ?_
                simp only [go_sem,Nat.reduceBEq,Nat.reduceBNe,m1,m2,m3]
                refine cf (c226 _) ?_
                simp only [go_sem,Nat.reduceLeDiff,Nat.reduceLT,Nat.reduceAdd,Nat.reduceMul,Nat.reduceBNe,Nat.reduceEqDiff,reduceCtorEq,Nat.reduceDiv,Nat.reduceMod,hf,hlo,w2,w3]
                first
                  | (refine ⟨(i + 3,out ++ pctP (l.getD (i + 1) 0) (l.getD (i + 2) 0)),?_,⟨by simp only; omega,?_⟩,by simp only; omega⟩
                     · rw [pctP_own1 _ _ hacc hx1 hx2 hf]; rfl
                     · rw [← hsp,pct_step3 hg h37 hx1 hx2]; simp)
                 
            · have hx2' : hexI (l.getD (i + 2) 0).toNat < 0 := by omega
              simp only [go_sem,hc,hL,hw,w2,e37,hg1,hg2]
              refine cf (c158 _ (u0 _) (u255 _)) ?_
              simp only [go_sem,Nat.reduceAdd,w2,hg,hx1']
              refine cf (c158 _ (u0 _) (u255 _)) ?_
              simp only [go_sem,Nat.reduceLeDiff,Nat.reduceLT,Nat.reduceAdd,Nat.reduceMul,Nat.reduceBNe,Nat.reduceEqDiff,reduceCtorEq,Nat.reduceDiv,Nat.reduceMod,hlo,hc,hw,hx2']
              first
                | (refine ⟨(i + 1,out ++ [l.getD i 0]),?_,⟨hc,?_⟩,by simp only; omega⟩
                   · rw [snoc_own _ hacc]; rfl
                   · rw [← hsp,pct_step1 hc (fun h => hx2 h.2.2.2)]; simp)
               
          · have hx1' : hexI (l.getD (i + 1) 0).toNat < 0 := by omega
            simp only [go_sem,hc,hL,hw,w2,e37,hg1,hg2]
            refine cf (c158 _ (u0 _) (u255 _)) ?_
            simp only [go_sem,Nat.reduceLeDiff,Nat.reduceLT,Nat.reduceAdd,Nat.reduceMul,Nat.reduceBNe,Nat.reduceEqDiff,reduceCtorEq,Nat.reduceDiv,Nat.reduceMod,hlo,hc,hw,hx1']
            first
              | (refine ⟨(i + 1,out ++ [l.getD i 0]),?_,⟨hc,?_⟩,by simp only; omega⟩
                 · rw [snoc_own _ hacc]; rfl
                 · rw [← hsp,pct_step1 hc (fun h => hx1 h.2.2.1)]; simp)
             
        · have hg2 : l.length ≤ i + 2 := by omega
          simp only [go_sem,Nat.reduceLeDiff,Nat.reduceLT,Nat.reduceAdd,Nat.reduceMul,Nat.reduceBNe,Nat.reduceEqDiff,reduceCtorEq,Nat.reduceDiv,Nat.reduceMod,hlo,hc,hL,hw,e37,w2,hg2]
          first
            | (refine ⟨(i + 1,out ++ [l.getD i 0]),?_,⟨hc,?_⟩,by simp only; omega⟩
               · rw [snoc_own _ hacc]; rfl
               · rw [← hsp,pct_step1 hc (fun h => hg h.2.1)]; simp)
           
      · have e37 : (((l.getD i 0).toNat : Int) != 37) = true := by
          rw [bne_iff_ne]; intro e; exact h37 (UInt8.toNat_inj.1 (by rw [show (37 : UInt8).toNat = 37 from rfl]; omega))
        simp only [go_sem,Nat.reduceLeDiff,Nat.reduceLT,Nat.reduceAdd,Nat.reduceMul,Nat.reduceBNe,Nat.reduceEqDiff,reduceCtorEq,Nat.reduceDiv,Nat.reduceMod,hlo,hc,hw,e37]
        first
          | (refine ⟨(i + 1,out ++ [l.getD i 0]),?_,⟨hc,?_⟩,by simp only; omega⟩
             · rw [snoc_own _ hacc]; rfl
             · rw [← hsp,pct_step1 hc (fun h => h37 h.1)]; simp)
         
    · have he : i = l.length := by omega
      subst he
      have hsp2 : out = pct l := by rw [← hsp]; simp [pct]
      simp only [go_sem,Nat.reduceBNe,Nat.reduceDiv,Nat.reduceMod,hc,← hacc,rowsBytes_bytesRows]
      first | (refine fq ?_; rw [← hsp2]; rfl)
end Go.Proofs.YtbdfdfhamlmodaaGreatDoor.Fw
namespace Go.Proofs.YtbdfdfhamlmodaaGreatDoor.Fw
open Go Go.Proofs
open Go.Shelf
def lib_laysM171_ren:Go.Shelf.Ren:=⟨fun | 171=>93 | 243=>151 | 246=>196 | 283=>232 | 284=>233 | 285=>234 | 286=>235 | 129=>255 | 317=>254 | 318=>256 | 319=>257 | 320=>258 | 337=>266 | 338=>267 | n=>n,fun | 3=>3 | 9=>9 | 2=>2 | 4=>4 | 171=>190 | 0=>0 | 53=>191 | 37=>22 | 5=>5 | 173=>194 | 212=>208 | 51=>197 | 20=>20 | 213=>209 | 46=>149 | 232=>223 | 233=>224 | n=>n,fun | 17=>1 | 18=>4 | 19=>5 | n=>n⟩
theorem lib_laysM171:Go.Proofs.LaysM.n171 Tryz.prog lib_laysM171_ren:={
 mixed:=by kernel_rfl
 f129:=Tryz.func255.trans (congrArg some (by kernel_rfl))
 f171:=Tryz.func93.trans (congrArg some (by kernel_rfl))
 f243:=Tryz.func151.trans (congrArg some (by kernel_rfl))
 f246:=Tryz.func196.trans (congrArg some (by kernel_rfl))
 f283:=Tryz.func232.trans (congrArg some (by kernel_rfl))
 f284:=Tryz.func233.trans (congrArg some (by kernel_rfl))
 f285:=Tryz.func234.trans (congrArg some (by kernel_rfl))
 f286:=Tryz.func235.trans (congrArg some (by kernel_rfl))
 f317:=Tryz.func254.trans (congrArg some (by kernel_rfl))
 f318:=Tryz.func256.trans (congrArg some (by kernel_rfl))
 f319:=Tryz.func257.trans (congrArg some (by kernel_rfl))
 f320:=Tryz.func258.trans (congrArg some (by kernel_rfl))
 f337:=Tryz.func266.trans (congrArg some (by kernel_rfl))
 f338:=Tryz.func267.trans (congrArg some (by kernel_rfl))
 t0:=Tryz.underlying0
 a0:=Tryz.isAgg0
 z0:=Tryz.sizeOf0
 v0:=Tryz.zeroValue0
 t2:=Tryz.underlying2
 a2:=Tryz.isAgg2
 z2:=Tryz.sizeOf2
 v2:=Tryz.zeroValue2
 t3:=Tryz.underlying3
 a3:=Tryz.isAgg3
 z3:=Tryz.sizeOf3
 v3:=Tryz.zeroValue3
 t4:=Tryz.underlying4
 a4:=Tryz.isAgg4
 z4:=Tryz.sizeOf4
 v4:=Tryz.zeroValue4
 t5:=Tryz.underlying5
 a5:=Tryz.isAgg5
 z5:=Tryz.sizeOf5
 v5:=Tryz.zeroValue5
 t9:=Tryz.underlying9
 a9:=Tryz.isAgg9
 z9:=Tryz.sizeOf9
 v9:=Tryz.zeroValue9
 t20:=Tryz.underlying20
 a20:=Tryz.isAgg20
 z20:=Tryz.sizeOf20
 v20:=Tryz.zeroValue20
 t37:=Tryz.underlying22
 a37:=Tryz.isAgg22
 z37:=Tryz.sizeOf22
 v37:=Tryz.zeroValue22
 t46:=Tryz.underlying149
 a46:=Tryz.isAgg149
 z46:=Tryz.sizeOf149
 v46:=Tryz.zeroValue149
 t51:=Tryz.underlying197
 a51:=Tryz.isAgg197
 z51:=Tryz.sizeOf197
 v51:=Tryz.zeroValue197
 t53:=Tryz.underlying191
 a53:=Tryz.isAgg191
 z53:=Tryz.sizeOf191
 v53:=Tryz.zeroValue191
 t171:=Tryz.underlying190
 a171:=Tryz.isAgg190
 z171:=Tryz.sizeOf190
 v171:=Tryz.zeroValue190
 t173:=Tryz.underlying194
 a173:=Tryz.isAgg194
 z173:=Tryz.sizeOf194
 v173:=Tryz.zeroValue194
 t212:=Tryz.underlying208
 a212:=Tryz.isAgg208
 z212:=Tryz.sizeOf208
 v212:=Tryz.zeroValue208
 t213:=Tryz.underlying209
 a213:=Tryz.isAgg209
 z213:=Tryz.sizeOf209
 t232:=Tryz.underlying223
 a232:=Tryz.isAgg223
 z232:=Tryz.sizeOf223
 v232:=Tryz.zeroValue223
 t233:=Tryz.underlying224
 a233:=Tryz.isAgg224
 z233:=Tryz.sizeOf224
 v233:=Tryz.zeroValue224
 g17:=by kernel_rfl
 g18:=by kernel_rfl
 g19:=by kernel_rfl
 i0:=by kernel_rfl
 i2:=by kernel_rfl
 i3:=by kernel_rfl
 i4:=by kernel_rfl
 i5:=by kernel_rfl
 i9:=by kernel_rfl
 i20:=by kernel_rfl
 i37:=by kernel_rfl
 i46:=by kernel_rfl
 i51:=by kernel_rfl
 i53:=by kernel_rfl
 i171:=by kernel_rfl
 i173:=by kernel_rfl
 i212:=by kernel_rfl
 i232:=by kernel_rfl
 i233:=by kernel_rfl
 m17:=by kernel_rfl
 m18:=by kernel_rfl
 m19:=by kernel_rfl }
open Go.RowKit Go.Sort Go.Lib in
theorem lib_strconv_Itoa (n:Int) (h0:-9223372036854775808≤n) (h1:n≤9223372036854775807) (w:World) (htab:Lib.TabIs Tryz.prog w "internal/strconv.uint64pow10" .u64 Lib.pow10Tab) :
  Calls Tryz.prog 93 #[.int .i64 n] w fun e w'=>e = .returned (.string ⟨(Lib.itoa n).toArray⟩)∧∃ k os,w'=grow (w.drewN k) os:=Any.strconv_Itoa lib_laysM171 n h0 h1 w htab
def lib_lays110_ren:Go.Shelf.Ren:=⟨fun | 110=>114 | 109=>163 | n=>n,fun | 31=>87 | 9=>9 | 4=>4 | 3=>3 | 0=>0 | n=>n,fun | n=>n⟩
theorem lib_lays110:Go.Proofs.Lays.n110 Tryz.prog lib_lays110_ren:={
 mixed:=by kernel_rfl
 f109:=Tryz.func163.trans (congrArg some (by kernel_rfl))
 f110:=Tryz.func114.trans (congrArg some (by kernel_rfl))
 t0:=Tryz.underlying0
 a0:=Tryz.isAgg0
 z0:=Tryz.sizeOf0
 v0:=Tryz.zeroValue0
 t3:=Tryz.underlying3
 a3:=Tryz.isAgg3
 z3:=Tryz.sizeOf3
 v3:=Tryz.zeroValue3
 t4:=Tryz.underlying4
 a4:=Tryz.isAgg4
 z4:=Tryz.sizeOf4
 v4:=Tryz.zeroValue4
 t9:=Tryz.underlying9
 a9:=Tryz.isAgg9
 z9:=Tryz.sizeOf9
 v9:=Tryz.zeroValue9
 t31:=Tryz.underlying87
 a31:=Tryz.isAgg87
 z31:=Tryz.sizeOf87
 v31:=Tryz.zeroValue87 }
open Go.Lib in
theorem lib_slices_Contains_string (b off n c:Nat) (zs:List ByteArray) (x:ByteArray) (w:World) (hz:n≤zs.length) (hbig:n≤9223372036854775807) (hc:∀ j,j<zs.length→w.cell? ⟨b,off+j,none⟩=some (.string (zs.getD j ByteArray.empty))) :
  Calls Tryz.prog 114 #[.slice (some ⟨b,off,none⟩) n c,.string x] w fun e w'=>e = .returned (.bool (Lib.containsS (zs.take n) x))∧w'=w:=Any.slices_Contains_string lib_lays110 b off n c zs x w hz hbig hc
open Go.Lib in
theorem lib_slices_Contains_string_empty (a:Option Addr) (c:Nat) (x:ByteArray) (w:World) :
  Calls Tryz.prog 114 #[.slice a 0 c,.string x] w fun e w'=>e = .returned (.bool false)∧w'=w:=Any.slices_Contains_string_empty lib_lays110 a c x w
set_option maxRecDepth 100000
theorem strs_get {zs:List (List UInt8)} {i j:Nat} {t:T} (h:T.get? (rowsS zs) i j=some t):j=0∧∃ s,zs[i]? = some s∧t = .v (vS s):=by
 unfold T.get? rowsS at h
 rw [List.getElem?_map] at h
 cases hz:zs[i]? with
 | none=>rw [hz] at h; simp at h
 | some s =>
  rw [hz] at h
  cases j with
  | zero=>exact ⟨rfl,s,rfl,by simpa using h.symm⟩
  | succ j=>simp at h
theorem own_of_strs {P:Program} {w:World} {F:Nat→Prop} {e:TypeId} {zs:List (List UInt8)} {b o cap:Nat} {cs:Array Value} {fr:Nat × Nat} (he:P.cellsOf e=1) (h1:w.heap[b]? = some (.cells cs e fr)) (h2:F b) (h3:Thawed cs.size fr) (h4:o+cap≤cs.size) (h5:zs.length≤cap) (h6:cap≤9223372036854775807)
  (hl:∀ s,s∈zs→s.length≤9223372036854775807) (h:∀ (j:Nat) s,zs[j]? = some s→cs[o+j]? = some (vS s)):OwnT P w (.sl e (rowsS zs)) (.slice (some ⟨b,o,none⟩) zs.length cap) F:=by
 have hlen:zs.length=(rowsS zs).length:=by simp [rowsS]
 rw [hlen]
 rw [hlen] at h5
 refine .row e _ b o cap cs fr F (fun _ _ _=>False) (fun i _=>vS (zs.getD i [])) h1 h2 (by rw [he]; exact h3) (by rw [he,Nat.mul_one]; exact h4) h5 h6 ?_ (fun _ _ _ h=>h.elim) (fun _ _ _ _ _ h=>h.elim) ?_ ?_ ?_
 ·intro i r hr
  unfold rowsS at hr
  rw [List.getElem?_map] at hr
  cases hz:zs[i]? with
  | none=>rw [hz] at hr; simp at hr
  | some s=>rw [hz] at hr; simp at hr; rw [←hr,he]; rfl
 ·intro i j t ht
  obtain ⟨rfl,s,hs,rfl⟩:=strs_get ht
  rw [he,Nat.mul_one,Nat.add_zero,h i s hs,gDg,hs]
  rfl
 ·intro i j t ht
  obtain ⟨rfl,s,hs,rfl⟩:=strs_get ht
  have:zs.getD i []=s:=by rw [gDg,hs]; rfl
  rw [this]
  refine .v _ _ ?_
  simp only [scal,decide_eq_true_eq]
  exact hl s (List.mem_of_getElem? hs)
 ·intro _ i j t ht
  obtain ⟨rfl,s,hs,rfl⟩:=strs_get ht
  rfl
theorem ext_drewN (w:World) (n:Nat):Ext w (w.drewN n):=⟨rfl,rfl,rfl,Nat.le_refl _,fun _ _=>rfl⟩
theorem ext_grow (w:World) (os:Array Obj):Ext w (Sort.grow w os):=by
 refine ⟨rfl,rfl,rfl,by simp [Sort.grow],fun b hb => ?_⟩
 simp only [Sort.grow]
 rw [Array.getElem?_append_left hb]
theorem args1 {a:Act} (h:a.tmps.size=1):a.tmps = #[a.tmps.getD 0 undef]:=by
 apply Array.ext
 ·simpa using h
 ·intro i hi hi2
  have:i=0:=by simp at hi2; omega
  subst this; simp [Array.getD,h]
theorem args2 {a:Act} (hsz:a.tmps.size=2):a.tmps = #[a.tmps.getD 0 undef,a.tmps.getD 1 undef]:=by
 apply Array.ext
 ·simpa using hsz
 ·intro i hi hi2
  have:i=0∨i=1:=by simp at hi2; omega
  rcases this with rfl | rfl<;>simp [Array.getD,hsz]
theorem c114 (vs:List (List UInt8)) (s:List UInt8) (hN:vs.length≤9223372036854775807):Sem Tryz.prog 114 ⟨[.imm 9 (rowsS vs),.v (vS s)],[none,none]⟩ ⟨[.imm 9 (rowsS vs),.v (vS s),.v (vB (vs.contains s))],[none,none,none]⟩:=by
 refine sem_calls (Ein:=⟨[.imm 9 (rowsS vs),.v (vS s)],[none,none]⟩) (r:=vB (vs.contains s)) (enter_of Tryz.func114 rfl rfl) rfl rfl rfl ?_
 intro w a F loc M R
 have h0:=slot_of R (i:=0) (d := .imm 9 (rowsS vs)) rfl rfl (by simp)
 have h1:=slot_of R (i:=1) (d := .v (vS s)) rfl rfl (by simp)
 rw [args2 R.tmps]
 generalize a.tmps.getD 0 undef=v0 at h0
 generalize a.tmps.getD 1 undef=v1 at h1
 cases h1
 cases h0 with
 | imm _ _ _ h =>
  rcases strs_of (by kernel_rfl) h with ⟨rfl,base,cap,rfl⟩ | ⟨b,o,cap,rfl,hb,hc,hcells⟩
  ·exact (lib_slices_Contains_string_empty base cap (ofL s) w).mono fun e w' ⟨he,hw⟩=>⟨he,hw▸RowKit.Below.refl _ _⟩
  ·have hcs:Lib.containsS ((vs.map ofL).take (vs.map ofL).length) (ofL s)=vs.contains s:=by
    rw [List.take_length,Bool.eq_iff_iff,Lib.containsS_iff,List.contains_iff_mem]
    constructor
    ·intro h
     obtain ⟨x,hx,he⟩:=List.mem_map.1 h
     rw [ofL_inj] at he; rw [←he]; exact hx
    ·exact fun h=>List.mem_map.2 ⟨s,h,rfl⟩
   have:=lib_slices_Contains_string b o (vs.map ofL).length cap (vs.map ofL) (ofL s) w (Nat.le_refl _) (by simp; omega) (fun j hj=>by
    rw [hcells j _ (gEg hj),gDg,gEg hj]; rfl)
   rw [hcs] at this
   exact this.mono fun e w' ⟨he,hw⟩=>⟨he,hw▸RowKit.Below.refl _ _⟩
theorem c93 (n:Int) (h0:-9223372036854775808≤n) (h1:n≤9223372036854775807) (hlen:(Lib.itoa n).length≤9223372036854775807):Sem Tryz.prog 93 ⟨[.v (vI n)],[none]⟩ ⟨[.v (vI n),.v (vS (Lib.itoa n))],[none,none]⟩:=by
 refine sem_calls (Ein:=⟨[.v (vI n)],[none]⟩) (r:=vS (Lib.itoa n)) (enter_of Tryz.func93 rfl rfl) rfl (by simp only [scal,decide_eq_true_eq]; exact hlen) rfl ?_
 intro w a F loc M R
 have hv:=slot_of R (i:=0) (d := .v (vI n)) rfl rfl (by simp)
 rw [args1 R.tmps]
 generalize a.tmps.getD 0 undef=v0 at hv
 cases hv
 obtain ⟨B,hB,hL,hg⟩:=R.glob
 have htab:=(hg w (fun _ _=>rfl)).1 _ List.mem_cons_self (by
  intro h
  have hs:(Tryz.prog.globalNamed (tabName [105,110,116,101,114,110,97,108,47,115,116,114,99,111,110,118,46,117,105,110,116,54,52,112,111,119,49,48])).isSome=true:=by kernel_rfl
  have h:Tryz.prog.globalNamed (tabName [105,110,116,101,114,110,97,108,47,115,116,114,99,111,110,118,46,117,105,110,116,54,52,112,111,119,49,48])=none:=h
  rw [h] at hs
  cases hs)
 have htab:Lib.TabIs Tryz.prog w "internal/strconv.uint64pow10" .u64 Lib.pow10Tab:=by
  have e:tabName [105,110,116,101,114,110,97,108,47,115,116,114,99,111,110,118,46,117,105,110,116,54,52,112,111,119,49,48] = "internal/strconv.uint64pow10" := by decide
  rw [←e]; exact htab
 exact (lib_strconv_Itoa n h0 h1 w htab).mono fun e w' ⟨he,k,os,hw⟩=>⟨he,by
  have x:=(ext_drewN w k).trans (ext_grow _ os)
  rw [hw]
  exact ⟨x.os,x.tape,x.output,x.size,x.kept⟩⟩
def lib_lays172_ren:Go.Shelf.Ren:=⟨fun | 172=>182 | 244=>222 | 245=>223 | 247=>246 | 279=>247 | 280=>248 | 281=>249 | 282=>250 | 287=>259 | 316=>260 | 171=>93 | 205=>261 | 321=>268 | 322=>269 | 243=>151 | 246=>196 | 283=>232 | 284=>233 | 285=>234 | 286=>235 | 129=>255 | 317=>254 | 318=>256 | 319=>257 | 320=>258 | 337=>266 | 338=>267 | n=>n,fun | 9=>9 | 3=>3 | 75=>117 | 76=>118 | 4=>4 | 5=>5 | 167=>200 | 37=>22 | 0=>0 | 85=>201 | 2=>2 | 168=>203 | 53=>191 | 175=>211 | 46=>149 | 210=>214 | 127=>154 | 145=>222 | 143=>220 | 21=>21 | 171=>190 | 173=>194 | 212=>208 | 51=>197 | 20=>20 | 213=>209 | 232=>223 | 233=>224 | 80=>121 | n=>n,fun | 15=>2 | 16=>3 | 17=>1 | 18=>4 | 19=>5 | n=>n⟩
theorem lib_lays172:Go.Proofs.Lays.n172 Tryz.prog lib_lays172_ren:={
 mixed:=by kernel_rfl
 f129:=Tryz.func255.trans (congrArg some (by kernel_rfl))
 f171:=Tryz.func93.trans (congrArg some (by kernel_rfl))
 f172:=Tryz.func182.trans (congrArg some (by kernel_rfl))
 f205:=Tryz.func261.trans (congrArg some (by kernel_rfl))
 f243:=Tryz.func151.trans (congrArg some (by kernel_rfl))
 f244:=Tryz.func222.trans (congrArg some (by kernel_rfl))
 f245:=Tryz.func223.trans (congrArg some (by kernel_rfl))
 f246:=Tryz.func196.trans (congrArg some (by kernel_rfl))
 f247:=Tryz.func246.trans (congrArg some (by kernel_rfl))
 f279:=Tryz.func247.trans (congrArg some (by kernel_rfl))
 f280:=Tryz.func248.trans (congrArg some (by kernel_rfl))
 f281:=Tryz.func249.trans (congrArg some (by kernel_rfl))
 f282:=Tryz.func250.trans (congrArg some (by kernel_rfl))
 f283:=Tryz.func232.trans (congrArg some (by kernel_rfl))
 f284:=Tryz.func233.trans (congrArg some (by kernel_rfl))
 f285:=Tryz.func234.trans (congrArg some (by kernel_rfl))
 f286:=Tryz.func235.trans (congrArg some (by kernel_rfl))
 f287:=Tryz.func259.trans (congrArg some (by kernel_rfl))
 f316:=Tryz.func260.trans (congrArg some (by kernel_rfl))
 f317:=Tryz.func254.trans (congrArg some (by kernel_rfl))
 f318:=Tryz.func256.trans (congrArg some (by kernel_rfl))
 f319:=Tryz.func257.trans (congrArg some (by kernel_rfl))
 f320:=Tryz.func258.trans (congrArg some (by kernel_rfl))
 f321:=Tryz.func268.trans (congrArg some (by kernel_rfl))
 f322:=Tryz.func269.trans (congrArg some (by kernel_rfl))
 f337:=Tryz.func266.trans (congrArg some (by kernel_rfl))
 f338:=Tryz.func267.trans (congrArg some (by kernel_rfl))
 t0:=Tryz.underlying0
 a0:=Tryz.isAgg0
 z0:=Tryz.sizeOf0
 v0:=Tryz.zeroValue0
 t2:=Tryz.underlying2
 a2:=Tryz.isAgg2
 z2:=Tryz.sizeOf2
 v2:=Tryz.zeroValue2
 t3:=Tryz.underlying3
 a3:=Tryz.isAgg3
 z3:=Tryz.sizeOf3
 v3:=Tryz.zeroValue3
 t4:=Tryz.underlying4
 a4:=Tryz.isAgg4
 z4:=Tryz.sizeOf4
 v4:=Tryz.zeroValue4
 t5:=Tryz.underlying5
 a5:=Tryz.isAgg5
 z5:=Tryz.sizeOf5
 v5:=Tryz.zeroValue5
 t9:=Tryz.underlying9
 a9:=Tryz.isAgg9
 z9:=Tryz.sizeOf9
 v9:=Tryz.zeroValue9
 t20:=Tryz.underlying20
 a20:=Tryz.isAgg20
 z20:=Tryz.sizeOf20
 v20:=Tryz.zeroValue20
 t21:=Tryz.underlying21
 a21:=Tryz.isAgg21
 z21:=Tryz.sizeOf21
 v21:=Tryz.zeroValue21
 t37:=Tryz.underlying22
 a37:=Tryz.isAgg22
 z37:=Tryz.sizeOf22
 v37:=Tryz.zeroValue22
 t46:=Tryz.underlying149
 a46:=Tryz.isAgg149
 z46:=Tryz.sizeOf149
 v46:=Tryz.zeroValue149
 t51:=Tryz.underlying197
 a51:=Tryz.isAgg197
 z51:=Tryz.sizeOf197
 v51:=Tryz.zeroValue197
 t53:=Tryz.underlying191
 a53:=Tryz.isAgg191
 z53:=Tryz.sizeOf191
 v53:=Tryz.zeroValue191
 t75:=Tryz.underlying117
 a75:=Tryz.isAgg117
 z75:=Tryz.sizeOf117
 v75:=Tryz.zeroValue117
 t76:=Tryz.underlying118
 a76:=Tryz.isAgg118
 z76:=Tryz.sizeOf118
 v76:=Tryz.zeroValue118
 t85:=Tryz.underlying201
 a85:=Tryz.isAgg201
 z85:=Tryz.sizeOf201
 v85:=Tryz.zeroValue201
 t127:=Tryz.underlying154
 a127:=Tryz.isAgg154
 z127:=Tryz.sizeOf154
 v127:=Tryz.zeroValue154
 t143:=Tryz.underlying220
 a143:=Tryz.isAgg220
 z143:=Tryz.sizeOf220
 v143:=Tryz.zeroValue220
 t145:=Tryz.underlying222
 a145:=Tryz.isAgg222
 z145:=Tryz.sizeOf222
 v145:=Tryz.zeroValue222
 t167:=Tryz.underlying200
 a167:=Tryz.isAgg200
 z167:=Tryz.sizeOf200
 v167:=Tryz.zeroValue200
 t168:=Tryz.underlying203
 a168:=Tryz.isAgg203
 z168:=Tryz.sizeOf203
 v168:=Tryz.zeroValue203
 t171:=Tryz.underlying190
 a171:=Tryz.isAgg190
 z171:=Tryz.sizeOf190
 v171:=Tryz.zeroValue190
 t173:=Tryz.underlying194
 a173:=Tryz.isAgg194
 z173:=Tryz.sizeOf194
 v173:=Tryz.zeroValue194
 t175:=Tryz.underlying211
 a175:=Tryz.isAgg211
 z175:=Tryz.sizeOf211
 v175:=Tryz.zeroValue211
 t210:=Tryz.underlying214
 a210:=Tryz.isAgg214
 z210:=Tryz.sizeOf214
 v210:=Tryz.zeroValue214
 t212:=Tryz.underlying208
 a212:=Tryz.isAgg208
 z212:=Tryz.sizeOf208
 v212:=Tryz.zeroValue208
 t213:=Tryz.underlying209
 a213:=Tryz.isAgg209
 z213:=Tryz.sizeOf209
 t232:=Tryz.underlying223
 a232:=Tryz.isAgg223
 z232:=Tryz.sizeOf223
 v232:=Tryz.zeroValue223
 t233:=Tryz.underlying224
 a233:=Tryz.isAgg224
 z233:=Tryz.sizeOf224
 v233:=Tryz.zeroValue224
 g15:=by kernel_rfl
 g16:=by kernel_rfl
 g17:=by kernel_rfl
 g18:=by kernel_rfl
 g19:=by kernel_rfl }
def lib_lays144_ren:Go.Shelf.Ren:=⟨fun | 144=>135 | 143=>120 | 219=>165 | 217=>203 | 225=>204 | 224=>205 | 267=>206 | 266=>238 | 314=>239 | n=>n,fun | 9=>9 | 4=>4 | 3=>3 | 5=>5 | 46=>149 | 146=>198 | 51=>197 | n=>n,fun | 1=>0 | n=>n⟩
theorem lib_lays144:Go.Proofs.Lays.n144 Tryz.prog lib_lays144_ren:={
 mixed:=by kernel_rfl
 f143:=Tryz.func120.trans (congrArg some (by kernel_rfl))
 f144:=Tryz.func135.trans (congrArg some (by kernel_rfl))
 f217:=Tryz.func203.trans (congrArg some (by kernel_rfl))
 f219:=Tryz.func165.trans (congrArg some (by kernel_rfl))
 f224:=Tryz.func205.trans (congrArg some (by kernel_rfl))
 f225:=Tryz.func204.trans (congrArg some (by kernel_rfl))
 f266:=Tryz.func238.trans (congrArg some (by kernel_rfl))
 f267:=Tryz.func206.trans (congrArg some (by kernel_rfl))
 f314:=Tryz.func239.trans (congrArg some (by kernel_rfl))
 t3:=Tryz.underlying3
 a3:=Tryz.isAgg3
 z3:=Tryz.sizeOf3
 v3:=Tryz.zeroValue3
 t4:=Tryz.underlying4
 a4:=Tryz.isAgg4
 z4:=Tryz.sizeOf4
 v4:=Tryz.zeroValue4
 t5:=Tryz.underlying5
 a5:=Tryz.isAgg5
 z5:=Tryz.sizeOf5
 v5:=Tryz.zeroValue5
 t9:=Tryz.underlying9
 a9:=Tryz.isAgg9
 z9:=Tryz.sizeOf9
 v9:=Tryz.zeroValue9
 t46:=Tryz.underlying149
 a46:=Tryz.isAgg149
 z46:=Tryz.sizeOf149
 v46:=Tryz.zeroValue149
 t51:=Tryz.underlying197
 a51:=Tryz.isAgg197
 z51:=Tryz.sizeOf197
 v51:=Tryz.zeroValue197
 t146:=Tryz.underlying198
 a146:=Tryz.isAgg198
 z146:=Tryz.sizeOf198
 v146:=Tryz.zeroValue198
 g1:=by kernel_rfl }
open Go.RowKit Go.Lib in
theorem lib_strings_Contains_one (s:ByteArray) (c:UInt8) (w:World) :
  Calls Tryz.prog 135 #[.string s,.string ⟨#[c]⟩] w fun e w'=>e = .returned (.bool (decide (0≤Lib.indexByte s.data.toList c)))∧w'=w:=Any.strings_Contains_one lib_lays144 s c w
def lib_lays145_ren:Go.Shelf.Ren:=⟨fun | 145=>105 | 220=>157 | 219=>165 | 217=>203 | 225=>204 | 224=>205 | 267=>206 | 266=>238 | 314=>239 | n=>n,fun | 9=>9 | 4=>4 | 59=>80 | 3=>3 | 5=>5 | 46=>149 | 146=>198 | 51=>197 | n=>n,fun | 1=>0 | n=>n⟩
theorem lib_lays145:Go.Proofs.Lays.n145 Tryz.prog lib_lays145_ren:={
 mixed:=by kernel_rfl
 f145:=Tryz.func105.trans (congrArg some (by kernel_rfl))
 f217:=Tryz.func203.trans (congrArg some (by kernel_rfl))
 f219:=Tryz.func165.trans (congrArg some (by kernel_rfl))
 f220:=Tryz.func157.trans (congrArg some (by kernel_rfl))
 f224:=Tryz.func205.trans (congrArg some (by kernel_rfl))
 f225:=Tryz.func204.trans (congrArg some (by kernel_rfl))
 f266:=Tryz.func238.trans (congrArg some (by kernel_rfl))
 f267:=Tryz.func206.trans (congrArg some (by kernel_rfl))
 f314:=Tryz.func239.trans (congrArg some (by kernel_rfl))
 t3:=Tryz.underlying3
 a3:=Tryz.isAgg3
 z3:=Tryz.sizeOf3
 v3:=Tryz.zeroValue3
 t4:=Tryz.underlying4
 a4:=Tryz.isAgg4
 z4:=Tryz.sizeOf4
 v4:=Tryz.zeroValue4
 t5:=Tryz.underlying5
 a5:=Tryz.isAgg5
 z5:=Tryz.sizeOf5
 v5:=Tryz.zeroValue5
 t9:=Tryz.underlying9
 a9:=Tryz.isAgg9
 z9:=Tryz.sizeOf9
 v9:=Tryz.zeroValue9
 t46:=Tryz.underlying149
 a46:=Tryz.isAgg149
 z46:=Tryz.sizeOf149
 v46:=Tryz.zeroValue149
 t51:=Tryz.underlying197
 a51:=Tryz.isAgg197
 z51:=Tryz.sizeOf197
 v51:=Tryz.zeroValue197
 t59:=Tryz.underlying80
 a59:=Tryz.isAgg80
 z59:=Tryz.sizeOf80
 v59:=Tryz.zeroValue80
 t146:=Tryz.underlying198
 a146:=Tryz.isAgg198
 z146:=Tryz.sizeOf198
 v146:=Tryz.zeroValue198
 g1:=by kernel_rfl }
open Go.RowKit Go.Lib in
theorem lib_strings_Cut (s sep:ByteArray) (m:Int) (w:World) (hs:s.size<4294967281) (hm:w.cell? ⟨0,0,none⟩=some (.int .i64 m)) :
  Calls Tryz.prog 105 #[.string s,.string sep] w fun e w'=>e = .returned (.tuple #[.string ⟨(Lib.cut s.data.toList sep.data.toList).1.toArray⟩,.string ⟨(Lib.cut s.data.toList sep.data.toList).2.1.toArray⟩,.bool (Lib.cut s.data.toList sep.data.toList).2.2])∧∃ n,w'=w.drewN n:=Any.strings_Cut lib_lays145 s sep m w hs hm
def lib_lays99_ren:Go.Shelf.Ren:=⟨fun | 99=>184 | 206=>224 | n=>n,fun | 9=>9 | 4=>4 | 3=>3 | n=>n,fun | n=>n⟩
theorem lib_lays99:Go.Proofs.Lays.n99 Tryz.prog lib_lays99_ren:={
 mixed:=by kernel_rfl
 f99:=Tryz.func184.trans (congrArg some (by kernel_rfl))
 f206:=Tryz.func224.trans (congrArg some (by kernel_rfl))
 t3:=Tryz.underlying3
 a3:=Tryz.isAgg3
 z3:=Tryz.sizeOf3
 v3:=Tryz.zeroValue3
 t4:=Tryz.underlying4
 a4:=Tryz.isAgg4
 z4:=Tryz.sizeOf4
 v4:=Tryz.zeroValue4
 t9:=Tryz.underlying9
 a9:=Tryz.isAgg9
 z9:=Tryz.sizeOf9
 v9:=Tryz.zeroValue9 }
open Go.RowKit Go.Lib in
theorem lib_strings_HasPrefix (s p:ByteArray) (w:World) :
  Calls Tryz.prog 184 #[.string s,.string p] w fun e w'=>e = .returned (.bool (Lib.hasPrefix s.data.toList p.data.toList))∧w'=w:=Any.strings_HasPrefix lib_lays99 s p w
def lib_lays146_ren:Go.Shelf.Ren:=⟨fun | 146=>186 | 221=>225 | 268=>251 | 138=>252 | 143=>120 | 195=>262 | 197=>263 | 218=>264 | 219=>165 | 260=>270 | 217=>203 | 225=>204 | 224=>205 | 267=>206 | 266=>238 | 314=>239 | n=>n,fun | 9=>9 | 31=>87 | 3=>3 | 4=>4 | 0=>0 | 105=>216 | 21=>21 | 5=>5 | 46=>149 | 119=>225 | 139=>228 | 138=>227 | 146=>198 | 51=>197 | n=>n,fun | 1=>0 | 3=>6 | 4=>7 | n=>n⟩
theorem lib_lays146:Go.Proofs.Lays.n146 Tryz.prog lib_lays146_ren:={
 mixed:=by kernel_rfl
 f138:=Tryz.func252.trans (congrArg some (by kernel_rfl))
 f143:=Tryz.func120.trans (congrArg some (by kernel_rfl))
 f146:=Tryz.func186.trans (congrArg some (by kernel_rfl))
 f195:=Tryz.func262.trans (congrArg some (by kernel_rfl))
 f197:=Tryz.func263.trans (congrArg some (by kernel_rfl))
 f217:=Tryz.func203.trans (congrArg some (by kernel_rfl))
 f218:=Tryz.func264.trans (congrArg some (by kernel_rfl))
 f219:=Tryz.func165.trans (congrArg some (by kernel_rfl))
 f221:=Tryz.func225.trans (congrArg some (by kernel_rfl))
 f224:=Tryz.func205.trans (congrArg some (by kernel_rfl))
 f225:=Tryz.func204.trans (congrArg some (by kernel_rfl))
 f260:=Tryz.func270.trans (congrArg some (by kernel_rfl))
 f266:=Tryz.func238.trans (congrArg some (by kernel_rfl))
 f267:=Tryz.func206.trans (congrArg some (by kernel_rfl))
 f268:=Tryz.func251.trans (congrArg some (by kernel_rfl))
 f314:=Tryz.func239.trans (congrArg some (by kernel_rfl))
 t0:=Tryz.underlying0
 a0:=Tryz.isAgg0
 z0:=Tryz.sizeOf0
 v0:=Tryz.zeroValue0
 t3:=Tryz.underlying3
 a3:=Tryz.isAgg3
 z3:=Tryz.sizeOf3
 v3:=Tryz.zeroValue3
 t4:=Tryz.underlying4
 a4:=Tryz.isAgg4
 z4:=Tryz.sizeOf4
 v4:=Tryz.zeroValue4
 t5:=Tryz.underlying5
 a5:=Tryz.isAgg5
 z5:=Tryz.sizeOf5
 v5:=Tryz.zeroValue5
 t9:=Tryz.underlying9
 a9:=Tryz.isAgg9
 z9:=Tryz.sizeOf9
 v9:=Tryz.zeroValue9
 t21:=Tryz.underlying21
 a21:=Tryz.isAgg21
 z21:=Tryz.sizeOf21
 v21:=Tryz.zeroValue21
 t31:=Tryz.underlying87
 a31:=Tryz.isAgg87
 z31:=Tryz.sizeOf87
 v31:=Tryz.zeroValue87
 t46:=Tryz.underlying149
 a46:=Tryz.isAgg149
 z46:=Tryz.sizeOf149
 v46:=Tryz.zeroValue149
 t51:=Tryz.underlying197
 a51:=Tryz.isAgg197
 z51:=Tryz.sizeOf197
 v51:=Tryz.zeroValue197
 t105:=Tryz.underlying216
 a105:=Tryz.isAgg216
 z105:=Tryz.sizeOf216
 v105:=Tryz.zeroValue216
 t119:=Tryz.underlying225
 a119:=Tryz.isAgg225
 z119:=Tryz.sizeOf225
 t138:=Tryz.underlying227
 a138:=Tryz.isAgg227
 z138:=Tryz.sizeOf227
 v138:=Tryz.zeroValue227
 t139:=Tryz.underlying228
 a139:=Tryz.isAgg228
 z139:=Tryz.sizeOf228
 v139:=Tryz.zeroValue228
 t146:=Tryz.underlying198
 a146:=Tryz.isAgg198
 z146:=Tryz.sizeOf198
 v146:=Tryz.zeroValue198
 g1:=by kernel_rfl
 g3:=by kernel_rfl
 g4:=by kernel_rfl }
open Go.RowKit Go.Lib in
theorem lib_strings_Split (s sep:ByteArray) (m:Int) (w:World) (hs:s.size<4294967281) (hm:w.cell? ⟨0,0,none⟩=some (.int .i64 m)) (h1:1≤sep.size) :
  Calls Tryz.prog 186 #[.string s,.string sep] w fun e w' =>
   e = .returned (.slice (some ⟨w.heap.size,0,none⟩) (Lib.countB s sep+1) (Lib.countB s sep+1))∧w'=w.alloc (.cells ((Lib.splitB sep 0 (Lib.countB s sep) s).map Value.string).toArray 9):=Any.strings_Split lib_lays146 (by kernel_rfl) s sep m w hs hm h1
def lib_lays153_ren:Go.Shelf.Ren:=⟨fun | 153=>136 | 152=>178 | 226=>179 | 227=>180 | 228=>181 | 137=>220 | 119=>221 | 224=>205 | 225=>204 | 217=>203 | 266=>238 | n=>n,fun | 9=>9 | 3=>3 | 4=>4 | 5=>5 | 21=>21 | 117=>169 | 116=>168 | 0=>0 | 46=>149 | 124=>185 | n=>n,fun | n=>n⟩
theorem lib_lays153:Go.Proofs.Lays.n153 Tryz.prog lib_lays153_ren:={
 mixed:=by kernel_rfl
 f119:=Tryz.func221.trans (congrArg some (by kernel_rfl))
 f137:=Tryz.func220.trans (congrArg some (by kernel_rfl))
 f152:=Tryz.func178.trans (congrArg some (by kernel_rfl))
 f153:=Tryz.func136.trans (congrArg some (by kernel_rfl))
 f217:=Tryz.func203.trans (congrArg some (by kernel_rfl))
 f224:=Tryz.func205.trans (congrArg some (by kernel_rfl))
 f225:=Tryz.func204.trans (congrArg some (by kernel_rfl))
 f226:=Tryz.func179.trans (congrArg some (by kernel_rfl))
 f227:=Tryz.func180.trans (congrArg some (by kernel_rfl))
 f228:=Tryz.func181.trans (congrArg some (by kernel_rfl))
 f266:=Tryz.func238.trans (congrArg some (by kernel_rfl))
 t0:=Tryz.underlying0
 a0:=Tryz.isAgg0
 z0:=Tryz.sizeOf0
 v0:=Tryz.zeroValue0
 t3:=Tryz.underlying3
 a3:=Tryz.isAgg3
 z3:=Tryz.sizeOf3
 v3:=Tryz.zeroValue3
 t4:=Tryz.underlying4
 a4:=Tryz.isAgg4
 z4:=Tryz.sizeOf4
 v4:=Tryz.zeroValue4
 t5:=Tryz.underlying5
 a5:=Tryz.isAgg5
 z5:=Tryz.sizeOf5
 v5:=Tryz.zeroValue5
 t9:=Tryz.underlying9
 a9:=Tryz.isAgg9
 z9:=Tryz.sizeOf9
 v9:=Tryz.zeroValue9
 t21:=Tryz.underlying21
 a21:=Tryz.isAgg21
 z21:=Tryz.sizeOf21
 v21:=Tryz.zeroValue21
 t46:=Tryz.underlying149
 a46:=Tryz.isAgg149
 z46:=Tryz.sizeOf149
 v46:=Tryz.zeroValue149
 t116:=Tryz.underlying168
 a116:=Tryz.isAgg168
 z116:=Tryz.sizeOf168
 t117:=Tryz.underlying169
 a117:=Tryz.isAgg169
 z117:=Tryz.sizeOf169
 v117:=Tryz.zeroValue169
 t124:=Tryz.underlying185
 a124:=Tryz.isAgg185
 z124:=Tryz.sizeOf185
 v124:=Tryz.zeroValue185 }
def lib_lays150_ren:Go.Shelf.Ren:=⟨fun | 150=>185 | 153=>136 | 152=>178 | 226=>179 | 227=>180 | 228=>181 | 137=>220 | 119=>221 | 224=>205 | 225=>204 | 217=>203 | 266=>238 | n=>n,fun | 9=>9 | 4=>4 | 3=>3 | 5=>5 | 21=>21 | 117=>169 | 116=>168 | 0=>0 | 46=>149 | 124=>185 | n=>n,fun | n=>n⟩
theorem lib_lays150:Go.Proofs.Lays.n150 Tryz.prog lib_lays150_ren:={
 mixed:=by kernel_rfl
 f119:=Tryz.func221.trans (congrArg some (by kernel_rfl))
 f137:=Tryz.func220.trans (congrArg some (by kernel_rfl))
 f150:=Tryz.func185.trans (congrArg some (by kernel_rfl))
 f152:=Tryz.func178.trans (congrArg some (by kernel_rfl))
 f153:=Tryz.func136.trans (congrArg some (by kernel_rfl))
 f217:=Tryz.func203.trans (congrArg some (by kernel_rfl))
 f224:=Tryz.func205.trans (congrArg some (by kernel_rfl))
 f225:=Tryz.func204.trans (congrArg some (by kernel_rfl))
 f226:=Tryz.func179.trans (congrArg some (by kernel_rfl))
 f227:=Tryz.func180.trans (congrArg some (by kernel_rfl))
 f228:=Tryz.func181.trans (congrArg some (by kernel_rfl))
 f266:=Tryz.func238.trans (congrArg some (by kernel_rfl))
 t0:=Tryz.underlying0
 a0:=Tryz.isAgg0
 z0:=Tryz.sizeOf0
 v0:=Tryz.zeroValue0
 t3:=Tryz.underlying3
 a3:=Tryz.isAgg3
 z3:=Tryz.sizeOf3
 v3:=Tryz.zeroValue3
 t4:=Tryz.underlying4
 a4:=Tryz.isAgg4
 z4:=Tryz.sizeOf4
 v4:=Tryz.zeroValue4
 t5:=Tryz.underlying5
 a5:=Tryz.isAgg5
 z5:=Tryz.sizeOf5
 v5:=Tryz.zeroValue5
 t9:=Tryz.underlying9
 a9:=Tryz.isAgg9
 z9:=Tryz.sizeOf9
 v9:=Tryz.zeroValue9
 t21:=Tryz.underlying21
 a21:=Tryz.isAgg21
 z21:=Tryz.sizeOf21
 v21:=Tryz.zeroValue21
 t46:=Tryz.underlying149
 a46:=Tryz.isAgg149
 z46:=Tryz.sizeOf149
 v46:=Tryz.zeroValue149
 t116:=Tryz.underlying168
 a116:=Tryz.isAgg168
 z116:=Tryz.sizeOf168
 t117:=Tryz.underlying169
 a117:=Tryz.isAgg169
 z117:=Tryz.sizeOf169
 v117:=Tryz.zeroValue169
 t124:=Tryz.underlying185
 a124:=Tryz.isAgg185
 z124:=Tryz.sizeOf185
 v124:=Tryz.zeroValue185 }
open Go.RowKit Go.Lib in
theorem lib_strings_IndexAny_laid (s chars:ByteArray) (w:World) (hs:s.size<4294967281) (hcs:chars.size<4294967281) (has:∀ (j:Nat) b,s.data.toList[j]? = some b→b.toNat<128) (hac:∀ (j:Nat) b,chars.data.toList[j]? = some b→b.toNat<128) :
  Calls Tryz.prog 136 #[.string s,.string chars] w fun e w'=>e = .returned (.int .i64 (Lib.indexAny s.data.toList chars.data.toList))∧RowKit.Below w.heap.size w w':=Any.strings_IndexAny_laid lib_lays153 (by kernel_rfl) s chars w hs hcs has hac
open Go.RowKit Go.Lib in
theorem lib_strings_ContainsAny_laid (s chars:ByteArray) (w:World) (hs:s.size<4294967281) (hcs:chars.size<4294967281) (has:∀ (j:Nat) b,s.data.toList[j]? = some b→b.toNat<128) (hac:∀ (j:Nat) b,chars.data.toList[j]? = some b→b.toNat<128) :
  Calls Tryz.prog 185 #[.string s,.string chars] w fun e w'=>e = .returned (.bool (Lib.containsAny s.data.toList chars.data.toList))∧RowKit.Below w.heap.size w w':=Any.strings_ContainsAny_laid lib_lays150 (by kernel_rfl) s chars w hs hcs has hac
theorem lib_laysC172:Go.Proofs.LaysC.n172 Tryz.prog lib_lays172_ren:={ lib_lays172 with
 t80:=Tryz.underlying121
 a80:=Tryz.isAgg121
 z80:=Tryz.sizeOf121
 v80:=Tryz.zeroValue121
 i0:=by kernel_rfl
 i2:=by kernel_rfl
 i3:=by kernel_rfl
 i4:=by kernel_rfl
 i5:=by kernel_rfl
 i9:=by kernel_rfl
 i20:=by kernel_rfl
 i21:=by kernel_rfl
 i37:=by kernel_rfl
 i46:=by kernel_rfl
 i51:=by kernel_rfl
 i53:=by kernel_rfl
 i75:=by kernel_rfl
 i76:=by kernel_rfl
 i80:=by kernel_rfl
 i85:=by kernel_rfl
 i127:=by kernel_rfl
 i143:=by kernel_rfl
 i145:=by kernel_rfl
 i167:=by kernel_rfl
 i168:=by kernel_rfl
 i171:=by kernel_rfl
 i173:=by kernel_rfl
 i175:=by kernel_rfl
 i210:=by kernel_rfl
 i212:=by kernel_rfl
 i232:=by kernel_rfl
 i233:=by kernel_rfl
 m15:=by kernel_rfl
 m16:=by kernel_rfl
 m17:=by kernel_rfl
 m18:=by kernel_rfl
 m19:=by kernel_rfl
 c0:=by kernel_rfl
 c2:=by kernel_rfl
 c3:=by kernel_rfl
 c4:=by kernel_rfl
 c5:=by kernel_rfl
 c9:=by kernel_rfl
 c20:=by kernel_rfl
 c21:=by kernel_rfl
 c37:=by kernel_rfl
 c46:=by kernel_rfl
 c51:=by kernel_rfl
 c53:=by kernel_rfl
 c75:=by kernel_rfl
 c76:=by kernel_rfl
 c80:=by kernel_rfl
 c85:=by kernel_rfl
 c127:=by kernel_rfl
 c143:=by kernel_rfl
 c145:=by kernel_rfl
 c167:=by kernel_rfl
 c168:=by kernel_rfl
 c171:=by kernel_rfl
 c173:=by kernel_rfl
 c175:=by kernel_rfl
 c210:=by kernel_rfl
 c212:=by kernel_rfl
 c213:=by kernel_rfl
 c232:=by kernel_rfl
 c233:=by kernel_rfl }
theorem Rel.pushStrs {P:Program} {w0:World} {L:Nat→Nat→Prop} {E:Env} {a:Act} {w:World} {F:Lf→Nat→Prop} {loc:Nat→Nat × Nat} {M:Nat→Prop} (R:Rel w0 L ⟨P,E,a,w,F,loc,M⟩) {e:TypeId} (he:P.cellsOf e=1) (zs:List (List UInt8)) (hz:zs.length≤9223372036854775807) (hl:∀ s,s∈zs→s.length≤9223372036854775807) :
  ∃ F',Rel w0 L ⟨P,⟨E.sl++[.own e (rowsS zs)],E.ce++[none]⟩,{ tmps:=a.tmps.push (.slice (some ⟨w.heap.size,0,none⟩) zs.length zs.length),defers:=[] },w.alloc (.cells (zs.map fun s=>vS s).toArray e),F',loc,M⟩:=by
 have hsz:a.tmps.size=E.sl.length:=R.tmps
 have R1:=R.pad 1
 have hdead:∀ e' xs,(E.pad 1).leaf ⟨false,E.sl.length,0⟩ ≠ .own e' xs:=by
  intro e' xs h
  have h:((E.sl++List.replicate 1 D.dead).getD E.sl.length .dead).leafOf 0 = .own e' xs:=h
  rw [gDg,List.getElem?_append_right (Nat.le_refl _)] at h
  simp [D.leafOf,D.comps,D.leaves1] at h
 have hx:Ext w (w.alloc (.cells (zs.map fun s=>vS s).toArray e)):=⟨rfl,rfl,rfl,by rw [size_alloc]; omega,fun b hb=>heap_alloc_old w _ hb⟩
 have R2:=R1.ext (w':=w.alloc (.cells (zs.map fun s=>vS s).toArray e)) hx (fun p b=>if p=⟨false,E.sl.length,0⟩ then b=w.heap.size else F p b) (fun p=>p=⟨false,E.sl.length,0⟩)
  (fun q e' xs h hn=>hdead e' xs (hn▸h)) (fun p hp=>by funext b; simp [hp]) (fun p b hp hb=>by
   rw [if_pos hp] at hb
   have h2:=heap_alloc_new w (.cells (zs.map fun s=>vS s).toArray e)
   exact ⟨by show w.heap.size≤b; omega,by rw [hb]; exact (Array.getElem?_eq_some_iff.1 h2).1⟩) (fun p q b hp hq _ _=>hp.trans hq.symm)
 obtain ⟨F',R3⟩:=R2.put2 (q:=⟨false,E.sl.length,0⟩) (t:=E.sl.length) (e:=e) (zs:=rowsS zs) (v := .slice (some ⟨w.heap.size,0,none⟩) zs.length zs.length) hdead (by
  show ((E.sl++List.replicate 1 D.dead).getD E.sl.length .dead).anyOwn=false
  rw [gDg,List.getElem?_append_right (Nat.le_refl _)]
  simp [D.anyOwn,D.comps,D.leaves1,D.isOwn]) (own_of_strs (cs:=(zs.map fun s=>vS s).toArray) (fr:=(0,0)) he (heap_alloc_new w _) (by show (if (⟨false,E.sl.length,0⟩:Lf)=_ then _ else _); rw [if_pos rfl]) (fun o ho h=>by simp at h) (by simp) (Nat.le_refl _) hz hl (fun j s hj=>by
   rw [Nat.zero_add,List.getElem?_toArray,List.getElem?_map,hj]; rfl))
 refine ⟨F',?_⟩
 have e1:(E.sl++List.replicate 1 D.dead).set E.sl.length (.own e (rowsS zs))=E.sl++[.own e (rowsS zs)]:=by
  rw [List.set_append_right _ _ (Nat.le_refl _)]
  simp
 have e2:(a.tmps++Array.replicate 1 undef).setIfInBounds E.sl.length (.slice (some ⟨w.heap.size,0,none⟩) zs.length zs.length)=a.tmps.push (.slice (some ⟨w.heap.size,0,none⟩) zs.length zs.length):=by
  rw [←hsz]
  exact set_push a.tmps _
 have R4:Rel w0 L { P:=P,E:=⟨(E.sl++List.replicate 1 D.dead).set E.sl.length (.own e (rowsS zs)),E.ce++List.replicate 1 none⟩,a:={ tmps:=(a.tmps++Array.replicate 1 undef).setIfInBounds E.sl.length (.slice (some ⟨w.heap.size,0,none⟩) zs.length zs.length),defers:=[] },w:=w.alloc (.cells (zs.map fun s=>vS s).toArray e),F:=F',loc:=loc,M:=M }:=R3
 rw [e1,e2] at R4
 exact R4
theorem sem_callsT {P:Program} {f:FuncId} {Ein:Env} {r:Value} {d:D} (hent:∀ args w,(callFunc f args).run P w = .ok (.enter f args) w) (hd:∀ C t,SRel C t d r)
  (h:∀ (w:World) (a:Act) (F:Lf→Nat→Prop) (loc:Nat→Nat × Nat) (M:Nat→Prop),Rel w (lentOf Ein F loc) ⟨P,Ein,a,w,F,loc,M⟩→Calls P f a.tmps w fun e w'=>e = .returned r∧RowKit.Below w.heap.size w w') :
  Sem P f Ein ⟨Ein.sl++[d],Ein.ce++[none]⟩:=by
 intro w a F loc M R
 refine .inl ⟨hent _ _,(h w a F loc M R).mono ?_⟩
 rintro e w' ⟨rfl,hb⟩
 refine ⟨r,rfl,F,loc,fun _ _=>rfl,?_⟩
 have hl:a.tmps.size=Ein.sl.length:=R.tmps
 have R0:=R.drew (w':=w') ⟨hb.os,hb.tape,hb.output,hb.size,hb.block⟩
 have R1:=R0.pad 1
 have R2:=R1.put1 Ein.sl.length d r (by
  show ((Ein.sl++List.replicate 1 D.dead).getD Ein.sl.length .dead).anyOwn=false
  rw [gDg,List.getElem?_append_right (Nat.le_refl _)]
  simp [D.anyOwn,D.comps,D.leaves1,D.isOwn]) (hd _ _)
 have e1:(Ein.sl++List.replicate 1 D.dead).set Ein.sl.length d=Ein.sl++[d]:=by
  rw [List.set_append_right _ _ (Nat.le_refl _)]
  simp
 have e2:(a.tmps++Array.replicate 1 undef).setIfInBounds Ein.sl.length r=a.tmps.push r:=by
  rw [←hl]
  exact set_push a.tmps r
 have R3:Rel w (lentOf Ein F loc) { P:=P,E:=⟨(Ein.sl++List.replicate 1 D.dead).set Ein.sl.length d,Ein.ce++List.replicate 1 none⟩,a:={ tmps:=(a.tmps++Array.replicate 1 undef).setIfInBounds Ein.sl.length r,defers:=[] },w:=w',F:=F,loc:=loc,M:=M }:=R2
 rw [e1,e2] at R3
 exact R3
theorem srel_tup {vs:List Value} (h:∀ v,v∈vs→scal v=true) (C:Ctx) (t:Nat):SRel C t (.tup (vs.map .v)) (.tuple vs.toArray):=by
 refine .tup _ _ (by simp) fun i d hd => ?_
 rw [List.getElem?_map] at hd
 cases hv:vs[i]? with
 | none=>rw [hv] at hd; cases hd
 | some v =>
  rw [hv] at hd
  simp only [Option.map_some,Option.some.injEq] at hd
  subst hd
  have hs:=h v (List.mem_of_getElem? hv)
  have e:vs.toArray.getD i undef=v:=by
   have hi:=(gSm hv)
   obtain ⟨hi,hx⟩:=hi
   simp [Array.getD,hi,hx]
  rw [e]
  exact ⟨rfl,.leaf _ _ _ rfl (by cases v<;>first | rfl | simp [scal] at hs) (.v _ _ hs)⟩
theorem has_index (c:UInt8) (s:List UInt8):decide (0≤Lib.indexByte s c)=s.contains c:=(Lib.contains_iff_indexByte s c).symm
theorem c135 (s:List UInt8) (c:UInt8):Sem Tryz.prog 135 ⟨[.v (vS s),.v (vS [c])],[none,none]⟩ ⟨[.v (vS s),.v (vS [c]),.v (vB (s.contains c))],[none,none,none]⟩:=by
 refine sem_calls (Ein:=⟨[.v (vS s),.v (vS [c])],[none,none]⟩) (r:=vB (s.contains c)) (enter_of Tryz.func135 rfl rfl) rfl rfl rfl ?_
 intro w a F loc M R
 have h0:=slot_of R (i:=0) (d := .v (vS s)) rfl rfl (by simp)
 have h1:=slot_of R (i:=1) (d := .v (vS [c])) rfl rfl (by simp)
 rw [args2 R.tmps]
 generalize a.tmps.getD 0 undef=v0 at h0
 generalize a.tmps.getD 1 undef=v1 at h1
 cases h1
 cases h0
 have h:=lib_strings_Contains_one (ofL s) c w
 rw [show (ofL s).data.toList=s from rfl,has_index] at h
 exact h.mono fun e w' ⟨he,hw⟩=>⟨he,hw▸RowKit.Below.refl _ _⟩
theorem below_drew (w:World) (n:Nat):RowKit.Below w.heap.size w (w.drewN n):=by
 have x:=ext_drewN w n
 exact ⟨x.os,x.tape,x.output,x.size,x.kept⟩
theorem maxLen {w0:World} {L:Nat→Nat→Prop} {E:Env} {a:Act} {F:Lf→Nat→Prop} {loc:Nat→Nat × Nat} {M:Nat→Prop} (R:Rel w0 L ⟨Tryz.prog,E,a,w0,F,loc,M⟩):∃ m,w0.cell? ⟨0,0,none⟩=some (.int .i64 m):=by
 obtain ⟨B,hB,hL,hg⟩:=R.glob
 obtain ⟨v,hv,m,rfl⟩:=(hg w0 (fun _ _=>rfl)).2 _ List.mem_cons_self 0 (by kernel_rfl)
 exact ⟨m,hv⟩
theorem upto_all {c:UInt8} {s:List UInt8} (h:s.contains c=false):upto c s=s∧behind c s=[]:=by
 have hn:∀ b,b∈s→b≠c:=by
  intro b hb e
  subst e
  have:=List.contains_iff_mem.2 hb
  rw [h] at this; cases this
 refine ⟨upto_none c s hn,?_⟩
 unfold behind
 have:s.dropWhile (fun b=>b != c)=[]:=by
  clear h
  induction s with
  | nil=>rfl
  | cons b l ih =>
   have hb:=hn b List.mem_cons_self
   rw [List.dropWhile_cons,if_pos (by simpa using hb)]
   exact ih fun x hx=>hn x (List.mem_cons_of_mem _ hx)
 rw [this]; rfl
theorem c105 (s:List UInt8) (c:UInt8) (hs:s.length<4294967281):Sem Tryz.prog 105 ⟨[.v (vS s),.v (vS [c])],[none,none]⟩ ⟨[.v (vS s),.v (vS [c]),.tup [.v (vS (upto c s)),.v (vS (behind c s)),.v (vB (s.contains c))]],[none,none,none]⟩:=by
 have hu:(upto c s).length≤s.length:=by unfold upto; exact (List.takeWhile_sublist _).length_le
 have hb:(behind c s).length≤s.length:=by
  unfold behind
  have:=(List.dropWhile_sublist (l:=s) fun b=>b != c).length_le
  rw [List.length_drop]; omega
 refine sem_callsT (Ein:=⟨[.v (vS s),.v (vS [c])],[none,none]⟩) (r := .tuple [vS (upto c s),vS (behind c s),vB (s.contains c)].toArray) (enter_of Tryz.func105 rfl rfl) (srel_tup (vs:=[vS (upto c s),vS (behind c s),vB (s.contains c)]) (by
  intro v hv
  simp only [List.mem_cons,List.not_mem_nil,or_false] at hv
  rcases hv with rfl | rfl | rfl
  ·simp only [scal,decide_eq_true_eq]; show (upto c s).length≤_; omega
  ·simp only [scal,decide_eq_true_eq]; show (behind c s).length≤_; omega
  ·rfl)) ?_
 intro w a F loc M R
 have h0:=slot_of R (i:=0) (d := .v (vS s)) rfl rfl (by simp)
 have h1:=slot_of R (i:=1) (d := .v (vS [c])) rfl rfl (by simp)
 obtain ⟨m,hm⟩:=maxLen R
 rw [args2 R.tmps]
 generalize a.tmps.getD 0 undef=v0 at h0
 generalize a.tmps.getD 1 undef=v1 at h1
 cases h1
 cases h0
 have h:=lib_strings_Cut (ofL s) (ofL [c]) m w hs hm
 rw [show (ofL s).data.toList=s from rfl,show (ofL [c]).data.toList=[c] from rfl,cut_one] at h
 refine h.mono ?_
 rintro e w' ⟨rfl,n,rfl⟩
 refine ⟨?_,below_drew w n⟩
 cases hc:s.contains c
 ·obtain ⟨e1,e2⟩:=upto_all hc
  rw [e1,e2]; rfl
 ·rfl
theorem c184 (s p:List UInt8):Sem Tryz.prog 184 ⟨[.v (vS s),.v (vS p)],[none,none]⟩ ⟨[.v (vS s),.v (vS p),.v (vB (p.isPrefixOf s))],[none,none,none]⟩:=by
 refine sem_calls (Ein:=⟨[.v (vS s),.v (vS p)],[none,none]⟩) (r:=vB (p.isPrefixOf s)) (enter_of Tryz.func184 rfl rfl) rfl rfl rfl ?_
 intro w a F loc M R
 have h0:=slot_of R (i:=0) (d := .v (vS s)) rfl rfl (by simp)
 have h1:=slot_of R (i:=1) (d := .v (vS p)) rfl rfl (by simp)
 rw [args2 R.tmps]
 generalize a.tmps.getD 0 undef=v0 at h0
 generalize a.tmps.getD 1 undef=v1 at h1
 cases h1
 cases h0
 exact (lib_strings_HasPrefix (ofL s) (ofL p) w).mono fun e w' ⟨he,hw⟩=>⟨he,hw▸RowKit.Below.refl _ _⟩
def ascii (s:List UInt8):Prop:=∀ (j:Nat) b,s[j]? = some b→b.toNat<128
theorem c136 (s p:List UInt8) (hs:s.length<4294967281) (hp:p.length<4294967281) (hsa:ascii s) (ap:ascii p):Sem Tryz.prog 136 ⟨[.v (vS s),.v (vS p)],[none,none]⟩ ⟨[.v (vS s),.v (vS p),.v (vI (Lib.indexAny s p))],[none,none,none]⟩:=by
 refine sem_calls (Ein:=⟨[.v (vS s),.v (vS p)],[none,none]⟩) (r:=vI (Lib.indexAny s p)) (enter_of Tryz.func136 rfl rfl) rfl rfl rfl ?_
 intro w a F loc M R
 have h0:=slot_of R (i:=0) (d := .v (vS s)) rfl rfl (by simp)
 have h1:=slot_of R (i:=1) (d := .v (vS p)) rfl rfl (by simp)
 rw [args2 R.tmps]
 generalize a.tmps.getD 0 undef=v0 at h0
 generalize a.tmps.getD 1 undef=v1 at h1
 cases h1
 cases h0
 exact lib_strings_IndexAny_laid (ofL s) (ofL p) w hs hp hsa ap
theorem any_index (p:List UInt8):∀ s:List UInt8,Lib.containsAny s p=s.any fun b=>p.contains b
 | []=>by simp [Lib.containsAny,Lib.indexAny]
 | b::l=>by
  have ih:=any_index p l
  unfold Lib.containsAny at ih ⊢
  rw [Lib.indexAny,List.any_cons]
  have hge:=Lib.indexAny_ge p l
  cases hb:p.contains b
  ·rw [if_neg (by simp),Bool.false_or,←ih]
   by_cases h:Lib.indexAny l p=-1
   ·rw [h]; simp
   ·rw [if_neg (fun e=>h (beq_iff_eq.1 e))]
    rw [decide_eq_decide]; omega
  ·rw [if_pos rfl]; simp
theorem c185 (s p:List UInt8) (hs:s.length<4294967281) (hp:p.length<4294967281) (hsa:ascii s) (ap:ascii p):Sem Tryz.prog 185 ⟨[.v (vS s),.v (vS p)],[none,none]⟩ ⟨[.v (vS s),.v (vS p),.v (vB (s.any fun b=>p.contains b))],[none,none,none]⟩:=by
 refine sem_calls (Ein:=⟨[.v (vS s),.v (vS p)],[none,none]⟩) (r:=vB (s.any fun b=>p.contains b)) (enter_of Tryz.func185 rfl rfl) rfl rfl rfl ?_
 intro w a F loc M R
 have h0:=slot_of R (i:=0) (d := .v (vS s)) rfl rfl (by simp)
 have h1:=slot_of R (i:=1) (d := .v (vS p)) rfl rfl (by simp)
 rw [args2 R.tmps]
 generalize a.tmps.getD 0 undef=v0 at h0
 generalize a.tmps.getD 1 undef=v1 at h1
 cases h1
 cases h0
 have h:=lib_strings_ContainsAny_laid (ofL s) (ofL p) w hs hp hsa ap
 rw [show (ofL s).data.toList=s from rfl,show (ofL p).data.toList=p from rfl,any_index] at h
 exact h
theorem split_rows (s:List UInt8) (c:UInt8):((Lib.splitB (ofL [c]) 0 (Lib.countB (ofL s) (ofL [c])) (ofL s)).map Value.string).toArray=((spl c s).map fun x=>vS x).toArray:=by
 have h1:(Lib.splitB (ofL [c]) 0 (Lib.countB (ofL s) (ofL [c])) (ofL s)).map (·.data.toList)=spl c s:=by
  rw [Lib.splitB_data,show Lib.countB (ofL s) (ofL [c])=s.count c from Lib.count_one c s]
  exact spl_split c s
 rw [←h1,List.map_map]
 rfl
theorem c186 (s:List UInt8) (c:UInt8) (hs:s.length<4294967281):Sem Tryz.prog 186 ⟨[.v (vS s),.v (vS [c])],[none,none]⟩ ⟨[.v (vS s),.v (vS [c]),.own 9 (rowsS (spl c s))],[none,none,none]⟩:=by
 intro w a F loc M R
 refine .inl ⟨enter_of Tryz.func186 rfl rfl _ _,?_⟩
 have h0:=slot_of R (i:=0) (d := .v (vS s)) rfl rfl (by simp)
 have h1:=slot_of R (i:=1) (d := .v (vS [c])) rfl rfl (by simp)
 obtain ⟨m,hm⟩:=maxLen R
 have ha:=args2 R.tmps
 have hlen:=spl_len c s
 have hcn:=List.count_le_length (a:=c) (l:=s)
 obtain ⟨F',R'⟩:=R.pushStrs (e:=9) (by kernel_rfl) (spl c s) (by omega) (fun x hx=>by have:=spl_mem c s x hx; omega)
 have h:=lib_strings_Split (ofL s) (ofL [c]) m w hs hm (Nat.le_refl 1)
 rw [split_rows,show Lib.countB (ofL s) (ofL [c])=s.count c from Lib.count_one c s,←hlen] at h
 have ht:a.tmps = #[vS s,vS [c]]:=by
  rw [ha]
  generalize a.tmps.getD 0 undef=v0 at h0
  generalize a.tmps.getD 1 undef=v1 at h1
  cases h1
  cases h0
  rfl
 rw [ht]
 refine h.mono ?_
 rintro e w' ⟨rfl,rfl⟩
 refine ⟨_,rfl,F',loc,fun _ _=>rfl,?_⟩
 rw [←ht]
 exact R'
end Go.Proofs.YtbdfdfhamlmodaaGreatDoor.Fw
namespace Go.Proofs.YtbdfdfhamlmodaaGreatDoor.Fw
open Go
open Go.Proofs.Tryz
set_option maxRecDepth 100000
set_option maxHeartbeats 4000000
attribute [local congr] c_bnd c_slot c_cell c_all c_len c_chk c_asm c_opdR c_wp c_pwp c_pOps c_Done c_nx c_blk c_fin c_coeLeaf c_coeLeaves c_argR c_argsR c_partsR c_ite c_wpF c_OutF c_pHead c_pDraw
theorem vis_ascii {l:List UInt8} (h:(l.all fun b=>visB b.toNat)=true):ascii l:=by
 intro j b hb
 have:=List.all_eq_true.1 h b (List.mem_of_getElem? hb)
 unfold visB at this
 simp at this
 omega
def oD (e:TypeId) (b:Bool) (xs:List (List T)):D:=if b then .nil else .own e xs
theorem rowsS_snoc' {o:List (List UInt8)} {s:List UInt8}:rowsS o++[[T.v (vS s)]]=rowsS (o++[s]):=by simp [rowsS]
theorem rowsS_take {o:List (List UInt8)} {n:Nat}:(rowsS o).take n=rowsS (o.take n):=by simp [rowsS,List.map_take]
theorem oD_t {e:TypeId} {xs:List (List T)}:oD e true xs = .nil:=id rfl
theorem oD_f {e:TypeId} {xs:List (List T)}:oD e false xs = .own e xs:=id rfl
attribute [local go_sem] oD_t oD_f rowsS_length
theorem pct_pos {l:List UInt8} (h:[47].isPrefixOf l=true):1≤(pct l).length:=by
 cases l with
 | nil=>cases h
 | cons a l =>
  rw [show a=47 from (by simpa using h:47=a).symm]
  match l with
  | []=>decide
  | [b]=>simp [pct]
  | b::c::l=>rw [pct,if_neg (by simp)]; simp
section
variable (l:List UInt8)
theorem c139a (h1:[47].isPrefixOf l=false):Q1 139 (.v (vS l)) (.v (vS [])):=by
 refine sb 1 [.tm 2] func139 ?_
 refine call0 (c184 l [47]) ?_
 exact fz
theorem c139b (hl:l.length≤9223372036854775807) (h1:[47].isPrefixOf l=true) (h2:(200:Int)<(l.length:Int)):Q1 139 (.v (vS l)) (.v (vS [])):=by
 refine sb 1 [.tm 2] func139 ?_
 refine call0 (c184 l [47]) ?_
 exact fz
theorem c139c (hl:l.length≤9223372036854775807) (h1:[47].isPrefixOf l=true) (h2:¬ (200:Int)<(l.length:Int)) (h3:(l.all fun b=>visB b.toNat)=false):Q1 139 (.v (vS l)) (.v (vS [])):=by
 refine sb 1 [.tm 2] func139 ?_
 refine call0 (c184 l [47]) ?_
 refine call0 (c133 l 134 visB rfl rfl c134 hl) ?_
 exact fz
theorem c139d (hl:l.length≤9223372036854775807) (h1:[47].isPrefixOf l=true) (h2:¬ (200:Int)<(l.length:Int)) (h3:(l.all fun b=>visB b.toNat)=true) (h4:(l.any fun b=>[35,63].contains b)=true):Q1 139 (.v (vS l)) (.v (vS [])):=by
 refine sb 1 [.tm 2] func139 ?_
 refine call0 (c184 l [47]) ?_
 refine call0 (c133 l 134 visB rfl rfl c134 hl) ?_
 have h5:=c185 l [35,63] (by omega) (by decide) (vis_ascii h3) (fun j b h=>by match j,h with | 0,h=>(injection h with h; subst h; decide) | 1,h=>(injection h with h; subst h; decide) | n+2,h=>cases h)
 rw [h4] at h5
 refine call0 h5 ?_
 exact fz
theorem c139e (hl:l.length≤9223372036854775807) (h1:[47].isPrefixOf l=true) (h2:¬ (200:Int)<(l.length:Int)) (h3:(l.all fun b=>visB b.toNat)=true) (h4:(l.any fun b=>[35,63].contains b)=false):Q1 139 (.v (vS l)) (.v (vS (47::Lib.join (normC (spl 47 ((pct l).drop 1))) [47]))):=by
 refine sb 1 [.tm 2] func139 ?_
 refine call0 (c184 l [47]) ?_
 refine call0 (c133 l 134 visB rfl rfl c134 hl) ?_
 have h5:=c185 l [35,63] (by omega) (by decide) (vis_ascii h3) (fun j b h=>by match j,h with | 0,h=>(injection h with h; subst h; decide) | 1,h=>(injection h with h; subst h; decide) | n+2,h=>cases h)
 rw [h4] at h5
 refine call0 h5 ?_
 refine call0 (c187 l (by omega)) ?_
 have hp:1≤(pct l).length:=pct_pos h1
 refine And.intro hp ?_
 obtain ⟨h6,h7,h8,h9⟩:=cat_le (l:=l) (by omega)
 have h10:=join_le (l:=l) (by omega)
 have h11:=c186 ((pct l).drop 1) 47 (by have:=pct_len l; rw [List.length_drop]; omega)
 have h12:=spl_ne 47 ((pct l).drop 1)
 refine call0 h11 ?_
 clear h11 hp h5
 generalize spl 47 ((pct l).drop 1)=g at h6 h7 h8 h9 h10 h12 ⊢
 with_reducible intro hg
 refine loop_on (fun s:Nat × Bool=>pE 69 ([.dead,.dead,.dead,oD 9 s.2 (rowsS ((g.take s.1).foldl stepC [])),.own 9 (rowsS g)]++List.replicate 24 .dead++[.ali ⟨false,4,0⟩,.v (vI g.length),.v (vI s.1)])) [3,4,29,30,31] (fun s=>s.1≤g.length∧(s.2=true→(g.take s.1).foldl stepC []=[])) (fun s=>g.length-s.1) (0,true) rfl ⟨by simp,fun _=>rfl⟩ ?_
 rintro ⟨i,b⟩ ⟨hi,hb⟩
 simp only at hi hb
 have hlo:=foldC_len (g.take i) []
 rw [List.length_take,List.length_nil] at hlo
 by_cases hc:i<g.length
 ·have hw:=wrapN hc hg
  have h13:=rowsS_getD hc
  have hst:=step_snoc hc
  generalize (g.take i).foldl stepC []=o at hb hst hlo ⊢
  generalize g.getD i []=s at hst h13
  cases e1:s==[46]
  ·cases e2:s==[46,46]
   ·have hs:stepC o s=o++[s]:=by unfold stepC; rw [e1,e2]; rfl
    rw [hs] at hst
    clear hs
    cases b
    ·refine Z ?_
     refine And.intro (by omega) ⟨(i+1,false),?_,⟨hc,fun h=>by cases h⟩,by simp only; omega⟩
     dsimp only
     rw [hst,oD_f,←rowsS_snoc']; rfl
    ·rw [hb rfl] at hst ⊢
     refine Z ?_
     refine ⟨(i+1,false),?_,⟨hc,fun h=>by cases h⟩,by simp only; omega⟩
     dsimp only
     rw [hst]; rfl
   ·have hs:stepC o s=o.take (o.length-1):=by unfold stepC; rw [e1,e2]; rfl
    rw [hs] at hst
    clear hs
    cases b
    ·have hm:(if (0:Int)<IntKind.i64.wrap ((o.length:Int)-1) then IntKind.i64.wrap ((o.length:Int)-1) else 0)=((o.length-1:Nat):Int):=by
      rw [wrapI (by omega)]; split<;>omega
     have hol:o.length≤9223372036854775807:=by omega
     refine Z ?_
     refine And.intro (by omega) ⟨(i+1,false),?_,⟨hc,fun h=>by cases h⟩,by simp only; omega⟩
     dsimp only
     rw [hst,oD_f,←rowsS_take]; rfl
    ·have hm1:IntKind.i64.wrap (-1)=-1:=by decide
     rw [hb rfl] at hst ⊢
     refine Z ?_
     refine ⟨(i+1,true),?_,⟨hc,fun h=>by rw [hst]; rfl⟩,by simp only; omega⟩
     rfl
  ·have hs:stepC o s=o:=by unfold stepC; rw [e1]; rfl
   rw [hs] at hst
   clear hs
   cases b
   ·refine Z ?_
    refine ⟨(i+1,false),?_,⟨hc,fun h=>by cases h⟩,by simp only; omega⟩
    dsimp only
    rw [hst]; rfl
   ·refine Z ?_
    refine ⟨(i+1,true),?_,⟨hc,fun h=>by rw [hst]; exact hb rfl⟩,by simp only; omega⟩
    rfl
 ·have hi':i=g.length:=by omega
  rw [hi',List.take_length] at hb hlo
  rw [hi',List.take_length]
  have hw:IntKind.i64.wrap ((g.length:Int)-1)=((g.length-1:Nat):Int):=by
   have:g.length≠0:=fun h=>h12 (List.length_eq_zero_iff.1 h)
   rw [wrapI (by omega)]; omega
  have hlt:g.length-1<g.length:=by
   have:g.length≠0:=fun h=>h12 (List.length_eq_zero_iff.1 h)
   omega
  have h13:=rowsS_getD hlt
  unfold normC at h6 h7 h10 ⊢
  generalize g.foldl stepC []=o at hb hlo h6 h7 h10 ⊢
  generalize g.getD (g.length-1) []=s at h6 h7 h10 h13 ⊢
  cases e1:s==[46]
  ·cases e2:s==[46,46]
   ·rw [dotsB,e1,e2,if_neg (by simp)] at h10 h7 ⊢
    have h14:=c188 o [47] (by omega) (by omega)
    cases b
    ·refine Z ?_
     refine call0 h14 ?_
     exact ⟨by omega,fz⟩
    ·rw [hb rfl] at h14 h10 ⊢
     refine Z ?_
     refine call0 h14 ?_
     exact ⟨by omega,fz⟩
   ·rw [dotsB,e1,e2,if_pos (by simp)] at h10 h7 ⊢
    have h14:=c188 (o++[[]]) [47] (by omega) (by omega)
    rw [←rowsS_snoc'] at h14
    cases b
    ·refine Z ?_
     refine And.intro (by omega) ?_
     refine call0 h14 ?_
     exact ⟨by omega,fz⟩
    ·rw [hb rfl] at h14 h10 ⊢
     refine Z ?_
     refine call0 h14 ?_
     exact ⟨by have h:(Lib.join [[]] [47]).length≤100000:=h10; omega,fz⟩
  ·rw [dotsB,e1,if_pos (by simp)] at h10 h7 ⊢
   have h14:=c188 (o++[[]]) [47] (by omega) (by omega)
   rw [←rowsS_snoc'] at h14
   cases b
   ·refine Z ?_
    refine And.intro (by omega) ?_
    refine call0 h14 ?_
    exact ⟨by omega,fz⟩
   ·rw [hb rfl] at h14 h10 ⊢
    refine Z ?_
    refine call0 h14 ?_
    exact ⟨by have h:(Lib.join [[]] [47]).length≤100000:=h10; omega,fz⟩
theorem c139 (hl:l.length≤9223372036854775807):Q1 139 (.v (vS l)) (.v (vS (cleanB l))):=by
 cases h1:[47].isPrefixOf l
 ·rw [cleanB,clean0,h1]; exact c139a l h1
 by_cases h2:(200:Int)<l.length
 ·rw [cleanB,clean0,h1,decide_eq_false (by omega)]; exact c139b l hl h1 h2
 have h2':decide (l.length≤200)=true:=decide_eq_true (by omega)
 cases h3:l.all fun b=>visB b.toNat
 ·rw [cleanB,clean0,h1,h2',h3]; exact c139c l hl h1 h2 h3
 cases h4:l.any fun b=>[35,63].contains b
 ·rw [cleanB,clean0,h1,h2',h3,h4]; exact c139e l hl h1 h2 h3 h4
 ·rw [cleanB,clean0,h1,h2',h3,h4]; exact c139d l hl h1 h2 h3 h4
end
theorem c217p (x y:UInt8) (hx:0≤hexI x.toNat) (hy:0≤hexI y.toNat):Q1 217 (.v (vS [x,y])) (.tup [.v (vI (hv x y)),.v (vB true)]):=by
 have h:=c217 [x,y] (by simp)
 have ha:([x,y].all fun b=>decide (0≤hexI b.toNat))=true:=by simp [hx,hy]
 rw [ha,if_pos rfl] at h
 have e:valH [x,y] 0=hv x y:=by unfold hv; simp only [valH]; omega
 rw [e] at h
 exact h
theorem c217n (x y:UInt8) (hn:¬ (0≤hexI x.toNat∧0≤hexI y.toNat)):Q1 217 (.v (vS [x,y])) (.tup [.v (vI 0),.v (vB false)]):=by
 have h:=c217 [x,y] (by simp)
 have ha:([x,y].all fun b=>decide (0≤hexI b.toNat))=false:=by
  cases e:([x,y].all fun b=>decide (0≤hexI b.toNat))
  ·rfl
  ·simp at e; exact absurd e hn
 rw [ha,if_neg (show ¬ (false=true) from Bool.false_ne_true)] at h
 exact h
theorem two_at {l:List UInt8} {i:Nat} (h:i+2<l.length):(l.drop (i+1)).take (i+3-(i+1))=[l.getD (i+1) 0,l.getD (i+2) 0]:=by
 rw [show i+3-(i+1)=2 from by omega,dropAt (i:=i+1) (by omega),dropAt (i:=i+1+1) (by omega)]
 rfl
theorem c176 (l : List UInt8) (hl : l.length ≤ 1048576) : Q1 176 (.v (vS l)) (.v (vS (pct l))) := by
  refine sem_fin (cfg := cfg 1) (ts := [.tm 2]) tbOk func176 rfl rfl rfl rfl (fun t h => by cases h) ?_
  have hL : l.length ≤ 9223372036854775807 := by omega
  have hpl := pct_len l
  simp only [go_sem,Nat.reduceSub,f176,cfg]
  refine loop_on (fun s : Nat × List UInt8 => pE 75 [.v (vS l),.dead,.v (vS []),sd 5 (bytesRows s.2),.v (vI s.1)]) [0,2,3,4] (fun s => s.1 ≤ l.length ∧ s.2 ++ pct (l.drop s.1) = pct l) (fun s => l.length - s.1) (0,[]) rfl ⟨by simp,by simp⟩ ?_
  rintro ⟨i,out⟩ ⟨hi,hsp⟩
  simp only at hi hsp
  have hol : out.length ≤ l.length := by
    have := congrArg List.length hsp
    rw [List.length_append] at this
    omega
  simp only
  generalize hacc : bytesRows out = acc
  cases acc with
  | nil =>
    have hlo : (1 : Nat) * 1 ≤ 140737488355328 := by omega
    have hlo3 : (3 : Nat) * 1 ≤ 140737488355328 := by omega
    have hla : (1 : Nat) ≤ 140737488355328 := by omega
    have hla3 : (3 : Nat) ≤ 140737488355328 := by omega
    simp only [go_sem,sd_nil]
    try (with_reducible intro hlen)
    by_cases hc : i < l.length
    · have hw := wrapN hc hL
      have w2 : IntKind.i64.wrap ((i : Int) + 2) = ((i + 2 : Nat) : Int) := by rw [wrapI (by omega)]; omega
      by_cases h37 : l.getD i 0 = 37
      · have e37 : (((l.getD i 0).toNat : Int) != 37) = false := by rw [h37]; decide
        by_cases hg : i + 2 < l.length
        · have hg1 : i + 1 < l.length := by omega
          have hg2 : ¬ (l.length ≤ i + 2) := by omega
          have hg3 : i + 3 ≤ l.length := by omega
          have hg4 : i + 1 ≤ i + 3 := by omega
          have w4 : IntKind.i64.wrap ((i : Int) + 3) = ((i + 3 : Nat) : Int) := by rw [wrapI (by omega)]; omega
          have w3 : IntKind.i64.wrap (((i + 2 : Nat) : Int) + 1) = ((i + 3 : Nat) : Int) := by rw [wrapI (by omega)]; omega
          have hsl := two_at hg
          by_cases hx : 0 ≤ hexI (l.getD (i + 1) 0).toNat ∧ 0 ≤ hexI (l.getD (i + 2) 0).toNat
          · have hle := hv_le _ _ hx.1 hx.2
            have m3 : IntKind.u8.wrap (hv (l.getD (i + 1) 0) (l.getD (i + 2) 0)) = hv (l.getD (i + 1) 0) (l.getD (i + 2) 0) := w8 hle
            cases hf : freeI (hv (l.getD (i + 1) 0) (l.getD (i + 2) 0))
            · have s1 := (upU_nat (l.getD (i + 1) 0)).symm
              have s2 := (upU_nat (l.getD (i + 2) 0)).symm
              simp only [go_sem,hc,hL,hw,w2,w4,e37,hg2,hg3,hg4,hsl]
              refine cf (c217p _ _ hx.1 hx.2) ?_
              simp only [go_sem,Nat.reduceAdd,Nat.reduceBNe,m3]
              refine cf (c218 _ hle.1 hle.2) ?_
              simp only [go_sem,Nat.reduceAdd,Nat.reduceBNe,hf]
              refine draw_intro 12 [[41,42,43,44,45,46,47,48,49,50,51],[40,42,43,44,45,46,47,48,49,50,51],[40,41,43,44,45,46,47,48,49,50,51],[40,41,44,45,46,47,48,49,50,51],[40,42,45,46,47,48,49,50,51],[40,41,42,43,46,47,48,49,50,51],[40,41,42,43,44,45,47,48,49,50,51],[40,41,42,43,44,45,46,48,49,50,51],[40,41,42,43,44,45,46,49,50,51],[40,41,42,43,44,45,47,50,51],[40,41,42,43,44,46,47,48,51],[40,41,42,43,44,46,47,48,49]] mixedOk rfl ?_
              simp only [go_sem,Nat.reduceLeDiff,Nat.reduceLT,Nat.reduceAdd,Nat.reduceMul,Nat.reduceBEq,hw,hg1]
              refine df (c219 _ (u0 _) (u255 _)) ?_
              simp only [go_sem,Nat.reduceBEq,w2,hg]
              refine df (c219 _ (u0 _) (u255 _)) ?_
              simp only [go_sem,Nat.reduceLT,Nat.reduceAdd,Nat.reduceMul,Nat.reduceBEq,Nat.reduceBNe,Nat.reduceEqDiff,reduceCtorEq,Nat.reduceDiv,Nat.reduceMod,s1,s2,hlo3,w2,w3]
              first
                | (refine ⟨(i + 3,out ++ pctP (l.getD (i + 1) 0) (l.getD (i + 2) 0)),?_,⟨by simp only; omega,?_⟩,by simp only; omega⟩
                   · rw [pctP_own3 _ _ hacc hf]; rfl
                   · rw [← hsp,pct_step3 hg h37 hx.1 hx.2]; simp)
               
            · simp only [go_sem,hc,hL,hw,w2,w4,e37,hg2,hg3,hg4,hsl]
              refine cf (c217p _ _ hx.1 hx.2) ?_
              simp only [go_sem,Nat.reduceAdd,Nat.reduceBNe,m3]
              refine cf (c218 _ hle.1 hle.2) ?_
              simp only [go_sem,Nat.reduceLeDiff,Nat.reduceLT,Nat.reduceAdd,Nat.reduceMul,Nat.reduceBNe,Nat.reduceEqDiff,reduceCtorEq,Nat.reduceDiv,Nat.reduceMod,hf,m3,hlo,w2,w3]
              first
                | (refine ⟨(i + 3,out ++ pctP (l.getD (i + 1) 0) (l.getD (i + 2) 0)),?_,⟨by simp only; omega,?_⟩,by simp only; omega⟩
                   · rw [pctP_own1 _ _ hacc hx.1 hx.2 hf]; rfl
                   · rw [← hsp,pct_step3 hg h37 hx.1 hx.2]; simp)
               
          · simp only [go_sem,hc,hL,hw,w2,w4,e37,hg2,hg3,hg4,hsl]
            refine cf (c217n _ _ hx) ?_
            simp only [go_sem,Nat.reduceLeDiff,Nat.reduceLT,Nat.reduceAdd,Nat.reduceMul,Nat.reduceBNe,Nat.reduceEqDiff,reduceCtorEq,Nat.reduceDiv,Nat.reduceMod,hc,hw,hlo]
            first
              | (refine ⟨(i + 1,out ++ [l.getD i 0]),?_,⟨hc,?_⟩,by simp only; omega⟩
                 · rw [snoc_own _ hacc]; rfl
                 · rw [← hsp,pct_step1 hc (fun h => hx ⟨h.2.2.1,h.2.2.2⟩)]; simp)
             
        · have hg2 : l.length ≤ i + 2 := by omega
          simp only [go_sem,Nat.reduceLeDiff,Nat.reduceLT,Nat.reduceAdd,Nat.reduceMul,Nat.reduceBNe,Nat.reduceEqDiff,reduceCtorEq,Nat.reduceDiv,Nat.reduceMod,hlo,hc,hL,hw,e37,w2,hg2]
          first
            | (refine ⟨(i + 1,out ++ [l.getD i 0]),?_,⟨hc,?_⟩,by simp only; omega⟩
               · rw [snoc_own _ hacc]; rfl
               · rw [← hsp,pct_step1 hc (fun h => hg h.2.1)]; simp)
           
      · have e37 : (((l.getD i 0).toNat : Int) != 37) = true := by
          rw [bne_iff_ne]; intro e; exact h37 (UInt8.toNat_inj.1 (by rw [show (37 : UInt8).toNat = 37 from rfl]; omega))
        simp only [go_sem,Nat.reduceLeDiff,Nat.reduceLT,Nat.reduceAdd,Nat.reduceMul,Nat.reduceBNe,Nat.reduceEqDiff,reduceCtorEq,Nat.reduceDiv,Nat.reduceMod,hlo,hc,hw,e37]
        first
          | (refine ⟨(i + 1,out ++ [l.getD i 0]),?_,⟨hc,?_⟩,by simp only; omega⟩
             · rw [snoc_own _ hacc]; rfl
             · rw [← hsp,pct_step1 hc (fun h => h37 h.1)]; simp)
         
    · have he : i = l.length := by omega
      subst he
      have hsp2 : out = pct l := by rw [← hsp]; simp [pct]
      simp only [go_sem,Nat.reduceBNe,hc]
      first | (refine fq ?_; rw [show pct l = [] by rw [← hsp2,← rowsBytes_bytesRows out,hacc]; rfl]; rfl)
  | cons x xs =>
    have hlo : (xs.length + 1 + 1) * 1 ≤ 140737488355328 := by have h9 := congrArg List.length hacc; rw [bytesRows_length] at h9; simp only [List.length_cons] at h9; omega
    have hlo3 : (xs.length + 1 + 1 + 1 + 1) * 1 ≤ 140737488355328 := by have h9 := congrArg List.length hacc; rw [bytesRows_length] at h9; simp only [List.length_cons] at h9; omega
    have hla : (xs.length + 1 + 1) ≤ 140737488355328 := by have h9 := congrArg List.length hacc; rw [bytesRows_length] at h9; simp only [List.length_cons] at h9; omega
    have hla3 : (xs.length + 1 + 1 + 1 + 1) ≤ 140737488355328 := by have h9 := congrArg List.length hacc; rw [bytesRows_length] at h9; simp only [List.length_cons] at h9; omega
    simp only [go_sem,sd_cons]
    try (with_reducible intro hlen)
    by_cases hc : i < l.length
    · have hw := wrapN hc hL
      have w2 : IntKind.i64.wrap ((i : Int) + 2) = ((i + 2 : Nat) : Int) := by rw [wrapI (by omega)]; omega
      by_cases h37 : l.getD i 0 = 37
      · have e37 : (((l.getD i 0).toNat : Int) != 37) = false := by rw [h37]; decide
        by_cases hg : i + 2 < l.length
        · have hg1 : i + 1 < l.length := by omega
          have hg2 : ¬ (l.length ≤ i + 2) := by omega
          have hg3 : i + 3 ≤ l.length := by omega
          have hg4 : i + 1 ≤ i + 3 := by omega
          have w4 : IntKind.i64.wrap ((i : Int) + 3) = ((i + 3 : Nat) : Int) := by rw [wrapI (by omega)]; omega
          have w3 : IntKind.i64.wrap (((i + 2 : Nat) : Int) + 1) = ((i + 3 : Nat) : Int) := by rw [wrapI (by omega)]; omega
          have hsl := two_at hg
          by_cases hx : 0 ≤ hexI (l.getD (i + 1) 0).toNat ∧ 0 ≤ hexI (l.getD (i + 2) 0).toNat
          · have hle := hv_le _ _ hx.1 hx.2
            have m3 : IntKind.u8.wrap (hv (l.getD (i + 1) 0) (l.getD (i + 2) 0)) = hv (l.getD (i + 1) 0) (l.getD (i + 2) 0) := w8 hle
            cases hf : freeI (hv (l.getD (i + 1) 0) (l.getD (i + 2) 0))
            · have s1 := (upU_nat (l.getD (i + 1) 0)).symm
              have s2 := (upU_nat (l.getD (i + 2) 0)).symm
              simp only [go_sem,hc,hL,hw,w2,w4,e37,hg2,hg3,hg4,hsl]
              refine cf (c217p _ _ hx.1 hx.2) ?_
              simp only [go_sem,Nat.reduceAdd,Nat.reduceBNe,m3]
              refine cf (c218 _ hle.1 hle.2) ?_
              simp only [go_sem,Nat.reduceAdd,Nat.reduceBNe,hf]
              refine draw_intro 12 [[41,42,43,44,45,46,47,48,49,50,51],[40,42,43,44,45,46,47,48,49,50,51],[40,41,43,44,45,46,47,48,49,50,51],[40,41,44,45,46,47,48,49,50,51],[40,42,45,46,47,48,49,50,51],[40,41,42,43,46,47,48,49,50,51],[40,41,42,43,44,45,47,48,49,50,51],[40,41,42,43,44,45,46,48,49,50,51],[40,41,42,43,44,45,46,49,50,51],[40,41,42,43,44,45,47,50,51],[40,41,42,43,44,46,47,48,51],[40,41,42,43,44,46,47,48,49]] mixedOk rfl ?_
              simp only [go_sem,Nat.reduceLeDiff,Nat.reduceLT,Nat.reduceAdd,Nat.reduceMul,Nat.reduceBEq,hw,hg1]
              refine df (c219 _ (u0 _) (u255 _)) ?_
              simp only [go_sem,Nat.reduceBEq,w2,hg]
              refine df (c219 _ (u0 _) (u255 _)) ?_
              simp only [go_sem,Nat.reduceLT,Nat.reduceAdd,Nat.reduceMul,Nat.reduceBEq,Nat.reduceBNe,Nat.reduceEqDiff,reduceCtorEq,Nat.reduceDiv,Nat.reduceMod,s1,s2,hlo3,w2,w3]
              first
                | (refine ⟨(i + 3,out ++ pctP (l.getD (i + 1) 0) (l.getD (i + 2) 0)),?_,⟨by simp only; omega,?_⟩,by simp only; omega⟩
                   · rw [pctP_own3 _ _ hacc hf]; rfl
                   · rw [← hsp,pct_step3 hg h37 hx.1 hx.2]; simp)
               
            · simp only [go_sem,hc,hL,hw,w2,w4,e37,hg2,hg3,hg4,hsl]
              refine cf (c217p _ _ hx.1 hx.2) ?_
              simp only [go_sem,Nat.reduceAdd,Nat.reduceBNe,m3]
              refine cf (c218 _ hle.1 hle.2) ?_
              simp only [go_sem,Nat.reduceLeDiff,Nat.reduceLT,Nat.reduceAdd,Nat.reduceMul,Nat.reduceBNe,Nat.reduceEqDiff,reduceCtorEq,Nat.reduceDiv,Nat.reduceMod,hf,m3,hlo,w2,w3]
              first
                | (refine ⟨(i + 3,out ++ pctP (l.getD (i + 1) 0) (l.getD (i + 2) 0)),?_,⟨by simp only; omega,?_⟩,by simp only; omega⟩
                   · rw [pctP_own1 _ _ hacc hx.1 hx.2 hf]; rfl
                   · rw [← hsp,pct_step3 hg h37 hx.1 hx.2]; simp)
               
          · simp only [go_sem,hc,hL,hw,w2,w4,e37,hg2,hg3,hg4,hsl]
            refine cf (c217n _ _ hx) ?_
            simp only [go_sem,Nat.reduceLeDiff,Nat.reduceLT,Nat.reduceAdd,Nat.reduceMul,Nat.reduceBNe,Nat.reduceEqDiff,reduceCtorEq,Nat.reduceDiv,Nat.reduceMod,hc,hw,hlo]
            first
              | (refine ⟨(i + 1,out ++ [l.getD i 0]),?_,⟨hc,?_⟩,by simp only; omega⟩
                 · rw [snoc_own _ hacc]; rfl
                 · rw [← hsp,pct_step1 hc (fun h => hx ⟨h.2.2.1,h.2.2.2⟩)]; simp)
             
        · have hg2 : l.length ≤ i + 2 := by omega
          simp only [go_sem,Nat.reduceLeDiff,Nat.reduceLT,Nat.reduceAdd,Nat.reduceMul,Nat.reduceBNe,Nat.reduceEqDiff,reduceCtorEq,Nat.reduceDiv,Nat.reduceMod,hlo,hc,hL,hw,e37,w2,hg2]
          first
            | (refine ⟨(i + 1,out ++ [l.getD i 0]),?_,⟨hc,?_⟩,by simp only; omega⟩
               · rw [snoc_own _ hacc]; rfl
               · rw [← hsp,pct_step1 hc (fun h => hg h.2.1)]; simp)
           
      · have e37 : (((l.getD i 0).toNat : Int) != 37) = true := by
          rw [bne_iff_ne]; intro e; exact h37 (UInt8.toNat_inj.1 (by rw [show (37 : UInt8).toNat = 37 from rfl]; omega))
        simp only [go_sem,Nat.reduceLeDiff,Nat.reduceLT,Nat.reduceAdd,Nat.reduceMul,Nat.reduceBNe,Nat.reduceEqDiff,reduceCtorEq,Nat.reduceDiv,Nat.reduceMod,hlo,hc,hw,e37]
        first
          | (refine ⟨(i + 1,out ++ [l.getD i 0]),?_,⟨hc,?_⟩,by simp only; omega⟩
             · rw [snoc_own _ hacc]; rfl
             · rw [← hsp,pct_step1 hc (fun h => h37 h.1)]; simp)
         
    · have he : i = l.length := by omega
      subst he
      have hsp2 : out = pct l := by rw [← hsp]; simp [pct]
      simp only [go_sem,Nat.reduceBNe,Nat.reduceDiv,Nat.reduceMod,hc,← hacc,rowsBytes_bytesRows]
      first | (refine fq ?_; rw [← hsp2]; rfl)
def hostQ (n:Int):Bool:=isLowerB n || isDigitB n || (n==45)
def goodP (p:List UInt8):Bool := !(p==[])&&p.all fun b=>hostQ b.toNat
def hostB (l:List UInt8):Bool:=inB 1 60 l.length&&(spl 46 l).all goodP
theorem host_all (l:List UInt8):(spl 46 l).all goodP=((l.all fun b=>hostI b.toNat) && !((spl 46 l).contains [])):=by
 have h1:(spl 46 l).all goodP=((spl 46 l).all (fun p=>p.all fun b=>hostQ b.toNat)&&(spl 46 l).all (fun p => !(p==[]))):=by
  generalize spl 46 l=ps
  induction ps with
  | nil=>rfl
  | cons p ps ih =>
   simp only [List.all_cons,ih,goodP]
   cases (p==[])<;>cases (p.all fun b=>hostQ b.toNat)<;>simp
 have h2:∀ ps:List (List UInt8),ps.all (fun p => !(p==[])) = !(ps.contains []):=by
  intro ps
  induction ps with
  | nil=>rfl
  | cons p ps ih =>
   simp only [List.all_cons,ih,List.contains_cons]
   rw [show (([]:List UInt8)==p)=(p==[]) from Bool.beq_comm ..]
   cases (p==[])<;>simp
 rw [h1,h2,spl_all]
 congr 1
 congr 1
 funext b
 unfold hostI hostQ
 have h3:(b==46)=((b.toNat:Int)==46):=by
  rw [Bool.eq_iff_iff,beq_iff_eq,beq_iff_eq,←UInt8.toNat_inj]
  show b.toNat=46↔_
  omega
 rw [h3]
 cases isLowerB b.toNat<;>cases isDigitB b.toNat<;>cases ((b.toNat:Int)==45)<;>cases ((b.toNat:Int)==46)<;>rfl
theorem sd_spl (c:UInt8) (l:List UInt8):sd 9 (rowsS (spl c l)) = .own 9 (rowsS (spl c l)):=by
 cases h:spl c l with
 | nil=>exact absurd h (spl_ne c l)
 | cons x xs=>rfl
theorem c175o (l:List UInt8) (c:UInt8) (hl:l.length≤1048576):Q2 175 (.v (vS l)) (.v (vC c.toNat)) (.own 9 (rowsS (spl c l))):=by
 have h:=c175 l c hl
 rw [sd_spl] at h
 exact h
theorem c189a (l:List UInt8) (hl:l.length≤1048576) (h:inB 1 60 l.length=false):Q1 189 (.v (vS l)) (.v (vB (false))):=by
 refine sf 1 [.tm 2] func189 ?_
 have hL:l.length≤9223372036854775807:=by omega
 have h7:=c116 l.length 1 60
 rw [h] at h7
 simp only [go_sem,Nat.reduceAdd,Nat.reduceSub,f189,cfg,hL]
 refine cf h7 ?_
 simp only [go_sem,Nat.reduceAdd,reduceCtorEq]
 exact fz
theorem c189b (l:List UInt8) (hl:l.length≤1048576) (h:inB 1 60 l.length=true) (h2:(l.all fun b=>hostI b.toNat)=false):Q1 189 (.v (vS l)) (.v (vB (false))):=by
 refine sf 1 [.tm 2] func189 ?_
 have hL:l.length≤9223372036854775807:=by omega
 have h7:=c116 l.length 1 60
 rw [h] at h7
 have h8:=c133 l 228 hostI rfl rfl c228 hL
 rw [h2] at h8
 simp only [go_sem,Nat.reduceAdd,Nat.reduceSub,f189,cfg,hL]
 refine cf h7 ?_
 simp only [go_sem,Nat.reduceAdd]
 refine cf h8 ?_
 simp only [go_sem,Nat.reduceAdd]
 exact fz
theorem c189c (l:List UInt8) (hl:l.length≤1048576) (h:inB 1 60 l.length=true) (h2:(l.all fun b=>hostI b.toNat)=true):Q1 189 (.v (vS l)) (.v (vB (!((spl 46 l).contains [])))):=by
 refine sf 1 [.tm 2] func189 ?_
 have hL:l.length≤9223372036854775807:=by omega
 have h7:=c116 l.length 1 60
 rw [h] at h7
 have h8:=c133 l 228 hostI rfl rfl c228 hL
 rw [h2] at h8
 have hlen:=spl_len 46 l
 have hcn:=List.count_le_length (a:=46) (l:=l)
 have h9:=c186 l 46 (by omega)
 have h10:=c114 (spl 46 l) [] (by omega)
 simp only [go_sem,Nat.reduceAdd,Nat.reduceSub,f189,cfg,hL]
 refine cf h7 ?_
 simp only [go_sem,Nat.reduceAdd]
 refine cf h8 ?_
 simp only [go_sem,Nat.reduceLeDiff,Nat.reduceAdd]
 refine cf h9 ?_
 simp only [go_sem,Nat.reduceAdd,Nat.reduceDiv,Nat.reduceMod]
 refine cf h10 ?_
 simp only [go_sem,Nat.reduceAdd,Nat.reduceBNe]
 exact fz
theorem c189 (l:List UInt8) (hl:l.length≤1048576):Q1 189 (.v (vS l)) (.v (vB (hostB l))):=by
 unfold hostB
 rw [host_all]
 cases h:inB 1 60 l.length
 ·exact c189a l hl h
 ·cases h2:l.all fun b=>hostI b.toNat
  ·exact c189b l hl h h2
  ·exact c189c l hl h h2
theorem c177a (l:List UInt8) (hl:l.length≤1048576) (h:inB 1 60 l.length=false):Q1 177 (.v (vS l)) (.v (vB (false))):=by
 refine sf 1 [.tm 2] func177 ?_
 have hL:l.length≤9223372036854775807:=by omega
 have hb:¬ (1≤l.length∧l.length≤60):=by
  intro hh; unfold inB at h; simp at h; omega
 simp only [go_sem,Nat.reduceSub,f177,cfg]
 repeat' ((first | with_reducible intro _ | split)<;>(try simp only [go_sem,reduceCtorEq, *]))
 all_goals first
  | exact fz
  | (exfalso; omega)
  | (exfalso; simp only [beq_eq_false_iff_ne,ne_eq] at *; omega)
  
theorem c177b (l:List UInt8) (hl:l.length≤1048576) (h:inB 1 60 l.length=true):Q1 177 (.v (vS l)) (.v (vB ((spl 46 l).all goodP))):=by
 refine sf 1 [.tm 2] func177 ?_
 have hL:l.length≤9223372036854775807:=by omega
 have hb:1≤l.length∧l.length≤60:=by
  unfold inB at h; simp at h; omega
 have z1:¬ ((l.length:Int)=0):=by omega
 have z1b:((l.length:Int)==0)=false:=by rw [beq_eq_false_iff_ne]; exact z1
 have z2:¬ ((60:Int)<(l.length:Int)):=by omega
 have z3:¬ (60<l.length):=by omega
 have hsl:=spl_len 46 l
 have hcn:=List.count_le_length (a:=46) (l:=l)
 have hsm:=spl_mem 46 l
 have h86:=c175o l 46 hl
 simp only [go_sem,Nat.reduceSub,f177,cfg,z1b,z2,hL]
 refine cf h86 ?_
 generalize spl 46 l=ps at hsl hsm ⊢
 have hps:ps.length≤9223372036854775807:=by omega
 simp only [go_sem,Nat.reduceAdd,Nat.reduceBNe,Nat.reduceEqDiff,reduceCtorEq,Nat.reduceDiv,Nat.reduceMod]
 refine loop_on (fun i:Nat=>pE 59 [.v (vS l),.dead,.v (vB false),.own 9 (rowsS ps),.v (vI i)]) [0,2,3,4] (fun i=>i≤ps.length∧(ps.take i).all goodP=true) (fun i=>ps.length-i) 0 rfl ⟨by omega,by simp⟩ ?_
 intro i ⟨hi,hall⟩
 simp only [go_sem,Nat.reduceDiv,Nat.reduceMod,rowsS_length]
 try (with_reducible intro hlen)
 by_cases hc:i<ps.length
 ·have hw:=wrapN hc hps
  have h1:=rowsS_getD hc
  have hpl:(ps.getD i []).length≤1048576:=by
   have:ps.getD i []∈ps:=by rw [gDg,gEg hc]; exact List.getElem_mem hc
   have:=hsm _ this; omega
  have hpL:(ps.getD i []).length≤9223372036854775807:=by omega
  have hall1:=all_take_succ (p:=goodP) (d:=[]) hc
  rw [hall] at hall1
  have hfa:=fun hh=>all_false_at (p:=goodP) (d:=[]) hc hh
  generalize ps.getD i []=p at hpl hpL h1 hall1 hfa
  cases hp:p==[]
  ·simp only [go_sem,Nat.reduceDiv,Nat.reduceMod,rowsS_length,hc,h1,hp]
   refine loop_on (fun k:Nat=>pE 59 [.v (vS l),.dead,.v (vB false),.own 9 (rowsS ps),.v (vI i),.v (vI k)]) [0,2,3,4,5] (fun k=>k≤p.length∧(p.take k).all (fun b=>hostQ b.toNat)=true) (fun k=>p.length-k) 0 rfl ⟨by omega,by simp⟩ ?_
   intro k ⟨hk,hkall⟩
   simp only [go_sem,Nat.reduceDiv,Nat.reduceMod,rowsS_length,hc,h1,hpL]
   by_cases hkc:k<p.length
   ·have hkw:=wrapN hkc hpL
    cases hq:hostQ (p.getD k 0).toNat
    ·have hbad:goodP p=false:=by
      unfold goodP; rw [all_false_at hkc hq]; simp
     rw [hfa hbad]
     unfold hostQ isLowerB at hq
     simp only [Bool.or_eq_false_iff,Bool.and_eq_false_iff,decide_eq_false_iff_not] at hq
     obtain ⟨⟨q1,q2⟩,q3⟩:=hq
     have q4:(((p.getD k 0).toNat:Int) != 45)=true:=by rw [bne,q3]; rfl
     simp only [go_sem,Nat.reduceBNe,Nat.reduceDiv,Nat.reduceMod,rowsS_length,hc,h1,hkc]
     by_cases q5:97≤((p.getD k 0).toNat:Int)
     ·have q6:¬ (((p.getD k 0).toNat:Int)≤122):=by rcases q1 with q1 | q1<;>omega
      simp only [go_sem,q5,q6]
      refine cf (c174 _) ?_
      simp only [go_sem,Nat.reduceAdd,q2,q4]
      exact fz
     ·simp only [go_sem,q5]
      refine cf (c174 _) ?_
      simp only [go_sem,Nat.reduceAdd,q2,q4]
      exact fz
    ·have hnx:(p.take (k+1)).all (fun b=>hostQ b.toNat)=true:=by rw [all_take_succ (d:=0) hkc,hkall,hq]; rfl
     unfold hostQ isLowerB at hq
     simp only [Bool.or_eq_true,Bool.and_eq_true,decide_eq_true_eq,beq_iff_eq] at hq
     simp only [go_sem,Nat.reduceBNe,Nat.reduceDiv,Nat.reduceMod,rowsS_length,hc,h1,hkc]
     by_cases q5:97≤((p.getD k 0).toNat:Int)
     ·by_cases q6:((p.getD k 0).toNat:Int)≤122
      ·simp only [go_sem,Nat.reduceBNe,q5,q6,hkw]
       exact ⟨k+1,rfl,⟨hkc,hnx⟩,by omega⟩
      ·simp only [go_sem,q5,q6]
       refine cf (c174 _) ?_
       cases q7:isDigitB ((p.getD k 0).toNat:Int)
       ·have q8:(((p.getD k 0).toNat:Int) != 45)=false:=by
         rw [q7] at hq; rw [bne_eq_false_iff_eq]; rcases hq with (hq | hq) | hq
         ·omega
         ·cases hq
         ·exact hq
        simp only [go_sem,Nat.reduceAdd,Nat.reduceBNe,q8,hkw]
        exact ⟨k+1,rfl,⟨hkc,hnx⟩,by omega⟩
       ·simp only [go_sem,Nat.reduceAdd,Nat.reduceBNe,hkw]
        exact ⟨k+1,rfl,⟨hkc,hnx⟩,by omega⟩
     ·simp only [go_sem,q5]
      refine cf (c174 _) ?_
      cases q7:isDigitB ((p.getD k 0).toNat:Int)
      ·have q8:(((p.getD k 0).toNat:Int) != 45)=false:=by
        rw [q7] at hq; rw [bne_eq_false_iff_eq]; rcases hq with (hq | hq) | hq
        ·omega
        ·cases hq
        ·exact hq
       simp only [go_sem,Nat.reduceAdd,Nat.reduceBNe,q8,hkw]
       exact ⟨k+1,rfl,⟨hkc,hnx⟩,by omega⟩
      ·simp only [go_sem,Nat.reduceAdd,Nat.reduceBNe,hkw]
       exact ⟨k+1,rfl,⟨hkc,hnx⟩,by omega⟩
   ·simp only [go_sem,Nat.reduceBNe,hkc,hw]
    rw [List.take_of_length_le (by omega)] at hkall
    have hg:goodP p=true:=by unfold goodP; rw [hp,hkall]; rfl
    exact ⟨i+1,rfl,⟨hc,by rw [hall1,hg]; rfl⟩,by omega⟩
  ·have hbad:goodP p=false:=by unfold goodP; rw [hp]; rfl
   rw [hfa hbad]
   simp only [go_sem,Nat.reduceDiv,Nat.reduceMod,rowsS_length,hc,h1,hp]
   exact fz
 ·simp only [go_sem,hc]
  rw [List.take_of_length_le (by omega)] at hall
  rw [hall]
  exact fz
theorem c177 (l:List UInt8) (hl:l.length≤1048576):Q1 177 (.v (vS l)) (.v (vB (hostB l))):=by
 unfold hostB
 cases h:inB 1 60 l.length
 ·exact c177a l hl h
 ·exact c177b l hl h
attribute [local go_sem] oD_t oD_f rowsS_length
def pre (g:List (List UInt8)) (i:Nat):List (List UInt8):=if i=g.length then normC g else (g.take i).foldl stepC []
theorem pre_0 {g:List (List UInt8)}:pre g 0=[]:=by
 unfold pre
 split
 ·rename_i h
  rw [List.length_eq_zero_iff.1 h.symm]; rfl
 ·rfl
theorem pre_s {g:List (List UInt8)} {i:Nat} (h:i<g.length):pre g (i+1)=if (decide (i+1=g.length)&&dotsB (g.getD i []))=true then stepC (pre g i) (g.getD i [])++[[]] else stepC (pre g i) (g.getD i []):=by
 have e:pre g i=(g.take i).foldl stepC []:=if_neg (by omega)
 rw [e,←step_snoc h]
 unfold pre
 by_cases hl:i+1=g.length
 ·rw [if_pos hl,decide_eq_true hl,Bool.true_and,hl,List.take_length]
  unfold normC
  rw [show g.length-1=i by omega]
 ·rw [if_neg hl,decide_eq_false hl]; rfl
theorem pre_len {g:List (List UInt8)} {i:Nat} (h:i<g.length):(pre g i).length≤i:=by
 have e:pre g i=(g.take i).foldl stepC []:=if_neg (by omega)
 have:=foldC_len (g.take i) []
 rw [List.length_take,List.length_nil] at this
 rw [e]; omega
theorem stepC_a {o:List (List UInt8)} {s:List UInt8} (h:(s==[46])=true):stepC o s=o:=by unfold stepC; rw [if_pos h]
theorem stepC_b {o:List (List UInt8)} {s:List UInt8} (h:(s==[46])=false) (h2:(s==[46,46])=true):stepC o s=o.take (o.length-1):=by unfold stepC; rw [h,h2]; rfl
theorem stepC_c {o:List (List UInt8)} {s:List UInt8} (h:(s==[46])=false) (h2:(s==[46,46])=false):stepC o s=o++[s]:=by unfold stepC; rw [h,h2]; rfl
section
variable (l:List UInt8)
theorem c130a (hl:l.length≤9223372036854775807) (h1:((l.length:Int)==0)=true):Q1 130 (.v (vS l)) (.v (vS [])):=by
 refine sb 1 [.tm 2] func130 ?_
 exact fz
theorem c130b (hl:l.length≤9223372036854775807) (h1:((l.length:Int)==0)=false) (h2:(200:Int)<(l.length:Int)):Q1 130 (.v (vS l)) (.v (vS [])):=by
 refine sb 1 [.tm 2] func130 ?_
 exact fz
theorem c130c (hl:l.length≤9223372036854775807) (h1:((l.length:Int)==0)=false) (h2:¬ (200:Int)<(l.length:Int)) (h3:(((l.getD 0 0).toNat:Int) != 47)=true):Q1 130 (.v (vS l)) (.v (vS [])):=by
 have h4:0<l.length:=by rw [beq_eq_false_iff_ne] at h1; omega
 have h4i:(0:Int)<(l.length:Int):=by omega
 refine sb 1 [.tm 2] func130 ?_
 exact fz
theorem c130d (hl:l.length≤9223372036854775807) (h1:((l.length:Int)==0)=false) (h2:¬ (200:Int)<(l.length:Int)) (h3:(((l.getD 0 0).toNat:Int) != 47)=false) (h5:(l.all fun b=>visB b.toNat)=false):Q1 130 (.v (vS l)) (.v (vS [])):=by
 have h4:0<l.length:=by rw [beq_eq_false_iff_ne] at h1; omega
 have h4i:(0:Int)<(l.length:Int):=by omega
 have h6:=c99 l hl
 rw [h5] at h6
 refine sb 1 [.tm 2] func130 ?_
 refine call0 h6 ?_
 exact fz
theorem c130e (hl : l.length ≤ 9223372036854775807) (h1 : ((l.length : Int) == 0) = false) (h2 : ¬ (200 : Int) < (l.length : Int)) (h3 : (((l.getD 0 0).toNat : Int) != 47) = false) (h5 : (l.all fun b => visB b.toNat) = true) (R : List UInt8)
   (hR : ((l.any fun b => [35,63].contains b) = true → R = [])) (hR2 : ((l.any fun b => [35,63].contains b) = false → R = 47 :: Lib.join (normC (spl 47 ((pct l).drop 1))) [47])) : Q1 130 (.v (vS l)) (.v (vS R)) := by
  have h4 : 0 < l.length := by rw [beq_eq_false_iff_ne] at h1; omega
  have h4i : (0 : Int) < (l.length : Int) := by omega
  have h6 := c99 l hl
  rw [h5,decide_eq_true h4] at h6
  refine sb 1 [.tm 2] func130 ?_
  refine call0 h6 ?_
  clear h6
  refine loopZ (fun i : Nat => pE 114 [.v (vS l),.dead,.dead,.v (vI i)]) [0,3] (fun i => i ≤ l.length ∧ ((l.take i).any fun b => [35,63].contains b) = false) (fun i => l.length - i) 0 rfl ⟨by simp,by simp⟩ ?_
  intro i ⟨hi,hany⟩
  with_reducible intro _
  by_cases hc : i < l.length
  · have hw := wrapN hc hl
    have hs := any_take_succ (p := fun b => [35,63].contains b) (d := 0) hc
    rw [hany] at hs
    have hx : [35,63].contains (l.getD i 0) = ((((l.getD i 0).toNat : Int) == 35) || (((l.getD i 0).toNat : Int) == 63)) := by
      rw [Bool.eq_iff_iff]
      simp only [List.contains_cons,List.contains_nil,Bool.or_false,Bool.or_eq_true,beq_iff_eq,← UInt8.toNat_inj]
      show (l.getD i 0).toNat = 35 ∨ (l.getD i 0).toNat = 63 ↔ _
      omega
    cases e : [35,63].contains (l.getD i 0)
    · rw [e] at hx hs
      replace hx := hx.symm
      rw [Bool.or_eq_false_iff] at hx
      obtain ⟨x1,x2⟩ := hx
      refine Z ?_
      exact ⟨i + 1,rfl,⟨hc,by simpa using hs⟩,by omega⟩
    · rw [hR (any_true_at (d := 0) hc e)]
      rw [e] at hx
      replace hx := hx.symm
      cases x1 : ((l.getD i 0).toNat : Int) == 35
      · rw [x1,Bool.false_or] at hx
        refine Z ?_
        exact fz
      · refine Z ?_
        exact fz
  · have hany : (l.any fun b => [35,63].contains b) = false := by rw [List.take_of_length_le (by omega)] at hany; exact hany
    rw [hR2 hany]
    have hp : 1 ≤ (pct l).length := pct_pos (by
      cases l with
      | nil => simp at h4
      | cons a l =>
        rw [bne_eq_false_iff_eq] at h3
        have : a = 47 := by rw [← UInt8.toNat_inj]; show a.toNat = 47; have : ((a.toNat : Int)) = 47 := h3; omega
        rw [this]; simp)
    obtain ⟨h6,h7,h8,h9⟩ := cat_le (l := l) (by omega)
    have h11 := c175o ((pct l).drop 1) 47 (by have := pct_len l; rw [List.length_drop]; omega)
    have h12 := spl_ne 47 ((pct l).drop 1)
    refine Z ?_
    refine call0 (c176 l (by omega)) ?_
    refine call0 h11 ?_
    clear h11 hR hR2 hany hp
    generalize spl 47 ((pct l).drop 1) = g at h6 h7 h8 h9 h12 ⊢
    refine loopZ (fun s : Nat × Bool => pE 114 [.dead,.dead,.dead,.dead,.own 9 (rowsS g),oD 9 s.2 (rowsS (pre g s.1)),.v (vI s.1)]) [4,5,6] (fun s => s.1 ≤ g.length ∧ (s.2 = true → pre g s.1 = [])) (fun s => g.length - s.1) (0,true) rfl ⟨by simp,fun _ => pre_0⟩ ?_
    rintro ⟨i,b⟩ ⟨hi,hb⟩
    with_reducible intro hg
    dsimp only at hi hb
    by_cases hc2 : i < g.length
    · have hw := wrapN hc2 hg
      have h13 := rowsS_getD hc2
      have hps := pre_s hc2
      have hpl := pre_len hc2
      generalize pre g i = o at hb hps hpl ⊢
      generalize g.getD i [] = s at hps h13
      have hol : o.length ≤ 9223372036854775807 := by omega
      have hle : (((i + 1 : Nat) : Int) == (g.length : Int)) = decide (i + 1 = g.length) := by rw [Bool.eq_iff_iff,beq_iff_eq,decide_eq_true_eq]; omega
      generalize decide (i + 1 = g.length) = la at hle hps
      unfold dotsB at hps
      cases e1 : s == [46]
      · cases e2 : s == [46,46]
        · rw [e1,e2,stepC_c e1 e2] at hps
          replace hps : pre g (i + 1) = o ++ [s] := by cases la <;> exact hps
          cases b
          · refine Z ?_
            refine And.intro (by omega) ⟨(i + 1,false),?_,⟨hc2,fun h => by cases h⟩,by simp only; omega⟩
            dsimp only
            rw [hps,oD_f,← rowsS_snoc']; rfl
          · rw [hb rfl] at hps ⊢
            refine Z ?_
            refine ⟨(i + 1,false),?_,⟨hc2,fun h => by cases h⟩,by simp only; omega⟩
            dsimp only
            rw [hps]; rfl
        · rw [e1,e2,stepC_b e1 e2] at hps
          by_cases hz : o = []
          · subst hz
            cases la
            · replace hps : pre g (i + 1) = [] := hps
              cases b
              · refine Z ?_
                refine ⟨(i + 1,false),?_,⟨hc2,fun h => by cases h⟩,by simp only; omega⟩
                dsimp only
                rw [hps]; rfl
              · refine Z ?_
                refine ⟨(i + 1,true),?_,⟨hc2,fun _ => hps⟩,by simp only; omega⟩
                dsimp only
                rw [hps]; rfl
            · replace hps : pre g (i + 1) = [[]] := hps
              cases b
              · refine Z ?_
                refine ⟨(i + 1,false),?_,⟨hc2,fun h => by cases h⟩,by simp only; omega⟩
                dsimp only
                rw [hps]; rfl
              · refine Z ?_
                refine ⟨(i + 1,false),?_,⟨hc2,fun h => by cases h⟩,by simp only; omega⟩
                dsimp only
                rw [hps]; rfl
          · have hz1 : 0 < o.length := List.length_pos_iff.2 hz
            have hz2 : (0 : Int) < (o.length : Int) := by omega
            have hw2 : IntKind.i64.wrap ((o.length : Int) - 1) = ((o.length - 1 : Nat) : Int) := by rw [wrapI (by omega)]; omega
            have hz3 : o.length - 1 ≤ o.length := by omega
            cases b
            · cases la
              · replace hps : pre g (i + 1) = o.take (o.length - 1) := hps
                refine Z ?_
                refine ⟨(i + 1,false),?_,⟨hc2,fun h => by cases h⟩,by simp only; omega⟩
                dsimp only
                rw [hps,oD_f,← rowsS_take]; rfl
              · replace hps : pre g (i + 1) = o.take (o.length - 1) ++ [[]] := hps
                refine Z ?_
                refine And.intro (by simp only [List.length_take,rowsS_length]; omega) ⟨(i + 1,false),?_,⟨hc2,fun h => by cases h⟩,by simp only; omega⟩
                dsimp only
                rw [hps,oD_f,← rowsS_snoc',← rowsS_take]; rfl
            · exact absurd (hb rfl) hz
      · have e2 : (s == [46,46]) = false := by rw [beq_iff_eq] at e1; rw [e1]; rfl
        rw [e1,stepC_a e1] at hps
        cases la
        · replace hps : pre g (i + 1) = o := hps
          cases b
          · refine Z ?_
            refine ⟨(i + 1,false),?_,⟨hc2,fun h => by cases h⟩,by simp only; omega⟩
            dsimp only
            rw [hps]; rfl
          · rw [hb rfl] at hps ⊢
            refine Z ?_
            refine ⟨(i + 1,true),?_,⟨hc2,fun _ => hps⟩,by simp only; omega⟩
            dsimp only
            rw [hps]; rfl
        · replace hps : pre g (i + 1) = o ++ [[]] := hps
          cases b
          · refine Z ?_
            refine And.intro (by omega) ⟨(i + 1,false),?_,⟨hc2,fun h => by cases h⟩,by simp only; omega⟩
            dsimp only
            rw [hps,oD_f,← rowsS_snoc']; rfl
          · rw [hb rfl] at hps ⊢
            refine Z ?_
            refine ⟨(i + 1,false),?_,⟨hc2,fun h => by cases h⟩,by simp only; omega⟩
            dsimp only
            rw [hps]; rfl
    · have hpe : pre g i = normC g := by unfold pre; rw [if_pos (by omega)]
      rw [hpe] at hb ⊢
      refine Z ?_
      generalize normC g = o at hb h6 h7 ⊢
      have hol : o.length ≤ 9223372036854775807 := by omega
      have hof : ∀ k,(catC (o.take k)).length ≤ (catC o).length := by
        intro k
        have h := congrArg (fun x => (catC x).length) (List.take_append_drop k o)
        simp only [catC,List.flatMap_append,List.length_append] at h ⊢
        omega
      cases b
      · refine loopZ (fun k : Nat => pE 114 [.dead,.dead,.dead,.dead,.dead,.own 9 (rowsS o),.dead,.dead,.v (vS (catC (o.take k))),.v (vI k)]) [5,8,9] (fun k => k ≤ o.length) (fun k => o.length - k) 0 rfl (by simp) ?_
        intro k hk
        with_reducible intro _
        by_cases hc3 : k < o.length
        · have hw := wrapN hc3 hol
          have h13 := rowsS_getD hc3
          have hcs : catC (o.take (k + 1)) = catC (o.take k) ++ [47] ++ o.getD k [] := by
            rw [List.take_succ_eq_append_getElem hc3,catC,catC,List.flatMap_append,List.append_assoc]
            simp [gDg,hc3]
          have hc4 := hof (k + 1)
          rw [hcs] at hc4
          simp only [List.length_append,List.length_cons,List.length_nil] at hc4
          generalize o.getD k [] = s at h13 hcs hc4
          refine Z ?_
          refine ⟨by omega,by simp only [List.length_append,List.length_cons,List.length_nil]; omega,k + 1,?_,hc3,by omega⟩
          rw [hcs]; rfl
        · rw [List.take_of_length_le (by omega)]
          by_cases ho : o = []
          · subst ho
            refine Z ?_
            exact fz
          · have hne : (catC o == []) = false ∧ 47 :: Lib.join o [47] = catC o := by
              cases o with
              | nil => exact absurd rfl ho
              | cons x o => exact ⟨rfl,cat_join x o⟩
            rw [hne.2]
            replace hne := hne.1
            refine Z ?_
            exact fz
      · refine loopZ (fun k : Nat => pE 114 [.dead,.dead,.dead,.dead,.dead,.nil,.dead,.dead,.v (vS (catC (o.take k))),.v (vI k)]) [5,8,9] (fun k => k ≤ o.length) (fun k => o.length - k) 0 rfl (by simp) ?_
        intro k hk
        rw [hb rfl] at hk ⊢
        have hk0 : k = 0 := by simpa using hk
        subst hk0
        refine Z ?_
        exact fz
theorem c130 (hl:l.length≤9223372036854775807):Q1 130 (.v (vS l)) (.v (vS (cleanB l))):=by
 have hx:∀ h:l≠[],[47].isPrefixOf l = !(((l.getD 0 0).toNat:Int) != 47):=by
  intro h
  cases l with
  | nil=>exact absurd rfl h
  | cons a l =>
   have e:(47==a) = !((a.toNat:Int) != 47):=by
    rw [Bool.eq_iff_iff,bne,Bool.not_not,beq_iff_eq,beq_iff_eq,←UInt8.toNat_inj]
    show 47=a.toNat↔_
    omega
   rw [show [47].isPrefixOf (a::l)=((47==a)&&([]:List UInt8).isPrefixOf l) from rfl,show ([]:List UInt8).isPrefixOf l=true by cases l<;>rfl,Bool.and_true]
   exact e
 cases h1:(l.length:Int)==0
 ·have hne:l≠[]:=fun h=>by rw [h] at h1; cases h1
  replace hx:=hx hne
  by_cases h2:(200:Int)<l.length
  ·rw [cleanB,clean0,decide_eq_false (by omega:¬ l.length≤200),Bool.and_false,Bool.false_and,Bool.false_and]; exact c130b l hl h1 h2
  have h2':decide (l.length≤200)=true:=decide_eq_true (by omega)
  cases h3:((l.getD 0 0).toNat:Int) != 47
  ·rw [h3] at hx
   cases h4:l.all fun b=>visB b.toNat
   ·rw [cleanB,clean0,hx,h2',h4]; exact c130d l hl h1 h2 h3 h4
   ·refine c130e l hl h1 h2 h3 h4 _ (fun h => ?_) (fun h => ?_)
    ·rw [cleanB,clean0,hx,h2',h4,h]; rfl
    ·rw [cleanB,clean0,hx,h2',h4,h]; rfl
  ·rw [h3] at hx
   rw [cleanB,clean0,hx]; exact c130c l hl h1 h2 h3
 ·have hz:l=[]:=by rw [beq_iff_eq] at h1; exact List.length_eq_zero_iff.1 (by omega)
  have:=c130a l hl h1
  rw [hz] at this ⊢
  exact this
end
def valD:List UInt8→Nat→Nat
 | [],n=>n
 | b::l,n=>valD l (10*n+(b.toNat-48))
theorem valD_snoc (l:List UInt8) (b:UInt8):∀ n,valD (l++[b]) n=10*valD l n+(b.toNat-48):=by
 induction l with
 | nil=>intro n; rfl
 | cons a l ih=>intro n; exact ih _
theorem dig_nat {k:Nat} (h:k<10):(UInt8.ofNat (48+k)).toNat=48+k:=by
 rw [UInt8.toNat_ofNat',Nat.mod_eq_of_lt (by omega)]
theorem digs_all (u:Nat):∀ b,b∈Lib.decDigits u→48≤b.toNat∧b.toNat≤57:=by
 induction u using Nat.strongRecOn with
 | _ u ih =>
  intro b hb
  by_cases h:u<10
  ·rw [decDigits_small h,List.mem_singleton] at hb
   rw [hb,dig_nat h]; omega
  ·rw [decDigits_big h] at hb
   rcases List.mem_append.1 hb with hb | hb
   ·exact ih _ (by omega) b hb
   ·rw [List.mem_singleton] at hb
    rw [hb,dig_nat (by omega)]; omega
theorem valD_dec (u:Nat):valD (Lib.decDigits u) 0=u:=by
 induction u using Nat.strongRecOn with
 | _ u ih =>
  by_cases h:u<10
  ·rw [decDigits_small h]
   show 10*0+((UInt8.ofNat (48+u)).toNat-48)=u
   rw [dig_nat h]; omega
  ·rw [decDigits_big h,valD_snoc,ih _ (by omega),dig_nat (by omega)]; omega
theorem valD_le (l:List UInt8):∀ n,n≤valD l n:=by
 induction l with
 | nil=>intro n; exact Nat.le_refl _
 | cons b l ih=>intro n; have:=ih (10*n+(b.toNat-48)); show n≤valD l (10*n+(b.toNat-48)); omega
theorem parse_dig:∀ (l:List UInt8) (acc:Nat),(∀ b,b∈l→48≤b.toNat∧b.toNat≤57)→valD l acc<1000000000000000000→Lib.parseUint10 acc l = .ok (valD l acc)
 | [],acc,_,_=>rfl
 | b::l,acc,h,hv=>by
  have hb:=h b List.mem_cons_self
  have hv:valD l (10*acc+(b.toNat-48))<1000000000000000000:=hv
  have hle:=valD_le l (10*acc+(b.toNat-48))
  rw [Lib.parseUint10,if_pos hb,if_neg (by omega),if_neg (by omega),Nat.mul_comm acc 10,parse_dig l _ (fun x hx=>h x (List.mem_cons_of_mem _ hx)) hv]
  rfl
theorem dec_ne (u:Nat):Lib.decDigits u≠[]:=by
 by_cases h:u<10
 ·rw [decDigits_small h]; simp
 ·rw [decDigits_big h]; simp
theorem atoi_dec (u:Nat) (h:u<1000000000000000000):Lib.atoiAll (Lib.decDigits u) = .ok (u:Int):=by
 have hd:=digs_all u
 have hp:=parse_dig (Lib.decDigits u) 0 hd (by rw [valD_dec]; exact h)
 have hv:=valD_dec u
 generalize hs:Lib.decDigits u=s at hd hp hv
 cases s with
 | nil=>exact absurd hs (dec_ne u)
 | cons c r =>
  have hc:=hd c List.mem_cons_self
  rw [Lib.atoiAll_plain c r (by omega) (by omega),Lib.parseMag,if_neg (by simp),hp,hv]
  show (if _ then _ else _)=_
  rw [if_neg (by omega)]
theorem dec_len15 {u:Nat} (h:u≤999999999999999):(Lib.decDigits u).length≤15:=by
 have h0:∀ k u:Nat,u<10 ^ (k+1)→(Lib.decDigits u).length≤k+1:=by
  intro k
  induction k with
  | zero=>intro u hu; rw [decDigits_small (by simpa using hu)]; simp
  | succ k ih =>
   intro u hu
   by_cases h:u<10
   ·rw [decDigits_small h]; simp
   ·rw [decDigits_big h]
    have:=ih (u / 10) (by rw [Nat.pow_succ] at hu; omega)
    simp; omega
 exact h0 14 u (by omega)
def readD (s:List UInt8):Option Nat:=if valD s 0≤999999999999999∧Lib.decDigits (valD s 0)=s then some (valD s 0) else none
theorem readD_iff {s:List UInt8} {n:Nat}:readD s=some n↔n≤999999999999999∧Lib.decDigits n=s:=by
 unfold readD
 constructor
 ·intro h
  split at h
  ·injection h with h; subst h; assumption
  ·cases h
 ·rintro ⟨h1,rfl⟩
  rw [valD_dec,if_pos ⟨h1,rfl⟩]
theorem readD_none {s:List UInt8} (h:∀ n,n≤999999999999999→Lib.decDigits n≠s):readD s=none:=by
 cases e:readD s with
 | none=>rfl
 | some n=>obtain ⟨h1,h2⟩:=readD_iff.1 e; exact absurd h2 (h n h1)
def decD (s:List UInt8):D := .tup [.v (vI ((readD s).getD 0:Nat)),.v (vB (readD s).isSome)]
theorem c183 (n:Nat) (hn:n≤999999999999999):Q1 183 (.v (vI n)) (.v (vS (Lib.decDigits n))):=by
 refine sf 1 [.tm 2] func183 ?_
 have h7:=c116 n 0 999999999999999
 have hin:inB 0 999999999999999 n=true:=by unfold inB; simp; omega
 rw [hin] at h7
 have h9:=c93 n (by omega) (by omega) (by rw [itoa_nat]; have:=decDigits_len n; omega)
 rw [itoa_nat] at h9
 simp only [go_sem,Nat.reduceAdd,Nat.reduceSub,f183,cfg]
 refine cf h7 ?_
 simp only [go_sem,Nat.reduceAdd]
 refine cf h9 ?_
 simp only [go_sem,Nat.reduceAdd,Nat.reduceBNe]
 exact fz
theorem c129a (l:List UInt8) (hl:l.length≤1048576) (hlen:1≤l.length∧l.length≤15):Q1 129 (.v (vS l)) (decD l):=by
 refine sf 1 [.tm 2,.tm 3] func129 ?_
 have hL:l.length≤9223372036854775807:=by omega
 have z1:¬ ((l.length:Int)=0):=by omega
 have z1b:((l.length:Int)==0)=false:=by rw [beq_eq_false_iff_ne]; exact z1
 have z2:¬ ((15:Int)<(l.length:Int)):=by omega
 have z3:¬ (15<l.length):=by omega
 simp only [go_sem,Nat.reduceSub,f129,cfg,z1b,z2,hL]
 refine loop_on (fun i:Nat=>pE 38 [.v (vS l),.dead,.v (vI 0),.v (vB false),.v (vI (valD (l.take i) 0:Nat)),.v (vI i)]) [0,2,3,4,5] (fun i=>i≤l.length∧(∀ b,b∈l.take i→48≤b.toNat∧b.toNat≤57)∧valD (l.take i) 0<10 ^ i) (fun i=>l.length-i) 0 rfl ⟨by omega,by simp,by simp [valD]⟩ ?_
 intro i ⟨hi,hall,hv1⟩
 have hv2:valD (l.take i) 0≤999999999999999:=by
  have:(10:Nat) ^ i≤10 ^ 15:=Nat.pow_le_pow_right (by decide) (by omega)
  omega
 generalize hvv:valD (l.take i) 0=v at hv1 hv2 ⊢
 simp only [go_sem]
 try (with_reducible intro hlen)
 by_cases hc:i<l.length
 ·have hw:=wrapN hc hL
  have hsn:valD (l.take (i+1)) 0=10*v+((l.getD i 0).toNat-48):=by rw [take_snoc hc,valD_snoc,hvv]
  cases hd:isDigitB (l.getD i 0).toNat
  ·have hd':=(digit_no _).1 hd
   have hno:readD l=none:=readD_none (by
    intro n _ e
    have hm:l.getD i 0∈l:=by
     rw [gDg,gEg hc]; exact List.getElem_mem hc
    rw [←e] at hm
    have:=digs_all n _ hm
    rw [e] at this
    omega)
   simp only [go_sem,hc]
   refine cf (c174 _) ?_
   simp only [go_sem,Nat.reduceAdd,hd]
   first | (refine fq ?_; unfold decD; rw [hno]; rfl)
  ·have hd':=(digit_iff _).1 hd
   have m1:IntKind.i64.wrap ((v:Int)*10)=(v:Int)*10:=wrapI (by omega)
   have m2:IntKind.u8.wrap (((l.getD i 0).toNat:Int)-48)=((l.getD i 0).toNat:Int)-48:=w8 (by have:=u255 (l.getD i 0); omega)
   have m3:IntKind.i64.wrap (((l.getD i 0).toNat:Int)-48)=((l.getD i 0).toNat:Int)-48:=wrapI (by have:=u255 (l.getD i 0); omega)
   have m4:IntKind.i64.wrap ((v:Int)*10+(((l.getD i 0).toNat:Int)-48))=((valD (l.take (i+1)) 0:Nat):Int):=by
    rw [wrapI (by have:=u255 (l.getD i 0); omega),hsn]; omega
   simp only [go_sem,hc]
   refine cf (c174 _) ?_
   simp only [go_sem,Nat.reduceAdd,Nat.reduceBNe,hd,hc,m1,m2,m3,m4,hw]
   refine ⟨i+1,by first | rfl,⟨hc,?_,?_⟩,by omega⟩
   ·rw [take_snoc hc]
    intro b hb
    rcases List.mem_append.1 hb with hb | hb
    ·exact hall b hb
    ·rw [List.mem_singleton] at hb; rw [hb]; omega
   ·rw [hsn,Nat.pow_succ]; omega
 ·have he:i=l.length:=by omega
  subst he
  rw [List.take_length] at hvv hall
  have h85:=c102 v hv2
  cases hq:(Lib.decDigits v==l)
  ·have hno:readD l=none:=by
    unfold readD
    rw [hvv,if_neg]
    rintro ⟨_,e⟩
    rw [e] at hq
    simp at hq
   simp only [go_sem,hc]
   refine cf h85 ?_
   simp only [go_sem,Nat.reduceAdd,hq]
   first | (refine fq ?_; unfold decD; rw [hno]; rfl)
  ·have hyes:readD l=some v:=readD_iff.2 ⟨hv2,beq_iff_eq.1 hq⟩
   simp only [go_sem,hc]
   refine cf h85 ?_
   simp only [go_sem,Nat.reduceAdd,Nat.reduceBNe,hq]
   first | (refine fq ?_; unfold decD; rw [hyes]; rfl)
theorem c129b (l:List UInt8) (hl:l.length≤1048576) (hlen:¬ (1≤l.length∧l.length≤15)):Q1 129 (.v (vS l)) (decD l):=by
 refine sf 1 [.tm 2,.tm 3] func129 ?_
 have hL:l.length≤9223372036854775807:=by omega
 have hno:readD l=none:=readD_none (by
  intro n hn e
  have h1:=dec_len15 hn
  have h2:=dec_ne n
  rw [e] at h1 h2
  exact hlen ⟨by cases l with | nil=>exact absurd rfl h2 | cons=>simp,h1⟩)
 unfold decD
 rw [hno]
 simp only [go_sem,Nat.reduceSub,f129,cfg]
 repeat' ((first | with_reducible intro _ | split)<;>(try simp only [go_sem,reduceCtorEq, *]))
 all_goals first
  | exact fz
  | (exfalso; omega)
  | (exfalso; simp only [beq_eq_false_iff_ne,ne_eq] at *; omega)
  
theorem c129 (l:List UInt8) (hl:l.length≤1048576):Q1 129 (.v (vS l)) (decD l):=by
 by_cases h:1≤l.length∧l.length≤15
 ·exact c129a l hl h
 ·exact c129b l hl h
def fs26_0:List (List Nat):=[[4,5,6,7,8,9,10,11,2],[5,6,7,8,9,10,11,2],[3,6,7,8,9,10,11,2],[3,4,5,7,8,9,10,11,2],[3,4,5,8,9,10,11,2],[3,4,6,9,10,11,2],[3,4,5,6,7,8,10,11,2],[3,4,5,6,8,11,2],[3,4,5,6,7,9,2],[]]
attribute [go_sem] fs26_0
def fs48_0:List (List Nat):=[[4,5,6,7,8,9,10,11,12,13,14,2],[5,6,7,8,9,10,11,12,13,14,2],[3,6,7,8,9,10,11,12,13,14,2],[3,4,5,7,8,9,10,11,12,13,14,2],[3,4,5,8,9,10,11,12,13,14,2],[3,4,6,9,10,11,12,13,14,2],[3,4,5,6,7,8,10,11,12,13,14,2],[3,4,5,6,7,8,11,12,13,14,2],[3,4,5,6,7,9,12,13,14,2],[3,4,5,6,7,8,9,10,11,13,14,2],[3,4,5,6,8,9,10,11,14,2],[3,4,5,6,7,8,9,10,12,2],[]]
attribute [go_sem] fs48_0
def fs61_0:List (List Nat):=[[4,5,6,7,8,9,10,11,12,13,14,15,16,17,18,19,20,21,22,23,24,25],[5,6,7,8,9,10,11,12,13,14,15,16,17,18,19,20,21,22,23,24,25],[3,6,7,8,9,10,11,12,13,14,15,16,17,18,19,20,21,22,23,24,25],[3,4,7,8,9,10,11,12,13,14,15,16,17,18,19,20,21,22,23,24,25],[3,4,8,9,10,11,12,13,14,15,16,17,18,19,20,21,22,23,24,25],[3,4,5,6,9,10,11,12,13,14,15,16,17,18,19,20,21,22,23,24,25],[3,4,5,6,10,11,12,13,14,15,16,17,18,19,20,21,22,23,24,25],[3,4,5,6,8,11,12,13,14,15,16,17,18,19,20,21,22,23,24,25],[3,4,5,6,8,9,12,13,14,15,16,17,18,19,20,21,22,23,24,25],[3,4,5,6,8,9,10,13,14,15,16,17,18,19,20,21,22,23,24,25],[3,4,5,6,7,8,9,11,14,15,16,17,18,19,20,21,22,23,24,25],[3,4,5,6,7,8,9,10,11,12,15,16,17,18,19,20,21,22,23,24,25],[3,4,5,6,7,8,9,10,11,12,16,17,18,19,20,21,22,23,24,25],[3,4,5,6,7,8,9,10,11,12,14,17,18,19,20,21,22,23,24,25],[3,4,5,6,7,8,9,10,11,12,14,15,18,19,20,21,22,23,24,25],[3,4,5,6,7,8,9,10,11,12,14,15,16,19,20,21,22,23,24,25],[3,4,5,6,7,8,9,10,11,12,13,14,15,16,17,20,21,22,23,24,25],[3,4,5,6,7,8,9,10,11,12,13,14,15,16,17,21,22,23,24,25],[3,4,5,6,7,8,9,10,11,12,13,14,15,16,17,19,22,23,24,25],[3,4,5,6,7,8,9,10,11,12,13,14,15,16,17,19,20,21,23,24,25],[3,4,5,6,7,8,9,10,11,12,13,14,15,16,17,19,20,21,24,25],[3,4,5,6,7,8,9,10,11,12,13,14,15,16,17,19,20,22,25],[3,4,5,6,7,8,9,10,11,12,13,14,15,16,17,19,20,21,22,23]]
attribute [go_sem] fs61_0
def fs37_0:List (List Nat):=[[4,5,6,7,8,9,10,11,12,13,14,15,16,17,18,19,20,21,22,23,24,25,26,27,28,29,30,31,32,33,34,35,36,37,38,39],[5,6,7,8,9,10,11,12,13,14,15,16,17,18,19,20,21,22,23,24,25,26,27,28,29,30,31,32,33,34,35,36,37,38,39],[3,6,7,8,9,10,11,12,13,14,15,16,17,18,19,20,21,22,23,24,25,26,27,28,29,30,31,32,33,34,35,36,37,38,39],[3,4,7,8,9,10,11,12,13,14,15,16,17,18,19,20,21,22,23,24,25,26,27,28,29,30,31,32,33,34,35,36,37,38,39],[3,4,8,9,10,11,12,13,14,15,16,17,18,19,20,21,22,23,24,25,26,27,28,29,30,31,32,33,34,35,36,37,38,39],[3,4,5,6,9,10,11,12,13,14,15,16,17,18,19,20,21,22,23,24,25,26,27,28,29,30,31,32,33,34,35,36,37,38,39],[3,4,5,6,10,11,12,13,14,15,16,17,18,19,20,21,22,23,24,25,26,27,28,29,30,31,32,33,34,35,36,37,38,39],[3,4,5,6,8,11,12,13,14,15,16,17,18,19,20,21,22,23,24,25,26,27,28,29,30,31,32,33,34,35,36,37,38,39],[3,4,5,6,8,9,12,13,14,15,16,17,18,19,20,21,22,23,24,25,26,27,28,29,30,31,32,33,34,35,36,37,38,39],[3,4,5,6,8,9,10,13,14,15,16,17,18,19,20,21,22,23,24,25,26,27,28,29,30,31,32,33,34,35,36,37,38,39],[3,4,5,6,7,8,9,10,11,14,15,16,17,18,19,20,21,22,23,24,25,26,27,28,29,30,31,32,33,34,35,36,37,38,39],[3,4,5,6,7,8,9,10,11,15,16,17,18,19,20,21,22,23,24,25,26,27,28,29,30,31,32,33,34,35,36,37,38,39],[3,4,5,6,7,8,9,10,11,13,16,17,18,19,20,21,22,23,24,25,26,27,28,29,30,31,32,33,34,35,36,37,38,39],[3,4,5,6,7,8,9,10,11,13,14,17,18,19,20,21,22,23,24,25,26,27,28,29,30,31,32,33,34,35,36,37,38,39],[3,4,5,6,7,8,9,10,11,13,14,15,18,19,20,21,22,23,24,25,26,27,28,29,30,31,32,33,34,35,36,37,38,39],[3,4,5,6,7,8,9,10,11,12,13,14,15,16,19,20,21,22,23,24,25,26,27,28,29,30,31,32,33,34,35,36,37,38,39],[3,4,5,6,7,8,9,10,11,12,13,14,15,16,20,21,22,23,24,25,26,27,28,29,30,31,32,33,34,35,36,37,38,39],[3,4,5,6,7,8,9,10,11,12,13,14,15,16,18,21,22,23,24,25,26,27,28,29,30,31,32,33,34,35,36,37,38,39],[3,4,5,6,7,8,9,10,11,12,13,14,15,16,18,19,22,23,24,25,26,27,28,29,30,31,32,33,34,35,36,37,38,39],[3,4,5,6,7,8,9,10,11,12,13,14,15,16,18,19,20,23,24,25,26,27,28,29,30,31,32,33,34,35,36,37,38,39],[3,4,5,6,7,8,9,10,11,12,13,14,15,16,17,18,19,20,21,24,25,26,27,28,29,30,31,32,33,34,35,36,37,38,39],[3,4,5,6,7,8,9,10,11,12,13,14,15,16,17,18,19,20,21,25,26,27,28,29,30,31,32,33,34,35,36,37,38,39],[3,4,5,6,7,8,9,10,11,12,13,14,15,16,17,18,19,20,21,23,26,27,28,29,30,31,32,33,34,35,36,37,38,39],[3,4,5,6,7,8,9,10,11,12,13,14,15,16,17,18,19,20,21,23,24,25,27,28,29,30,31,32,33,34,35,36,37,38,39],[3,4,5,6,7,8,9,10,11,12,13,14,15,16,17,18,19,20,21,23,24,25,28,29,30,31,32,33,34,35,36,37,38,39],[3,4,5,6,7,8,9,10,11,12,13,14,15,16,17,18,19,20,21,23,24,26,29,30,31,32,33,34,35,36,37,38,39],[3,4,5,6,7,8,9,10,11,12,13,14,15,16,17,18,19,20,21,23,24,25,26,27,30,31,32,33,34,35,36,37,38,39],[3,4,5,6,7,8,9,10,11,12,13,14,15,16,17,18,19,20,21,22,23,24,26,27,28,31,32,33,34,35,36,37,38,39],[3,4,5,6,7,8,9,10,11,12,13,14,15,16,17,18,19,20,21,22,23,24,25,26,27,28,29,32,33,34,35,36,37,38,39],[3,4,5,6,7,8,9,10,11,12,13,14,15,16,17,18,19,20,21,22,23,24,25,26,27,28,29,33,34,35,36,37,38,39],[3,4,5,6,7,8,9,10,11,12,13,14,15,16,17,18,19,20,21,22,23,24,25,26,27,28,29,31,34,35,36,37,38,39],[3,4,5,6,7,8,9,10,11,12,13,14,15,16,17,18,19,20,21,22,23,24,25,26,27,28,29,31,32,35,36,37,38,39],[3,4,5,6,7,8,9,10,11,12,13,14,15,16,17,18,19,20,21,22,23,24,25,26,27,28,29,30,31,32,33,36,37,38,39],[3,4,5,6,7,8,9,10,11,12,13,14,15,16,17,18,19,20,21,22,23,24,25,26,27,28,29,30,31,32,33,37,38,39],[3,4,5,6,7,8,9,10,11,12,13,14,15,16,17,18,19,20,21,22,23,24,25,26,27,28,29,30,31,32,33,35,38,39],[3,4,5,6,7,8,9,10,11,12,13,14,15,16,17,18,19,20,21,22,23,24,25,26,27,28,29,31,32,33,35,36,39],[3,4,5,6,7,8,9,10,11,12,13,14,15,16,17,18,19,20,21,22,23,24,25,26,27,28,29,31,32,33,34,35,36,37]]
attribute [go_sem] fs37_0
def fs37_1:List (List Nat):=[[41,42,43,44,45,46,47,48,49,50,51,52,53,54,55,56,57,58,59,60,61,62],[42,43,44,45,46,47,48,49,50,51,52,53,54,55,56,57,58,59,60,61,62],[40,43,44,45,46,47,48,49,50,51,52,53,54,55,56,57,58,59,60,61,62],[40,41,44,45,46,47,48,49,50,51,52,53,54,55,56,57,58,59,60,61,62],[40,41,42,45,46,47,48,49,50,51,52,53,54,55,56,57,58,59,60,61,62],[40,41,42,43,46,47,48,49,50,51,52,53,54,55,56,57,58,59,60,61,62],[40,41,42,43,47,48,49,50,51,52,53,54,55,56,57,58,59,60,61,62],[40,41,42,43,45,48,49,50,51,52,53,54,55,56,57,58,59,60,61,62],[40,41,42,43,45,46,49,50,51,52,53,54,55,56,57,58,59,60,61,62],[40,41,42,43,44,45,46,47,50,51,52,53,54,55,56,57,58,59,60,61,62],[40,41,42,43,44,45,46,47,51,52,53,54,55,56,57,58,59,60,61,62],[40,41,42,43,44,45,46,47,49,52,53,54,55,56,57,58,59,60,61,62],[40,41,42,43,44,45,46,47,49,50,53,54,55,56,57,58,59,60,61,62],[40,41,42,43,45,46,47,49,50,51,54,55,56,57,58,59,60,61,62],[40,41,42,43,45,46,47,48,49,50,51,52,55,56,57,58,59,60,61,62],[40,41,42,43,44,45,46,47,48,49,50,52,53,56,57,58,59,60,61,62],[40,41,42,43,44,45,46,47,48,49,50,51,52,53,54,57,58,59,60,61,62],[40,41,42,43,44,45,46,47,48,49,50,51,52,53,54,58,59,60,61,62],[40,41,42,43,44,45,46,47,48,49,50,51,52,53,54,56,59,60,61,62],[40,41,42,43,44,45,46,47,48,49,50,51,52,53,54,56,57,58,60,61,62],[40,41,42,43,44,45,46,47,48,49,50,51,52,53,54,56,57,58,61,62],[40,41,42,43,44,45,46,47,48,49,50,51,52,53,54,56,57,59,62],[40,41,42,43,44,45,46,47,48,49,50,51,52,53,54,56,57,58,59,60]]
attribute [go_sem] fs37_1
def portB (p:Nat):List UInt8:=if ((p:Int)==80)=true then [] else 58::Lib.decDigits p
def queryB (q:List UInt8) (b:Bool):List UInt8:=if b then 63::q else []
def httpB:List UInt8:=[104,116,116,112,58,47,47]
def urlT (ho:List UInt8) (p:Nat) (pa q:List UInt8) (b:Bool):List UInt8:=httpB++ho++portB p++(pa++queryB q b)
abbrev urlD (ho:List UInt8) (p:Nat) (pa q:List UInt8) (b:Bool):D := .agg [.v (vS ho),.v (vI p),.v (vS pa),.v (vS q),.v (vB b)]
theorem port_len (p:Nat) (h:p≤999999999999999):(portB p).length≤16:=by
 have:=dec_len15 h
 unfold portB
 split<;>simp<;>omega
theorem query_len (q:List UInt8) (b:Bool):(queryB q b).length≤q.length+1:=by unfold queryB; split<;>simp
section
variable (ho:List UInt8) (p:Nat) (pa q:List UInt8) (b:Bool)
theorem c172 (hp:p≤999999999999999):Q1 172 (urlD ho p pa q b) (.v (vS (portB p))):=by
 unfold portB
 have h1:=dec_len15 hp
 have h2:=c93 p (by omega) (by omega) (by rw [itoa_nat]; omega)
 rw [itoa_nat] at h2
 cases h:(p:Int)==80
 ·refine sb 1 [.tm 2] func172 ?_
  refine call0 h2 ?_
  exact sid fz
 ·refine sb 1 [.tm 2] func172 ?_
  exact fz
theorem c215 (hp:p≤999999999999999):Q1 215 (urlD ho p pa q b) (.v (vS (portB p))):=by
 unfold portB
 have h1:=dec_len15 hp
 cases h:(p:Int)==80
 ·refine sb 1 [.tm 2] func215 ?_
  refine call0 (c102 p hp) ?_
  exact sid fz
 ·refine sb 1 [.tm 2] func215 ?_
  exact fz
theorem c173 (h1:pa.length≤1048576) (h2:q.length≤1048576):Q1 173 (urlD ho p pa q b) (.v (vS (pa++queryB q b))):=by
 cases b
 ·rw [show pa++queryB q false=pa from List.append_nil _]
  refine sb 1 [.tm 2] func173 ?_
  exact fz
 ·rw [show pa++queryB q true=pa++[63]++q by simp [queryB]]
  refine sb 1 [.tm 2] func173 ?_
  exact sid (sid fz)
theorem c216 (h2:q.length≤1048576):Q1 216 (urlD ho p pa q b) (.v (vS (queryB q b))):=by
 cases b
 ·refine sb 1 [.tm 2] func216 ?_
  exact fz
 ·refine sb 1 [.tm 2] func216 ?_
  exact sid fz
theorem c126 (h0:ho.length≤1048576) (hp:p≤999999999999999) (h1:pa.length≤1048576) (h2:q.length≤1048576):Q1 126 (urlD ho p pa q b) (.v (vS (urlT ho p pa q b))):=by
 have h3:=port_len p hp
 have h4:=query_len q b
 have h5:=c172 ho p pa q b hp
 have h6:=c173 ho p pa q b h1 h2
 have h7:(7+ho.length)≤9223372036854775807:=by omega
 refine sb 1 [.tm 2] func126 ?_
 refine draw_intro 10 fs26_0 mixedOk rfl ?_
 refine Z ?_
 refine drawn0 h5 ?_
 refine sid ?_
 refine drawn0 h6 ?_
 exact sid fz
theorem urlT_len (hp:p≤999999999999999):(urlT ho p pa q b).length≤24+ho.length+pa.length+q.length:=by
 have h3:=port_len p hp
 have h4:=query_len q b
 simp only [urlT,httpB,List.length_append,List.length_cons,List.length_nil]
 omega
theorem c170 (h0:ho.length≤1048576) (hp:p≤999999999999999) (h1:pa.length≤1048576) (h2:q.length≤1048576):Q1 170 (urlD ho p pa q b) (.v (vS (urlT ho p pa q b))):=by
 have h3:=port_len p hp
 have h4:=query_len q b
 have h7:(7+ho.length)≤9223372036854775807:=by omega
 have e:urlT ho p pa q b=httpB++ho++portB p++pa++queryB q b:=(List.append_assoc _ _ _).symm
 rw [e]
 refine sb 1 [.tm 2] func170 ?_
 refine draw_intro 13 fs48_0 mixedOk rfl ?_
 refine Z ?_
 refine drawn0 (c215 ho p pa q b hp) ?_
 refine sid (sid ?_)
 refine drawn0 (c216 ho p pa q b h2) ?_
 exact sid fz
def urlB:Bool:=hostB ho&&inB 1 65535 p && !(pa==[])&&(cleanB pa==pa)&&((q.all fun c=>visB c.toNat) && !(q.contains 35)&&(b || q==[]))&&decide (((urlT ho p pa q b).length:Int)≤200)
theorem urlT_le (h0:ho.length≤1048576) (hp:p≤999999999999999) (h1:pa.length≤1048576) (h2:q.length≤1048576):(urlT ho p pa q b).length≤9223372036854775807:=by
 have:=urlT_len ho p pa q b hp
 omega
theorem c140 (h0:ho.length≤1048576) (hp:p≤999999999999999) (h1:pa.length≤1048576) (h2:q.length≤1048576):Q1 140 (urlD ho p pa q b) (.v (vB (urlB ho p pa q b))):=by
 unfold urlB
 have hu:=fun b=>urlT_le ho p pa q b h0 hp h1 h2
 refine sb 1 [.tm 2] func140 ?_
 refine draw_intro 23 fs61_0 mixedOk rfl ?_
 refine Z ?_
 refine drawn0 (c189 ho h0) ?_
 refine bc (hostB ho) (fun e1 => ?_) fun e1 => ?_
 ·refine Z ?_
  exact fzs
 refine Z ?_
 refine drawn0 (c116 p 1 65535) ?_
 refine bc (inB 1 65535 p) (fun e2 => ?_) fun e2 => ?_
 ·refine Z ?_
  exact fzs
 refine bc (pa==[]) (fun e3 => ?_) fun e3 => ?_
 ·refine Z ?_
  refine drawn0 (c139 pa (by omega)) ?_
  refine bc (cleanB pa==pa) (fun e4 => ?_) fun e4 => ?_
  ·refine Z ?_
   exact fzs
  refine Z ?_
  refine call0 (c133 q 134 visB rfl rfl c134 (by omega)) ?_
  refine bc (q.all fun c=>visB c.toNat) (fun e5 => ?_) fun e5 => ?_
  ·refine Z ?_
   exact fzs
  refine Z ?_
  refine call0 (c135 q 35) ?_
  refine bc (q.contains 35) (fun e6 => ?_) fun e6 => ?_
  ·refine bc b (fun e7 => ?_) fun e7 => ?_
   ·subst e7
    refine bc (q==[]) (fun e8 => ?_) fun e8 => ?_
    ·refine Z ?_
     exact fzs
    ·refine Z ?_
     refine call0 (c126 ho p pa q false h0 hp h1 h2) ?_
     exact fzs
   ·subst e7
    refine Z ?_
    refine call0 (c126 ho p pa q true h0 hp h1 h2) ?_
    exact fzs
  ·refine Z ?_
   exact fzs
 ·refine Z ?_
  exact fzs
theorem in_t {a c n:Int} (h:inB a c n=true):¬ n<a∧¬ c<n:=by unfold inB at h; simp at h; omega
theorem in_f {a c n:Int} (h:inB a c n=false):n<a∨(¬ n<a∧c<n):=by unfold inB at h; simp at h; omega
theorem upto_eq {c:UInt8} {s:List UInt8}:(upto c s==s) = !(s.contains c):=by
 cases h:s.contains c
 ·rw [(upto_all h).1]; simp
 ·rw [Bool.not_true,beq_eq_false_iff_ne]
  intro e
  have hm:c∈upto c s:=by rw [e]; exact List.contains_iff_mem.1 h
  have:=List.all_eq_true.1 (List.all_takeWhile (p:=fun b=>b != c) (l:=s)) c hm
  simp at this
theorem c131 (h0:ho.length≤1048576) (hp:p≤999999999999999) (h1:pa.length≤1048576) (h2:q.length≤1048576):Q1 131 (urlD ho p pa q b) (.v (vB (urlB ho p pa q b))):=by
 unfold urlB
 have hu:=fun b=>urlT_le ho p pa q b h0 hp h1 h2
 have hq:q.length≤9223372036854775807:=by omega
 refine sb 1 [.tm 2] func131 ?_
 refine draw_intro 37 fs37_0 mixedOk rfl ?_
 refine Z ?_
 refine drawn0 (c177 ho h0) ?_
 refine bc (hostB ho) (fun e1 => ?_) fun e1 => ?_
 ·refine Z ?_
  exact fzs
 refine bc (inB 1 65535 p) (fun e2 => ?_) fun e2 => ?_
 ·refine Or.elim (in_f e2) (fun p1 => ?_) fun p1 => ?_
  ·refine Z ?_
   exact fzs
  ·refine Z ?_
   exact fzs
 have pp:=in_t e2
 refine bc (pa==[]) (fun e3 => ?_) fun e3 => ?_
 ·refine Z ?_
  refine drawn0 (c130 pa (by omega)) ?_
  refine bc (cleanB pa==pa) (fun e4 => ?_) fun e4 => ?_
  ·refine Z ?_
   exact fzs
  refine bc b (fun e7 => ?_) fun e7 => ?_
  ·refine bc (q==[]) (fun e8 => ?_) fun e8 => ?_
   ·refine Z ?_
    exact fzs
   ·have z:q=[]:=beq_iff_eq.1 e8
    refine Z ?_
    refine draw_intro 23 fs37_1 mixedOk rfl ?_
    have hup:upto 35 []=[]:=rfl
    have hu0:=urlT_le ho p pa [] false h0 hp h1 (by decide)
    refine Z ?_
    refine drawn0 (c128 [] 35 (by decide)) ?_
    refine call0 (c170 ho p pa [] false h0 hp h1 (by decide)) ?_
    exact fzs
  ·refine Z ?_
   refine draw_intro 23 fs37_1 mixedOk rfl ?_
   have hup:(upto 35 q==q) = !(q.contains 35):=upto_eq
   refine bc (decide ((200:Int)<q.length)) (fun e9 => ?_) fun e9 => ?_
   ·have e9':¬ (200:Int)<q.length:=of_decide_eq_false e9
    refine bc (q==[]) (fun e8 => ?_) fun e8 => ?_
    ·have hne:0<q.length:=by rw [beq_eq_false_iff_ne] at e8; exact List.length_pos_iff.2 e8
     refine Z ?_
     refine drawn0 (c99 q hq) ?_
     refine bc (q.all fun c=>visB c.toNat) (fun e5 => ?_) fun e5 => ?_
     ·refine Z ?_
      exact fzs
     ·refine Z ?_
      refine drawn0 (c128 q 35 (by omega)) ?_
      refine bc (q.contains 35) (fun e6 => ?_) fun e6 => ?_
      ·refine Z ?_
       refine call0 (c170 ho p pa q true h0 hp h1 h2) ?_
       exact fzs
      ·refine Z ?_
       exact fzs
    ·have z:q=[]:=beq_iff_eq.1 e8
     have hup:upto 35 []=[]:=rfl
     have hu0:=urlT_le ho p pa [] true h0 hp h1 (by decide)
     refine Z ?_
     refine drawn0 (c128 [] 35 (by decide)) ?_
     refine call0 (c170 ho p pa [] true h0 hp h1 (by decide)) ?_
     exact fzs
   ·have e9':(200:Int)<q.length:=of_decide_eq_true e9
    have hbig:¬ ((urlT ho p pa q true).length:Int)≤200:=by
     simp only [urlT,queryB,List.length_append,if_true,List.length_cons]
     omega
    refine Z ?_
    exact fzs
 ·refine Z ?_
  exact fzs
end
end Go.Proofs.YtbdfdfhamlmodaaGreatDoor.Fw
namespace Go.Proofs.YtbdfdfhamlmodaaGreatDoor.Fw
open Go
theorem upto_le (c:UInt8) (s:List UInt8):(upto c s).length≤s.length:=(List.takeWhile_sublist _).length_le
theorem upto_cons_eq {c:UInt8} {s:List UInt8}:upto c (c::s)=[]:=by simp [upto]
theorem upto_cons_ne {c b:UInt8} {s:List UInt8} (h:b≠c):upto c (b::s)=b::upto c s:=by simp [upto,h]
theorem behind_cons_eq {c:UInt8} {s:List UInt8}:behind c (c::s)=s:=by simp [behind]
theorem behind_cons_ne {c b:UInt8} {s:List UInt8} (h:b≠c):behind c (b::s)=behind c s:=by simp [behind,h]
theorem upto_take (c:UInt8):∀ s:List UInt8,s.take (upto c s).length=upto c s
 | []=>rfl
 | b::s=>by
  by_cases h:b=c
  ·subst h; rw [upto_cons_eq]; rfl
  ·rw [upto_cons_ne h,List.length_cons,List.take_succ_cons,upto_take c s]
theorem upto_lt (c:UInt8):∀ s:List UInt8,s.contains c=decide ((upto c s).length<s.length)
 | []=>by simp [upto]
 | b::s=>by
  by_cases h:b=c
  ·subst h; rw [upto_cons_eq]; simp
  ·rw [upto_cons_ne h,List.contains_cons,upto_lt c s]
   have:(c==b)=false:=by rw [beq_eq_false_iff_ne]; exact fun e=>h e.symm
   rw [this,Bool.false_or]
   simp
theorem behind_drop (c:UInt8):∀ s:List UInt8,behind c s=s.drop ((upto c s).length+1)
 | []=>by simp [behind]
 | b::s=>by
  by_cases h:b=c
  ·subst h; rw [behind_cons_eq,upto_cons_eq]; rfl
  ·rw [behind_cons_ne h,upto_cons_ne h,behind_drop c s,List.length_cons,List.drop_succ_cons]
def authB (r:List UInt8):List UInt8:=upto 47 (upto 63 r)
theorem auth_front (r:List UInt8):(authB r).length≤(upto 63 r).length:=upto_le _ _
theorem auth_le (r:List UInt8):(authB r).length≤r.length:=Nat.le_trans (auth_front r) (upto_le _ _)
theorem index_auth:∀ r:List UInt8,Lib.indexAny r [47,63]=if (authB r).length<r.length then ((authB r).length:Int) else -1
 | []=>by simp [Lib.indexAny,authB,upto]
 | b::r=>by
  have ih:=index_auth r
  rw [Lib.indexAny]
  by_cases h1:b=63
  ·subst h1
   rw [if_pos (by decide),authB,upto_cons_eq]; simp [upto]
  by_cases h2:b=47
  ·subst h2
   rw [if_pos (by decide),authB,upto_cons_ne h1,upto_cons_eq]; simp
  have e:authB (b::r)=b::authB r:=by rw [authB,upto_cons_ne h1,upto_cons_ne h2]; rfl
  rw [if_neg (by simp [h1,h2]),ih,e]
  simp only [List.length_cons]
  split
  ·rw [if_neg (by rw [beq_iff_eq]; omega),if_pos (by omega)]; rfl
  ·rw [if_pos (by simp),if_neg (by omega)]
theorem auth_take (r:List UInt8):r.take (authB r).length=authB r:=by
 have h1:=upto_take 63 r
 have h2:=upto_take 47 (upto 63 r)
 have h3:=auth_front r
 calc r.take (authB r).length=(r.take (upto 63 r).length).take (authB r).length:=by rw [List.take_take,Nat.min_eq_left h3]
  _=authB r:=by rw [h1]; exact h2
theorem upto_drop (c:UInt8):∀ (n:Nat) (s:List UInt8),n≤(upto c s).length→upto c (s.drop n)=(upto c s).drop n
 | 0,s,_=>rfl
 | n+1,[],h=>by simp [upto]
 | n+1,b::s,h=>by
  by_cases hb:b=c
  ·subst hb; rw [upto_cons_eq] at h; simp at h
  ·rw [upto_cons_ne hb] at h ⊢
   rw [List.drop_succ_cons,List.drop_succ_cons,upto_drop c n s (by simpa using h)]
structure Adr where
 ho:List UInt8
 p:Nat
 pa:List UInt8
 q:List UInt8
 b:Bool
def headB (s:List UInt8):Bool:=decide (s.length≤200)&&(s.all fun b=>visB b.toNat) && !(s.contains 35)&&decide (7≤s.length)&&(foldB (s.take 7)==httpB)
theorem auth_parts (r:List UInt8):upto 63 (r.drop (authB r).length)=(upto 63 r).drop (authB r).length∧(r.drop (authB r).length).contains 63=decide ((upto 63 r).length<r.length)∧behind 63 (r.drop (authB r).length)=r.drop ((upto 63 r).length+1):=by
 have h1:=auth_front r
 have h2:=upto_le 63 r
 have h3:=upto_drop 63 (authB r).length r h1
 refine ⟨h3,?_,?_⟩
 ·rw [upto_lt,h3,List.length_drop,List.length_drop,decide_eq_decide]; omega
 ·rw [behind_drop,h3,List.length_drop,List.drop_drop]
  congr 1; omega
def portR (au:List UInt8):Option Nat:=if au.contains 58=true then readD (behind 58 au) else some 80
def pathR (r:List UInt8):List UInt8:=if (authB r).length<(upto 63 r).length then cleanB ((upto 63 r).drop (authB r).length) else [47]
def hasR (r:List UInt8):Bool:=decide ((upto 63 r).length<r.length)
def queryR (r:List UInt8):List UInt8:=if hasR r then r.drop ((upto 63 r).length+1) else []
def hostR (r:List UInt8):List UInt8:=foldB (upto 58 (authB r))
def readU (s:List UInt8):Option Adr:=if headB s=true then
 match portR (authB (s.drop 7)) with
 | none=>none
 | some p=>if urlB (hostR (s.drop 7)) p (pathR (s.drop 7)) (queryR (s.drop 7)) (hasR (s.drop 7))=true then some ⟨hostR (s.drop 7),p,pathR (s.drop 7),queryR (s.drop 7),hasR (s.drop 7)⟩ else none
 else none
end Go.Proofs.YtbdfdfhamlmodaaGreatDoor.Fw
namespace Go.Proofs.YtbdfdfhamlmodaaGreatDoor.Fw
open Go Go.Proofs Go.Shelf
open Go.RowKit (Below)
set_option maxRecDepth 100000
theorem errVars {w0:World} {L:Nat→Nat→Prop} {E:Env} {a:Act} {F:Lf→Nat→Prop} {loc:Nat→Nat × Nat} {M:Nat→Prop} (R:Rel w0 L ⟨Tryz.prog,E,a,w0,F,loc,M⟩) :
  (∃ ev,w0.cell? ⟨2,0,none⟩=some ev∧(ev = .nilIface∨∃ te pe,ev = .iface te pe))∧∃ ev,w0.cell? ⟨3,0,none⟩=some ev∧(ev = .nilIface∨∃ te pe,ev = .iface te pe):=by
 obtain ⟨B,hB,hL,hg⟩:=R.glob
 have h:=(hg w0 (fun _ _=>rfl)).2
 exact ⟨h _ (List.mem_cons_of_mem _ List.mem_cons_self) 2 (by kernel_rfl),h _ (List.mem_cons_of_mem _ (List.mem_cons_of_mem _ List.mem_cons_self)) 3 (by kernel_rfl)⟩
theorem glob_at {w0 w1:World} {L:Nat→Nat→Prop} {E:Env} {a:Act} {F:Lf→Nat→Prop} {loc:Nat→Nat × Nat} {M:Nat→Prop} (R:Rel w0 L ⟨Tryz.prog,E,a,w0,F,loc,M⟩) (h:Below w0.heap.size w0 w1):GlobOk Tryz.prog w1:=by
 obtain ⟨B,hB,hL,hg⟩:=R.glob
 exact hg w1 fun b hb=>h.block b (by omega)
theorem calls107 (n:Int) (w:World) (hg:GlobOk Tryz.prog w):Calls Tryz.prog 116 #[.int .i64 n,.int .i64 0,.int .i64 999999999999999] w fun e w'=>e = .returned (.bool (inB 0 999999999999999 n))∧Below w.heap.size w w':=by
 refine calls_of_sem (ds:=[.v (vI n),.v (vI 0),.v (vI 999999999999999)]) (c116 n 0 999999999999999) (enter_of Tryz.func116 rfl rfl) hg rfl ?_ rfl
 intro i d h
 match i,h with
 | 0,h=>cases h; exact .comp _ _ rfl (.leaf _ _ _ rfl rfl (.v _ _ rfl))
 | 1,h=>cases h; exact .comp _ _ rfl (.leaf _ _ _ rfl rfl (.v _ _ rfl))
 | 2,h=>cases h; exact .comp _ _ rfl (.leaf _ _ _ rfl rfl (.v _ _ rfl))
 | n+3,h=>simp at h
theorem calls108 (n:Nat) (hn:n≤999999999999999) (w:World) (hg:GlobOk Tryz.prog w):Calls Tryz.prog 183 #[.int .i64 (n:Int)] w fun e w'=>e = .returned (.string (ofL (Lib.decDigits n)))∧Below w.heap.size w w':=by
 refine calls_of_sem (ds:=[.v (vI n)]) (c183 n hn) (enter_of Tryz.func183 rfl rfl) hg rfl ?_ rfl
 intro i d h
 match i,h with
 | 0,h=>cases h; exact .comp _ _ rfl (.leaf _ _ _ rfl rfl (.v _ _ rfl))
 | n+1,h=>simp at h
theorem calls59_bad (s:List UInt8) (hl:s.length≤1048576) (n1:Lib.atoiAll s ≠ .range) (n2:∀ v,Lib.atoiAll s ≠ .ok v) (ev:Value) (w:World) (hv:w.cell? ⟨2,0,none⟩=some ev) (hev:ev = .nilIface∨∃ te pe,ev = .iface te pe) :
  Calls Tryz.prog 138 #[.string (ofL s)] w fun e w'=>e = .returned (.tuple #[.int .i64 0,.bool false])∧Below w.heap.size w w':=by
 cases h:Lib.atoiAll s with
 | range=>exact absurd h n1
 | ok v=>exact absurd h (n2 v)
 | _ =>
  go_enter Tryz.func138,Tryz.ntmps138
  go_wp2_with (go_at_call 182; refine (Any.strconv_Atoi_syntax lib_laysC172 (ofL s) (by show s.length≤_; omega) h ev _ ?_ hev).mono ?_)
  ·exact hv
  rintro e W1 ⟨N,rfl,-,-,hb⟩
  go_wp2
  go_ret2
  exact ⟨rfl,hb⟩
theorem calls59_range (s:List UInt8) (hl:s.length≤1048576) (h:Lib.atoiAll s = .range) (ev:Value) (w:World) (hv:w.cell? ⟨3,0,none⟩=some ev) (hev:ev = .nilIface∨∃ te pe,ev = .iface te pe) :
  Calls Tryz.prog 138 #[.string (ofL s)] w fun e w'=>e = .returned (.tuple #[.int .i64 0,.bool false])∧Below w.heap.size w w':=by
 go_enter Tryz.func138,Tryz.ntmps138
 go_wp2_with (go_at_call 182; refine (Any.strconv_Atoi_range lib_laysC172 (ofL s) (by show s.length≤_; omega) h ev _ ?_ hev).mono ?_)
 ·exact hv
 rintro e W1 ⟨N,rfl,-,-,hb⟩
 go_wp2
 go_ret2
 exact ⟨rfl,hb⟩
theorem below_bytes {w w':World} {T:TypeId} (h:w'=w∨∃ t,w'=Lib.bytesWorld w T t):Below w.heap.size w w':=by
 rcases h with rfl | ⟨t,rfl⟩
 ·exact Below.refl _ _
 ·exact Lib.bytesWorld_below _ _ _
theorem calls59_out (s:List UInt8) (hl:s.length≤1048576) (v:Int) (h:Lib.atoiAll s = .ok v) (hn:inB 0 999999999999999 v=false) (w:World) (hg:∀ w',Below w.heap.size w w'→GlobOk Tryz.prog w') :
  Calls Tryz.prog 138 #[.string (ofL s)] w fun e w'=>e = .returned (.tuple #[.int .i64 0,.bool false])∧Below w.heap.size w w':=by
 go_enter Tryz.func138,Tryz.ntmps138
 go_wp2_with (go_at_call 182; refine (Any.strconv_Atoi_ok lib_laysC172 (ofL s) (by show s.length≤_; omega) v h _).mono ?_)
 rintro e W1 ⟨rfl,hW⟩
 have hb:=below_bytes hW
 have h7:=calls107 v W1 (hg _ hb)
 rw [hn] at h7
 go_wp2_with (go_at_call 116; refine h7.mono ?_)
 rintro e W2 ⟨rfl,hb2⟩
 have hb3:=hb.trans (hb2.mono hb.size)
 go_wp2
 go_ret2
 exact ⟨rfl,hb3⟩
theorem calls59_in (s:List UInt8) (hl:s.length≤1048576) (n:Nat) (h:Lib.atoiAll s = .ok (n:Int)) (hn:n≤999999999999999) (hne:((ofL (Lib.decDigits n)).toList==(ofL s).toList)=false) (w:World) (hg:∀ w',Below w.heap.size w w'→GlobOk Tryz.prog w') :
  Calls Tryz.prog 138 #[.string (ofL s)] w fun e w'=>e = .returned (.tuple #[.int .i64 0,.bool false])∧Below w.heap.size w w':=by
 have hin:inB 0 999999999999999 n=true:=by unfold inB; simp; omega
 go_enter Tryz.func138,Tryz.ntmps138
 go_wp2_with (go_at_call 182; refine (Any.strconv_Atoi_ok lib_laysC172 (ofL s) (by show s.length≤_; omega) n h _).mono ?_)
 rintro e W1 ⟨rfl,hW⟩
 have hb:=below_bytes hW
 have h7:=calls107 n W1 (hg _ hb)
 rw [hin] at h7
 go_wp2_with (go_at_call 116; refine h7.mono ?_)
 rintro e W2 ⟨rfl,hb2⟩
 have hb3:=hb.trans (hb2.mono hb.size)
 have h8:=calls108 n hn W2 (hg _ hb3)
 go_wp2_with (go_at_call 183; refine h8.mono ?_)
 rintro e W3 ⟨rfl,hb4⟩
 have hb5:=hb3.trans (hb4.mono hb3.size)
 go_wp2
 go_ret2
 exact ⟨rfl,hb5⟩
theorem calls59_ok (n:Nat) (hn:n≤999999999999999) (w:World) (hg:∀ w',Below w.heap.size w w'→GlobOk Tryz.prog w') :
  Calls Tryz.prog 138 #[.string (ofL (Lib.decDigits n))] w fun e w'=>e = .returned (.tuple #[.int .i64 n,.bool true])∧Below w.heap.size w w':=by
 have hin:inB 0 999999999999999 n=true:=by unfold inB; simp; omega
 have hlen:=dec_len15 hn
 have h:=atoi_dec n (by omega)
 go_enter Tryz.func138,Tryz.ntmps138
 go_wp2_with (go_at_call 182; refine (Any.strconv_Atoi_ok lib_laysC172 (ofL (Lib.decDigits n)) (by show (Lib.decDigits n).length≤_; omega) n h _).mono ?_)
 rintro e W1 ⟨rfl,hW⟩
 have hb:=below_bytes hW
 have h7:=calls107 n W1 (hg _ hb)
 rw [hin] at h7
 go_wp2_with (go_at_call 116; refine h7.mono ?_)
 rintro e W2 ⟨rfl,hb2⟩
 have hb3:=hb.trans (hb2.mono hb.size)
 have h8:=calls108 n hn W2 (hg _ hb3)
 go_wp2_with (go_at_call 183; refine h8.mono ?_)
 rintro e W3 ⟨rfl,hb4⟩
 have hb5:=hb3.trans (hb4.mono hb3.size)
 go_wp2
 go_ret2
 exact ⟨rfl,hb5⟩
theorem calls59_none (s:List UInt8) (hl:s.length≤1048576) (h:readD s=none) (w:World) (hg:∀ w',Below w.heap.size w w'→GlobOk Tryz.prog w') (he:(∃ ev,w.cell? ⟨2,0,none⟩=some ev∧(ev = .nilIface∨∃ te pe,ev = .iface te pe))∧∃ ev,w.cell? ⟨3,0,none⟩=some ev∧(ev = .nilIface∨∃ te pe,ev = .iface te pe)) :
  Calls Tryz.prog 138 #[.string (ofL s)] w fun e w'=>e = .returned (.tuple #[.int .i64 0,.bool false])∧Below w.heap.size w w':=by
 obtain ⟨⟨e1,h1,h2⟩,e2,h3,h4⟩:=he
 by_cases n1:Lib.atoiAll s = .range
 ·exact calls59_range s hl n1 e2 w h3 h4
 by_cases n2:∀ v,Lib.atoiAll s ≠ .ok v
 ·exact calls59_bad s hl n1 n2 e1 w h1 h2
 ·obtain ⟨v,ha⟩:∃ v,Lib.atoiAll s = .ok v:=Classical.byContradiction fun h=>n2 fun v hv=>h ⟨v,hv⟩
  cases hi:inB 0 999999999999999 v
  ·exact calls59_out s hl v ha hi w hg
  ·unfold inB at hi
   simp only [Bool.and_eq_true,decide_eq_true_eq] at hi
   obtain ⟨n,rfl⟩:∃ n:Nat,v=n:=⟨v.toNat,by omega⟩
   refine calls59_in s hl n ha (by omega) ?_ w hg
   have hne:Lib.decDigits n≠s:=fun e=>by
    have:=readD_iff.2 ⟨show n≤999999999999999 by omega,e⟩
    rw [h] at this; cases this
   cases hq:(ofL (Lib.decDigits n)).toList==(ofL s).toList
   ·rfl
   ·exact absurd (by have:=beq_iff_eq.1 hq; rw [ByteArray.toList_eq,ByteArray.toList_eq] at this; exact this) hne
theorem c138 (s:List UInt8) (hl:s.length≤1048576):Sem Tryz.prog 138 ⟨[.v (vS s)],[none]⟩ ⟨[.v (vS s),decD s],[none,none]⟩:=by
 have hd:decD s = .tup ([vI ((readD s).getD 0:Nat),vB (readD s).isSome].map .v):=rfl
 rw [hd]
 refine sem_callsT (Ein:=⟨[.v (vS s)],[none]⟩) (r := .tuple [vI ((readD s).getD 0:Nat),vB (readD s).isSome].toArray) (enter_of Tryz.func138 rfl rfl) (srel_tup (by
  intro v hv
  simp only [List.mem_cons,List.not_mem_nil,or_false] at hv
  rcases hv with rfl | rfl<;>rfl)) ?_
 intro w a F loc M R
 have h0:=slot_of R (i:=0) (d := .v (vS s)) rfl rfl (by simp)
 have hv:=errVars R
 have hg:=fun w' (hb:Below w.heap.size w w')=>glob_at R hb
 rw [args1 R.tmps]
 generalize a.tmps.getD 0 undef=v0 at h0
 cases h0
 cases hr:readD s with
 | none=>exact calls59_none s hl hr w hg hv
 | some n =>
  obtain ⟨h1,rfl⟩:=readD_iff.1 hr
  exact calls59_ok n h1 w hg
end Go.Proofs.YtbdfdfhamlmodaaGreatDoor.Fw
namespace Go.Proofs.YtbdfdfhamlmodaaGreatDoor.Fw
open Go
open Go.Proofs.Tryz
set_option maxRecDepth 100000
set_option maxHeartbeats 4000000
attribute [local congr] c_bnd c_slot c_cell c_all c_len c_chk c_asm c_opdR c_wp c_pwp c_pOps c_Done c_nx c_blk c_fin c_coeLeaf c_coeLeaves c_argR c_argsR c_partsR c_ite c_wpF c_OutF c_pHead c_pHeadN c_pDraw
abbrev zeroU:D := .agg [.v (vS []),.v (vI 0),.v (vS []),.v (vS []),.v (vB false)]
def resU:Option Adr→D
 | none => .tup [zeroU,.v (vB false)]
 | some a => .tup [urlD a.ho a.p a.pa a.q a.b,.v (vB true)]
section
variable {s:List UInt8}
theorem ru_head (h:headB s=false):readU s=none:=by unfold readU; rw [h]; rfl
variable {r:List UInt8} (hr:s.drop 7=r)
include hr
theorem ru_port (h:portR (authB r)=none):readU s=none:=by
 subst hr
 unfold readU
 rw [h]
 split<;>rfl
theorem ru_no {p:Nat} (h:portR (authB r)=some p) (hu:urlB (hostR r) p (pathR r) (queryR r) (hasR r)=false):readU s=none:=by
 subst hr
 unfold readU
 rw [h]
 simp only [hu]
 split<;>rfl
theorem ru_some {p:Nat} (h0:headB s=true) (h:portR (authB r)=some p) (hu:urlB (hostR r) p (pathR r) (queryR r) (hasR r)=true):readU s=some ⟨hostR r,p,pathR r,queryR r,hasR r⟩:=by
 subst hr
 unfold readU
 rw [h0,h]
 simp only [hu,if_true]
end
theorem c137 (s:List UInt8) (hs:s.length≤1048576):Q1 137 (.v (vS s)) (.agg [.v (vS []),.v (vI 0),.v (vS (upto 63 s)),.v (vS (behind 63 s)),.v (vB (s.contains 63))]):=by
 refine sb 1 [.ce 2 89] func137 ?_
 refine call0 (c105 s 63 (by omega)) ?_
 exact fz
theorem clean_slash:cleanB [47]=[47]:=by decide +kernel
theorem path_len (r:List UInt8):(pathR r).length≤100001:=by
 unfold pathR
 split
 ·exact clean_len _
 ·decide
theorem query_le (r:List UInt8):(queryR r).length≤r.length:=by unfold queryR; split<;>simp
theorem readD_le {s:List UInt8} {n:Nat} (h:readD s=some n):n≤999999999999999:=(readD_iff.1 h).1
theorem opt_or {α:Type} (o:Option α):o=none∨∃ n,o=some n:=by cases o; exact .inl rfl; exact .inr ⟨_,rfl⟩
theorem idx_or (r:List UInt8):(Lib.indexAny r [47,63]=((authB r).length:Int)∧¬ ((authB r).length:Int)<0)∨(Lib.indexAny r [47,63]=-1∧r.length=(authB r).length∧r.drop (authB r).length=[]):=by
 have h:=auth_le r
 rw [index_auth]
 split
 ·exact .inl ⟨rfl,by omega⟩
 ·have e:r.length=(authB r).length:=by omega
  exact .inr ⟨rfl,e,by rw [←e,List.drop_length]⟩
theorem query_eq (r:List UInt8):r.drop ((upto 63 r).length+1)=queryR r:=by
 unfold queryR hasR
 split
 ·rfl
 ·rename_i h
  exact List.drop_eq_nil_of_le (by simp at h; omega)
theorem c71t (r:List UInt8) (s:List UInt8) (hr:s.drop 7=r) (g0:headB s=true) (h1:s.length≤200) (h2:(s.all fun b=>visB b.toNat)=true) (h3:s.contains 35=false) (h4:7≤s.length) (h5:(foldB (s.take 7)==httpB)=true) :
  Q1 71 (.v (vS s)) (resU (readU s)):=by
 have hl:s.length≤9223372036854775807:=by omega
 have k1:¬ (200:Int)<s.length:=by omega
 have k2:¬ (s.length:Int)<7:=by omega
 have hrl:r.length≤200:=by rw [←hr,List.length_drop]; omega
 have hall:=upto_le 63 r
 have hau:=auth_le r
 have hae:(authB r).length≤9223372036854775807:=by omega
 have hpl:=path_len r
 have hql:=query_le r
 have x2:=c133 s 134 visB rfl rfl c134 hl
 rw [h2] at x2
 have x3:=c135 s 35
 rw [h3] at x3
 have hfl:(foldB (upto 58 (authB r))).length≤200:=by have:=upto_le 58 (authB r); unfold foldB; rw [List.length_map]; omega
 have hol:(hostR r).length≤200:=hfl
 have htr:r.take (s.length-7)=r:=List.take_of_length_le (by rw [←hr,List.length_drop]; omega)
 have hra:ascii r:=by
  intro j b hb
  refine vis_ascii h2 (j+7) b ?_
  rw [←hr,List.getElem?_drop,Nat.add_comm] at hb; exact hb
 have x7:=c136 r [47,63] (by omega) (by decide) hra (fun j b h=>by match j,h with | 0,h=>(injection h with h; subst h; decide) | 1,h=>(injection h with h; subst h; decide) | n+2,h=>cases h)
 have x8:=c105 (authB r) 58 (by omega)
 have x9:=c137 (r.drop (authB r).length) (by rw [List.length_drop]; omega)
 obtain ⟨a1,a2,a3⟩:=auth_parts r
 rw [a1,a2,a3,query_eq,←hasR] at x9
 have ht:=auth_take r
 have x10:Q1 115 (.v (vS (upto 58 (authB r)))) (.v (vS (hostR r))):=c115 (upto 58 (authB r)) (by have:=upto_le 58 (authB r); omega)
 have hbl:(behind 58 (authB r)).length≤1048576:=by rw [behind_drop,List.length_drop]; omega
 have x11:=c138 (behind 58 (authB r)) hbl
 unfold decD at x11
 have h5:(foldB (s.take 7)==[104,116,116,112,58,47,47])=true:=h5
 refine sb 1 [.ce 2 89,.tm 3] func71 ?_
 refine call0 x2 ?_
 refine call0 x3 ?_
 refine call0 (c115 (s.take 7) (by rw [List.length_take]; omega)) ?_
 clear x2 x3 h2 h3 a1 a2 a3
 refine call0 x7 ?_
 refine Or.elim (idx_or r) (fun hx => ?_) (fun hx => ?_)
 ·refine Z ?_
  refine call0 x8 ?_
  refine call0 x9 ?_
  refine call0 x10 ?_
  clear x7 x8 x9 x10 h5 h4 k1 k2 ht
  refine bc ((authB r).contains 58) (fun ch1 => ?_) fun ch1 => ?_
  ·have qp:portR (authB r)=some 80:=by unfold portR; rw [ch1]; rfl
   refine Z ?_
   refine bc (decide ((authB r).length<(upto 63 r).length)) (fun fh1 => ?_) fun fh1 => ?_
   ·have fh2:((upto 63 r).drop (authB r).length==[])=true:=by rw [beq_iff_eq]; exact List.drop_eq_nil_of_le (by simpa using fh1)
    have fh3:pathR r=[47]:=by unfold pathR; rw [if_neg (by simpa using fh1)]
    have hu:=c140 (hostR r) 80 (pathR r) (queryR r) (hasR r) (by omega) (by omega) (by omega) (by omega)
    have ch6:Q1 139 (.v (vS [47])) (.v (vS (pathR r))):=by rw [fh3]; have h:=c139 [47] (by decide); rw [clean_slash] at h; exact h
    clear fh3
    refine Z ?_
    refine call0 ch6 ?_
    refine bc (urlB (hostR r) 80 (pathR r) (queryR r) (hasR r)) (fun u1 => ?_) fun u1 => ?_
    ·rw [u1] at hu
     refine call0 hu ?_
     rw [ru_no hr qp u1]
     exact fz
    ·rw [u1] at hu
     refine call0 hu ?_
     rw [ru_some hr g0 qp u1]
     exact fz
   ·have fh2:((upto 63 r).drop (authB r).length==[])=false:=by rw [beq_eq_false_iff_ne]; intro h; have:=congrArg List.length h; simp at this; simp at fh1; omega
    have fh3:pathR r=cleanB ((upto 63 r).drop (authB r).length):=by unfold pathR; rw [if_pos (by simpa using fh1)]
    have hu:=c140 (hostR r) 80 (pathR r) (queryR r) (hasR r) (by omega) (by omega) (by omega) (by omega)
    have ch6:=c139 ((upto 63 r).drop (authB r).length) (by rw [List.length_drop]; omega)
    rw [←fh3] at ch6
    clear fh3
    refine Z ?_
    refine call0 ch6 ?_
    refine bc (urlB (hostR r) 80 (pathR r) (queryR r) (hasR r)) (fun u1 => ?_) fun u1 => ?_
    ·rw [u1] at hu
     refine call0 hu ?_
     rw [ru_no hr qp u1]
     exact fz
    ·rw [u1] at hu
     refine call0 hu ?_
     rw [ru_some hr g0 qp u1]
     exact fz
  ·have qp:portR (authB r)=readD (behind 58 (authB r)):=by unfold portR; rw [ch1]; rfl
   refine Or.elim (opt_or (readD (behind 58 (authB r)))) (fun o1 => ?_) (fun o1 => ?_)
   ·rw [o1] at qp x11
    refine Z ?_
    refine call0 x11 ?_
    rw [ru_port hr qp]
    exact fz
   ·obtain ⟨n,o1⟩:=o1
    rw [o1] at qp x11
    have hn:=readD_le o1
    refine Z ?_
    refine call0 x11 ?_
    refine bc (decide ((authB r).length<(upto 63 r).length)) (fun fh1 => ?_) fun fh1 => ?_
    ·have fh2:((upto 63 r).drop (authB r).length==[])=true:=by rw [beq_iff_eq]; exact List.drop_eq_nil_of_le (by simpa using fh1)
     have fh3:pathR r=[47]:=by unfold pathR; rw [if_neg (by simpa using fh1)]
     have hu:=c140 (hostR r) n (pathR r) (queryR r) (hasR r) (by omega) (by omega) (by omega) (by omega)
     have ch6:Q1 139 (.v (vS [47])) (.v (vS (pathR r))):=by rw [fh3]; have h:=c139 [47] (by decide); rw [clean_slash] at h; exact h
     clear fh3
     refine Z ?_
     refine call0 ch6 ?_
     refine bc (urlB (hostR r) n (pathR r) (queryR r) (hasR r)) (fun u1 => ?_) fun u1 => ?_
     ·rw [u1] at hu
      refine call0 hu ?_
      rw [ru_no hr qp u1]
      exact fz
     ·rw [u1] at hu
      refine call0 hu ?_
      rw [ru_some hr g0 qp u1]
      exact fz
    ·have fh2:((upto 63 r).drop (authB r).length==[])=false:=by rw [beq_eq_false_iff_ne]; intro h; have:=congrArg List.length h; simp at this; simp at fh1; omega
     have fh3:pathR r=cleanB ((upto 63 r).drop (authB r).length):=by unfold pathR; rw [if_pos (by simpa using fh1)]
     have hu:=c140 (hostR r) n (pathR r) (queryR r) (hasR r) (by omega) (by omega) (by omega) (by omega)
     have ch6:=c139 ((upto 63 r).drop (authB r).length) (by rw [List.length_drop]; omega)
     rw [←fh3] at ch6
     clear fh3
     refine Z ?_
     refine call0 ch6 ?_
     refine bc (urlB (hostR r) n (pathR r) (queryR r) (hasR r)) (fun u1 => ?_) fun u1 => ?_
     ·rw [u1] at hu
      refine call0 hu ?_
      rw [ru_no hr qp u1]
      exact fz
     ·rw [u1] at hu
      refine call0 hu ?_
      rw [ru_some hr g0 qp u1]
      exact fz
 ·rw [hx.2.2] at x9
  have hx4:∀ n,([]:List UInt8).take n=[]:=fun n=>List.take_nil
  refine Z ?_
  refine call0 x8 ?_
  refine call0 x9 ?_
  refine call0 x10 ?_
  clear x7 x8 x9 x10 h5 h4 k1 k2 ht
  refine bc ((authB r).contains 58) (fun ch1 => ?_) fun ch1 => ?_
  ·have qp:portR (authB r)=some 80:=by unfold portR; rw [ch1]; rfl
   refine Z ?_
   refine bc (decide ((authB r).length<(upto 63 r).length)) (fun fh1 => ?_) fun fh1 => ?_
   ·have fh2:((upto 63 r).drop (authB r).length==[])=true:=by rw [beq_iff_eq]; exact List.drop_eq_nil_of_le (by simpa using fh1)
    have fh3:pathR r=[47]:=by unfold pathR; rw [if_neg (by simpa using fh1)]
    have hu:=c140 (hostR r) 80 (pathR r) (queryR r) (hasR r) (by omega) (by omega) (by omega) (by omega)
    have ch6:Q1 139 (.v (vS [47])) (.v (vS (pathR r))):=by rw [fh3]; have h:=c139 [47] (by decide); rw [clean_slash] at h; exact h
    clear fh3
    refine Z ?_
    refine call0 ch6 ?_
    refine bc (urlB (hostR r) 80 (pathR r) (queryR r) (hasR r)) (fun u1 => ?_) fun u1 => ?_
    ·rw [u1] at hu
     refine call0 hu ?_
     rw [ru_no hr qp u1]
     exact fz
    ·rw [u1] at hu
     refine call0 hu ?_
     rw [ru_some hr g0 qp u1]
     exact fz
   ·have fh2:((upto 63 r).drop (authB r).length==[])=false:=by rw [beq_eq_false_iff_ne]; intro h; have:=congrArg List.length h; simp at this; simp at fh1; omega
    have fh3:pathR r=cleanB ((upto 63 r).drop (authB r).length):=by unfold pathR; rw [if_pos (by simpa using fh1)]
    have hu:=c140 (hostR r) 80 (pathR r) (queryR r) (hasR r) (by omega) (by omega) (by omega) (by omega)
    have ch6:=c139 ((upto 63 r).drop (authB r).length) (by rw [List.length_drop]; omega)
    rw [←fh3] at ch6
    clear fh3
    refine Z ?_
    refine call0 ch6 ?_
    refine bc (urlB (hostR r) 80 (pathR r) (queryR r) (hasR r)) (fun u1 => ?_) fun u1 => ?_
    ·rw [u1] at hu
     refine call0 hu ?_
     rw [ru_no hr qp u1]
     exact fz
    ·rw [u1] at hu
     refine call0 hu ?_
     rw [ru_some hr g0 qp u1]
     exact fz
  ·have qp:portR (authB r)=readD (behind 58 (authB r)):=by unfold portR; rw [ch1]; rfl
   refine Or.elim (opt_or (readD (behind 58 (authB r)))) (fun o1 => ?_) (fun o1 => ?_)
   ·rw [o1] at qp x11
    refine Z ?_
    refine call0 x11 ?_
    rw [ru_port hr qp]
    exact fz
   ·obtain ⟨n,o1⟩:=o1
    rw [o1] at qp x11
    have hn:=readD_le o1
    refine Z ?_
    refine call0 x11 ?_
    refine bc (decide ((authB r).length<(upto 63 r).length)) (fun fh1 => ?_) fun fh1 => ?_
    ·have fh2:((upto 63 r).drop (authB r).length==[])=true:=by rw [beq_iff_eq]; exact List.drop_eq_nil_of_le (by simpa using fh1)
     have fh3:pathR r=[47]:=by unfold pathR; rw [if_neg (by simpa using fh1)]
     have hu:=c140 (hostR r) n (pathR r) (queryR r) (hasR r) (by omega) (by omega) (by omega) (by omega)
     have ch6:Q1 139 (.v (vS [47])) (.v (vS (pathR r))):=by rw [fh3]; have h:=c139 [47] (by decide); rw [clean_slash] at h; exact h
     clear fh3
     refine Z ?_
     refine call0 ch6 ?_
     refine bc (urlB (hostR r) n (pathR r) (queryR r) (hasR r)) (fun u1 => ?_) fun u1 => ?_
     ·rw [u1] at hu
      refine call0 hu ?_
      rw [ru_no hr qp u1]
      exact fz
     ·rw [u1] at hu
      refine call0 hu ?_
      rw [ru_some hr g0 qp u1]
      exact fz
    ·have fh2:((upto 63 r).drop (authB r).length==[])=false:=by rw [beq_eq_false_iff_ne]; intro h; have:=congrArg List.length h; simp at this; simp at fh1; omega
     have fh3:pathR r=cleanB ((upto 63 r).drop (authB r).length):=by unfold pathR; rw [if_pos (by simpa using fh1)]
     have hu:=c140 (hostR r) n (pathR r) (queryR r) (hasR r) (by omega) (by omega) (by omega) (by omega)
     have ch6:=c139 ((upto 63 r).drop (authB r).length) (by rw [List.length_drop]; omega)
     rw [←fh3] at ch6
     clear fh3
     refine Z ?_
     refine call0 ch6 ?_
     refine bc (urlB (hostR r) n (pathR r) (queryR r) (hasR r)) (fun u1 => ?_) fun u1 => ?_
     ·rw [u1] at hu
      refine call0 hu ?_
      rw [ru_no hr qp u1]
      exact fz
     ·rw [u1] at hu
      refine call0 hu ?_
      rw [ru_some hr g0 qp u1]
      exact fz
theorem c71 (s:List UInt8) (hl:s.length≤1048576):Q1 71 (.v (vS s)) (resU (readU s)):=by
 have hL:s.length≤9223372036854775807:=by omega
 have x2:=c133 s 134 visB rfl rfl c134 hL
 have x3:=c135 s 35
 by_cases h1:s.length≤200
 ·have k1:¬ (200:Int)<s.length:=by omega
  cases h2:s.all fun b=>visB b.toNat
  ·rw [ru_head (by unfold headB; rw [h2]; simp)]
   rw [h2] at x2
   refine sb 1 [.ce 2 89,.tm 3] func71 ?_
   refine call0 x2 ?_
   exact fz
  rw [h2] at x2
  cases h3:s.contains 35
  ·rw [h3] at x3
   by_cases h4:7≤s.length
   ·have k2:¬ (s.length:Int)<7:=by omega
    cases h5:foldB (s.take 7)==httpB
    ·rw [ru_head (by unfold headB; rw [h5]; simp)]
     have h5:(foldB (s.take 7)==[104,116,116,112,58,47,47])=false:=h5
     refine sb 1 [.ce 2 89,.tm 3] func71 ?_
     refine call0 x2 ?_
     refine call0 x3 ?_
     refine call0 (c115 (s.take 7) (by rw [List.length_take]; omega)) ?_
     exact fz
    ·exact c71t (s.drop 7) s rfl (by unfold headB; rw [h2,h3,h5,decide_eq_true h1,decide_eq_true h4]; rfl) h1 h2 h3 h4 h5
   ·rw [ru_head (by unfold headB; rw [decide_eq_false h4]; simp)]
    have k2:(s.length:Int)<7:=by omega
    refine sb 1 [.ce 2 89,.tm 3] func71 ?_
    refine call0 x2 ?_
    refine call0 x3 ?_
    exact fz
  ·rw [ru_head (by unfold headB; rw [h3]; simp)]
   rw [h3] at x3
   refine sb 1 [.ce 2 89,.tm 3] func71 ?_
   refine call0 x2 ?_
   refine call0 x3 ?_
   exact fz
 ·have k1:(200:Int)<s.length:=by omega
  rw [ru_head (by unfold headB; rw [decide_eq_false h1]; simp)]
  refine sb 1 [.ce 2 89,.tm 3] func71 ?_
  exact fz
theorem c69t (r:List UInt8) (s:List UInt8) (hr:s.drop 7=r) (g0:headB s=true) (h1:s.length≤200) (h2:(s.all fun b=>visB b.toNat)=true) (h3:s.contains 35=false) (h4:8≤s.length) (h5:(foldB (s.take 7)==httpB)=true) :
  Q1 69 (.v (vS s)) (resU (readU s)):=by
 have hl:s.length≤9223372036854775807:=by omega
 have k1:¬ (200:Int)<s.length:=by omega
 have k2:¬ (s.length:Int)<8:=by omega
 have k3:7≤s.length:=by omega
 have hrl:r.length≤200:=by rw [←hr,List.length_drop]; omega
 have hr2:r.length≤9223372036854775807:=by omega
 have hall:=upto_le 63 r
 have hal2:(upto 63 r).length≤9223372036854775807:=by omega
 have haf:=auth_front r
 have hau:=auth_le r
 have hae:(authB r).length≤9223372036854775807:=by omega
 have hhl:=upto_le 58 (authB r)
 have hhe:(upto 58 (authB r)).length≤9223372036854775807:=by omega
 have hpl:=path_len r
 have hql:=query_le r
 have x2:=c99 s hl
 rw [h2,decide_eq_true (by omega:0<s.length)] at x2
 have hup:(upto 35 s==s)=true:=by rw [upto_eq,h3]; rfl
 have hol:(hostR r).length≤200:=by unfold hostR foldB; rw [List.length_map]; omega
 have htr:r.take (s.length-7)=r:=List.take_of_length_le (by rw [←hr,List.length_drop]; omega)
 have x6:Q2 128 (.v (vS (upto 63 r))) (.v (vC (47:UInt8).toNat)) (.v (vS (authB r))):=c128 (upto 63 r) 47 (by omega)
 have x8:Q1 97 (.v (vS (upto 58 (authB r)))) (.v (vS (hostR r))):=c97 (upto 58 (authB r)) (by omega)
 have x11:=c129 ((authB r).drop ((upto 58 (authB r)).length+1)) (by rw [List.length_drop]; omega)
 rw [←behind_drop] at x11
 unfold decD at x11
 have h5:(foldB (s.take 7)==[104,116,116,112,58,47,47])=true:=h5
 refine sb 1 [.ce 2 89,.tm 3] func69 ?_
 refine call0 x2 ?_
 refine call0 (c128 s 35 (by omega)) ?_
 refine call0 (c97 (s.take 7) (by rw [List.length_take]; omega)) ?_
 refine call0 (c128 r 63 (by omega)) ?_
 refine call0 x6 ?_
 refine call0 (c128 (authB r) 58 (by omega)) ?_
 refine call0 x8 ?_
 clear x2 x6 x8 h2 h3 hup
 refine Or.elim (Nat.lt_or_ge (upto 58 (authB r)).length (authB r).length) (fun ch1 => ?_) fun ch1 => ?_
 ·have ch2:(authB r).contains 58=true:=by rw [upto_lt]; exact decide_eq_true ch1
  have qp:portR (authB r)=readD (behind 58 (authB r)):=by unfold portR; rw [ch2]; rfl
  have w1:IntKind.i64.wrap (((upto 58 (authB r)).length:Int)+1)=(((upto 58 (authB r)).length+1:Nat):Int):=wrapN ch1 (by omega)
  have w2:(upto 58 (authB r)).length+1≤(authB r).length:=ch1
  rw [behind_drop] at x11 qp
  refine Z ?_
  refine Or.elim (opt_or (readD ((authB r).drop ((upto 58 (authB r)).length+1)))) (fun o1 => ?_) (fun o1 => ?_)
  ·rw [o1] at qp x11
   refine call0 x11 ?_
   rw [ru_port hr qp]
   exact fz
  ·obtain ⟨n,o1⟩:=o1
   rw [o1] at qp x11
   have hn:=readD_le o1
   refine call0 x11 ?_
   have hu:=c131 (hostR r) n (pathR r) (queryR r) (hasR r) (by omega) (by omega) (by omega) (by omega)
   refine Or.elim (Nat.lt_or_ge (authB r).length (upto 63 r).length) (fun fh1 => ?_) fun fh1 => ?_
   ·have fh2:pathR r=cleanB ((upto 63 r).drop (authB r).length):=by unfold pathR; rw [if_pos fh1]
    have ch6:=c130 ((upto 63 r).drop (authB r).length) (by rw [List.length_drop]; omega)
    rw [←fh2] at ch6
    clear fh2
    have fh1':=Nat.le_of_lt fh1
    refine Z ?_
    refine call0 ch6 ?_
    refine Or.elim (Nat.lt_or_ge (upto 63 r).length r.length) (fun fh3 => ?_) fun fh3 => ?_
    ·have fh4:hasR r=true:=by unfold hasR; exact decide_eq_true fh3
     have fh5:queryR r=r.drop ((upto 63 r).length+1):=(query_eq r).symm
     have w1:IntKind.i64.wrap (((upto 63 r).length:Int)+1)=(((upto 63 r).length+1:Nat):Int):=wrapN fh3 (by omega)
     have w2:(upto 63 r).length+1≤r.length:=fh3
     refine Z ?_
     refine bc (urlB (hostR r) n (pathR r) (queryR r) (hasR r)) (fun u1 => ?_) fun u1 => ?_
     ·rw [u1,fh4,fh5] at hu
      refine call0 hu ?_
      rw [ru_no hr qp u1]
      exact fz
     ·rw [u1,fh4,fh5] at hu
      refine call0 hu ?_
      rw [ru_some hr g0 qp u1,fh4,fh5]
      exact fz
    ·replace fh3:=Nat.not_lt.2 fh3
     have fh4:hasR r=false:=by unfold hasR; exact decide_eq_false fh3
     have fh5:queryR r=[]:=by unfold queryR; rw [fh4]; rfl
     refine Z ?_
     refine bc (urlB (hostR r) n (pathR r) (queryR r) (hasR r)) (fun u1 => ?_) fun u1 => ?_
     ·rw [u1,fh4,fh5] at hu
      refine call0 hu ?_
      rw [ru_no hr qp u1]
      exact fz
     ·rw [u1,fh4,fh5] at hu
      refine call0 hu ?_
      rw [ru_some hr g0 qp u1,fh4,fh5]
      exact fz
   ·replace fh1:=Nat.not_lt.2 fh1
    have fh2:pathR r=[47]:=by unfold pathR; rw [if_neg fh1]
    refine Z ?_
    refine Or.elim (Nat.lt_or_ge (upto 63 r).length r.length) (fun fh3 => ?_) fun fh3 => ?_
    ·have fh4:hasR r=true:=by unfold hasR; exact decide_eq_true fh3
     have fh5:queryR r=r.drop ((upto 63 r).length+1):=(query_eq r).symm
     have w1:IntKind.i64.wrap (((upto 63 r).length:Int)+1)=(((upto 63 r).length+1:Nat):Int):=wrapN fh3 (by omega)
     have w2:(upto 63 r).length+1≤r.length:=fh3
     refine Z ?_
     refine bc (urlB (hostR r) n (pathR r) (queryR r) (hasR r)) (fun u1 => ?_) fun u1 => ?_
     ·rw [u1,fh4,fh5,fh2] at hu
      refine call0 hu ?_
      rw [ru_no hr qp u1]
      exact fz
     ·rw [u1,fh4,fh5,fh2] at hu
      refine call0 hu ?_
      rw [ru_some hr g0 qp u1,fh4,fh5,fh2]
      exact fz
    ·replace fh3:=Nat.not_lt.2 fh3
     have fh4:hasR r=false:=by unfold hasR; exact decide_eq_false fh3
     have fh5:queryR r=[]:=by unfold queryR; rw [fh4]; rfl
     refine Z ?_
     refine bc (urlB (hostR r) n (pathR r) (queryR r) (hasR r)) (fun u1 => ?_) fun u1 => ?_
     ·rw [u1,fh4,fh5,fh2] at hu
      refine call0 hu ?_
      rw [ru_no hr qp u1]
      exact fz
     ·rw [u1,fh4,fh5,fh2] at hu
      refine call0 hu ?_
      rw [ru_some hr g0 qp u1,fh4,fh5,fh2]
      exact fz
 ·replace ch1:=Nat.not_lt.2 ch1
  have ch2:(authB r).contains 58=false:=by rw [upto_lt]; exact decide_eq_false ch1
  have qp:portR (authB r)=some 80:=by unfold portR; rw [ch2]; rfl
  refine Z ?_
  have hu:=c131 (hostR r) 80 (pathR r) (queryR r) (hasR r) (by omega) (by omega) (by omega) (by omega)
  refine Or.elim (Nat.lt_or_ge (authB r).length (upto 63 r).length) (fun fh1 => ?_) fun fh1 => ?_
  ·have fh2:pathR r=cleanB ((upto 63 r).drop (authB r).length):=by unfold pathR; rw [if_pos fh1]
   have ch6:=c130 ((upto 63 r).drop (authB r).length) (by rw [List.length_drop]; omega)
   rw [←fh2] at ch6
   clear fh2
   have fh1':=Nat.le_of_lt fh1
   refine Z ?_
   refine call0 ch6 ?_
   refine Or.elim (Nat.lt_or_ge (upto 63 r).length r.length) (fun fh3 => ?_) fun fh3 => ?_
   ·have fh4:hasR r=true:=by unfold hasR; exact decide_eq_true fh3
    have fh5:queryR r=r.drop ((upto 63 r).length+1):=(query_eq r).symm
    have w1:IntKind.i64.wrap (((upto 63 r).length:Int)+1)=(((upto 63 r).length+1:Nat):Int):=wrapN fh3 (by omega)
    have w2:(upto 63 r).length+1≤r.length:=fh3
    refine Z ?_
    refine bc (urlB (hostR r) 80 (pathR r) (queryR r) (hasR r)) (fun u1 => ?_) fun u1 => ?_
    ·rw [u1,fh4,fh5] at hu
     refine call0 hu ?_
     rw [ru_no hr qp u1]
     exact fz
    ·rw [u1,fh4,fh5] at hu
     refine call0 hu ?_
     rw [ru_some hr g0 qp u1,fh4,fh5]
     exact fz
   ·replace fh3:=Nat.not_lt.2 fh3
    have fh4:hasR r=false:=by unfold hasR; exact decide_eq_false fh3
    have fh5:queryR r=[]:=by unfold queryR; rw [fh4]; rfl
    refine Z ?_
    refine bc (urlB (hostR r) 80 (pathR r) (queryR r) (hasR r)) (fun u1 => ?_) fun u1 => ?_
    ·rw [u1,fh4,fh5] at hu
     refine call0 hu ?_
     rw [ru_no hr qp u1]
     exact fz
    ·rw [u1,fh4,fh5] at hu
     refine call0 hu ?_
     rw [ru_some hr g0 qp u1,fh4,fh5]
     exact fz
  ·replace fh1:=Nat.not_lt.2 fh1
   have fh2:pathR r=[47]:=by unfold pathR; rw [if_neg fh1]
   refine Z ?_
   refine Or.elim (Nat.lt_or_ge (upto 63 r).length r.length) (fun fh3 => ?_) fun fh3 => ?_
   ·have fh4:hasR r=true:=by unfold hasR; exact decide_eq_true fh3
    have fh5:queryR r=r.drop ((upto 63 r).length+1):=(query_eq r).symm
    have w1:IntKind.i64.wrap (((upto 63 r).length:Int)+1)=(((upto 63 r).length+1:Nat):Int):=wrapN fh3 (by omega)
    have w2:(upto 63 r).length+1≤r.length:=fh3
    refine Z ?_
    refine bc (urlB (hostR r) 80 (pathR r) (queryR r) (hasR r)) (fun u1 => ?_) fun u1 => ?_
    ·rw [u1,fh4,fh5,fh2] at hu
     refine call0 hu ?_
     rw [ru_no hr qp u1]
     exact fz
    ·rw [u1,fh4,fh5,fh2] at hu
     refine call0 hu ?_
     rw [ru_some hr g0 qp u1,fh4,fh5,fh2]
     exact fz
   ·replace fh3:=Nat.not_lt.2 fh3
    have fh4:hasR r=false:=by unfold hasR; exact decide_eq_false fh3
    have fh5:queryR r=[]:=by unfold queryR; rw [fh4]; rfl
    refine Z ?_
    refine bc (urlB (hostR r) 80 (pathR r) (queryR r) (hasR r)) (fun u1 => ?_) fun u1 => ?_
    ·rw [u1,fh4,fh5,fh2] at hu
     refine call0 hu ?_
     rw [ru_no hr qp u1]
     exact fz
    ·rw [u1,fh4,fh5,fh2] at hu
     refine call0 hu ?_
     rw [ru_some hr g0 qp u1,fh4,fh5,fh2]
     exact fz
theorem ru_short {s:List UInt8} (h:s.length≤7):readU s=none:=ru_no (r:=[]) (List.drop_eq_nil_of_le h) (p:=80) (by decide) (by unfold urlB; rw [show hostB (hostR [])=false by decide]; rfl)
theorem c69 (s:List UInt8) (hl:s.length≤1048576):Q1 69 (.v (vS s)) (resU (readU s)):=by
 have hL:s.length≤9223372036854775807:=by omega
 by_cases h1:s.length≤200
 ·have k1:¬ (200:Int)<s.length:=by omega
  by_cases h4:8≤s.length
  ·have k2:¬ (s.length:Int)<8:=by omega
   have k3:7≤s.length:=by omega
   have x2:=c99 s hL
   rw [decide_eq_true (by omega:0<s.length)] at x2
   cases h2:s.all fun b=>visB b.toNat
   ·rw [ru_head (by unfold headB; rw [h2]; simp)]
    rw [h2] at x2
    refine sb 1 [.ce 2 89,.tm 3] func69 ?_
    refine call0 x2 ?_
    exact fz
   rw [h2] at x2
   cases h3:s.contains 35
   ·cases h5:foldB (s.take 7)==httpB
    ·rw [ru_head (by unfold headB; rw [h5]; simp)]
     have h5:(foldB (s.take 7)==[104,116,116,112,58,47,47])=false:=h5
     have hup:(upto 35 s==s)=true:=by rw [upto_eq,h3]; rfl
     refine sb 1 [.ce 2 89,.tm 3] func69 ?_
     refine call0 x2 ?_
     refine call0 (c128 s 35 (by omega)) ?_
     refine call0 (c97 (s.take 7) (by rw [List.length_take]; omega)) ?_
     exact fz
    ·exact c69t (s.drop 7) s rfl (by unfold headB; rw [h2,h3,h5,decide_eq_true h1,decide_eq_true k3]; rfl) h1 h2 h3 h4 h5
   ·rw [ru_head (by unfold headB; rw [h3]; simp)]
    have hup:(upto 35 s==s)=false:=by rw [upto_eq,h3]; rfl
    refine sb 1 [.ce 2 89,.tm 3] func69 ?_
    refine call0 x2 ?_
    refine call0 (c128 s 35 (by omega)) ?_
    exact fz
  ·rw [ru_short (by omega)]
   have k2:(s.length:Int)<8:=by omega
   refine sb 1 [.ce 2 89,.tm 3] func69 ?_
   exact fz
 ·have k1:(200:Int)<s.length:=by omega
  rw [ru_head (by unfold headB; rw [decide_eq_false h1]; simp)]
  refine sb 1 [.ce 2 89,.tm 3] func69 ?_
  exact fz
section
variable (ho:List UInt8) (p:Nat) (pa q:List UInt8) (b:Bool) (h0:ho.length≤1048576) (hp:p≤999999999999999) (h1:pa.length≤1048576) (h2:q.length≤1048576) (hu:urlB ho p pa q b=true)
include h0 hp h1 h2 hu
theorem c123:Q1 123 (urlD ho p pa q b) (.v (vS (urlT ho p pa q b))):=by
 have hx:=c131 ho p pa q b h0 hp h1 h2
 rw [hu] at hx
 refine sb 1 [.tm 2] func123 ?_
 refine call0 hx ?_
 refine call0 (c170 ho p pa q b h0 hp h1 h2) ?_
 exact fz
end
def gs108_0:List (Option (List Nat)):=[some [24,25,26,27,28,29,31,32,33,34,35,36,37],some [24,25,26,27,28,29,31,32,33,34,35,36,37],some [22,23,26,27,28,29,31,32,33,34,35,36,37],some [22,23,26,27,28,29,31,32,33,34,35,36,37],some [22,23,24,25,28,31,32,33,34,35,36,37],some [22,23,24,25,28,31,32,33,34,35,36,37],some [22,23,24,25,26,27,31,32,33,34,35,36,37],some [22,23,24,25,31,32,33,34,35,36,37],some [31,32,33,34,35,36,37],some [22,23,24,25,26,27,28,29,30,33,34,35,36,4],some [22,23,24,25,26,27,28,29,30,33,34,35,36,4],some [22,23,24,25,26,27,28,29,30,31,32,35,4],some [22,23,24,25,26,27,28,29,30,31,32,35,4],some [22,23,24,25,26,27,28,29,30,31,32,33,34,4],some [22,23,24,25,26,27,28,29,30,31,32,4],some [22,23,24,25,26,27,28,29,30,4],some [31,32,33,34,35,36,37],none,none]
attribute [go_sem] gs108_0
def gs245_0:List (Option (List Nat)):=[some [27,28,29,30,31,32,34,35,36,37,38,39,40],some [27,28,29,30,31,32,34,35,36,37,38,39,40],some [25,26,29,30,31,32,34,35,36,37,38,39,40],some [25,26,29,30,31,32,34,35,36,37,38,39,40],some [25,26,27,28,31,34,35,36,37,38,39,40],some [25,26,27,28,31,34,35,36,37,38,39,40],some [25,26,27,28,29,30,34,35,36,37,38,39,40],some [25,26,27,28,34,35,36,37,38,39,40],some [34,35,36,37,38,39,40],some [25,26,27,28,29,30,31,32,33,36,37,38,39,4],some [25,26,27,28,29,30,31,32,33,36,37,38,39,4],some [25,26,27,28,29,30,31,32,33,34,35,38,4],some [25,26,27,28,29,30,31,32,33,34,35,38,4],some [25,26,27,28,29,30,31,32,33,34,35,36,37,4],some [25,26,27,28,29,30,31,32,33,34,35,4],some [25,26,27,28,29,30,31,32,33,4],some [34,35,36,37,38,39,40],none,none]
attribute [go_sem] gs245_0
def gs104_0:List (Option (List Nat)):=[some [48,50,51,52,53,54,55,56,57],some [47,50,51,52,53,54,55,56,57],some [50,51,52,53,54,55,56,57],some [47,48,49,52,53,54,55,56,2],some [47,48,49,52,53,54,55,56,2],some [47,48,49,50,51,54,2],some [47,48,49,50,51,54,2],some [47,48,49,50,51,52,53,2],some [47,48,49,50,51,2],some [47,48,49,50,51,2],some [47,48,49,2],some [50,51,52,53,54,55,56,57],none,none]
attribute [go_sem] gs104_0
def gs207_0:List (Option (List Nat)):=[some [46,47,48,50,51,52,53,54],some [46,47,48,50,51,52,53,54],some [44,45,48,50,51,52,53,54],some [44,45,48,50,51,52,53,54],some [44,45,46,47,50,51,52,53,54],some [50,51,52,53,54],some [44,45,46,47,48,49,52,53,2],some [44,45,46,47,48,49,52,53,2],some [44,45,46,47,48,49,50,51,2],some [44,45,46,47,48,49,50,51,2],some [44,45,46,47,48,49,2],some [50,51,52,53,54],none,none]
attribute [go_sem] gs207_0
abbrev curD (t:List UInt8) (a:Nat):D := .agg [.v (vS t),.v (vI a)]
def lnB (b:UInt8):Bool := !(b==13) && !(b==10)
def lnT (r:List UInt8):List UInt8:=r.takeWhile lnB
def lnC (r:List UInt8):Nat:=if (lnT r).length=r.length then 1 else if r.getD (lnT r).length 0=13 then (if (lnT r).length+1=r.length then 1 else if r.getD ((lnT r).length+1) 0=10 then 0 else 2) else 2
def lineR (t:List UInt8) (a:Nat):Option (List UInt8 × Nat):=if lnC (t.drop a)=0 then some (lnT (t.drop a),a+(lnT (t.drop a)).length+2) else none
abbrev noL (k:Int):D := .tup [.v (vS []),.agg [.v (vS []),.v (vI 0)],.v (vI k)]
def lineD (t:List UInt8) (a:Nat):D:=match lineR t a with | some (l,b) => .tup [.v (vS l),curD t b,.v (vI 0)] | none=>noL (lnC (t.drop a))
theorem lnT_at {r:List UInt8} {k:Nat} (hk:k<r.length) (h:∀ b,b∈r.take k→lnB b=true) (hb:lnB (r.getD k 0)=false):lnT r=r.take k:=by
 have e:r=r.take k++(r.getD k 0::r.drop (k+1)):=split_at' hk
 unfold lnT
 conv=>lhs; rw [e]
 rw [List.takeWhile_append_of_pos h,List.takeWhile_cons,hb]
 simp
theorem lnT_all {r:List UInt8} (h:∀ b,b∈r→lnB b=true):lnT r=r:=by
 have e:=List.takeWhile_append_of_pos (l₂:=[]) h
 simpa [lnT] using e
theorem lnT_le (r:List UInt8):(lnT r).length≤r.length:=(List.takeWhile_prefix _).length_le
theorem lnT_take (r:List UInt8):r.take (lnT r).length=lnT r:=List.prefix_iff_eq_take.1 (List.takeWhile_prefix _) |>.symm
theorem lnT_stop {r:List UInt8} (h:(lnT r).length<r.length):lnB (r.getD (lnT r).length 0)=false:=by
 induction r with
 | nil=>simp at h
 | cons b l ih =>
  unfold lnT at h ⊢
  rw [List.takeWhile_cons] at h ⊢
  cases hb:lnB b
  ·simpa using hb
  ·rw [hb] at h
   simp only [if_true,List.length_cons] at h
   simp only [if_true,List.length_cons,List.getD_cons_succ]
   exact ih (by unfold lnT; omega)
theorem lnB_in (b:UInt8):([13,10]:List UInt8).contains b = !(lnB b):=by
 unfold lnB
 simp only [List.contains_cons,List.contains_nil,Bool.or_false,Bool.not_and,Bool.not_not]
theorem lnB_13 {b:UInt8} (h:lnB b=false) (h2:b≠10):b=13:=by
 unfold lnB at h
 simp only [Bool.and_eq_false_iff,Bool.not_eq_false',beq_iff_eq] at h
 rcases h with h | h
 ·exact h
 ·exact absurd h h2
theorem lnT_cons (b:UInt8) (l:List UInt8):lnT (b::l)=if lnB b=true then b::lnT l else []:=List.takeWhile_cons
theorem any_ln:∀ r:List UInt8,Lib.indexAny r [13,10]=if (lnT r).length=r.length then -1 else ((lnT r).length:Int)
 | []=>rfl
 | b::l=>by
  rw [Lib.indexAny,lnB_in,any_ln l,lnT_cons]
  cases hb:lnB b
  ·simp
  ·simp only [Bool.not_true,Bool.false_eq_true,if_false,if_true,List.length_cons]
   by_cases h:(lnT l).length=l.length
   ·simp [h]
   ·have h2:¬ (lnT l).length+1=l.length+1:=by omega
    have h3:¬ (((lnT l).length:Int)==-1)=true:=by rw [beq_iff_eq]; omega
    rw [if_neg h,if_neg h2,if_neg h3,Int.natCast_add]; rfl
theorem drop_snoc {t:List UInt8} {a k:Nat} (h:k<(t.drop a).length) (d:UInt8):(t.drop a).getD k d=t.getD (a+k) d:=by
 simp [gDg,List.getElem?_drop]
theorem toI {b c:UInt8} (h:b=c):(b.toNat:Int)=c.toNat:=by rw [h]
theorem ofI {b c:UInt8} (h:(b.toNat:Int)=c.toNat):b=c:=UInt8.toNat_inj.1 (by omega)
theorem c136l (s:List UInt8) (hs:s.length<4294967281):Sem prog 136 ⟨[.v (vS s),.v (vS [13,10])],[none,none]⟩ ⟨[.v (vS s),.v (vS [13,10]),.v (vI (Lib.indexAny s [13,10]))],[none,none,none]⟩:=by
 refine sem_calls (Ein:=⟨[.v (vS s),.v (vS [13,10])],[none,none]⟩) (r:=vI (Lib.indexAny s [13,10])) (enter_of func136 rfl rfl) rfl rfl rfl ?_
 intro w a F loc M R
 have h0:=slot_of R (i:=0) (d := .v (vS s)) rfl rfl (by simp)
 have h1:=slot_of R (i:=1) (d := .v (vS [13,10])) rfl rfl (by simp)
 rw [args2 R.tmps]
 generalize a.tmps.getD 0 undef=v0 at h0
 generalize a.tmps.getD 1 undef=v1 at h1
 cases h1
 cases h0
 exact Go.Proofs.any_crlf lib_lays153 (by kernel_rfl) (ofL s) w hs
section
variable (t:List UInt8) (a n:Nat) (hl:t.length≤1048576) (ha:a≤t.length)
include hl ha
theorem c156:Q1 156 (curD t a) (.v (vB true)):=by
 have h1:t.length≤9223372036854775807:=by omega
 have h2:=c116 a 0 t.length
 rw [show inB 0 t.length a=true by unfold inB; simp; omega] at h2
 refine sb 1 [.tm 2] func156 ?_
 refine call0 h2 ?_
 exact fz
theorem c240:Q1 240 (curD t a) (.v (vB true)):=by
 have h1:t.length≤9223372036854775807:=by omega
 have h2:(0:Int)≤a:=by omega
 have h3:(a:Int)≤t.length:=by omega
 refine sb 1 [.tm 2] func240 ?_
 exact fz
def takeD:D:=if a+n≤t.length then .tup [.v (vS ((t.drop a).take n)),curD t (a+n),.v (vB true)] else .tup [.v (vS []),.agg [.v (vS []),.v (vI 0)],.v (vB false)]
theorem c108 (hn:n≤268435455):Q2 108 (curD t a) (.v (vI n)) (takeD t a n):=by
 have h1:t.length≤9223372036854775807:=by omega
 have w1:IntKind.i64.wrap ((t.length:Int)-a)=(t.length:Int)-a:=wrapI (by omega)
 have w2:IntKind.i64.wrap ((a:Int)+n)=((a+n:Nat):Int):=by rw [wrapI (by omega)]; omega
 have x1:=c156 t a hl ha
 have x2:=c116 n 0 ((t.length:Int)-a)
 unfold takeD
 by_cases h:a+n≤t.length
 ·rw [if_pos h]
  rw [show inB 0 ((t.length:Int)-a) n=true by unfold inB; simp; omega] at x2
  have h3:a≤a+n:=by omega
  have h4:a+n-a=n:=by omega
  refine sb 2 [.tm 4,.ce 5 125,.tm 6] func108 ?_
  refine call0 x1 ?_
  refine call0 x2 ?_
  refine draw_new gs108_0 mixedOk (by kernel_rfl) ?_
  refine Z ?_
  exact fz
 ·rw [if_neg h]
  rw [show inB 0 ((t.length:Int)-a) n=false by unfold inB; simp; omega] at x2
  refine sb 2 [.tm 4,.ce 5 125,.tm 6] func108 ?_
  refine call0 x1 ?_
  refine call0 x2 ?_
  exact fz
theorem c245 (hn:n≤268435455):Q2 245 (curD t a) (.v (vI n)) (takeD t a n):=by
 have h1:t.length≤9223372036854775807:=by omega
 have w1:IntKind.i64.wrap ((t.length:Int)-a)=(t.length:Int)-a:=wrapI (by omega)
 have w2:IntKind.i64.wrap ((a:Int)+n)=((a+n:Nat):Int):=by rw [wrapI (by omega)]; omega
 have x1:=c240 t a hl ha
 have h5:¬ ((n:Int)<0):=by omega
 unfold takeD
 by_cases h:a+n≤t.length
 ·rw [if_pos h]
  have h6:¬ ((t.length:Int)-a<n):=by omega
  have h3:a≤a+n:=by omega
  have h4:a+n-a=n:=by omega
  refine sb 2 [.tm 4,.ce 5 125,.tm 6] func245 ?_
  refine call0 x1 ?_
  refine draw_new gs245_0 mixedOk (by kernel_rfl) ?_
  refine Z ?_
  exact fz
 ·rw [if_neg h]
  have h6:((t.length:Int)-a<n):=by omega
  refine sb 2 [.tm 4,.ce 5 125,.tm 6] func245 ?_
  refine call0 x1 ?_
  exact fz
theorem c104n (hx:Lib.indexAny (t.drop a) [13,10]=-1):Q1 104 (curD t a) (noL 1):=by
 have h1:t.length≤9223372036854775807:=by omega
 have x1:=c156 t a hl ha
 have h9:(t.drop a).length=t.length-a:=List.length_drop
 have x2:=c136l (t.drop a) (by omega)
 rw [hx] at x2
 clear h9 hx
 refine sb 1 [.tm 2,.ce 3 125,.tm 4] func104 ?_
 refine call0 x1 ?_
 refine call0 x2 ?_
 exact fz
theorem c104e (i:Nat) (hi:i<(t.drop a).length)(hx:Lib.indexAny (t.drop a) [13,10]=(i:Int))(hb:(((t.drop a).getD i 0).toNat:Int)=13) (he:i+1=(t.drop a).length):Q1 104 (curD t a) (noL 1):=by
 have h1:t.length≤9223372036854775807:=by omega
 have x1:=c156 t a hl ha
 have h9:(t.drop a).length=t.length-a:=List.length_drop
 have x2:=c136l (t.drop a) (by omega)
 have h2:(t.drop a).length≤9223372036854775807:=by omega
 have h3:¬ ((i:Int)<0):=by omega
 have w1:IntKind.i64.wrap (((t.drop a).length:Int)-1)=((t.drop a).length:Int)-1:=wrapI (by omega)
 rw [hx] at x2
 have h4:((i:Int)==((t.drop a).length:Int)-1)=true:=by rw [beq_iff_eq]; omega
 clear h9 hx he
 refine sb 1 [.tm 2,.ce 3 125,.tm 4] func104 ?_
 refine call0 x1 ?_
 refine call0 x2 ?_
 exact fz
theorem c104c (i:Nat) (hi:i<(t.drop a).length)(hx:Lib.indexAny (t.drop a) [13,10]=(i:Int))(hb:(((t.drop a).getD i 0).toNat:Int)=13) (he:i+1<(t.drop a).length) (hc:(((t.drop a).getD (i+1) 0).toNat:Int)=10):Q1 104 (curD t a) (.tup [.v (vS ((t.drop a).take i)),curD t (a+i+2),.v (vI 0)]):=by
 have h1:t.length≤9223372036854775807:=by omega
 have x1:=c156 t a hl ha
 have h9:(t.drop a).length=t.length-a:=List.length_drop
 have x2:=c136l (t.drop a) (by omega)
 have h2:(t.drop a).length≤9223372036854775807:=by omega
 have h3:¬ ((i:Int)<0):=by omega
 have w1:IntKind.i64.wrap (((t.drop a).length:Int)-1)=((t.drop a).length:Int)-1:=wrapI (by omega)
 rw [hx] at x2
 have h4:((i:Int)==((t.drop a).length:Int)-1)=false:=by rw [beq_eq_false_iff_ne]; omega
 have w2:=wrapN hi h2
 have h5:i≤(t.drop a).length:=by omega
 have w3:IntKind.i64.wrap ((a:Int)+i)=((a+i:Nat):Int):=by rw [wrapI (by omega)]; omega
 have w4:IntKind.i64.wrap (((a+i:Nat):Int)+2)=((a+i+2:Nat):Int):=by rw [wrapI (by omega)]; omega
 clear h9 hx
 refine sb 1 [.tm 2,.ce 3 125,.tm 4] func104 ?_
 refine call0 x1 ?_
 refine call0 x2 ?_
 refine draw_new gs104_0 mixedOk (by kernel_rfl) ?_
 refine Z ?_
 exact fz
theorem c104d (i:Nat) (hi:i<(t.drop a).length)(hx:Lib.indexAny (t.drop a) [13,10]=(i:Int))(hb:(((t.drop a).getD i 0).toNat:Int)=13) (he:i+1<(t.drop a).length) (hc:(((t.drop a).getD (i+1) 0).toNat:Int)≠10):Q1 104 (curD t a) (noL 2):=by
 have h1:t.length≤9223372036854775807:=by omega
 have x1:=c156 t a hl ha
 have h9:(t.drop a).length=t.length-a:=List.length_drop
 have x2:=c136l (t.drop a) (by omega)
 have h2:(t.drop a).length≤9223372036854775807:=by omega
 have h3:¬ ((i:Int)<0):=by omega
 have w1:IntKind.i64.wrap (((t.drop a).length:Int)-1)=((t.drop a).length:Int)-1:=wrapI (by omega)
 rw [hx] at x2
 have h4:((i:Int)==((t.drop a).length:Int)-1)=false:=by rw [beq_eq_false_iff_ne]; omega
 have w2:=wrapN hi h2
 have h5:((((t.drop a).getD (i+1) 0).toNat:Int)==10)=false:=beq_eq_false_iff_ne.2 hc
 clear h9 hx hc
 refine sb 1 [.tm 2,.ce 3 125,.tm 4] func104 ?_
 refine call0 x1 ?_
 refine call0 x2 ?_
 exact fz
theorem c104b (i:Nat) (hi:i<(t.drop a).length)(hx:Lib.indexAny (t.drop a) [13,10]=(i:Int))(hb:(((t.drop a).getD i 0).toNat:Int)=10):Q1 104 (curD t a) (noL 2):=by
 have h1:t.length≤9223372036854775807:=by omega
 have x1:=c156 t a hl ha
 have h9:(t.drop a).length=t.length-a:=List.length_drop
 have x2:=c136l (t.drop a) (by omega)
 have h2:(t.drop a).length≤9223372036854775807:=by omega
 have h3:¬ ((i:Int)<0):=by omega
 have w1:IntKind.i64.wrap (((t.drop a).length:Int)-1)=((t.drop a).length:Int)-1:=wrapI (by omega)
 rw [hx] at x2
 clear h9 hx
 refine sb 1 [.tm 2,.ce 3 125,.tm 4] func104 ?_
 refine call0 x1 ?_
 refine call0 x2 ?_
 exact fz
theorem c104:Q1 104 (curD t a) (lineD t a):=by
 have h9:(t.drop a).length=t.length-a:=List.length_drop
 have hx:=any_ln (t.drop a)
 have hle:=lnT_le (t.drop a)
 have hst:=lnT_stop (r:=t.drop a)
 have htk:=lnT_take (t.drop a)
 unfold lineD lineR lnC
 generalize hi:(lnT (t.drop a)).length=i at hx hle hst htk ⊢
 by_cases h1:i=(t.drop a).length
 ·rw [if_pos h1] at hx
  rw [if_pos h1]
  exact c104n t a hl ha hx
 ·rw [if_neg h1] at hx
  rw [if_neg h1]
  by_cases hb:(t.drop a).getD i 0=13
  ·rw [if_pos hb]
   by_cases he:i+1=(t.drop a).length
   ·rw [if_pos he]
    exact c104e t a hl ha i (by omega) hx (toI hb) he
   ·rw [if_neg he]
    by_cases hc:(t.drop a).getD (i+1) 0=10
    ·rw [if_pos hc,←htk]
     exact c104c t a hl ha i (by omega) hx (toI hb) (by omega) (toI hc)
    ·rw [if_neg hc]
     exact c104d t a hl ha i (by omega) hx (toI hb) (by omega) fun e=>hc (ofI e)
  ·rw [if_neg hb]
   exact c104b t a hl ha i (by omega) hx (toI (Decidable.byContradiction fun h=>hb (lnB_13 (hst (by omega)) h)))
omit hl ha in
theorem lineD_all (h:∀ b,b∈t.drop a→lnB b=true):lineD t a=noL 1:=by
 unfold lineD lineR lnC
 rw [lnT_all h,if_pos rfl]; rfl
omit hl in
theorem lineD_stop {k:Nat} (hk:a+k<t.length) (hall:∀ b,b∈(t.drop a).take k→lnB b=true) (hb:lnB (t.getD (a+k) 0)=false) :
  lineD t a=if t.getD (a+k) 0=13 then (if a+k+1=t.length then noL 1 else if t.getD (a+k+1) 0=10 then .tup [.v (vS ((t.drop a).take k)),curD t (a+k+2),.v (vI 0)] else noL 2) else noL 2:=by
 have h9:(t.drop a).length=t.length-a:=List.length_drop
 have hkd:k<(t.drop a).length:=by omega
 have e:=lnT_at hkd hall (by rw [drop_snoc hkd]; exact hb)
 have el:(lnT (t.drop a)).length=k:=by rw [e,List.length_take]; omega
 have q1:¬ k=(t.drop a).length:=by omega
 have q2:(t.drop a).getD (k+1) 0=t.getD (a+k+1) 0:=by
  simp [gDg,List.getElem?_drop,Nat.add_assoc]
 unfold lineD lineR lnC
 rw [el,if_neg q1,drop_snoc hkd,q2]
 by_cases h1:t.getD (a+k) 0=13
 ·rw [if_pos h1,if_pos h1]
  by_cases h2:a+k+1=t.length
  ·have q3:k+1=(t.drop a).length:=by omega
   rw [if_pos h2,if_pos q3]; rfl
  ·have q3:¬ k+1=(t.drop a).length:=by omega
   rw [if_neg h2,if_neg q3]
   by_cases h3:t.getD (a+k+1) 0=10
   ·rw [if_pos h3,if_pos h3,if_pos rfl,e]
   ·rw [if_neg h3,if_neg h3]; rfl
 ·rw [if_neg h1,if_neg h1]; rfl
theorem c207:Q1 207 (curD t a) (lineD t a):=by
 have h1:t.length≤9223372036854775807:=by omega
 have h9:(t.drop a).length=t.length-a:=List.length_drop
 have x1:=c240 t a hl ha
 refine sb 1 [.tm 2,.ce 3 125,.tm 4] func207 ?_
 refine call0 x1 ?_
 refine loopZ (fun k:Nat=>pC 56 [.dead,.cref 1 0,.v (vS []),.cref 3 0,.v (vI 0),.v (vI ((a+k:Nat):Int))] [none,some [.v (vS t),.v (vI a)],none,some [.v (vS []),.v (vI 0)]]) [1,2,3,4,5] (fun k=>a+k≤t.length∧∀ b,b∈(t.drop a).take k→lnB b=true) (fun k=>t.length-k) 0 rfl ⟨by omega,by simp⟩ ?_
 intro k ⟨hk,hall⟩
 by_cases hc:a+k<t.length
 ·have w1:=wrapN hc h1
  have w2:IntKind.i64.wrap (((a+k:Nat):Int)+2)=((a+k+2:Nat):Int):=by rw [wrapI (by omega)]; omega
  have d1:a≤a+k:=by omega
  have d2:a+k-a=k:=by omega
  have hkd:k<(t.drop a).length:=by omega
  by_cases hb:lnB (t.getD (a+k) 0)=false
  ·have hD:=lineD_stop t a ha hc hall hb
   by_cases g:t.getD (a+k) 0=10
   ·have g1:((t.getD (a+k) 0).toNat:Int)=10:=toI g
    rw [if_neg (by rw [g]; decide)] at hD
    rw [hD]
    clear hall hD hb g
    refine Z ?_
    exact fz
   ·have g0:=lnB_13 hb g
    have g1:((t.getD (a+k) 0).toNat:Int)=13:=toI g0
    rw [if_pos g0] at hD
    by_cases g2:a+k+1=t.length
    ·have g3:((a+k+1:Nat):Int)=t.length:=by omega
     rw [if_pos g2] at hD
     rw [hD]
     clear hall hD hb g g0 g2
     refine Z ?_
     exact fz
    ·have g3:(((a+k+1:Nat):Int)==t.length)=false:=beq_eq_false_iff_ne.2 (by omega)
     have g4:a+k+1<t.length:=by omega
     rw [if_neg g2] at hD
     by_cases g5:t.getD (a+k+1) 0=10
     ·have g6:((t.getD (a+k+1) 0).toNat:Int)=10:=toI g5
      rw [if_pos g5] at hD
      rw [hD]
      clear hall hD hb g g0 g5 g2
      refine Z ?_
      refine draw_new gs207_0 mixedOk (by kernel_rfl) ?_
      refine Z ?_
      exact fz
     ·have g6:((((t.getD (a+k+1) 0).toNat:Int)) != 10)=true:=bne_iff_ne.2 fun e=>g5 (ofI e)
      rw [if_neg g5] at hD
      rw [hD]
      clear hall hD hb g g0 g5 g2
      refine Z ?_
      exact fz
  ·have hb1:lnB (t.getD (a+k) 0)=true:=by simpa using hb
   have g1:(((t.getD (a+k) 0).toNat:Int)==10)=false:=beq_eq_false_iff_ne.2 fun e=>by rw [ofI (c:=10) e] at hb1; exact absurd hb1 (by decide)
   have g2:(((t.getD (a+k) 0).toNat:Int)==13)=false:=beq_eq_false_iff_ne.2 fun e=>by rw [ofI (c:=13) e] at hb1; exact absurd hb1 (by decide)
   have hall2:∀ b,b∈(t.drop a).take (k+1)→lnB b=true:=by
    rw [take_snoc hkd]
    intro b h
    rcases List.mem_append.1 h with h | h
    ·exact hall b h
    ·rw [List.mem_singleton.1 h,drop_snoc hkd]; exact hb1
   clear hall hb hb1
   refine Z ?_
   exact ⟨k+1,rfl,⟨hc,hall2⟩,by omega⟩
 ·rw [lineD_all t a fun b h=>hall b (by rw [List.take_of_length_le (by omega)]; exact h)]
  clear hall
  refine Z ?_
  exact fz
end
def gs210_0:List (Option (List Nat)):=[some [21,23,24,25,26,27,5],some [20,23,24,25,26,27,5],some [23,24,25,26,27,5],some [20,21,22,24,25,5],some [20,21,22,23,5],some [20,21,22,23,5],some [20,21,22,5],some [20,21,22,5],some [5],some [20,21,22,23,24,25,26,27,28],none]
attribute [go_sem] gs210_0
def hexOkB (b:UInt8):Bool:=decide (0≤hexI b.toNat)
def hexR (l:List UInt8):Option Nat:=if (inB 1 7 l.length&&l.all hexOkB)=true then some (valH l 0).toNat else none
def hexD (l:List UInt8):D := .tup [.v (vI ((hexR l).getD 0:Nat)),.v (vB (hexR l).isSome)]
theorem hexR_yes {l:List UInt8} (h1:1≤l.length∧l.length≤7) (h2:l.all hexOkB=true) (h3:0≤valH l 0):hexD l = .tup [.v (vI (valH l 0)),.v (vB true)]:=by
 have hi:inB 1 7 l.length=true:=by unfold inB; simp; omega
 unfold hexD hexR
 rw [hi,h2,if_pos (show (true&&true)=true from rfl)]
 show D.tup [.v (vI ((valH l 0).toNat:Nat)),.v (vB true)]=_
 rw [Int.toNat_of_nonneg h3]
theorem hexR_no {l:List UInt8} (h2:¬ (1≤l.length∧l.length≤7)∨l.all hexOkB=false):hexD l = .tup [.v (vI 0),.v (vB false)]:=by
 unfold hexD hexR
 rw [if_neg]; rfl
 intro e
 simp only [Bool.and_eq_true] at e
 rcases h2 with h | h
 ·apply h; have:=e.1; unfold inB at this; simp at this; omega
 ·rw [h] at e; exact absurd e.2 (by simp)
theorem valH_bd (l:List UInt8) (h:l.all hexOkB=true) (hl:l.length≤7):0≤valH l 0∧valH l 0≤268435455:=by
 have key:∀ (l:List UInt8) (n:Int) (k:Nat),l.all hexOkB=true→0≤n→n<16 ^ k→0≤valH l n∧valH l n<16 ^ (k+l.length):=by
  intro l
  induction l with
  | nil=>intro n k _ h0 h1; exact ⟨h0,h1⟩
  | cons b l ih =>
   intro n k h h0 h1
   simp only [List.all_cons,Bool.and_eq_true] at h
   have hb:0≤hexI b.toNat:=of_decide_eq_true h.1
   have hx:=hexU b
   have hp:(16:Int) ^ (k+1)=16 ^ k*16:=rfl
   have:=ih (16*n+hexI b.toNat) (k+1) h.2 (by omega) (by rw [hp]; omega)
   rw [show k+1+l.length=k+(b::l).length by simp; omega] at this
   exact this
 have h1:=key l 0 0 h (by decide) (by decide)
 have h2:(16:Int) ^ (0+l.length)≤16 ^ 7:=by exact_mod_cast Nat.pow_le_pow_right (by decide) (by omega)
 have h3:=Int.lt_of_lt_of_le h1.2 h2
 have h4:(16:Int) ^ 7=268435456:=by decide
 exact ⟨h1.1,by omega⟩
theorem hexR_le {l:List UInt8} {n:Nat} (h:hexR l=some n):n≤268435455:=by
 unfold hexR at h
 split at h
 ·rename_i e
  injection h with h
  simp only [Bool.and_eq_true] at e
  have e1:=e.1
  unfold inB at e1
  simp only [Bool.and_eq_true,decide_eq_true_eq] at e1
  have:=valH_bd l e.2 (by omega)
  omega
 ·cases h
section
variable (l:List UInt8) (hl:l.length≤1048576)
include hl
theorem c217z:Q1 217 (.v (vS l)) (hexD l):=by
 have hL:l.length≤9223372036854775807:=by omega
 by_cases h:1≤l.length∧l.length≤7
 ·have x:=c217 l h
  cases ha:l.all hexOkB with
  | true =>
   have hb:=valH_bd l ha h.2
   rw [hexR_yes h ha hb.1]
   rw [show (l.all fun b=>decide (0≤hexI b.toNat))=true from ha,if_pos rfl] at x
   exact x
  | false =>
   rw [hexR_no (.inr ha)]
   rw [show (l.all fun b=>decide (0≤hexI b.toNat))=false from ha,if_neg (by simp)] at x
   exact x
 ·rw [hexR_no (.inl h)]
  by_cases h0:l.length=0
  ·have z1b:((l.length:Int)==0)=true:=by rw [beq_iff_eq]; omega
   clear h0
   refine sb 1 [.tm 2,.tm 3] func217 ?_
   exact fz
  ·have z1b:((l.length:Int)==0)=false:=by rw [beq_eq_false_iff_ne]; omega
   have z2:(7:Int)<(l.length:Int):=by omega
   clear h0
   refine sb 1 [.tm 2,.tm 3] func217 ?_
   exact fz
theorem c106:Q1 106 (.v (vS l)) (hexD l):=by
 have hL:l.length≤9223372036854775807:=by omega
 have x1:=c116 l.length 1 7
 by_cases h:1≤l.length∧l.length≤7
 ·rw [show inB 1 7 l.length=true by unfold inB; simp; omega] at x1
  refine sb 1 [.tm 2,.tm 3] func106 ?_
  refine call0 x1 ?_
  refine loopZ (fun i:Nat=>pE 28 [.v (vS l),.dead,.v (vI 0),.v (vB false),.v (vI (valH (l.take i) 0)),.v (vI i)]) [0,2,3,4,5] (fun i=>i≤l.length∧(l.take i).all hexOkB=true) (fun i=>l.length-i) 0 rfl ⟨by omega,by simp⟩ ?_
  intro i ⟨hi,hall⟩
  have hbd:=valH_bd _ hall (by rw [List.length_take]; omega)
  by_cases hc:i<l.length
  ·have hw:=wrapN hc hL
   have hsn:valH (l.take (i+1)) 0=16*valH (l.take i) 0+hexI (l.getD i 0).toNat:=by rw [take_snoc hc,valH_snoc]
   have hx16:=hexU (l.getD i 0)
   have x2:=c158 (l.getD i 0).toNat (u0 _) (u255 _)
   have hal:(l.take (i+1)).all hexOkB=hexOkB (l.getD i 0):=by rw [all_take_succ (d:=0) hc,hall,Bool.true_and]
   generalize valH (l.take i) 0=v at hbd hsn ⊢
   generalize hxx:hexI (l.getD i 0).toNat=x at hx16 hsn x2
   have m1:IntKind.i64.wrap (16*v)=16*v:=wrapI (by omega)
   by_cases hn:x<0
   ·rw [hexR_no (.inr (all_false_at (d:=0) hc (by unfold hexOkB; rw [hxx]; exact decide_eq_false (by omega))))]
    clear hall hal hsn hxx
    refine Z ?_
    refine call0 x2 ?_
    exact fz
   ·have m2:IntKind.i64.wrap (16*v+x)=valH (l.take (i+1)) 0:=by rw [hsn]; exact wrapI (by omega)
    have hall2:(l.take (i+1)).all hexOkB=true:=by rw [hal]; unfold hexOkB; rw [hxx]; exact decide_eq_true (by omega)
    clear hall hal hsn hxx
    refine Z ?_
    refine call0 x2 ?_
    exact ⟨i+1,rfl,⟨hc,hall2⟩,by omega⟩
  ·have he:l.take i=l:=List.take_of_length_le (by omega)
   rw [he] at hall hbd ⊢
   rw [hexR_yes h hall hbd.1]
   clear hall he
   refine Z ?_
   exact fz
 ·rw [show inB 1 7 l.length=false by unfold inB; simp; omega] at x1
  rw [hexR_no (.inl h)]
  refine sb 1 [.tm 2,.tm 3] func106 ?_
  refine call0 x1 ?_
  exact fz
end
def fieldR (s:List UInt8):Option Fld:=if (s.contains 58&&fieldB (upto 58 s,trimB (behind 58 s)))=true then some (upto 58 s,trimB (behind 58 s)) else none
def fieldD:Option Fld→D
 | none => .tup [.agg [.v (vS []),.v (vS [])],.v (vB false)]
 | some p => .tup [.agg [.v (vS p.1),.v (vS p.2)],.v (vB true)]
theorem trim_le (s:List UInt8):(trimB s).length≤s.length:=by
 unfold trimB trimR
 rw [List.length_reverse]
 have h1:=(List.dropWhile_sublist (l:=(s.dropWhile spc).reverse) spc).length_le
 have h2:=(List.dropWhile_sublist (l:=s) spc).length_le
 rw [List.length_reverse] at h1
 omega
theorem behind_le (c:UInt8) (s:List UInt8):(behind c s).length≤s.length:=by rw [behind_drop,List.length_drop]; omega
section
variable (s:List UInt8) (hs:s.length≤1048576)
include hs
theorem c159a (h:s.contains 58=false):Q1 159 (.v (vS s)) (.tup [.agg [.v (vS []),.v (vS [])],.v (vB false)]):=by
 have u1:=upto_le 58 s
 have u2:=behind_le 58 s
 have u3:=trim_le (behind 58 s)
 have x1:=c105 s 58 (by omega)
 have x2:=c192 (behind 58 s) (by omega)
 have x3:=c146 (upto 58 s) (trimB (behind 58 s)) (by omega) (by omega)
 rw [h] at x1
 refine sb 1 [.ce 2 105,.tm 3] func159 ?_
 refine call0 x1 ?_
 refine call0 x2 ?_
 exact fz
theorem c159b (h:s.contains 58=true) (h2:fieldB (upto 58 s,trimB (behind 58 s))=false):Q1 159 (.v (vS s)) (.tup [.agg [.v (vS []),.v (vS [])],.v (vB false)]):=by
 have u1:=upto_le 58 s
 have u2:=behind_le 58 s
 have u3:=trim_le (behind 58 s)
 have x1:=c105 s 58 (by omega)
 have x2:=c192 (behind 58 s) (by omega)
 have x3:=c146 (upto 58 s) (trimB (behind 58 s)) (by omega) (by omega)
 rw [h] at x1
 rw [h2] at x3
 refine sb 1 [.ce 2 105,.tm 3] func159 ?_
 refine call0 x1 ?_
 refine call0 x2 ?_
 refine call0 x3 ?_
 exact fz
theorem c159c (h:s.contains 58=true) (h2:fieldB (upto 58 s,trimB (behind 58 s))=true):Q1 159 (.v (vS s)) (.tup [.agg [.v (vS (upto 58 s)),.v (vS (trimB (behind 58 s)))],.v (vB true)]):=by
 have u1:=upto_le 58 s
 have u2:=behind_le 58 s
 have u3:=trim_le (behind 58 s)
 have x1:=c105 s 58 (by omega)
 have x2:=c192 (behind 58 s) (by omega)
 have x3:=c146 (upto 58 s) (trimB (behind 58 s)) (by omega) (by omega)
 rw [h] at x1
 rw [h2] at x3
 refine sb 1 [.ce 2 105,.tm 3] func159 ?_
 refine call0 x1 ?_
 refine call0 x2 ?_
 refine call0 x3 ?_
 exact fz
theorem c159:Q1 159 (.v (vS s)) (fieldD (fieldR s)):=by
 unfold fieldR
 cases h:s.contains 58 with
 | false=>exact c159a s hs h
 | true =>
  cases h2:fieldB (upto 58 s,trimB (behind 58 s)) with
  | false=>exact c159b s hs h h2
  | true=>exact c159c s hs h h2
theorem c210:Q1 210 (.v (vS s)) (fieldD (fieldR s)):=by
 have hL:s.length≤9223372036854775807:=by omega
 refine sb 1 [.ce 2 105,.tm 3] func210 ?_
 refine loopZ (fun i:Nat=>pC 35 [.v (vS s),.dead,.cref 2 0,.v (vB false),.v (vI i)] [none,none,some [.v (vS []),.v (vS [])]]) [0,2,3,4] (fun i=>i≤s.length∧i≤41∧∀ b,b∈s.take i→b≠58) (fun i=>s.length-i) 0 rfl ⟨by omega,by omega,by simp⟩ ?_
 intro i ⟨hi,h41,hall⟩
 by_cases hc:i<s.length
 ·have hw:=wrapN hc hL
  by_cases h40:i≤40
  ·have g1:(i:Int)≤40:=by omega
   by_cases hb:s.getD i 0=58
   ·have g2:((s.getD i 0).toNat:Int)=58:=toI hb
    have e1:upto 58 s=s.take i:=by
     conv=>lhs; rw [split_at' hc,hb]
     exact upto_hit 58 _ _ hall
    have e3:(s.take i).length=i:=by rw [List.length_take]; omega
    have e2:behind 58 s=s.drop (i+1):=by rw [behind_drop,e1,e3]
    have hm:s.contains 58=true:=by rw [upto_lt,e1,e3]; exact decide_eq_true hc
    have l2:(s.drop (i+1)).length≤s.length:=by rw [List.length_drop]; omega
    have u3:=trim_le (s.drop (i+1))
    have x2:=c152 (s.drop (i+1)) (by omega)
    have x3:=c96 (s.take i) (trimB (s.drop (i+1))) (by omega) (by omega)
    have hf:fieldR s=if fieldB (s.take i,trimB (s.drop (i+1)))=true then some (s.take i,trimB (s.drop (i+1))) else none:=by
     unfold fieldR
     rw [hm,e1,e2,Bool.true_and]
    have t1:(s.drop (i+1)).take (s.length-(i+1))=s.drop (i+1):=take_rest
    have t2:i+1≤s.length:=hc
    cases hk:fieldB (s.take i,trimB (s.drop (i+1))) with
    | false =>
     rw [hk,if_neg (by simp)] at hf
     rw [hk] at x3
     rw [hf]
     clear hall hb e1 e2 e3 hm hf u3 l2 hk h40
     refine Z ?_
     refine draw_new gs210_0 mixedOk (by kernel_rfl) ?_
     refine Z ?_
     refine drawn0 x2 ?_
     refine call0 x3 ?_
     exact fz
    | true =>
     rw [hk,if_pos rfl] at hf
     rw [hk] at x3
     rw [hf]
     clear hall hb e1 e2 e3 hm hf u3 l2 hk h40
     refine Z ?_
     refine draw_new gs210_0 mixedOk (by kernel_rfl) ?_
     refine Z ?_
     refine drawn0 x2 ?_
     refine call0 x3 ?_
     exact fz
   ·have g2:(((s.getD i 0).toNat:Int) != 58)=true:=bne_iff_ne.2 fun e=>hb (ofI e)
    have hall2:∀ b,b∈s.take (i+1)→b≠58:=by
     rw [take_snoc hc]
     intro b h
     rcases List.mem_append.1 h with h | h
     ·exact hall b h
     ·rw [List.mem_singleton.1 h]; exact hb
    clear hall hb
    refine Z ?_
    exact ⟨i+1,rfl,⟨hc,by omega,hall2⟩,by omega⟩
  ·have g1:¬ (i:Int)≤40:=by omega
   have hn:fieldR s=none:=by
    unfold fieldR
    rw [if_neg]
    intro e
    simp only [Bool.and_eq_true] at e
    have h3:=e.2
    unfold fieldB at h3
    simp only [Bool.and_eq_true,decide_eq_true_eq] at h3
    have h4:(s.take i).length≤(upto 58 s).length:=by
     unfold upto
     conv=>rhs; rw [split_at' hc]
     rw [List.takeWhile_append_of_pos (fun b hb=>by simpa using hall b hb),List.length_append]
     omega
    rw [List.length_take] at h4
    omega
   rw [hn]
   clear hall hn h40
   refine Z ?_
   exact fz
 ·have hn:fieldR s=none:=by
   unfold fieldR
   rw [if_neg]
   intro e
   simp only [Bool.and_eq_true] at e
   rw [List.take_of_length_le (by omega)] at hall
   have:=upto_none 58 s hall
   have h3:=e.1
   rw [upto_lt,this] at h3
   simp at h3
  rw [hn]
  clear hall hn
  refine Z ?_
  exact fz
end
end Go.Proofs.YtbdfdfhamlmodaaGreatDoor.Fw
