/- Texts of the proof: FgM FgN FgO FgP FgQ FgR FgS FgV FhA FgT FgU FgW FhB FhJ FhK FgZ FgX FhL. -/
import Derived.Shelf.Strings.Search3
import Derived.Test.YtbdfdfhamlmodaaGreatDoorT5
set_option linter.unusedSimpArgs false
set_option linter.unusedVariables false
/- Contracts: messages read (program), their ends. -/
namespace Go.Proofs.YtbdfdfhamlmodaaGreatDoor.Fw
open Go
open Go.Proofs.Tryz
set_option maxRecDepth 100000
set_option maxHeartbeats 4000000
attribute [local congr] c_bnd c_slot c_cell c_all c_len c_chk c_asm c_opdR c_wp c_pwp c_pOps c_Done c_nx c_blk c_fin c_coeLeaf c_coeLeaves c_argR c_argsR c_partsR c_ite c_wpF c_OutF c_pHead c_pHeadN c_pDraw
attribute [local go_sem ↓ high] fD_mv fD_as fD_own fD_oi fD_mp fD_lf fD_rb fD_bn fD_ar fD_wb
attribute [local go_sem] sdF_nil rowsF_length
section
variable (t:List UInt8) (hl:t.length≤1048576) (an hd:Bool)
include hl
variable (me ta re:List UInt8) (st a:Nat) (l:List Fld) (ba:Bool) (k n:Nat) (h:headR t an = .ok (me,ta,st,re,a,l)) (hab:AB an hd st ba) (hfr:framR l an ba=(k,n))
include h hab hfr
theorem c45pn (hk:k=0) (h0:t.drop a=[]) (hn:keepL l=[]):Q3 45 (.v (vS t)) (.v (vB an)) (.v (vB hd)) (if msgB me ta (st:Nat) re ba (keepL l) []=true then readE (.ok (me,ta,st,re,ba,keepL l,[])) else readE (.error 431)):=by
 have hL:t.length≤9223372036854775807:=by omega
 obtain ⟨ha,hfl,b1,b2,b3⟩:=headR_ok h
 have hsm:=small_of hfl
 have x1:=c110 t an hl
 rw [h] at x1
 simp only [headD] at x1
 have x2:=c91 st
 have x3:=c111 l hsm an ba
 rw [hfr] at x3
 simp only [framD] at x3
 have hr:(t.drop a).length≤9223372036854775807:=by rw [List.length_drop]; omega
 have t1:(t.drop a).take (t.length-a)=t.drop a:=take_rest
 subst hk
 have h1:(t.drop a==[])=true:=beq_iff_eq.2 h0
 rw [h0] at t1
 have hk9:fieldsB (keepL l)=true:=keepL_ok hfl
 have x6:=c112 l hsm hfl
 have x7:=c36 c37 me ta st re ba (keepL l) [] (by omega) (by omega) (by omega) (by first | omega | (simp; done)) (small_of hk9)
 rw [hn] at x6 x7 ⊢
 generalize hmb:msgB me ta (st:Nat) re ba [] []=mb at x7 ⊢
 have hok:readE (.ok (me,ta,st,re,ba,[],[])) = .tup [mD me ta (st:Nat) re ba .nil [],.v (vI 0)]:=rfl
 rw [hok]
 clear hok hmb hn hk9 hsm hfl
 clear h hfr
 rcases hab with ⟨rfl,rfl⟩ | ⟨rfl,rfl,rfl⟩ | ⟨rfl,rfl,rfl⟩
 all_goals refine sb 3 [.ce 6 25,.tm 7] func45 ?_
 all_goals refine callf x1 fD_res ?_
 rotate_left 2
 refine call0 x2 ?_
 rotate_left 1
 all_goals refine call0 x3 ?_
 all_goals refine call0 x6 ?_
 all_goals cases mb
 all_goals refine call0 x7 ?_
 all_goals exact fz
theorem c45po (hk:k=0) (h0:t.drop a=[]) (hn:keepL l≠[]):Q3 45 (.v (vS t)) (.v (vB an)) (.v (vB hd)) (if msgB me ta (st:Nat) re ba (keepL l) []=true then readE (.ok (me,ta,st,re,ba,keepL l,[])) else readE (.error 431)):=by
 have hL:t.length≤9223372036854775807:=by omega
 obtain ⟨ha,hfl,b1,b2,b3⟩:=headR_ok h
 have hsm:=small_of hfl
 have x1:=c110 t an hl
 rw [h] at x1
 simp only [headD] at x1
 have x2:=c91 st
 have x3:=c111 l hsm an ba
 rw [hfr] at x3
 simp only [framD] at x3
 have hr:(t.drop a).length≤9223372036854775807:=by rw [List.length_drop]; omega
 have t1:(t.drop a).take (t.length-a)=t.drop a:=take_rest
 subst hk
 have h1:(t.drop a==[])=true:=beq_iff_eq.2 h0
 rw [h0] at t1
 have hk9:fieldsB (keepL l)=true:=keepL_ok hfl
 have x6:=c112 l hsm hfl
 have x7:=c36 c37 me ta st re ba (keepL l) [] (by omega) (by omega) (by omega) (by first | omega | (simp; done)) (small_of hk9)
 have hsd:=sd_own (e:=105) (rowsF_ne hn)
 rw [hsd] at x6
 generalize hmb:msgB me ta (st:Nat) re ba (keepL l) []=mb at x7 ⊢
 have hok:readE (.ok (me,ta,st,re,ba,keepL l,[])) = .tup [mD me ta (st:Nat) re ba (.own 105 (rowsF (keepL l))) [],.v (vI 0)]:=by show D.tup [mD me ta (st:Nat) re ba (sd 105 (rowsF (keepL l))) [],.v (vI 0)]=_; rw [hsd]
 generalize rowsF (keepL l)=KL at x6 x7 hok
 clear hsd
 rw [hok]
 clear hok hmb hn hk9 hsm hfl
 clear h hfr
 rcases hab with ⟨rfl,rfl⟩ | ⟨rfl,rfl,rfl⟩ | ⟨rfl,rfl,rfl⟩
 all_goals refine sb 3 [.ce 6 25,.tm 7] func45 ?_
 all_goals refine callf x1 fD_res ?_
 rotate_left 2
 refine call0 x2 ?_
 rotate_left 1
 all_goals refine call0 x3 ?_
 all_goals refine call0 x6 ?_
 all_goals cases mb
 all_goals refine call0 x7 ?_
 all_goals exact fz
theorem c45qn (hk:k=1) (h0:¬ 600<n) (h2:(t.drop a).length=n) (hn:keepL l=[]):Q3 45 (.v (vS t)) (.v (vB an)) (.v (vB hd)) (if msgB me ta (st:Nat) re ba (keepL l) (t.drop a)=true then readE (.ok (me,ta,st,re,ba,keepL l,(t.drop a))) else readE (.error 431)):=by
 have hL:t.length≤9223372036854775807:=by omega
 obtain ⟨ha,hfl,b1,b2,b3⟩:=headR_ok h
 have hsm:=small_of hfl
 have x1:=c110 t an hl
 rw [h] at x1
 simp only [headD] at x1
 have x2:=c91 st
 have x3:=c111 l hsm an ba
 rw [hfr] at x3
 simp only [framD] at x3
 have hr:(t.drop a).length≤9223372036854775807:=by rw [List.length_drop]; omega
 have t1:(t.drop a).take (t.length-a)=t.drop a:=take_rest
 subst hk
 have h1:¬ (600:Int)<n:=by omega
 have h3:(((t.drop a).length:Int) != n)=false:=by rw [h2]; simp
 clear h0 h2
 have hk9:fieldsB (keepL l)=true:=keepL_ok hfl
 have x6:=c112 l hsm hfl
 have x7:=c36 c37 me ta st re ba (keepL l) (t.drop a) (by omega) (by omega) (by omega) (by first | omega | (simp; done)) (small_of hk9)
 rw [hn] at x6 x7 ⊢
 generalize hmb:msgB me ta (st:Nat) re ba [] (t.drop a)=mb at x7 ⊢
 have hok:readE (.ok (me,ta,st,re,ba,[],(t.drop a))) = .tup [mD me ta (st:Nat) re ba .nil (t.drop a),.v (vI 0)]:=rfl
 rw [hok]
 clear hok hmb hn hk9 hsm hfl
 clear h hfr
 rcases hab with ⟨rfl,rfl⟩ | ⟨rfl,rfl,rfl⟩ | ⟨rfl,rfl,rfl⟩
 all_goals refine sb 3 [.ce 6 25,.tm 7] func45 ?_
 all_goals refine callf x1 fD_res ?_
 rotate_left 2
 refine call0 x2 ?_
 rotate_left 1
 all_goals refine call0 x3 ?_
 all_goals refine call0 x6 ?_
 all_goals cases mb
 all_goals refine call0 x7 ?_
 all_goals exact fz
theorem c45qo (hk:k=1) (h0:¬ 600<n) (h2:(t.drop a).length=n) (hn:keepL l≠[]):Q3 45 (.v (vS t)) (.v (vB an)) (.v (vB hd)) (if msgB me ta (st:Nat) re ba (keepL l) (t.drop a)=true then readE (.ok (me,ta,st,re,ba,keepL l,(t.drop a))) else readE (.error 431)):=by
 have hL:t.length≤9223372036854775807:=by omega
 obtain ⟨ha,hfl,b1,b2,b3⟩:=headR_ok h
 have hsm:=small_of hfl
 have x1:=c110 t an hl
 rw [h] at x1
 simp only [headD] at x1
 have x2:=c91 st
 have x3:=c111 l hsm an ba
 rw [hfr] at x3
 simp only [framD] at x3
 have hr:(t.drop a).length≤9223372036854775807:=by rw [List.length_drop]; omega
 have t1:(t.drop a).take (t.length-a)=t.drop a:=take_rest
 subst hk
 have h1:¬ (600:Int)<n:=by omega
 have h3:(((t.drop a).length:Int) != n)=false:=by rw [h2]; simp
 clear h0 h2
 have hk9:fieldsB (keepL l)=true:=keepL_ok hfl
 have x6:=c112 l hsm hfl
 have x7:=c36 c37 me ta st re ba (keepL l) (t.drop a) (by omega) (by omega) (by omega) (by first | omega | (simp; done)) (small_of hk9)
 have hsd:=sd_own (e:=105) (rowsF_ne hn)
 rw [hsd] at x6
 generalize hmb:msgB me ta (st:Nat) re ba (keepL l) (t.drop a)=mb at x7 ⊢
 have hok:readE (.ok (me,ta,st,re,ba,keepL l,(t.drop a))) = .tup [mD me ta (st:Nat) re ba (.own 105 (rowsF (keepL l))) (t.drop a),.v (vI 0)]:=by show D.tup [mD me ta (st:Nat) re ba (sd 105 (rowsF (keepL l))) (t.drop a),.v (vI 0)]=_; rw [hsd]
 generalize rowsF (keepL l)=KL at x6 x7 hok
 clear hsd
 rw [hok]
 clear hok hmb hn hk9 hsm hfl
 clear h hfr
 rcases hab with ⟨rfl,rfl⟩ | ⟨rfl,rfl,rfl⟩ | ⟨rfl,rfl,rfl⟩
 all_goals refine sb 3 [.ce 6 25,.tm 7] func45 ?_
 all_goals refine callf x1 fD_res ?_
 rotate_left 2
 refine call0 x2 ?_
 rotate_left 1
 all_goals refine call0 x3 ?_
 all_goals refine call0 x6 ?_
 all_goals cases mb
 all_goals refine call0 x7 ?_
 all_goals exact fz
theorem c45rn (hk:k=2) (h0:(chR (t.drop a) 0 []).1=0) (hn:keepL l=[]):Q3 45 (.v (vS t)) (.v (vB an)) (.v (vB hd)) (if msgB me ta (st:Nat) re ba (keepL l) (chR (t.drop a) 0 []).2=true then readE (.ok (me,ta,st,re,ba,keepL l,(chR (t.drop a) 0 []).2)) else readE (.error 431)):=by
 have hL:t.length≤9223372036854775807:=by omega
 obtain ⟨ha,hfl,b1,b2,b3⟩:=headR_ok h
 have hsm:=small_of hfl
 have x1:=c110 t an hl
 rw [h] at x1
 simp only [headD] at x1
 have x2:=c91 st
 have x3:=c111 l hsm an ba
 rw [hfr] at x3
 simp only [framD] at x3
 have hr:(t.drop a).length≤9223372036854775807:=by rw [List.length_drop]; omega
 have t1:(t.drop a).take (t.length-a)=t.drop a:=take_rest
 subst hk
 have x4:=c43 (t.drop a) (by rw [List.length_drop]; omega)
 have hb9:=chR_len (t.drop a) _ 0 [] (Nat.lt_succ_self _) (Nat.zero_le _)
 generalize chR (t.drop a) 0 []=C at x4 h0 hb9 ⊢
 obtain ⟨c,bo⟩:=C
 simp only at h0 hb9
 subst h0
 simp only [chD] at x4
 dsimp only
 have hk9:fieldsB (keepL l)=true:=keepL_ok hfl
 have x6:=c112 l hsm hfl
 have x7:=c36 c37 me ta st re ba (keepL l) bo (by omega) (by omega) (by omega) (by omega) (small_of hk9)
 rw [hn] at x6 x7 ⊢
 generalize hmb:msgB me ta (st:Nat) re ba [] bo=mb at x7 ⊢
 have hok:readE (.ok (me,ta,st,re,ba,[],bo)) = .tup [mD me ta (st:Nat) re ba .nil bo,.v (vI 0)]:=rfl
 rw [hok]
 clear hok hmb hn hk9 hsm hfl
 clear h hfr
 rcases hab with ⟨rfl,rfl⟩ | ⟨rfl,rfl,rfl⟩ | ⟨rfl,rfl,rfl⟩
 all_goals refine sb 3 [.ce 6 25,.tm 7] func45 ?_
 all_goals refine callf x1 fD_res ?_
 rotate_left 2
 refine call0 x2 ?_
 rotate_left 1
 all_goals refine call0 x3 ?_
 all_goals refine call0 x4 ?_
 all_goals refine call0 x6 ?_
 all_goals cases mb
 all_goals refine call0 x7 ?_
 all_goals exact fz
theorem c45ro (hk:k=2) (h0:(chR (t.drop a) 0 []).1=0) (hn:keepL l≠[]):Q3 45 (.v (vS t)) (.v (vB an)) (.v (vB hd)) (if msgB me ta (st:Nat) re ba (keepL l) (chR (t.drop a) 0 []).2=true then readE (.ok (me,ta,st,re,ba,keepL l,(chR (t.drop a) 0 []).2)) else readE (.error 431)):=by
 have hL:t.length≤9223372036854775807:=by omega
 obtain ⟨ha,hfl,b1,b2,b3⟩:=headR_ok h
 have hsm:=small_of hfl
 have x1:=c110 t an hl
 rw [h] at x1
 simp only [headD] at x1
 have x2:=c91 st
 have x3:=c111 l hsm an ba
 rw [hfr] at x3
 simp only [framD] at x3
 have hr:(t.drop a).length≤9223372036854775807:=by rw [List.length_drop]; omega
 have t1:(t.drop a).take (t.length-a)=t.drop a:=take_rest
 subst hk
 have x4:=c43 (t.drop a) (by rw [List.length_drop]; omega)
 have hb9:=chR_len (t.drop a) _ 0 [] (Nat.lt_succ_self _) (Nat.zero_le _)
 generalize chR (t.drop a) 0 []=C at x4 h0 hb9 ⊢
 obtain ⟨c,bo⟩:=C
 simp only at h0 hb9
 subst h0
 simp only [chD] at x4
 dsimp only
 have hk9:fieldsB (keepL l)=true:=keepL_ok hfl
 have x6:=c112 l hsm hfl
 have x7:=c36 c37 me ta st re ba (keepL l) bo (by omega) (by omega) (by omega) (by omega) (small_of hk9)
 have hsd:=sd_own (e:=105) (rowsF_ne hn)
 rw [hsd] at x6
 generalize hmb:msgB me ta (st:Nat) re ba (keepL l) bo=mb at x7 ⊢
 have hok:readE (.ok (me,ta,st,re,ba,keepL l,bo)) = .tup [mD me ta (st:Nat) re ba (.own 105 (rowsF (keepL l))) bo,.v (vI 0)]:=by show D.tup [mD me ta (st:Nat) re ba (sd 105 (rowsF (keepL l))) bo,.v (vI 0)]=_; rw [hsd]
 generalize rowsF (keepL l)=KL at x6 x7 hok
 clear hsd
 rw [hok]
 clear hok hmb hn hk9 hsm hfl
 clear h hfr
 rcases hab with ⟨rfl,rfl⟩ | ⟨rfl,rfl,rfl⟩ | ⟨rfl,rfl,rfl⟩
 all_goals refine sb 3 [.ce 6 25,.tm 7] func45 ?_
 all_goals refine callf x1 fD_res ?_
 rotate_left 2
 refine call0 x2 ?_
 rotate_left 1
 all_goals refine call0 x3 ?_
 all_goals refine call0 x4 ?_
 all_goals refine call0 x6 ?_
 all_goals cases mb
 all_goals refine call0 x7 ?_
 all_goals exact fz
theorem c45sn (hk:k=3) (h0:¬ 600<(t.drop a).length) (hn:keepL l=[]):Q3 45 (.v (vS t)) (.v (vB an)) (.v (vB hd)) (if msgB me ta (st:Nat) re ba (keepL l) (t.drop a)=true then readE (.ok (me,ta,st,re,ba,keepL l,(t.drop a))) else readE (.error 431)):=by
 have hL:t.length≤9223372036854775807:=by omega
 obtain ⟨ha,hfl,b1,b2,b3⟩:=headR_ok h
 have hsm:=small_of hfl
 have x1:=c110 t an hl
 rw [h] at x1
 simp only [headD] at x1
 have x2:=c91 st
 have x3:=c111 l hsm an ba
 rw [hfr] at x3
 simp only [framD] at x3
 have hr:(t.drop a).length≤9223372036854775807:=by rw [List.length_drop]; omega
 have t1:(t.drop a).take (t.length-a)=t.drop a:=take_rest
 subst hk
 have h1:¬ (600:Int)<(t.drop a).length:=by omega
 clear h0
 have hk9:fieldsB (keepL l)=true:=keepL_ok hfl
 have x6:=c112 l hsm hfl
 have x7:=c36 c37 me ta st re ba (keepL l) (t.drop a) (by omega) (by omega) (by omega) (by first | omega | (simp; done)) (small_of hk9)
 rw [hn] at x6 x7 ⊢
 generalize hmb:msgB me ta (st:Nat) re ba [] (t.drop a)=mb at x7 ⊢
 have hok:readE (.ok (me,ta,st,re,ba,[],(t.drop a))) = .tup [mD me ta (st:Nat) re ba .nil (t.drop a),.v (vI 0)]:=rfl
 rw [hok]
 clear hok hmb hn hk9 hsm hfl
 clear h hfr
 rcases hab with ⟨rfl,rfl⟩ | ⟨rfl,rfl,rfl⟩ | ⟨rfl,rfl,rfl⟩
 all_goals refine sb 3 [.ce 6 25,.tm 7] func45 ?_
 all_goals refine callf x1 fD_res ?_
 rotate_left 2
 refine call0 x2 ?_
 rotate_left 1
 all_goals refine call0 x3 ?_
 all_goals refine call0 x6 ?_
 all_goals cases mb
 all_goals refine call0 x7 ?_
 all_goals exact fz
theorem c45so (hk:k=3) (h0:¬ 600<(t.drop a).length) (hn:keepL l≠[]):Q3 45 (.v (vS t)) (.v (vB an)) (.v (vB hd)) (if msgB me ta (st:Nat) re ba (keepL l) (t.drop a)=true then readE (.ok (me,ta,st,re,ba,keepL l,(t.drop a))) else readE (.error 431)):=by
 have hL:t.length≤9223372036854775807:=by omega
 obtain ⟨ha,hfl,b1,b2,b3⟩:=headR_ok h
 have hsm:=small_of hfl
 have x1:=c110 t an hl
 rw [h] at x1
 simp only [headD] at x1
 have x2:=c91 st
 have x3:=c111 l hsm an ba
 rw [hfr] at x3
 simp only [framD] at x3
 have hr:(t.drop a).length≤9223372036854775807:=by rw [List.length_drop]; omega
 have t1:(t.drop a).take (t.length-a)=t.drop a:=take_rest
 subst hk
 have h1:¬ (600:Int)<(t.drop a).length:=by omega
 clear h0
 have hk9:fieldsB (keepL l)=true:=keepL_ok hfl
 have x6:=c112 l hsm hfl
 have x7:=c36 c37 me ta st re ba (keepL l) (t.drop a) (by omega) (by omega) (by omega) (by first | omega | (simp; done)) (small_of hk9)
 have hsd:=sd_own (e:=105) (rowsF_ne hn)
 rw [hsd] at x6
 generalize hmb:msgB me ta (st:Nat) re ba (keepL l) (t.drop a)=mb at x7 ⊢
 have hok:readE (.ok (me,ta,st,re,ba,keepL l,(t.drop a))) = .tup [mD me ta (st:Nat) re ba (.own 105 (rowsF (keepL l))) (t.drop a),.v (vI 0)]:=by show D.tup [mD me ta (st:Nat) re ba (sd 105 (rowsF (keepL l))) (t.drop a),.v (vI 0)]=_; rw [hsd]
 generalize rowsF (keepL l)=KL at x6 x7 hok
 clear hsd
 rw [hok]
 clear hok hmb hn hk9 hsm hfl
 clear h hfr
 rcases hab with ⟨rfl,rfl⟩ | ⟨rfl,rfl,rfl⟩ | ⟨rfl,rfl,rfl⟩
 all_goals refine sb 3 [.ce 6 25,.tm 7] func45 ?_
 all_goals refine callf x1 fD_res ?_
 rotate_left 2
 refine call0 x2 ?_
 rotate_left 1
 all_goals refine call0 x3 ?_
 all_goals refine call0 x6 ?_
 all_goals cases mb
 all_goals refine call0 x7 ?_
 all_goals exact fz
end
theorem c45 (t:List UInt8) (hl:t.length≤1048576) (an hd:Bool):Q3 45 (.v (vS t)) (.v (vB an)) (.v (vB hd)) (readE (readR t an hd)):=by
 unfold readR
 cases h:headR t an with
 | error k=>exact c45e t hl an hd k (headR_code h) h
 | ok x =>
  obtain ⟨me,ta,st,re,a,l⟩:=x
  simp only
  have hab:=AB_of an hd (st:Nat)
  generalize (an&&(hd || bareB (st:Nat)))=ba at hab ⊢
  cases hfr:framR l an ba with
  | mk k n =>
  simp only
  have hk:=fram_le l an ba
  rw [hfr] at hk
  simp only at hk
  have go:∀ bo:List UInt8,(Q3 45 (.v (vS t)) (.v (vB an)) (.v (vB hd)) (if msgB me ta (st:Nat) re ba (keepL l) bo=true then readE (.ok (me,ta,st,re,ba,keepL l,bo)) else readE (.error 431)))→Q3 45 (.v (vS t)) (.v (vB an)) (.v (vB hd)) (readE (if msgB me ta (st:Nat) re ba (keepL l) bo=true then .ok (me,ta,st,re,ba,keepL l,bo) else .error 431)):=fun bo x=>by
   rw [←apply_ite readE] at x
   exact x
  unfold bodyR
  match k,hk with
  | 0,_ =>
   by_cases h0:t.drop a=[]
   ·simp only [if_pos h0,if_true]
    by_cases hn:keepL l=[]
    ·exact go _ (c45pn t hl an hd me ta re st a l ba 0 n h hab hfr rfl h0 hn)
    ·exact go _ (c45po t hl an hd me ta re st a l ba 0 n h hab hfr rfl h0 hn)
   ·simp only [if_neg h0]
    exact c45b t hl an hd me ta re st a l ba 0 n h hab hfr rfl h0
  | 1,_ =>
   by_cases h0:600<n
   ·simp only [if_pos h0]
    exact c45c t hl an hd me ta re st a l ba 1 n h hab hfr rfl h0
   ·simp only [if_neg h0]
    by_cases h2:(t.drop a).length=n
    ·simp only [if_pos h2,if_true]
     by_cases hn:keepL l=[]
     ·exact go _ (c45qn t hl an hd me ta re st a l ba 1 n h hab hfr rfl h0 h2 hn)
     ·exact go _ (c45qo t hl an hd me ta re st a l ba 1 n h hab hfr rfl h0 h2 hn)
    ·simp only [if_neg h2]
     exact c45d t hl an hd me ta re st a l ba 1 n h hab hfr rfl h0 h2
  | 2,_ =>
   by_cases h0:(chR (t.drop a) 0 []).1=0
   ·simp only [if_pos h0]
    by_cases hn:keepL l=[]
    ·exact go _ (c45rn t hl an hd me ta re st a l ba 2 n h hab hfr rfl h0 hn)
    ·exact go _ (c45ro t hl an hd me ta re st a l ba 2 n h hab hfr rfl h0 hn)
   ·simp only [if_neg h0]
    exact c45f t hl an hd me ta re st a l ba 2 n h hab hfr rfl h0
  | 3,_ =>
   by_cases h0:600<(t.drop a).length
   ·simp only [if_pos h0]
    exact c45g t hl an hd me ta re st a l ba 3 n h hab hfr rfl h0
   ·simp only [if_neg h0,if_true]
    by_cases hn:keepL l=[]
    ·exact go _ (c45sn t hl an hd me ta re st a l ba 3 n h hab hfr rfl h0 hn)
    ·exact go _ (c45so t hl an hd me ta re st a l ba 3 n h hab hfr rfl h0 hn)
  | 4,_=>exact c45a t hl an hd me ta re st a l ba 4 n h hab hfr rfl
attribute [local go_sem ↓ high] fD_mv fD_as fD_own fD_oi fD_mp fD_lf fD_rb fD_bn fD_ar fD_wb
attribute [local go_sem] sdF_nil rowsF_length
section
variable (t:List UInt8) (hl:t.length≤1048576) (an hd:Bool)
include hl
theorem c121e (k:Nat) (hk:k≠0) (h:headR t an = .error k):Q3 121 (.v (vS t)) (.v (vB an)) (.v (vB hd)) (readE (.error k)):=by
 have x1:=c166 t an hl
 rw [h] at x1
 simp only [headD] at x1
 have h1:((k:Int) != 0)=true:=by rw [bne_iff_ne]; omega
 clear h hk
 refine sb 3 [.ce 6 25,.tm 7] func121 ?_
 refine call0 x1 ?_
 exact fz
variable (me ta re:List UInt8) (st a:Nat) (l:List Fld) (ba:Bool) (k n:Nat) (h:headR t an = .ok (me,ta,st,re,a,l)) (hab:AB an hd st ba) (hfr:framR l an ba=(k,n))
include h hab hfr
theorem c121a (hk4:k≤4) (h0:(bodyR (t.drop a) k n).1≠0):Q3 121 (.v (vS t)) (.v (vB an)) (.v (vB hd)) (readE (.error (bodyR (t.drop a) k n).1)):=by
 have hL:t.length≤9223372036854775807:=by omega
 obtain ⟨ha,hfl,b1,b2,b3⟩:=headR_ok h
 have hsm:=small_of hfl
 have x1:=c166 t an hl
 rw [h] at x1
 simp only [headD] at x1
 have x2:=c101 st
 have x3:=c167 l hsm an ba
 rw [hfr] at x3
 simp only [framD] at x3
 have hr:(t.drop a).length≤9223372036854775807:=by rw [List.length_drop]; omega
 have t1:(t.drop a).take (t.length-a)=t.drop a:=take_rest
 have x4:=c168 (t.drop a) (by rw [List.length_drop]; omega) k n hk4
 generalize bodyR (t.drop a) k n=C at x4 h0 ⊢
 obtain ⟨c,bo⟩:=C
 simp only [chD] at x4
 have h1:((c:Int) != 0)=true:=by rw [bne_iff_ne]; simp only at h0; omega
 clear h0
 clear h hfr
 rcases hab with ⟨rfl,rfl⟩ | ⟨rfl,rfl,rfl⟩ | ⟨rfl,rfl,rfl⟩
 all_goals refine sb 3 [.ce 6 25,.tm 7] func121 ?_
 all_goals refine callf x1 fD_res ?_
 rotate_left 2
 refine call0 x2 ?_
 rotate_left 1
 all_goals refine call0 x3 ?_
 all_goals refine call0 x4 ?_
 all_goals exact fz
theorem c121m (hk4:k≤4) (h0:(bodyR (t.drop a) k n).1=0) (n1:withoutB clN l=[]):Q3 121 (.v (vS t)) (.v (vB an)) (.v (vB hd)) (if msgB me ta (st:Nat) re ba (withoutB trN (withoutB teN (withoutB clN l))) (bodyR (t.drop a) k n).2=true then readE (.ok (me,ta,st,re,ba,withoutB trN (withoutB teN (withoutB clN l)),(bodyR (t.drop a) k n).2)) else readE (.error 431)):=by
 have hL:t.length≤9223372036854775807:=by omega
 obtain ⟨ha,hfl,b1,b2,b3⟩:=headR_ok h
 have hsm:=small_of hfl
 have x1:=c166 t an hl
 rw [h] at x1
 simp only [headD] at x1
 have x2:=c101 st
 have x3:=c167 l hsm an ba
 rw [hfr] at x3
 simp only [framD] at x3
 have hr:(t.drop a).length≤9223372036854775807:=by rw [List.length_drop]; omega
 have t1:(t.drop a).take (t.length-a)=t.drop a:=take_rest
 have x4:=c168 (t.drop a) (by rw [List.length_drop]; omega) k n hk4
 have hb9:=bodyR_len (t.drop a) k n
 generalize bodyR (t.drop a) k n=C at x4 h0 hb9 ⊢
 obtain ⟨c,bo⟩:=C
 simp only at h0 hb9
 subst h0
 simp only [chD] at x4
 have k1:=wo_ok clN hfl
 have k2:=wo_ok teN k1
 have k3:=wo_ok trN k2
 have x5:=c169 l hsm clN (by decide) hfl
 have x6:=c169 _ (small_of k1) teN (by decide) k1
 have x7:=c169 _ (small_of k2) trN (by decide) k2
 have x8:=c11 me ta st re ba (withoutB trN (withoutB teN (withoutB clN l))) bo (by omega) (by omega) (by omega) (by omega) (small_of k3)
 rw [n1] at x5 x6 x7 x8 ⊢
 rw [show withoutB teN []=[] from rfl] at x6 x7 x8 ⊢
 rw [show withoutB trN []=[] from rfl] at x7 x8 ⊢
 generalize hmb:msgB me ta (st:Nat) re ba ([]) bo=mb at x8 ⊢
 have hok:readE (.ok (me,ta,st,re,ba,[],bo)) = .tup [mD me ta (st:Nat) re ba .nil bo,.v (vI 0)]:=rfl
 rw [hok]
 clear hok hmb hsm hfl k1 k2 k3
 clear h hfr
 rcases hab with ⟨rfl,rfl⟩ | ⟨rfl,rfl,rfl⟩ | ⟨rfl,rfl,rfl⟩
 all_goals refine sb 3 [.ce 6 25,.tm 7] func121 ?_
 all_goals refine callf x1 fD_res ?_
 rotate_left 2
 refine call0 x2 ?_
 rotate_left 1
 all_goals refine call0 x3 ?_
 all_goals refine call0 x4 ?_
 all_goals refine call0 x5 ?_
 all_goals refine call0 x6 ?_
 all_goals refine call0 x7 ?_
 all_goals cases mb
 all_goals refine call0 x8 ?_
 all_goals exact fz
theorem c121n (hk4:k≤4) (h0:(bodyR (t.drop a) k n).1=0) (n1:withoutB clN l≠[]) (n2:withoutB teN (withoutB clN l)=[]):Q3 121 (.v (vS t)) (.v (vB an)) (.v (vB hd)) (if msgB me ta (st:Nat) re ba (withoutB trN (withoutB teN (withoutB clN l))) (bodyR (t.drop a) k n).2=true then readE (.ok (me,ta,st,re,ba,withoutB trN (withoutB teN (withoutB clN l)),(bodyR (t.drop a) k n).2)) else readE (.error 431)):=by
 have hL:t.length≤9223372036854775807:=by omega
 obtain ⟨ha,hfl,b1,b2,b3⟩:=headR_ok h
 have hsm:=small_of hfl
 have x1:=c166 t an hl
 rw [h] at x1
 simp only [headD] at x1
 have x2:=c101 st
 have x3:=c167 l hsm an ba
 rw [hfr] at x3
 simp only [framD] at x3
 have hr:(t.drop a).length≤9223372036854775807:=by rw [List.length_drop]; omega
 have t1:(t.drop a).take (t.length-a)=t.drop a:=take_rest
 have x4:=c168 (t.drop a) (by rw [List.length_drop]; omega) k n hk4
 have hb9:=bodyR_len (t.drop a) k n
 generalize bodyR (t.drop a) k n=C at x4 h0 hb9 ⊢
 obtain ⟨c,bo⟩:=C
 simp only at h0 hb9
 subst h0
 simp only [chD] at x4
 have k1:=wo_ok clN hfl
 have k2:=wo_ok teN k1
 have k3:=wo_ok trN k2
 have x5:=c169 l hsm clN (by decide) hfl
 have x6:=c169 _ (small_of k1) teN (by decide) k1
 have x7:=c169 _ (small_of k2) trN (by decide) k2
 have x8:=c11 me ta st re ba (withoutB trN (withoutB teN (withoutB clN l))) bo (by omega) (by omega) (by omega) (by omega) (small_of k3)
 rw [n2] at x6 x7 x8 ⊢
 rw [show withoutB trN []=[] from rfl] at x7 x8 ⊢
 rw [sd_own (rowsF_ne n1)] at x5
 generalize hmb:msgB me ta (st:Nat) re ba ([]) bo=mb at x8 ⊢
 have hok:readE (.ok (me,ta,st,re,ba,[],bo)) = .tup [mD me ta (st:Nat) re ba .nil bo,.v (vI 0)]:=rfl
 generalize rowsF (withoutB clN l)=K1 at x5 x6
 rw [hok]
 clear hok hmb hsm hfl k1 k2 k3 n1
 clear h hfr
 rcases hab with ⟨rfl,rfl⟩ | ⟨rfl,rfl,rfl⟩ | ⟨rfl,rfl,rfl⟩
 all_goals refine sb 3 [.ce 6 25,.tm 7] func121 ?_
 all_goals refine callf x1 fD_res ?_
 rotate_left 2
 refine call0 x2 ?_
 rotate_left 1
 all_goals refine call0 x3 ?_
 all_goals refine call0 x4 ?_
 all_goals refine call0 x5 ?_
 all_goals refine call0 x6 ?_
 all_goals refine call0 x7 ?_
 all_goals cases mb
 all_goals refine call0 x8 ?_
 all_goals exact fz
theorem c121o (hk4:k≤4) (h0:(bodyR (t.drop a) k n).1=0) (n1:withoutB clN l≠[]) (n2:withoutB teN (withoutB clN l)≠[]) (n3:withoutB trN (withoutB teN (withoutB clN l))=[]):Q3 121 (.v (vS t)) (.v (vB an)) (.v (vB hd)) (if msgB me ta (st:Nat) re ba (withoutB trN (withoutB teN (withoutB clN l))) (bodyR (t.drop a) k n).2=true then readE (.ok (me,ta,st,re,ba,withoutB trN (withoutB teN (withoutB clN l)),(bodyR (t.drop a) k n).2)) else readE (.error 431)):=by
 have hL:t.length≤9223372036854775807:=by omega
 obtain ⟨ha,hfl,b1,b2,b3⟩:=headR_ok h
 have hsm:=small_of hfl
 have x1:=c166 t an hl
 rw [h] at x1
 simp only [headD] at x1
 have x2:=c101 st
 have x3:=c167 l hsm an ba
 rw [hfr] at x3
 simp only [framD] at x3
 have hr:(t.drop a).length≤9223372036854775807:=by rw [List.length_drop]; omega
 have t1:(t.drop a).take (t.length-a)=t.drop a:=take_rest
 have x4:=c168 (t.drop a) (by rw [List.length_drop]; omega) k n hk4
 have hb9:=bodyR_len (t.drop a) k n
 generalize bodyR (t.drop a) k n=C at x4 h0 hb9 ⊢
 obtain ⟨c,bo⟩:=C
 simp only at h0 hb9
 subst h0
 simp only [chD] at x4
 have k1:=wo_ok clN hfl
 have k2:=wo_ok teN k1
 have k3:=wo_ok trN k2
 have x5:=c169 l hsm clN (by decide) hfl
 have x6:=c169 _ (small_of k1) teN (by decide) k1
 have x7:=c169 _ (small_of k2) trN (by decide) k2
 have x8:=c11 me ta st re ba (withoutB trN (withoutB teN (withoutB clN l))) bo (by omega) (by omega) (by omega) (by omega) (small_of k3)
 rw [n3] at x7 x8 ⊢
 rw [sd_own (rowsF_ne n1)] at x5
 rw [sd_own (rowsF_ne n2)] at x6
 generalize hmb:msgB me ta (st:Nat) re ba ([]) bo=mb at x8 ⊢
 have hok:readE (.ok (me,ta,st,re,ba,[],bo)) = .tup [mD me ta (st:Nat) re ba .nil bo,.v (vI 0)]:=rfl
 generalize rowsF (withoutB teN (withoutB clN l))=K2 at x6 x7
 generalize rowsF (withoutB clN l)=K1 at x5 x6
 rw [hok]
 clear hok hmb hsm hfl k1 k2 k3 n1 n2
 clear h hfr
 rcases hab with ⟨rfl,rfl⟩ | ⟨rfl,rfl,rfl⟩ | ⟨rfl,rfl,rfl⟩
 all_goals refine sb 3 [.ce 6 25,.tm 7] func121 ?_
 all_goals refine callf x1 fD_res ?_
 rotate_left 2
 refine call0 x2 ?_
 rotate_left 1
 all_goals refine call0 x3 ?_
 all_goals refine call0 x4 ?_
 all_goals refine call0 x5 ?_
 all_goals refine call0 x6 ?_
 all_goals refine call0 x7 ?_
 all_goals cases mb
 all_goals refine call0 x8 ?_
 all_goals exact fz
theorem c121p (hk4:k≤4) (h0:(bodyR (t.drop a) k n).1=0) (n1:withoutB clN l≠[]) (n2:withoutB teN (withoutB clN l)≠[]) (n3:withoutB trN (withoutB teN (withoutB clN l))≠[]):Q3 121 (.v (vS t)) (.v (vB an)) (.v (vB hd)) (if msgB me ta (st:Nat) re ba (withoutB trN (withoutB teN (withoutB clN l))) (bodyR (t.drop a) k n).2=true then readE (.ok (me,ta,st,re,ba,withoutB trN (withoutB teN (withoutB clN l)),(bodyR (t.drop a) k n).2)) else readE (.error 431)):=by
 have hL:t.length≤9223372036854775807:=by omega
 obtain ⟨ha,hfl,b1,b2,b3⟩:=headR_ok h
 have hsm:=small_of hfl
 have x1:=c166 t an hl
 rw [h] at x1
 simp only [headD] at x1
 have x2:=c101 st
 have x3:=c167 l hsm an ba
 rw [hfr] at x3
 simp only [framD] at x3
 have hr:(t.drop a).length≤9223372036854775807:=by rw [List.length_drop]; omega
 have t1:(t.drop a).take (t.length-a)=t.drop a:=take_rest
 have x4:=c168 (t.drop a) (by rw [List.length_drop]; omega) k n hk4
 have hb9:=bodyR_len (t.drop a) k n
 generalize bodyR (t.drop a) k n=C at x4 h0 hb9 ⊢
 obtain ⟨c,bo⟩:=C
 simp only at h0 hb9
 subst h0
 simp only [chD] at x4
 have k1:=wo_ok clN hfl
 have k2:=wo_ok teN k1
 have k3:=wo_ok trN k2
 have x5:=c169 l hsm clN (by decide) hfl
 have x6:=c169 _ (small_of k1) teN (by decide) k1
 have x7:=c169 _ (small_of k2) trN (by decide) k2
 have x8:=c11 me ta st re ba (withoutB trN (withoutB teN (withoutB clN l))) bo (by omega) (by omega) (by omega) (by omega) (small_of k3)
 rw [sd_own (rowsF_ne n1)] at x5
 rw [sd_own (rowsF_ne n2)] at x6
 have hsd:=sd_own (e:=105) (rowsF_ne n3)
 rw [hsd] at x7
 generalize hmb:msgB me ta (st:Nat) re ba (withoutB trN (withoutB teN (withoutB clN l))) bo=mb at x8 ⊢
 have hok:readE (.ok (me,ta,st,re,ba,withoutB trN (withoutB teN (withoutB clN l)),bo)) = .tup [mD me ta (st:Nat) re ba (.own 105 (rowsF (withoutB trN (withoutB teN (withoutB clN l))))) bo,.v (vI 0)]:=by show D.tup [mD me ta (st:Nat) re ba (sd 105 (rowsF (withoutB trN (withoutB teN (withoutB clN l))))) bo,.v (vI 0)]=_; rw [hsd]
 generalize rowsF (withoutB trN (withoutB teN (withoutB clN l)))=KL at x7 x8 hok
 clear hsd
 generalize rowsF (withoutB teN (withoutB clN l))=K2 at x6 x7
 generalize rowsF (withoutB clN l)=K1 at x5 x6
 rw [hok]
 clear hok hmb hsm hfl k1 k2 k3 n1 n2 n3
 clear h hfr
 rcases hab with ⟨rfl,rfl⟩ | ⟨rfl,rfl,rfl⟩ | ⟨rfl,rfl,rfl⟩
 all_goals refine sb 3 [.ce 6 25,.tm 7] func121 ?_
 all_goals refine callf x1 fD_res ?_
 rotate_left 2
 refine call0 x2 ?_
 rotate_left 1
 all_goals refine call0 x3 ?_
 all_goals refine call0 x4 ?_
 all_goals refine call0 x5 ?_
 all_goals refine call0 x6 ?_
 all_goals refine call0 x7 ?_
 all_goals cases mb
 all_goals refine call0 x8 ?_
 all_goals exact fz
end
theorem c121 (t:List UInt8) (hl:t.length≤1048576) (an hd:Bool):Q3 121 (.v (vS t)) (.v (vB an)) (.v (vB hd)) (readE (readR t an hd)):=by
 unfold readR
 cases h:headR t an with
 | error k=>exact c121e t hl an hd k (headR_code h) h
 | ok x =>
  obtain ⟨me,ta,st,re,a,l⟩:=x
  simp only
  have hab:=AB_of an hd (st:Nat)
  generalize (an&&(hd || bareB (st:Nat)))=ba at hab ⊢
  cases hfr:framR l an ba with
  | mk k n =>
  simp only
  have hk:=fram_le l an ba
  rw [hfr] at hk
  simp only at hk
  by_cases h0:(bodyR (t.drop a) k n).1=0
  ·rw [if_pos h0,←keep_wo]
   rw [apply_ite readE]
   by_cases n1:withoutB clN l=[]
   ·exact c121m t hl an hd me ta re st a l ba k n h hab hfr hk h0 n1
   ·by_cases n2:withoutB teN (withoutB clN l)=[]
    ·exact c121n t hl an hd me ta re st a l ba k n h hab hfr hk h0 n1 n2
    ·by_cases n3:withoutB trN (withoutB teN (withoutB clN l))=[]
     ·exact c121o t hl an hd me ta re st a l ba k n h hab hfr hk h0 n1 n2 n3
     ·exact c121p t hl an hd me ta re st a l ba k n h hab hfr hk h0 n1 n2 n3
  ·rw [if_neg h0]
   exact c121a t hl an hd me ta re st a l ba k n h hab hfr hk h0
def gs10_0:List (Option (List Nat)):=[some [8,9],some [8,9],some [6,7],some [6,7],none,none]
attribute [go_sem] gs10_0
def gs59_0:List (Option (List Nat)):=[some [8,9],some [8,9],some [6,7],some [6,7],none,none]
attribute [go_sem] gs59_0
attribute [local go_sem ↓ high] fD_mv fD_as fD_own fD_oi fD_mp fD_lf fD_rb fD_bn fD_ar fD_wb
attribute [local go_sem] sdF_nil rowsF_length
theorem fD_cl {α:Type} {l:List Fld} {k:D→List Lf→Rdr α}:coeLeaf 105 (fD l) k=k (.imm 105 (rowsF l)) []:=by cases l<;>rfl
attribute [local go_sem ↓ high] fD_cl
theorem fzi {cfg:Cfg} {ts:List RV} {E E0:Env} {r:D} {x:Go.Exit} (q:Lf) (hq:E.frz q=some E0:=by simp only [go_sem,Env.frz,frzB,reduceIte,reduceCtorEq,Nat.reduceEqDiff]; rfl) (he:x = .normal∨x = .ret:=by first | exact .inr rfl | exact .inl rfl) (hk:cfg.keep=fun _=>false:=by rfl) (hce:E0.ce.take cfg.np=List.replicate cfg.np none:=by rfl) (hok:shutOk cfg ts E0=true:=by rfl) (hr:shutR E0 ts=r:=by rfl) :
  Fin cfg ts ⟨List.replicate cfg.np .dead++[r],List.replicate cfg.np none⟩ x E:=by
 refine ⟨he,E0,.inr (.inr (.inr (.inl ⟨q,hq⟩))),hok,?_⟩
 unfold shut
 rw [hr,map_const_range cfg.np (shutP cfg.keep E0) .dead fun i _=>shutP_none hk,map_const_range cfg.np (fun i=>E0.ce.getD i none) none]
 intro i hi
 have:(E0.ce.take cfg.np)[i]? = some none:=by rw [hce,List.getElem?_replicate,if_pos hi]
 rw [List.getElem?_take_of_lt hi] at this
 rw [List.getD_eq_getElem?_getD,this]; rfl
def reqD:MR→D
 | .error k => .tup [mZ,.v (vI (k:Nat))]
 | .ok (me,ta,st,re,ba,l,bo) => .tup [mD me ta (st:Nat) re ba (fD l) bo,.v (vI 0)]
def wmT (me ta:List UInt8) (st:Int) (re:List UInt8) (ba:Bool) (l:List Fld) (bo:List UInt8):List UInt8:=if msgB me ta st re ba l bo=true then headT me ta st re ba l bo++bo else []
def canR (s:List UInt8):Option (List UInt8):=(readU s).map fun a=>urlT a.ho a.p a.pa a.q a.b
def canD:Option (List UInt8)→D
 | none => .tup [.v (vS []),.v (vB false)]
 | some u => .tup [.v (vS u),.v (vB true)]
theorem resU_none':resU none = .tup [zeroU,.v (vB false)]:=rfl
theorem resU_some' {a:Adr}:resU (some a) = .tup [urlD a.ho a.p a.pa a.q a.b,.v (vB true)]:=rfl
theorem ru_in {s:List UInt8} {a:Adr} (hs:s.length≤1048576) (h:readU s=some a):a.ho.length≤200∧a.p≤999999999999999∧a.pa.length≤100001∧a.q.length≤200∧urlB a.ho a.p a.pa a.q a.b=true:=by
 unfold readU at h
 split at h
 ·rename_i h0
  have hl:s.length≤200:=by
   unfold headB at h0
   simp only [Bool.and_eq_true,decide_eq_true_eq] at h0
   exact h0.1.1.1.1
  have hd:(s.drop 7).length≤200:=by rw [List.length_drop]; omega
  generalize s.drop 7=r at h hd
  split at h
  ·cases h
  ·rename_i p hp
   split at h
   ·rename_i hu
    injection h with h
    subst h
    refine ⟨?_,?_,path_len r,Nat.le_trans (query_le r) hd,hu⟩
    ·have h1:=upto_le 58 (authB r)
     have h2:=auth_le r
     simp only [hostR,foldB,List.length_map]; omega
    ·unfold portR at hp
     split at hp
     ·exact readD_le hp
     ·injection hp with hp; subst hp; exact (by decide:80≤999999999999999)
   ·cases h
 ·cases h
theorem msg_in {me ta re bo:List UInt8} {st:Int} {ba:Bool} {l:List Fld} (h:msgB me ta st re ba l bo=true):fieldsB l=true∧me.length≤20∧ta.length≤200∧re.length≤40∧(0≤st∧st≤999)∧bo.length≤600:=by
 unfold msgB at h
 simp only [Bool.and_eq_true,decide_eq_true_eq] at h
 obtain ⟨⟨⟨⟨⟨h1,_⟩,_⟩,h2⟩,h3⟩,_⟩:=h
 refine ⟨h1,?_⟩
 by_cases hm:me=[]
 ·subst hm
  rw [if_pos (by rfl)] at h3
  unfold answerB statusB inB reasonB at h3
  simp only [Bool.and_eq_true,decide_eq_true_eq,beq_iff_eq] at h3
  obtain ⟨⟨⟨⟨h4,h5⟩,h6⟩,_⟩,_⟩:=h3
  subst h4
  exact ⟨by simp,by simp,h6.1,⟨by omega,by omega⟩,h2⟩
 ·rw [if_neg (by simpa using hm)] at h3
  unfold requestB methodB targetB inB at h3
  simp only [Bool.and_eq_true,decide_eq_true_eq,beq_iff_eq] at h3
  obtain ⟨⟨⟨⟨h4,h5⟩,h6⟩,h7⟩,_⟩:=h3
  subst h6 h7
  exact ⟨h4.2,by omega,by simp,⟨by decide,by decide⟩,h2⟩
section
variable (s:List UInt8) (hs:s.length≤1048576)
include hs
theorem c13:Q1 13 (.v (vS s)) (reqD (readR s false false)):=by
 have x1:=c45 s hs false false
 cases hr:readR s false false with
 | error k =>
  rw [hr] at x1
  simp only [readE] at x1
  clear hr
  refine sb 1 [.ce 2 25,.tm 3] func13 ?_
  refine call0 x1 ?_
  exact fz
 | ok x =>
  obtain ⟨me,ta,st,re,ba,l,bo⟩:=x
  rw [hr] at x1
  simp only [readE] at x1
  clear hr
  by_cases h0:l=[]
  ·subst h0
   rw [sdF_nil] at x1
   refine sb 1 [.ce 2 25,.tm 3] func13 ?_
   refine call0 x1 ?_
   exact fz
  ·rw [sd_own (rowsF_ne h0)] at x1
   have hD:reqD (.ok (me,ta,st,re,ba,l,bo)) = .tup [mD me ta (st:Nat) re ba (.imm 105 (rowsF l)) bo,.v (vI 0)]:=by
    show D.tup [mD me ta (st:Nat) re ba (fD l) bo,.v (vI 0)]=_
    rw [fD_ne h0]
   rw [hD]
   clear h0 hD
   refine sb 1 [.ce 2 25,.tm 3] func13 ?_
   refine call0 x1 ?_
   exact fzi ⟨true,2,5⟩
theorem c58:Q1 58 (.v (vS s)) (reqD (readR s false false)):=by
 have x1:=c121 s hs false false
 cases hr:readR s false false with
 | error k =>
  rw [hr] at x1
  simp only [readE] at x1
  clear hr
  refine sb 1 [.ce 2 25,.tm 3] func58 ?_
  refine call0 x1 ?_
  exact fz
 | ok x =>
  obtain ⟨me,ta,st,re,ba,l,bo⟩:=x
  rw [hr] at x1
  simp only [readE] at x1
  clear hr
  by_cases h0:l=[]
  ·subst h0
   rw [sdF_nil] at x1
   refine sb 1 [.ce 2 25,.tm 3] func58 ?_
   refine call0 x1 ?_
   exact fz
  ·rw [sd_own (rowsF_ne h0)] at x1
   have hD:reqD (.ok (me,ta,st,re,ba,l,bo)) = .tup [mD me ta (st:Nat) re ba (.imm 105 (rowsF l)) bo,.v (vI 0)]:=by
    show D.tup [mD me ta (st:Nat) re ba (fD l) bo,.v (vI 0)]=_
    rw [fD_ne h0]
   rw [hD]
   clear h0 hD
   refine sb 1 [.ce 2 25,.tm 3] func58 ?_
   refine call0 x1 ?_
   exact fzi ⟨true,2,5⟩
theorem c15 (hd:Bool):Q2 15 (.v (vS s)) (.v (vB hd)) (reqD (readR s true hd)):=by
 have x1:=c45 s hs true hd
 cases hr:readR s true hd with
 | error k =>
  rw [hr] at x1
  simp only [readE] at x1
  clear hr
  refine sb 2 [.ce 4 25,.tm 5] func15 ?_
  refine call0 x1 ?_
  exact fz
 | ok x =>
  obtain ⟨me,ta,st,re,ba,l,bo⟩:=x
  rw [hr] at x1
  simp only [readE] at x1
  clear hr
  by_cases h0:l=[]
  ·subst h0
   rw [sdF_nil] at x1
   refine sb 2 [.ce 4 25,.tm 5] func15 ?_
   refine call0 x1 ?_
   exact fz
  ·rw [sd_own (rowsF_ne h0)] at x1
   have hD:reqD (.ok (me,ta,st,re,ba,l,bo)) = .tup [mD me ta (st:Nat) re ba (.imm 105 (rowsF l)) bo,.v (vI 0)]:=by
    show D.tup [mD me ta (st:Nat) re ba (fD l) bo,.v (vI 0)]=_
    rw [fD_ne h0]
   rw [hD]
   clear h0 hD
   refine sb 2 [.ce 4 25,.tm 5] func15 ?_
   refine call0 x1 ?_
   exact fzi ⟨true,4,5⟩
theorem c171 (hd:Bool):Q2 171 (.v (vS s)) (.v (vB hd)) (reqD (readR s true hd)):=by
 have x1:=c121 s hs true hd
 cases hr:readR s true hd with
 | error k =>
  rw [hr] at x1
  simp only [readE] at x1
  clear hr
  refine sb 2 [.ce 4 25,.tm 5] func171 ?_
  refine call0 x1 ?_
  exact fz
 | ok x =>
  obtain ⟨me,ta,st,re,ba,l,bo⟩:=x
  rw [hr] at x1
  simp only [readE] at x1
  clear hr
  by_cases h0:l=[]
  ·subst h0
   rw [sdF_nil] at x1
   refine sb 2 [.ce 4 25,.tm 5] func171 ?_
   refine call0 x1 ?_
   exact fz
  ·rw [sd_own (rowsF_ne h0)] at x1
   have hD:reqD (.ok (me,ta,st,re,ba,l,bo)) = .tup [mD me ta (st:Nat) re ba (.imm 105 (rowsF l)) bo,.v (vI 0)]:=by
    show D.tup [mD me ta (st:Nat) re ba (fD l) bo,.v (vI 0)]=_
    rw [fD_ne h0]
   rw [hD]
   clear h0 hD
   refine sb 2 [.ce 4 25,.tm 5] func171 ?_
   refine call0 x1 ?_
   exact fzi ⟨true,4,5⟩
theorem c66:Q1 66 (.v (vS s)) (canD (canR s)):=by
 have x1:=c71 s hs
 unfold canR
 cases hr:readU s with
 | none =>
  rw [hr,resU_none'] at x1
  clear hr
  refine sb 1 [.tm 2,.tm 3] func66 ?_
  refine call0 x1 ?_
  exact fz
 | some a =>
  obtain ⟨b1,b2,b3,b4,b5⟩:=ru_in hs hr
  rw [hr,resU_some'] at x1
  have x2:=c126 a.ho a.p a.pa a.q a.b (by omega) b2 (by omega) (by omega)
  clear hr b5
  refine sb 1 [.tm 2,.tm 3] func66 ?_
  refine call0 x1 ?_
  refine call0 x2 ?_
  exact fz
theorem c61:Q1 61 (.v (vS s)) (canD (canR s)):=by
 have x1:=c69 s hs
 unfold canR
 cases hr:readU s with
 | none =>
  rw [hr,resU_none'] at x1
  clear hr
  refine sb 1 [.tm 2,.tm 3] func61 ?_
  refine call0 x1 ?_
  exact fz
 | some a =>
  obtain ⟨b1,b2,b3,b4,b5⟩:=ru_in hs hr
  rw [hr,resU_some'] at x1
  have x2:=c123 a.ho a.p a.pa a.q a.b (by omega) b2 (by omega) (by omega) b5
  clear hr b5
  refine sb 1 [.tm 2,.tm 3] func61 ?_
  refine call0 x1 ?_
  refine call0 x2 ?_
  exact fz
end
theorem msg_head {me ta re bo:List UInt8} {st:Int} {ba:Bool} {l:List Fld} (h:msgB me ta st re ba l bo=true):(headT me ta st re ba l bo).length≤1500:=by
 unfold msgB at h
 simp only [Bool.and_eq_true,decide_eq_true_eq] at h
 have:=h.2
 omega
theorem c10 (me ta:List UInt8) (st:Int) (re:List UInt8) (ba:Bool) (l:List Fld) (bo:List UInt8) (h1:me.length≤1048576) (h2:ta.length≤1048576) (h3:re.length≤1048576) (h4:bo.length≤1048576) (hl:Small l):Q1 10 (mD me ta st re ba (.imm 105 (rowsF l)) bo) (.v (vS (wmT me ta st re ba l bo))):=by
 have x1:=c36 c37 me ta st re ba l bo (by omega) (by omega) (by omega) (by omega) hl
 unfold wmT
 cases hm:msgB me ta st re ba l bo with
 | false =>
  rw [hm] at x1
  rw [if_neg (by simp)]
  clear hm
  refine sb 1 [.tm 2] func10 ?_
  refine call0 x1 ?_
  exact fz
 | true =>
  rw [hm] at x1
  rw [if_pos rfl]
  obtain ⟨g1,g2,g3,g4,g5,g6⟩:=msg_in hm
  obtain ⟨n,rfl⟩:∃ n:Nat,st=n:=⟨st.toNat,by omega⟩
  have x2:=c37 me ta n re ba l bo hl g1 g2 g3 g4 (by omega) g6
  have g7:(headT me ta (n:Nat) re ba l bo).length+bo.length≤9223372036854775807:=by
   have:=msg_head hm
   omega
  clear hm g1
  refine sb 1 [.tm 2] func10 ?_
  refine call0 x1 ?_
  refine draw_new gs10_0 mixedOk (by kernel_rfl) ?_
  refine Z ?_
  refine drawn0 x2 ?_
  refine Z ?_
  exact fz
theorem c59 (me ta:List UInt8) (st:Int) (re:List UInt8) (ba:Bool) (l:List Fld) (bo:List UInt8) (h1:me.length≤1048576) (h2:ta.length≤1048576) (h3:re.length≤1048576) (h4:bo.length≤1048576) (hl:Small l):Q1 59 (mD me ta st re ba (.imm 105 (rowsF l)) bo) (.v (vS (wmT me ta st re ba l bo))):=by
 have x1:=c11 me ta st re ba l bo (by omega) (by omega) (by omega) (by omega) hl
 unfold wmT
 cases hm:msgB me ta st re ba l bo with
 | false =>
  rw [hm] at x1
  rw [if_neg (by simp)]
  clear hm
  refine sb 1 [.tm 2] func59 ?_
  refine call0 x1 ?_
  exact fz
 | true =>
  rw [hm] at x1
  rw [if_pos rfl]
  obtain ⟨g1,g2,g3,g4,g5,g6⟩:=msg_in hm
  obtain ⟨n,rfl⟩:∃ n:Nat,st=n:=⟨st.toNat,by omega⟩
  have x2:=c42 me ta n re ba l bo hl g1 g2 g3 g4 (by omega) g6
  have g7:(headT me ta (n:Nat) re ba l bo).length+bo.length≤9223372036854775807:=by
   have:=msg_head hm
   omega
  clear hm g1
  refine sb 1 [.tm 2] func59 ?_
  refine call0 x1 ?_
  refine draw_new gs59_0 mixedOk (by kernel_rfl) ?_
  refine Z ?_
  refine drawn0 x2 ?_
  refine Z ?_
  exact fz
def gs68_0:List (Option (List Nat)):=[none,none,none,none,none,none,none,some [68,69],some [67],some [67],none,none,none,some [75,76],some [75,76],some [73,74],some [73,74],none,none]
attribute [go_sem] gs68_0
def gs68_1:List (Option (List Nat)):=[some [82],some [81,2],some [82],none,none]
attribute [go_sem] gs68_1
def gs124_0:List (Option (List Nat)):=[none,none,none,some [79,80],some [79,80],some [77,78],some [77,78],none,none]
attribute [go_sem] gs124_0
def gs124_1:List (Option (List Nat)):=[some [86],some [85,2],some [86],none,none]
attribute [go_sem] gs124_1
attribute [local go_sem ↓ high] fD_mv fD_as fD_own fD_oi fD_mp fD_lf fD_rb fD_bn fD_ar fD_wb fD_cl
def timeB (n:Int):Bool:=inB 0 253402300799 n
def sideB (n:Int):Bool:=(n==0) || (n==1)
theorem c127 (n:Int):Q1 127 (.v (vI n)) (.v (vB (sideB n))):=by
 unfold sideB
 cases h:n==0 with
 | true =>
  refine sb 1 [.tm 2] func127 ?_
  exact fz
 | false =>
  refine sb 1 [.tm 2] func127 ?_
  exact fz
theorem c67 (n:Int):Q1 67 (.v (vI n)) (.v (vB (timeB n))):=by
 have x1:=c116 n 0 253402300799
 refine sb 1 [.tm 2] func67 ?_
 refine call0 x1 ?_
 exact fz
theorem c62 (n:Int):Q1 62 (.v (vI n)) (.v (vB (timeB n))):=by
 unfold timeB inB
 by_cases h:0≤n
 ·refine sb 1 [.tm 2] func62 ?_
  refine fq ?_
  simp [shutR,shutD,h]
 ·refine sb 1 [.tm 2] func62 ?_
  refine fq ?_
  simp [shutR,shutD,h]
structure Ex where
 sd:Int
 aq:Int
 at':Int
 ur:List UInt8
 rq:List UInt8
 an:List UInt8
def headN:List UInt8:=[72,69,65,68]
abbrev exD (e:Ex):D := .agg [.v (vI e.sd),.v (vI e.aq),.v (vI e.at'),.v (vS e.ur),.v (vS e.rq),.v (vS e.an)]
def preB (e:Ex):Bool:=sideB e.sd&&timeB e.aq&&timeB e.at' && !decide (e.at'<e.aq)
def exB (e:Ex):Bool:=preB e&&match readR e.rq false false with
 | .error _=>false
 | .ok (me,ta,_,_,_,_,_)=>match canR ta with
  | none=>false
  | some u=>(u==e.ur)&&match readR e.an true (me==headN) with
   | .error _=>false
   | .ok (me2,ta2,st2,re2,ba2,l2,bo2)=>wmT me2 ta2 (st2:Nat) re2 ba2 l2 bo2==e.an
abbrev no3:D := .tup [mZ,mZ,.v (vB false)]
theorem readR_in {t:List UInt8} {an hd ba:Bool} {me ta re bo:List UInt8} {st:Nat} {l:List Fld} (h:readR t an hd = .ok (me,ta,st,re,ba,l,bo)):me.length≤20∧ta.length≤200∧re.length≤40∧bo.length≤600∧Small l:=by
 unfold readR at h
 cases hh:headR t an with
 | error k=>rw [hh] at h; cases h
 | ok x =>
  obtain ⟨me',ta',st',re',a,l'⟩:=x
  rw [hh] at h
  simp only at h
  split at h
  ·split at h
   ·rename_i hm
    injection h with h
    injection h with h1 h
    injection h with h2 h
    injection h with h3 h
    injection h with h4 h
    injection h with h5 h
    injection h with h6 h7
    subst h1 h2 h3 h4 h5 h6 h7
    obtain ⟨g1,g2,g3,g4,g5,g6⟩:=msg_in hm
    exact ⟨g2,g3,g4,g6,small_of g1⟩
   ·cases h
  ·cases h
theorem readR_code {t:List UInt8} {an hd:Bool} {k:Nat} (h:readR t an hd = .error k):((k:Int) != 0)=true:=by
 rw [bne_iff_ne]
 unfold readR at h
 cases hh:headR t an with
 | error j =>
  rw [hh] at h
  injection h with h
  have:=headR_code hh
  omega
 | ok x =>
  obtain ⟨me',ta',st',re',a,l'⟩:=x
  rw [hh] at h
  simp only at h
  split at h
  ·split at h
   ·cases h
   ·injection h with h; omega
  ·injection h with h; rename_i h0; omega
theorem drZ {cfg:Cfg} {l:List Oper} {E:Env} {K:Env→Prop} {q:Prop} (fs:List (Option (List Nat))) (x:q) (e:pHeadN prog cfg l (l.zip fs) E K=q:=by simp only [go_sem,Nat.reduceLeDiff,Nat.reduceLT,Nat.reduceAdd,Nat.reduceSub,Nat.reduceMul,Nat.reduceBEq,Nat.reduceBNe,Nat.reduceEqDiff,reduceCtorEq,reduceIte,Int.reduceLT,Int.reduceLE,Int.reduceAdd,Int.reduceSub,Int.reduceNeg,Int.reduceEq,Int.reduceBEq,Int.reduceBNe,Int.reduceToNat,Nat.reduceDiv,Nat.reduceMod, *]; rfl) (hok:drawN l fs=true:=by kernel_rfl):pDraw prog cfg l E K:=draw_new fs mixedOk hok (Eq.mpr e x)
theorem side_no {n:Int} (h:sideB n=false):(n != 0)=true∧(n != 1)=true:=by
 unfold sideB at h
 rw [Bool.or_eq_false_iff] at h
 exact ⟨by rw [bne,h.1]; rfl,by rw [bne,h.2]; rfl⟩
theorem side_or {n:Int} (h:sideB n=true):(n != 0)=false∨((n != 0)=true∧(n != 1)=false):=by
 unfold sideB at h
 rw [Bool.or_eq_true] at h
 cases h0:n==0 with
 | true=>exact .inl (by rw [bne,h0]; rfl)
 | false =>
  rw [h0] at h
  rcases h with h | h
  ·cases h
  ·exact .inr ⟨by rw [bne,h0]; rfl,by rw [bne,h]; rfl⟩
theorem fD_re1 {me ta re bo:List UInt8} {st:Int} {ba:Bool} {l:List Fld} {a:Value}:D.anyL (fun d => !d.resLeaf) (.tup [mD me ta st re ba (fD l) bo,.v a])=false:=by cases l<;>rfl
theorem callr {P:Program} {K:Env→Prop} {E:Env} {f:FuncId} {a0 d0 r:D} {ce cl:List (Option (List D))} {t:Nat} {q:Prop} (h:Sem P f ⟨[a0],ce⟩ ⟨[d0,r],cl⟩) (h3:r.anyL (fun d => !d.resLeaf)=false) (x:q)
  (e:K (E.app [.ca [] [] [],.rw t r])=q:=by simp only [go_sem,Nat.reduceLeDiff,Nat.reduceLT,Nat.reduceAdd,Nat.reduceSub,Nat.reduceMul,Nat.reduceBEq,Nat.reduceBNe,Nat.reduceEqDiff,reduceCtorEq,reduceIte,Int.reduceLT,Int.reduceLE,Int.reduceAdd,Int.reduceSub,Int.reduceNeg,Int.reduceEq,Int.reduceBEq,Int.reduceBNe,Int.reduceToNat,Nat.reduceDiv,Nat.reduceMod, *]; rfl):Done P K E (.call f ⟨[a0],ce⟩ (retW ⟨[a0],ce,[],[],[],[]⟩ (some t))):=by
 cases h4:r.anyL D.isImm
 ·exact ev_call h (retW0 rfl rfl h3 h4) (e▸x)
 ·exact ev_call (ws:=[.fz [],.ca [] [] [],.rw t r]) h (retWi rfl rfl h3 h4) (by have e2:K (E.app [.fz [],.ca [] [] [],.rw t r])=q:=e; exact e2▸x)
theorem c68a (e:Ex) (p:sideB e.sd=false):Q1 68 (exD e) no3:=by
 have t1:=c127 e.sd
 rw [p] at t1
 refine sb 1 [.ce 2 25,.ce 3 25,.tm 4] func68 ?_
 refine call0 t1 ?_
 exact fz
theorem c68b (e:Ex) (p:sideB e.sd=true) (q:timeB e.aq=false):Q1 68 (exD e) no3:=by
 have t1:=c127 e.sd
 have t2:=c67 e.aq
 rw [p] at t1
 rw [q] at t2
 refine sb 1 [.ce 2 25,.ce 3 25,.tm 4] func68 ?_
 refine call0 t1 ?_
 refine call0 t2 ?_
 exact fz
theorem c68c (e:Ex) (p:sideB e.sd=true) (q:timeB e.aq=true) (r:timeB e.at'=false):Q1 68 (exD e) no3:=by
 have t1:=c127 e.sd
 have t2:=c67 e.aq
 have t3:=c67 e.at'
 rw [p] at t1
 rw [q] at t2
 rw [r] at t3
 refine sb 1 [.ce 2 25,.ce 3 25,.tm 4] func68 ?_
 refine call0 t1 ?_
 refine call0 t2 ?_
 refine call0 t3 ?_
 exact fz
theorem c68d (e:Ex) (p:sideB e.sd=true) (q:timeB e.aq=true) (r:timeB e.at'=true) (s:e.at'<e.aq):Q1 68 (exD e) no3:=by
 have t1:=c127 e.sd
 have t2:=c67 e.aq
 have t3:=c67 e.at'
 rw [p] at t1
 rw [q] at t2
 rw [r] at t3
 refine sb 1 [.ce 2 25,.ce 3 25,.tm 4] func68 ?_
 refine call0 t1 ?_
 refine call0 t2 ?_
 refine call0 t3 ?_
 exact fz
theorem c68e (e:Ex) (h2:e.rq.length≤1048576) (p:preB e=true) (k:Nat) (g:readR e.rq false false = .error k):Q1 68 (exD e) no3:=by
 unfold preB at p
 simp only [Bool.and_eq_true,Bool.not_eq_true',decide_eq_false_iff_not] at p
 obtain ⟨⟨⟨p,q⟩,r⟩,s⟩:=p
 have t1:=c127 e.sd
 have t2:=c67 e.aq
 have t3:=c67 e.at'
 rw [p] at t1
 rw [q] at t2
 rw [r] at t3
 have x1:=c13 e.rq h2
 rw [g] at x1
 simp only [reqD] at x1
 have g1:=readR_code g
 clear g
 refine sb 1 [.ce 2 25,.ce 3 25,.tm 4] func68 ?_
 refine call0 t1 ?_
 refine call0 t2 ?_
 refine call0 t3 ?_
 refine call0 x1 ?_
 exact fz
theorem c68f (e:Ex) (h2:e.rq.length≤1048576) (h3:e.an.length≤1048576) (p:preB e=true) (me ta:List UInt8) (st:Nat) (re:List UInt8) (ba:Bool) (l:List Fld) (bo:List UInt8) (g:readR e.rq false false = .ok (me,ta,st,re,ba,l,bo)) (k:Nat) (f:readR e.an true (me==headN) = .error k) (c:canR ta=none):Q1 68 (exD e) no3:=by
 unfold preB at p
 simp only [Bool.and_eq_true,Bool.not_eq_true',decide_eq_false_iff_not] at p
 obtain ⟨⟨⟨p,q⟩,r⟩,s⟩:=p
 have t1:=c127 e.sd
 have t2:=c67 e.aq
 have t3:=c67 e.at'
 rw [p] at t1
 rw [q] at t2
 rw [r] at t3
 have x1:=c13 e.rq h2
 rw [g] at x1
 simp only [reqD] at x1
 obtain ⟨b1,b2,b3,b4,b5⟩:=readR_in g
 have x2:=c15 e.an h3 (me==headN)
 have x3:=c66 ta (by omega)
 rw [f] at x2
 simp only [reqD] at x2
 have f1:=readR_code f
 rw [c] at x3
 simp only [canD] at x3
 clear g f c
 refine sb 1 [.ce 2 25,.ce 3 25,.tm 4] func68 ?_
 refine call0 t1 ?_
 refine call0 t2 ?_
 refine call0 t3 ?_
 refine callr x1 fD_re1 ?_
 refine call0 x2 ?_
 refine call0 x3 ?_
 refine drZ gs68_0 ?_
 exact fz
theorem c68f2 (e:Ex) (h2:e.rq.length≤1048576) (h3:e.an.length≤1048576) (p:preB e=true) (me ta:List UInt8) (st:Nat) (re:List UInt8) (ba:Bool) (l:List Fld) (bo:List UInt8) (g:readR e.rq false false = .ok (me,ta,st,re,ba,l,bo)) (k:Nat) (f:readR e.an true (me==headN) = .error k) (u:List UInt8) (c:canR ta=some u):Q1 68 (exD e) no3:=by
 unfold preB at p
 simp only [Bool.and_eq_true,Bool.not_eq_true',decide_eq_false_iff_not] at p
 obtain ⟨⟨⟨p,q⟩,r⟩,s⟩:=p
 have t1:=c127 e.sd
 have t2:=c67 e.aq
 have t3:=c67 e.at'
 rw [p] at t1
 rw [q] at t2
 rw [r] at t3
 have x1:=c13 e.rq h2
 rw [g] at x1
 simp only [reqD] at x1
 obtain ⟨b1,b2,b3,b4,b5⟩:=readR_in g
 have x2:=c15 e.an h3 (me==headN)
 have x3:=c66 ta (by omega)
 rw [f] at x2
 simp only [reqD] at x2
 have f1:=readR_code f
 rw [c] at x3
 simp only [canD] at x3
 clear g f c
 refine sb 1 [.ce 2 25,.ce 3 25,.tm 4] func68 ?_
 refine call0 t1 ?_
 refine call0 t2 ?_
 refine call0 t3 ?_
 refine callr x1 fD_re1 ?_
 refine call0 x2 ?_
 refine call0 x3 ?_
 refine drZ gs68_0 ?_
 exact fz
theorem c68g (e:Ex) (h2:e.rq.length≤1048576) (h3:e.an.length≤1048576) (p:preB e=true) (me ta:List UInt8) (st:Nat) (re:List UInt8) (ba:Bool) (l:List Fld) (bo:List UInt8) (g:readR e.rq false false = .ok (me,ta,st,re,ba,l,bo)) (me2 ta2:List UInt8) (st2:Nat) (re2:List UInt8) (ba2:Bool) (l2:List Fld) (bo2:List UInt8) (f:readR e.an true (me==headN) = .ok (me2,ta2,st2,re2,ba2,l2,bo2)) (c:canR ta=none):Q1 68 (exD e) no3:=by
 unfold preB at p
 simp only [Bool.and_eq_true,Bool.not_eq_true',decide_eq_false_iff_not] at p
 obtain ⟨⟨⟨p,q⟩,r⟩,s⟩:=p
 have t1:=c127 e.sd
 have t2:=c67 e.aq
 have t3:=c67 e.at'
 rw [p] at t1
 rw [q] at t2
 rw [r] at t3
 have x1:=c13 e.rq h2
 rw [g] at x1
 simp only [reqD] at x1
 obtain ⟨b1,b2,b3,b4,b5⟩:=readR_in g
 have x2:=c15 e.an h3 (me==headN)
 have x3:=c66 ta (by omega)
 rw [f] at x2
 simp only [reqD] at x2
 obtain ⟨d1,d2,d3,d4,d5⟩:=readR_in f
 have x4:=c10 me2 ta2 (st2:Nat) re2 ba2 l2 bo2 (by omega) (by omega) (by omega) (by omega) d5
 rw [c] at x3
 simp only [canD] at x3
 clear g f c
 refine sb 1 [.ce 2 25,.ce 3 25,.tm 4] func68 ?_
 refine call0 t1 ?_
 refine call0 t2 ?_
 refine call0 t3 ?_
 refine callr x1 fD_re1 ?_
 refine callf x2 fD_re1 ?_
 refine call0 x3 ?_
 refine drZ gs68_0 ?_
 exact fz
theorem c68h (e:Ex) (h2:e.rq.length≤1048576) (h3:e.an.length≤1048576) (p:preB e=true) (me ta:List UInt8) (st:Nat) (re:List UInt8) (ba:Bool) (l:List Fld) (bo:List UInt8) (g:readR e.rq false false = .ok (me,ta,st,re,ba,l,bo)) (me2 ta2:List UInt8) (st2:Nat) (re2:List UInt8) (ba2:Bool) (l2:List Fld) (bo2:List UInt8) (f:readR e.an true (me==headN) = .ok (me2,ta2,st2,re2,ba2,l2,bo2)) (u:List UInt8) (c:canR ta=some u) (y:(u==e.ur)=false):Q1 68 (exD e) no3:=by
 unfold preB at p
 simp only [Bool.and_eq_true,Bool.not_eq_true',decide_eq_false_iff_not] at p
 obtain ⟨⟨⟨p,q⟩,r⟩,s⟩:=p
 have t1:=c127 e.sd
 have t2:=c67 e.aq
 have t3:=c67 e.at'
 rw [p] at t1
 rw [q] at t2
 rw [r] at t3
 have x1:=c13 e.rq h2
 rw [g] at x1
 simp only [reqD] at x1
 obtain ⟨b1,b2,b3,b4,b5⟩:=readR_in g
 have x2:=c15 e.an h3 (me==headN)
 have x3:=c66 ta (by omega)
 rw [f] at x2
 simp only [reqD] at x2
 obtain ⟨d1,d2,d3,d4,d5⟩:=readR_in f
 have x4:=c10 me2 ta2 (st2:Nat) re2 ba2 l2 bo2 (by omega) (by omega) (by omega) (by omega) d5
 rw [c] at x3
 simp only [canD] at x3
 clear g f c
 refine sb 1 [.ce 2 25,.ce 3 25,.tm 4] func68 ?_
 refine call0 t1 ?_
 refine call0 t2 ?_
 refine call0 t3 ?_
 refine callr x1 fD_re1 ?_
 refine callf x2 fD_re1 ?_
 refine call0 x3 ?_
 refine drZ gs68_0 ?_
 exact fz
theorem c68i (e:Ex) (h2:e.rq.length≤1048576) (h3:e.an.length≤1048576) (p:preB e=true) (me ta:List UInt8) (st:Nat) (re:List UInt8) (ba:Bool) (l:List Fld) (bo:List UInt8) (g:readR e.rq false false = .ok (me,ta,st,re,ba,l,bo)) (me2 ta2:List UInt8) (st2:Nat) (re2:List UInt8) (ba2:Bool) (l2:List Fld) (bo2:List UInt8) (f:readR e.an true (me==headN) = .ok (me2,ta2,st2,re2,ba2,l2,bo2)) (u:List UInt8) (c:canR ta=some u) (y:(u==e.ur)=true) (z:(wmT me2 ta2 (st2:Nat) re2 ba2 l2 bo2==e.an)=false):Q1 68 (exD e) no3:=by
 unfold preB at p
 simp only [Bool.and_eq_true,Bool.not_eq_true',decide_eq_false_iff_not] at p
 obtain ⟨⟨⟨p,q⟩,r⟩,s⟩:=p
 have t1:=c127 e.sd
 have t2:=c67 e.aq
 have t3:=c67 e.at'
 rw [p] at t1
 rw [q] at t2
 rw [r] at t3
 have x1:=c13 e.rq h2
 rw [g] at x1
 simp only [reqD] at x1
 obtain ⟨b1,b2,b3,b4,b5⟩:=readR_in g
 have x2:=c15 e.an h3 (me==headN)
 have x3:=c66 ta (by omega)
 rw [f] at x2
 simp only [reqD] at x2
 obtain ⟨d1,d2,d3,d4,d5⟩:=readR_in f
 have x4:=c10 me2 ta2 (st2:Nat) re2 ba2 l2 bo2 (by omega) (by omega) (by omega) (by omega) d5
 rw [c] at x3
 simp only [canD] at x3
 clear g f c
 refine sb 1 [.ce 2 25,.ce 3 25,.tm 4] func68 ?_
 refine call0 t1 ?_
 refine call0 t2 ?_
 refine call0 t3 ?_
 refine callr x1 fD_re1 ?_
 refine callf x2 fD_re1 ?_
 refine call0 x3 ?_
 refine drZ gs68_0 ?_
 refine drawn0 x4 ?_
 exact fz
theorem c68j (e:Ex) (h2:e.rq.length≤1048576) (h3:e.an.length≤1048576) (p:preB e=true) (me ta:List UInt8) (st:Nat) (re:List UInt8) (ba:Bool) (l:List Fld) (bo:List UInt8) (g:readR e.rq false false = .ok (me,ta,st,re,ba,l,bo)) (me2 ta2:List UInt8) (st2:Nat) (re2:List UInt8) (ba2:Bool) (l2:List Fld) (bo2:List UInt8) (f:readR e.an true (me==headN) = .ok (me2,ta2,st2,re2,ba2,l2,bo2)) (u:List UInt8) (c:canR ta=some u) (y:(u==e.ur)=true) (z:(wmT me2 ta2 (st2:Nat) re2 ba2 l2 bo2==e.an)=true):Q1 68 (exD e) (.tup [mD me ta (st:Nat) re ba (fD l) bo,mD me2 ta2 (st2:Nat) re2 ba2 (fD l2) bo2,.v (vB true)]):=by
 unfold preB at p
 simp only [Bool.and_eq_true,Bool.not_eq_true',decide_eq_false_iff_not] at p
 obtain ⟨⟨⟨p,q⟩,r⟩,s⟩:=p
 have t1:=c127 e.sd
 have t2:=c67 e.aq
 have t3:=c67 e.at'
 rw [p] at t1
 rw [q] at t2
 rw [r] at t3
 have x1:=c13 e.rq h2
 rw [g] at x1
 simp only [reqD] at x1
 obtain ⟨b1,b2,b3,b4,b5⟩:=readR_in g
 have x2:=c15 e.an h3 (me==headN)
 have x3:=c66 ta (by omega)
 rw [f] at x2
 simp only [reqD] at x2
 obtain ⟨d1,d2,d3,d4,d5⟩:=readR_in f
 have x4:=c10 me2 ta2 (st2:Nat) re2 ba2 l2 bo2 (by omega) (by omega) (by omega) (by omega) d5
 rw [c] at x3
 simp only [canD] at x3
 clear g f c
 refine sb 1 [.ce 2 25,.ce 3 25,.tm 4] func68 ?_
 refine call0 t1 ?_
 refine call0 t2 ?_
 refine call0 t3 ?_
 refine callr x1 fD_re1 ?_
 refine callf x2 fD_re1 ?_
 refine call0 x3 ?_
 refine drZ gs68_0 ?_
 refine drawn0 x4 ?_
 refine drZ gs68_1 ?_
 exact fz (hok:=by cases l<;>cases l2<;>rfl)
theorem c124a (e:Ex) (p:sideB e.sd=false):Q1 124 (exD e) no3:=by
 obtain ⟨p1,p2⟩:=side_no p
 clear p
 refine sb 1 [.ce 2 25,.ce 3 25,.tm 4] func124 ?_
 exact fz
theorem c124b (e:Ex) (p:sideB e.sd=true) (q:timeB e.aq=false):Q1 124 (exD e) no3:=by
 have t2:=c62 e.aq
 rw [q] at t2
 rcases side_or p with p1 | ⟨p1,p2⟩
 all_goals clear p
 all_goals refine sb 1 [.ce 2 25,.ce 3 25,.tm 4] func124 ?_
 all_goals refine call0 t2 ?_
 all_goals exact fz
theorem c124c (e:Ex) (p:sideB e.sd=true) (q:timeB e.aq=true) (r:timeB e.at'=false):Q1 124 (exD e) no3:=by
 have t2:=c62 e.aq
 have t3:=c62 e.at'
 rw [q] at t2
 rw [r] at t3
 rcases side_or p with p1 | ⟨p1,p2⟩
 all_goals clear p
 all_goals refine sb 1 [.ce 2 25,.ce 3 25,.tm 4] func124 ?_
 all_goals refine call0 t2 ?_
 all_goals refine call0 t3 ?_
 all_goals exact fz
theorem c124d (e:Ex) (p:sideB e.sd=true) (q:timeB e.aq=true) (r:timeB e.at'=true) (s:e.at'<e.aq):Q1 124 (exD e) no3:=by
 have t2:=c62 e.aq
 have t3:=c62 e.at'
 rw [q] at t2
 rw [r] at t3
 rcases side_or p with p1 | ⟨p1,p2⟩
 all_goals clear p
 all_goals refine sb 1 [.ce 2 25,.ce 3 25,.tm 4] func124 ?_
 all_goals refine call0 t2 ?_
 all_goals refine call0 t3 ?_
 all_goals exact fz
theorem c124e (e:Ex) (h2:e.rq.length≤1048576) (p:preB e=true) (k:Nat) (g:readR e.rq false false = .error k):Q1 124 (exD e) no3:=by
 unfold preB at p
 simp only [Bool.and_eq_true,Bool.not_eq_true',decide_eq_false_iff_not] at p
 obtain ⟨⟨⟨p,q⟩,r⟩,s⟩:=p
 have t2:=c62 e.aq
 have t3:=c62 e.at'
 rw [q] at t2
 rw [r] at t3
 have x1:=c58 e.rq h2
 rw [g] at x1
 simp only [reqD] at x1
 have g1:=readR_code g
 clear g
 rcases side_or p with p1 | ⟨p1,p2⟩
 all_goals clear p
 all_goals refine sb 1 [.ce 2 25,.ce 3 25,.tm 4] func124 ?_
 all_goals refine call0 t2 ?_
 all_goals refine call0 t3 ?_
 all_goals refine call0 x1 ?_
 all_goals exact fz
theorem c124g (e:Ex) (h2:e.rq.length≤1048576) (h3:e.an.length≤1048576) (p:preB e=true) (me ta:List UInt8) (st:Nat) (re:List UInt8) (ba:Bool) (l:List Fld) (bo:List UInt8) (g:readR e.rq false false = .ok (me,ta,st,re,ba,l,bo)) (c:canR ta=none):Q1 124 (exD e) no3:=by
 unfold preB at p
 simp only [Bool.and_eq_true,Bool.not_eq_true',decide_eq_false_iff_not] at p
 obtain ⟨⟨⟨p,q⟩,r⟩,s⟩:=p
 have t2:=c62 e.aq
 have t3:=c62 e.at'
 rw [q] at t2
 rw [r] at t3
 have x1:=c58 e.rq h2
 rw [g] at x1
 simp only [reqD] at x1
 obtain ⟨b1,b2,b3,b4,b5⟩:=readR_in g
 have x2:=c171 e.an h3 (me==headN)
 have x3:=c61 ta (by omega)
 rw [c] at x3
 simp only [canD] at x3
 clear g c
 rcases side_or p with p1 | ⟨p1,p2⟩
 all_goals clear p
 all_goals refine sb 1 [.ce 2 25,.ce 3 25,.tm 4] func124 ?_
 all_goals refine call0 t2 ?_
 all_goals refine call0 t3 ?_
 all_goals refine callr x1 fD_re1 ?_
 all_goals refine call0 x3 ?_
 all_goals exact fz
theorem c124h (e:Ex) (h2:e.rq.length≤1048576) (h3:e.an.length≤1048576) (p:preB e=true) (me ta:List UInt8) (st:Nat) (re:List UInt8) (ba:Bool) (l:List Fld) (bo:List UInt8) (g:readR e.rq false false = .ok (me,ta,st,re,ba,l,bo)) (u:List UInt8) (c:canR ta=some u) (y:(u==e.ur)=false):Q1 124 (exD e) no3:=by
 unfold preB at p
 simp only [Bool.and_eq_true,Bool.not_eq_true',decide_eq_false_iff_not] at p
 obtain ⟨⟨⟨p,q⟩,r⟩,s⟩:=p
 have t2:=c62 e.aq
 have t3:=c62 e.at'
 rw [q] at t2
 rw [r] at t3
 have x1:=c58 e.rq h2
 rw [g] at x1
 simp only [reqD] at x1
 obtain ⟨b1,b2,b3,b4,b5⟩:=readR_in g
 have x2:=c171 e.an h3 (me==headN)
 have x3:=c61 ta (by omega)
 rw [c] at x3
 simp only [canD] at x3
 clear g c
 rcases side_or p with p1 | ⟨p1,p2⟩
 all_goals clear p
 all_goals refine sb 1 [.ce 2 25,.ce 3 25,.tm 4] func124 ?_
 all_goals refine call0 t2 ?_
 all_goals refine call0 t3 ?_
 all_goals refine callr x1 fD_re1 ?_
 all_goals refine call0 x3 ?_
 all_goals exact fz
theorem c124f (e:Ex) (h2:e.rq.length≤1048576) (h3:e.an.length≤1048576) (p:preB e=true) (me ta:List UInt8) (st:Nat) (re:List UInt8) (ba:Bool) (l:List Fld) (bo:List UInt8) (g:readR e.rq false false = .ok (me,ta,st,re,ba,l,bo)) (u:List UInt8) (c:canR ta=some u) (y:(u==e.ur)=true) (k:Nat) (f:readR e.an true (me==headN) = .error k):Q1 124 (exD e) no3:=by
 unfold preB at p
 simp only [Bool.and_eq_true,Bool.not_eq_true',decide_eq_false_iff_not] at p
 obtain ⟨⟨⟨p,q⟩,r⟩,s⟩:=p
 have t2:=c62 e.aq
 have t3:=c62 e.at'
 rw [q] at t2
 rw [r] at t3
 have x1:=c58 e.rq h2
 rw [g] at x1
 simp only [reqD] at x1
 obtain ⟨b1,b2,b3,b4,b5⟩:=readR_in g
 have x2:=c171 e.an h3 (me==headN)
 have x3:=c61 ta (by omega)
 rw [f] at x2
 simp only [reqD] at x2
 have f1:=readR_code f
 rw [c] at x3
 simp only [canD] at x3
 clear g f c
 rcases side_or p with p1 | ⟨p1,p2⟩
 all_goals clear p
 all_goals refine sb 1 [.ce 2 25,.ce 3 25,.tm 4] func124 ?_
 all_goals refine call0 t2 ?_
 all_goals refine call0 t3 ?_
 all_goals refine callr x1 fD_re1 ?_
 all_goals refine call0 x3 ?_
 all_goals refine call0 x2 ?_
 all_goals refine drZ gs124_0 ?_
 all_goals exact fz
theorem c124i (e:Ex) (h2:e.rq.length≤1048576) (h3:e.an.length≤1048576) (p:preB e=true) (me ta:List UInt8) (st:Nat) (re:List UInt8) (ba:Bool) (l:List Fld) (bo:List UInt8) (g:readR e.rq false false = .ok (me,ta,st,re,ba,l,bo)) (u:List UInt8) (c:canR ta=some u) (y:(u==e.ur)=true) (me2 ta2:List UInt8) (st2:Nat) (re2:List UInt8) (ba2:Bool) (l2:List Fld) (bo2:List UInt8) (f:readR e.an true (me==headN) = .ok (me2,ta2,st2,re2,ba2,l2,bo2)) (z:(wmT me2 ta2 (st2:Nat) re2 ba2 l2 bo2==e.an)=false):Q1 124 (exD e) no3:=by
 unfold preB at p
 simp only [Bool.and_eq_true,Bool.not_eq_true',decide_eq_false_iff_not] at p
 obtain ⟨⟨⟨p,q⟩,r⟩,s⟩:=p
 have t2:=c62 e.aq
 have t3:=c62 e.at'
 rw [q] at t2
 rw [r] at t3
 have x1:=c58 e.rq h2
 rw [g] at x1
 simp only [reqD] at x1
 obtain ⟨b1,b2,b3,b4,b5⟩:=readR_in g
 have x2:=c171 e.an h3 (me==headN)
 have x3:=c61 ta (by omega)
 rw [f] at x2
 simp only [reqD] at x2
 obtain ⟨d1,d2,d3,d4,d5⟩:=readR_in f
 have x4:=c59 me2 ta2 (st2:Nat) re2 ba2 l2 bo2 (by omega) (by omega) (by omega) (by omega) d5
 rw [c] at x3
 simp only [canD] at x3
 clear g f c
 rcases side_or p with p1 | ⟨p1,p2⟩
 all_goals clear p
 all_goals refine sb 1 [.ce 2 25,.ce 3 25,.tm 4] func124 ?_
 all_goals refine call0 t2 ?_
 all_goals refine call0 t3 ?_
 all_goals refine callr x1 fD_re1 ?_
 all_goals refine call0 x3 ?_
 all_goals refine callf x2 fD_re1 ?_
 all_goals refine drZ gs124_0 ?_
 all_goals refine drawn0 x4 ?_
 all_goals exact fz
theorem c124j (e:Ex) (h2:e.rq.length≤1048576) (h3:e.an.length≤1048576) (p:preB e=true) (me ta:List UInt8) (st:Nat) (re:List UInt8) (ba:Bool) (l:List Fld) (bo:List UInt8) (g:readR e.rq false false = .ok (me,ta,st,re,ba,l,bo)) (u:List UInt8) (c:canR ta=some u) (y:(u==e.ur)=true) (me2 ta2:List UInt8) (st2:Nat) (re2:List UInt8) (ba2:Bool) (l2:List Fld) (bo2:List UInt8) (f:readR e.an true (me==headN) = .ok (me2,ta2,st2,re2,ba2,l2,bo2)) (z:(wmT me2 ta2 (st2:Nat) re2 ba2 l2 bo2==e.an)=true):Q1 124 (exD e) (.tup [mD me ta (st:Nat) re ba (fD l) bo,mD me2 ta2 (st2:Nat) re2 ba2 (fD l2) bo2,.v (vB true)]):=by
 unfold preB at p
 simp only [Bool.and_eq_true,Bool.not_eq_true',decide_eq_false_iff_not] at p
 obtain ⟨⟨⟨p,q⟩,r⟩,s⟩:=p
 have t2:=c62 e.aq
 have t3:=c62 e.at'
 rw [q] at t2
 rw [r] at t3
 have x1:=c58 e.rq h2
 rw [g] at x1
 simp only [reqD] at x1
 obtain ⟨b1,b2,b3,b4,b5⟩:=readR_in g
 have x2:=c171 e.an h3 (me==headN)
 have x3:=c61 ta (by omega)
 rw [f] at x2
 simp only [reqD] at x2
 obtain ⟨d1,d2,d3,d4,d5⟩:=readR_in f
 have x4:=c59 me2 ta2 (st2:Nat) re2 ba2 l2 bo2 (by omega) (by omega) (by omega) (by omega) d5
 rw [c] at x3
 simp only [canD] at x3
 clear g f c
 rcases side_or p with p1 | ⟨p1,p2⟩
 all_goals clear p
 all_goals refine sb 1 [.ce 2 25,.ce 3 25,.tm 4] func124 ?_
 all_goals refine call0 t2 ?_
 all_goals refine call0 t3 ?_
 all_goals refine callr x1 fD_re1 ?_
 all_goals refine call0 x3 ?_
 all_goals refine callf x2 fD_re1 ?_
 all_goals refine drZ gs124_0 ?_
 all_goals refine drawn0 x4 ?_
 all_goals refine drZ gs124_1 ?_
 all_goals exact fz (hok:=by cases l<;>cases l2<;>rfl)
theorem pre_cases {e:Ex} (h:preB e=false):sideB e.sd=false∨(sideB e.sd=true∧timeB e.aq=false)∨(sideB e.sd=true∧timeB e.aq=true∧timeB e.at'=false)∨(sideB e.sd=true∧timeB e.aq=true∧timeB e.at'=true∧e.at'<e.aq):=by
 unfold preB at h
 cases h1:sideB e.sd with
 | false=>exact .inl rfl
 | true =>
  cases h2:timeB e.aq with
  | false=>exact .inr (.inl ⟨rfl,rfl⟩)
  | true =>
   cases h3:timeB e.at' with
   | false=>exact .inr (.inr (.inl ⟨rfl,rfl,rfl⟩))
   | true =>
    rw [h1,h2,h3] at h
    exact .inr (.inr (.inr ⟨rfl,rfl,rfl,by simpa using h⟩))
theorem c68 (e:Ex) (h2:e.rq.length≤1048576) (h3:e.an.length≤1048576):(exB e=false∧Q1 68 (exD e) no3)∨(exB e=true∧∃ (me ta:List UInt8) (st:Nat) (re:List UInt8) (ba:Bool) (l:List Fld) (bo me2 ta2:List UInt8) (st2:Nat) (re2:List UInt8) (ba2:Bool) (l2:List Fld) (bo2:List UInt8),readR e.rq false false = .ok (me,ta,st,re,ba,l,bo)∧readR e.an true (me==headN) = .ok (me2,ta2,st2,re2,ba2,l2,bo2)∧Q1 68 (exD e) (.tup [mD me ta (st:Nat) re ba (fD l) bo,mD me2 ta2 (st2:Nat) re2 ba2 (fD l2) bo2,.v (vB true)])):=by
 cases p:preB e with
 | false =>
  refine .inl ⟨by rw [exB,p]; rfl,?_⟩
  rcases pre_cases p with a | ⟨a,b⟩ | ⟨a,b,c⟩ | ⟨a,b,c,d⟩
  ·exact c68a e a
  ·exact c68b e a b
  ·exact c68c e a b c
  ·exact c68d e a b c d
 | true =>
  cases g:readR e.rq false false with
  | error k=>exact .inl ⟨by rw [exB,p,g]; rfl,c68e e h2 p k g⟩
  | ok x =>
   obtain ⟨me,ta,st,re,ba,l,bo⟩:=x
   cases c:canR ta with
   | none =>
    refine .inl ⟨by rw [exB,p,g]; simp only [c]; rfl,?_⟩
    cases f:readR e.an true (me==headN) with
    | error k=>exact c68f e h2 h3 p me ta st re ba l bo g k f c
    | ok x2 =>
     obtain ⟨me2,ta2,st2,re2,ba2,l2,bo2⟩:=x2
     exact c68g e h2 h3 p me ta st re ba l bo g me2 ta2 st2 re2 ba2 l2 bo2 f c
   | some u =>
    cases y:u==e.ur with
    | false =>
     refine .inl ⟨by rw [exB,p,g]; simp only [c,y]; rfl,?_⟩
     cases f:readR e.an true (me==headN) with
     | error k=>exact c68f2 e h2 h3 p me ta st re ba l bo g k f u c
     | ok x2 =>
      obtain ⟨me2,ta2,st2,re2,ba2,l2,bo2⟩:=x2
      exact c68h e h2 h3 p me ta st re ba l bo g me2 ta2 st2 re2 ba2 l2 bo2 f u c y
    | true =>
     cases f:readR e.an true (me==headN) with
     | error k =>
      refine .inl ⟨by rw [exB,p,g]; simp only [c,y,f]; rfl,?_⟩
      exact c68f2 e h2 h3 p me ta st re ba l bo g k f u c
     | ok x2 =>
      obtain ⟨me2,ta2,st2,re2,ba2,l2,bo2⟩:=x2
      cases z:wmT me2 ta2 (st2:Nat) re2 ba2 l2 bo2==e.an with
      | false =>
       refine .inl ⟨by rw [exB,p,g]; simp only [c,y,f,z]; rfl,?_⟩
       exact c68i e h2 h3 p me ta st re ba l bo g me2 ta2 st2 re2 ba2 l2 bo2 f u c y z
      | true =>
       refine .inr ⟨by rw [exB,p,g]; simp only [c,y,f,z]; rfl,me,ta,st,re,ba,l,bo,me2,ta2,st2,re2,ba2,l2,bo2,rfl,f,?_⟩
       exact c68j e h2 h3 p me ta st re ba l bo g me2 ta2 st2 re2 ba2 l2 bo2 f u c y z
theorem c124 (e:Ex) (h2:e.rq.length≤1048576) (h3:e.an.length≤1048576):(exB e=false∧Q1 124 (exD e) no3)∨(exB e=true∧∃ (me ta:List UInt8) (st:Nat) (re:List UInt8) (ba:Bool) (l:List Fld) (bo me2 ta2:List UInt8) (st2:Nat) (re2:List UInt8) (ba2:Bool) (l2:List Fld) (bo2:List UInt8),readR e.rq false false = .ok (me,ta,st,re,ba,l,bo)∧readR e.an true (me==headN) = .ok (me2,ta2,st2,re2,ba2,l2,bo2)∧Q1 124 (exD e) (.tup [mD me ta (st:Nat) re ba (fD l) bo,mD me2 ta2 (st2:Nat) re2 ba2 (fD l2) bo2,.v (vB true)])):=by
 cases p:preB e with
 | false =>
  refine .inl ⟨by rw [exB,p]; rfl,?_⟩
  rcases pre_cases p with a | ⟨a,b⟩ | ⟨a,b,c⟩ | ⟨a,b,c,d⟩
  ·exact c124a e a
  ·exact c124b e a b
  ·exact c124c e a b c
  ·exact c124d e a b c d
 | true =>
  cases g:readR e.rq false false with
  | error k=>exact .inl ⟨by rw [exB,p,g]; rfl,c124e e h2 p k g⟩
  | ok x =>
   obtain ⟨me,ta,st,re,ba,l,bo⟩:=x
   cases c:canR ta with
   | none =>
    refine .inl ⟨by rw [exB,p,g]; simp only [c]; rfl,?_⟩
    exact c124g e h2 h3 p me ta st re ba l bo g c
   | some u =>
    cases y:u==e.ur with
    | false =>
     refine .inl ⟨by rw [exB,p,g]; simp only [c,y]; rfl,?_⟩
     exact c124h e h2 h3 p me ta st re ba l bo g u c y
    | true =>
     cases f:readR e.an true (me==headN) with
     | error k =>
      refine .inl ⟨by rw [exB,p,g]; simp only [c,y,f]; rfl,?_⟩
      exact c124f e h2 h3 p me ta st re ba l bo g u c y k f
     | ok x2 =>
      obtain ⟨me2,ta2,st2,re2,ba2,l2,bo2⟩:=x2
      cases z:wmT me2 ta2 (st2:Nat) re2 ba2 l2 bo2==e.an with
      | false =>
       refine .inl ⟨by rw [exB,p,g]; simp only [c,y,f,z]; rfl,?_⟩
       exact c124i e h2 h3 p me ta st re ba l bo g u c y me2 ta2 st2 re2 ba2 l2 bo2 f z
      | true =>
       refine .inr ⟨by rw [exB,p,g]; simp only [c,y,f,z]; rfl,me,ta,st,re,ba,l,bo,me2,ta2,st2,re2,ba2,l2,bo2,rfl,f,?_⟩
       exact c124j e h2 h3 p me ta st re ba l bo g u c y me2 ta2 st2 re2 ba2 l2 bo2 f z
attribute [local go_sem ↓ high] fD_mv fD_as fD_own fD_oi fD_mp fD_lf fD_rb fD_bn fD_ar fD_wb fD_cl
theorem fD_re3 {me ta re bo me2 ta2 re2 bo2:List UInt8} {st st2:Int} {ba ba2:Bool} {l l2:List Fld} {a:Value}:D.anyL (fun d => !d.resLeaf) (.tup [mD me ta st re ba (fD l) bo,mD me2 ta2 st2 re2 ba2 (fD l2) bo2,.v a])=false:=by cases l<;>cases l2<;>rfl
theorem c119 (e:Ex) (h2:e.rq.length≤1048576) (h3:e.an.length≤1048576):Q1 119 (exD e) (.v (vB (exB e))):=by
 rcases c68 e h2 h3 with ⟨h,x⟩ | ⟨h,me,ta,st,re,ba,l,bo,me2,ta2,st2,re2,ba2,l2,bo2,_,_,x⟩
 ·rw [h]
  clear h
  refine sb 1 [.tm 2] func119 ?_
  refine call0 x ?_
  exact fz
 ·rw [h]
  clear h
  refine sb 1 [.tm 2] func119 ?_
  refine callr x fD_re3 ?_
  exact fz
theorem c117 (e:Ex) (h2:e.rq.length≤1048576) (h3:e.an.length≤1048576):Q1 117 (exD e) (.v (vB (exB e))):=by
 rcases c124 e h2 h3 with ⟨h,x⟩ | ⟨h,me,ta,st,re,ba,l,bo,me2,ta2,st2,re2,ba2,l2,bo2,_,_,x⟩
 ·rw [h]
  clear h
  refine sb 1 [.tm 2] func117 ?_
  refine call0 x ?_
  exact fz
 ·rw [h]
  clear h
  refine sb 1 [.tm 2] func117 ?_
  refine callr x fD_re3 ?_
  exact fz
def dayB (n:Int):Bool:=inB 4 1000000 n&&(n.tmod 4==0)
theorem c51 (n:Int):Q1 51 (.v (vI n)) (.v (vB (dayB n))):=by
 have x1:=c116 n 4 1000000
 unfold dayB
 cases h:inB 4 1000000 n with
 | false =>
  rw [h] at x1
  refine sb 1 [.tm 2] func51 ?_
  refine call0 x1 ?_
  exact fz
 | true =>
  rw [h] at x1
  clear h
  refine sb 1 [.tm 2] func51 ?_
  refine call0 x1 ?_
  refine ⟨by decide,?_⟩
  exact fz
theorem c48 (n:Int):Q1 48 (.v (vI n)) (.v (vB (dayB n))):=by
 by_cases h1:4≤n
 ·by_cases h2:n≤1000000
  ·have e:dayB n=(n.tmod 4==0):=by simp [dayB,inB,h1,h2]
   rw [e]
   clear e
   refine sb 1 [.tm 2] func48 ?_
   refine ⟨by decide,?_⟩
   exact fz
  ·have e:dayB n=false:=by simp [dayB,inB,h2]
   rw [e]
   clear e
   refine sb 1 [.tm 2] func48 ?_
   exact fz
 ·have e:dayB n=false:=by simp [dayB,inB,h1]
  rw [e]
  clear e
  refine sb 1 [.tm 2] func48 ?_
  exact fz
attribute [local go_sem ↓ high] fD_mv fD_as fD_own fD_oi fD_mp fD_lf fD_rb fD_bn fD_ar fD_wb fD_cl
def rowE (e:Ex):List T:=[.v (vI e.sd),.v (vI e.aq),.v (vI e.at'),.v (vS e.ur),.v (vS e.rq),.v (vS e.an)]
def rowsE (l:List Ex):List (List T):=l.map rowE
def ex0:Ex:=⟨0,0,0,[],[],[]⟩
theorem rowsE_length {l:List Ex}:(rowsE l).length=l.length:=List.length_map ..
theorem rowsE_getD {l:List Ex} {i:Nat} (h:i<l.length):(rowsE l).getD i []=[.v (vI (l.getD i ex0).sd),.v (vI (l.getD i ex0).aq),.v (vI (l.getD i ex0).at'),.v (vS (l.getD i ex0).ur),.v (vS (l.getD i ex0).rq),.v (vS (l.getD i ex0).an)]:=by
 simp [rowsE,rowE,List.getD_eq_getElem?_getD,h]
theorem rowsE_ne {l:List Ex} (h:l≠[]):rowsE l≠[]:=by
 cases l with
 | nil=>exact absurd rfl h
 | cons x l=>simp [rowsE]
def SmallE (l:List Ex):Prop:=l.length≤9223372036854775807∧∀ e,e∈l→e.ur.length≤1048576∧e.rq.length≤1048576∧e.an.length≤1048576
theorem SmallE.at {l:List Ex} (h:SmallE l) {i:Nat} (hi:i<l.length):(l.getD i ex0).ur.length≤1048576∧(l.getD i ex0).rq.length≤1048576∧(l.getD i ex0).an.length≤1048576:=by
 refine h.2 _ ?_
 rw [List.getD_eq_getElem?_getD,List.getElem?_eq_getElem hi]
 exact List.getElem_mem hi
def goodE (l:List Ex):List Ex:=if 200<l.length then [] else l.filter exB
theorem filE_hit {l:List Ex} {i:Nat} (h:i<l.length) (hb:exB (l.getD i ex0)=true):(l.take (i+1)).filter exB=(l.take i).filter exB++[l.getD i ex0]:=by
 have:[l.getD i ex0].filter exB=[l.getD i ex0]:=by rw [List.filter_cons,if_pos hb]; rfl
 rw [take_at (d:=ex0) h,List.filter_append,this]
theorem filE_miss {l:List Ex} {i:Nat} (h:i<l.length) (hb:exB (l.getD i ex0)=false):(l.take (i+1)).filter exB=(l.take i).filter exB:=by
 have:[l.getD i ex0].filter exB=[]:=by rw [List.filter_cons,if_neg (by rw [hb]; simp)]; rfl
 rw [take_at (d:=ex0) h,List.filter_append,this,List.append_nil]
theorem filE_le (l:List Ex) (i:Nat):((l.take i).filter exB).length≤i:=by
 refine Nat.le_trans (List.length_filter_le _ _) ?_
 rw [List.length_take]; omega
theorem sdE_nil:sd 71 (rowsE []) = .nil:=id rfl
attribute [local go_sem] rowsE_length sdE_nil
theorem c54a (l:List Ex) (h:200<l.length) (hL:l.length≤9223372036854775807):Q1 54 (.imm 71 (rowsE l)) .nil:=by
 have h1:(200:Int)<l.length:=by omega
 refine sb 1 [.tm 2] func54 ?_
 exact fz
theorem c56a (l:List Ex) (h:200<l.length) (hL:l.length≤9223372036854775807):Q1 56 (.imm 71 (rowsE l)) .nil:=by
 have h1:(200:Int)<l.length:=by omega
 refine sb 1 [.tm 2] func56 ?_
 exact fz
theorem c54b (l:List Ex) (hl:SmallE l) (h:¬ 200<l.length):Q1 54 (.imm 71 (rowsE l)) (sd 71 (rowsE (l.filter exB))):=by
 have hL:l.length≤9223372036854775807:=hl.1
 have h1:¬ (200:Int)<l.length:=by omega
 refine sb 1 [.tm 2] func54 ?_
 refine loopZ (fun i:Nat=>pE 27 [.imm 71 (rowsE l),.dead,.nil,sd 71 (rowsE ((l.take i).filter exB)),.v (vI i)]) [0,2,3,4] (fun i=>i≤l.length) (fun i=>l.length-i) 0 rfl (Nat.zero_le _) ?_
 intro i hi
 have hle:=filE_le l i
 by_cases hc:i<l.length
 ·have w1:=wrapN hc hL
  have e1:=rowsE_getD hc
  have hsm:=hl.at hc
  have x2:=c117 (l.getD i ex0) hsm.2.1 hsm.2.2
  have khit:=filE_hit (l:=l) hc
  have kmiss:=filE_miss (l:=l) hc
  cases hb:exB (l.getD i ex0) with
  | false =>
   rw [hb] at x2
   have kmiss:=kmiss hb
   by_cases h0:(l.take i).filter exB=[]
   ·rw [h0] at kmiss ⊢
    clear khit hb h0
    refine Z ?_
    refine call0 x2 ?_
    exact ⟨i+1,by rw [kmiss]; rfl,hc,by omega⟩
   ·have hsd:=sd_own (e:=71) (rowsE_ne h0)
    clear khit hb h0
    refine X2 hsd e1 ?_
    refine Z ?_
    refine call0 x2 ?_
    exact ⟨i+1,by rw [kmiss,hsd]; rfl,hc,by omega⟩
  | true =>
   rw [hb] at x2
   have khit:=khit hb
   have esd:∀ k:List Ex,sd 71 (rowsE (k++[l.getD i ex0])) = .own 71 (rowsE k++[rowE (l.getD i ex0)]):=fun k=>by
    rw [show rowsE (k++[l.getD i ex0])=rowsE k++[rowE (l.getD i ex0)] by simp [rowsE]]
    exact sd_own (by simp)
   by_cases h0:(l.take i).filter exB=[]
   ·rw [h0] at khit ⊢
    clear kmiss hb h0
    refine Z ?_
    refine call0 x2 ?_
    exact ⟨i+1,by rw [khit,esd]; rfl,hc,by omega⟩
   ·have hsd:=sd_own (e:=71) (rowsE_ne h0)
    have hb4:(((l.take i).filter exB).length+1)*72≤140737488355328:=by omega
    clear kmiss hb h0
    refine X2 hsd e1 ?_
    refine Z ?_
    refine call0 x2 ?_
    exact ⟨i+1,by rw [khit,esd]; rfl,hc,by omega⟩
 ·have he:l.take i=l:=List.take_of_length_le (by omega)
  rw [he]
  by_cases h0:l.filter exB=[]
  ·rw [h0]
   clear he
   refine Z ?_
   exact fz
  ·have hsd:=sd_own (e:=71) (rowsE_ne h0)
   rw [hsd]
   clear he h0
   refine Z ?_
   exact fz
theorem c54 (l:List Ex) (hl:SmallE l):Q1 54 (.imm 71 (rowsE l)) (sd 71 (rowsE (goodE l))):=by
 by_cases h:200<l.length
 ·rw [goodE,if_pos h]; exact c54a l h hl.1
 ·rw [goodE,if_neg h]; exact c54b l hl h
theorem c56b (l:List Ex) (hl:SmallE l) (h:¬ 200<l.length):Q1 56 (.imm 71 (rowsE l)) (sd 71 (rowsE (l.filter exB))):=by
 have hL:l.length≤9223372036854775807:=hl.1
 have h1:¬ (200:Int)<l.length:=by omega
 refine sb 1 [.tm 2] func56 ?_
 refine loopZ (fun i:Nat=>pE 23 [.imm 71 (rowsE l),.dead,.nil,sd 71 (rowsE ((l.take i).filter exB)),.dead,.dead,.dead,.dead,.dead,.imm 71 (rowsE l),.v (vI l.length),.v (vI i)]) [0,2,3,9,10,11] (fun i=>i≤l.length) (fun i=>l.length-i) 0 rfl (Nat.zero_le _) ?_
 intro i hi
 have hle:=filE_le l i
 by_cases hc:i<l.length
 ·have w1:=wrapN hc hL
  have e1:=rowsE_getD hc
  have hsm:=hl.at hc
  have x2:=c119 (l.getD i ex0) hsm.2.1 hsm.2.2
  have khit:=filE_hit (l:=l) hc
  have kmiss:=filE_miss (l:=l) hc
  cases hb:exB (l.getD i ex0) with
  | false =>
   rw [hb] at x2
   have kmiss:=kmiss hb
   by_cases h0:(l.take i).filter exB=[]
   ·rw [h0] at kmiss ⊢
    clear khit hb h0
    refine Z ?_
    refine call0 x2 ?_
    exact ⟨i+1,by rw [kmiss]; rfl,hc,by omega⟩
   ·have hsd:=sd_own (e:=71) (rowsE_ne h0)
    clear khit hb h0
    refine X2 hsd e1 ?_
    refine Z ?_
    refine call0 x2 ?_
    exact ⟨i+1,by rw [kmiss,hsd]; rfl,hc,by omega⟩
  | true =>
   rw [hb] at x2
   have khit:=khit hb
   have esd:∀ k:List Ex,sd 71 (rowsE (k++[l.getD i ex0])) = .own 71 (rowsE k++[rowE (l.getD i ex0)]):=fun k=>by
    rw [show rowsE (k++[l.getD i ex0])=rowsE k++[rowE (l.getD i ex0)] by simp [rowsE]]
    exact sd_own (by simp)
   by_cases h0:(l.take i).filter exB=[]
   ·rw [h0] at khit ⊢
    clear kmiss hb h0
    refine Z ?_
    refine call0 x2 ?_
    exact ⟨i+1,by rw [khit,esd]; rfl,hc,by omega⟩
   ·have hsd:=sd_own (e:=71) (rowsE_ne h0)
    have hb4:(((l.take i).filter exB).length+1)*72≤140737488355328:=by omega
    clear kmiss hb h0
    refine X2 hsd e1 ?_
    refine Z ?_
    refine call0 x2 ?_
    exact ⟨i+1,by rw [khit,esd]; rfl,hc,by omega⟩
 ·have he:l.take i=l:=List.take_of_length_le (by omega)
  rw [he]
  by_cases h0:l.filter exB=[]
  ·rw [h0]
   clear he
   refine Z ?_
   exact fz
  ·have hsd:=sd_own (e:=71) (rowsE_ne h0)
   rw [hsd]
   clear he h0
   refine Z ?_
   exact fz
theorem c56 (l:List Ex) (hl:SmallE l):Q1 56 (.imm 71 (rowsE l)) (sd 71 (rowsE (goodE l))):=by
 by_cases h:200<l.length
 ·rw [goodE,if_pos h]; exact c56a l h hl.1
 ·rw [goodE,if_neg h]; exact c56b l hl h
attribute [local go_sem] rowsE_length
def szX (e:Ex) (k:Int):Int:=if k-e.ur.length<0 then -1 else if k-e.ur.length-e.rq.length<0 then -1 else if k-e.ur.length-e.rq.length-e.an.length<0 then -1 else k-e.ur.length-e.rq.length-e.an.length
def szXs:List Ex→Int→Int
 | [],k=>k
 | e::l,k=>if szX e k<0 then -1 else szXs l (szX e k)
theorem szX_le {e:Ex} {k:Int} (h:0≤k):szX e k≤k:=by unfold szX; split<;>(try split)<;>(try split)<;>omega
theorem szX_in {e:Ex} {k:Int} (hk:k≤1048576) (h:¬ szX e k<0):e.ur.length≤1048576∧e.rq.length≤1048576∧e.an.length≤1048576:=by
 unfold szX at h
 split at h
 ·exact absurd (by decide) h
 split at h
 ·exact absurd (by decide) h
 split at h
 ·exact absurd (by decide) h
 exact ⟨by omega,by omega,by omega⟩
theorem szXs_in:∀ {l:List Ex} {k:Int},0≤k→k≤1048576→¬ szXs l k<0→∀ e,e∈l→e.ur.length≤1048576∧e.rq.length≤1048576∧e.an.length≤1048576
 | [],_,_,_,_,e,he=>by simp at he
 | a::l,k,h0,hk,h,e,he=>by
  rw [szXs] at h
  by_cases hz:szX a k<0
  ·rw [if_pos hz] at h; exact absurd (by decide) h
  ·rw [if_neg hz] at h
   rcases List.mem_cons.1 he with rfl | he
   ·exact szX_in hk hz
   ·exact szXs_in (by omega) (Int.le_trans (szX_le h0) hk) h e he
def BigE (l:List Ex):Prop:=l.length≤9223372036854775807∧∀ e,e∈l→e.ur.length≤9223372036854775807∧e.rq.length≤9223372036854775807∧e.an.length≤9223372036854775807
theorem BigE.at {l:List Ex} (h:BigE l) {i:Nat} (hi:i<l.length):(l.getD i ex0).ur.length≤9223372036854775807∧(l.getD i ex0).rq.length≤9223372036854775807∧(l.getD i ex0).an.length≤9223372036854775807:=by
 refine h.2 _ ?_
 rw [List.getD_eq_getElem?_getD,List.getElem?_eq_getElem hi]
 exact List.getElem_mem hi
def szE (l:List Ex) (k:Int):Int:=if k-l.length<0 then -1 else szXs l (k-l.length)
theorem szE_in {l:List Ex} (h:¬ szE l 1048576<0):SmallE l∧l.length≤1048576:=by
 unfold szE at h
 split at h
 ·exact absurd (by decide) h
 ·exact ⟨⟨by omega,szXs_in (by omega) (by omega) h⟩,by omega⟩
theorem c47 (e:Ex) (h1:e.ur.length≤9223372036854775807) (h2:e.rq.length≤9223372036854775807) (h3:e.an.length≤9223372036854775807) (k:Int) (h0:0≤k) (hk:k≤1048576):Q2 47 (exD e) (.v (vI k)) (.v (vI (szX e k))):=by
 have w1:IntKind.i64.wrap (k-e.ur.length)=k-e.ur.length:=wrapI (by omega)
 unfold szX
 by_cases a1:k-e.ur.length<0
 ·rw [if_pos a1]
  refine sb 2 [.tm 4] func47 ?_
  exact fz
 have w2:IntKind.i64.wrap (k-e.ur.length-e.rq.length)=k-e.ur.length-e.rq.length:=wrapI (by omega)
 rw [if_neg a1]
 by_cases a2:k-e.ur.length-e.rq.length<0
 ·rw [if_pos a2]
  refine sb 2 [.tm 4] func47 ?_
  exact fz
 have w3:IntKind.i64.wrap (k-e.ur.length-e.rq.length-e.an.length)=k-e.ur.length-e.rq.length-e.an.length:=wrapI (by omega)
 rw [if_neg a2]
 by_cases a3:k-e.ur.length-e.rq.length-e.an.length<0
 ·rw [if_pos a3]
  refine sb 2 [.tm 4] func47 ?_
  exact fz
 ·rw [if_neg a3]
  refine sb 2 [.tm 4] func47 ?_
  exact fz
theorem c50 (e:Ex):Q1 50 (exD e) (exD e):=by
 refine sb 1 [.ce 2 71] func50 ?_
 exact fz
theorem c53 (e:Ex):Q2 53 (exD e) (exD e) (.v (vB true)):=by
 have b1:∀ x:Int,(x != x)=false:=fun x=>by simp
 have b2:∀ x:List UInt8,(x != x)=false:=fun x=>by simp
 refine sb 2 [.tm 4] func53 ?_
 exact fz
theorem c16 (l:List Ex) (hl:BigE l):Q2 16 (.imm 67 (rowsE l)) (.v (vI 1048576)) (.v (vI (szE l 1048576))):=by
 have hs:l.length≤9223372036854775807:=hl.1
 have w0:IntKind.i64.wrap ((1048576:Int)-l.length)=1048576-l.length:=wrapI (by omega)
 unfold szE
 by_cases a1:(1048576:Int)-l.length<0
 ·rw [if_pos a1]
  refine sb 2 [.tm 4] func16 ?_
  exact fz
 rw [if_neg a1]
 refine sb 2 [.tm 4] func16 ?_
 refine loopZ (fun s:Nat × Int=>pE 27 [.imm 67 (rowsE l),.v (vI s.2),.dead,.dead,.v (vI 0),.v (vI s.1)]) [0,1,4,5] (fun s=>s.1≤l.length∧0≤s.2∧s.2≤1048576∧szXs (l.drop s.1) s.2=szXs l (1048576-l.length)) (fun s=>l.length-s.1) (0,1048576-l.length) rfl ⟨by show 0≤_; omega,by show 0≤(1048576:Int)-_; omega,by show (1048576:Int)-_≤_; omega,rfl⟩ ?_
 intro ⟨i,kk⟩ ⟨hi,hk0,hk1,hsz⟩
 simp only at hi hk0 hk1 hsz ⊢
 by_cases hc:i<l.length
 ·have hw:=wrapN hc hs
  have e1:=rowsE_getD hc
  have hsm:=hl.at hc
  rw [drop_at (d:=ex0) hc] at hsz
  have x1:=c47 (l.getD i ex0) hsm.1 hsm.2.1 hsm.2.2 kk hk0 hk1
  have hup:szX (l.getD i ex0) kk≤kk:=szX_le hk0
  have hm1:szX (l.getD i ex0) kk<0→szXs (l.getD i ex0::l.drop (i+1)) kk=-1:=fun h=>by rw [szXs,if_pos h]
  have hm2:¬ szX (l.getD i ex0) kk<0→szXs (l.getD i ex0::l.drop (i+1)) kk=szXs (l.drop (i+1)) (szX (l.getD i ex0) kk):=fun h=>by rw [szXs,if_neg h]
  generalize szX (l.getD i ex0) kk=z at x1 hup hm1 hm2
  by_cases hz:z<0
  ·rw [hm1 hz] at hsz
   rw [←hsz]
   clear hm1 hm2 hsz hup
   refine Z ?_
   refine call0 x1 ?_
   exact fz
  ·rw [hm2 hz] at hsz
   clear hm1 hm2
   refine X4 hc hs hw e1 ?_
   refine call0 x1 ?_
   exact ⟨(i+1,z),rfl,⟨hc,by show 0≤z; omega,by show z≤_; omega,hsz⟩,by show _-(i+1)<_; omega⟩
 ·rw [List.drop_of_length_le (by omega)] at hsz
  have hsz:kk=szXs l (1048576-l.length):=hsz
  rw [←hsz]
  clear hsz
  refine Z ?_
  exact fz
def e4:List UInt8:=[13,10,13,10]
def splB:List UInt8→Option Nat
 | []=>none
 | b::t=>if (b::t).take 4=e4 then some 4 else (splB t).map (· + 1)
def payB (s:List UInt8):List UInt8:=match splB s with | some k=>s.drop k | none=>[]
theorem splB_cons {s:List UInt8} {i:Nat} (h:i<s.length):splB (s.drop i)=if (s.drop i).take 4=e4 then some 4 else (splB (s.drop (i+1))).map (· + 1):=by
 rw [List.drop_eq_getElem_cons h,splB]
theorem splB_short:∀ {s:List UInt8},s.length<4→splB s=none
 | [],_=>rfl
 | b::t,h=>by
  rw [splB,if_neg,splB_short (s:=t) (by simp at h; omega)]; rfl
  intro e
  have:=congrArg List.length e
  simp [e4] at this h
  omega
theorem splB_le:∀ {s:List UInt8} {k:Nat},splB s=some k→k≤s.length
 | [],_,h=>by cases h
 | b::t,k,h=>by
  rw [splB] at h
  split at h
  ·rename_i e
   have:=congrArg List.length e
   simp [e4] at this
   cases h
   simp; omega
  ·cases ht:splB t with
   | none=>rw [ht] at h; cases h
   | some m =>
    rw [ht] at h
    have:=splB_le ht
    cases h
    simp; omega
theorem splB_ge:∀ {s:List UInt8} {k:Nat},splB s=some k→4≤k
 | [],_,h=>by cases h
 | b::t,k,h=>by
  rw [splB] at h
  split at h
  ·cases h; exact Nat.le_refl _
  ·cases ht:splB t with
   | none=>rw [ht] at h; cases h
   | some m =>
    rw [ht] at h
    have:=splB_ge ht
    cases h
    show 4≤m+1
    omega
theorem payB_le (s:List UInt8):(payB s).length≤s.length:=by
 unfold payB
 split<;>simp
theorem take4_ne {s:List UInt8} {i:Nat} (hi:i<s.length) (h:(s.getD i 0==13)=false):(s.drop i).take 4≠e4:=by
 rw [List.drop_eq_getElem_cons hi]
 intro e
 have e2:s[i]=13:=by injection e
 have:s.getD i 0=s[i]:=by simp [List.getD_eq_getElem?_getD,hi]
 rw [this,e2] at h
 cases h
def splI (s:List UInt8):Int:=match splB s with | some k=>(k:Int) | none=>-1
theorem c118 (s:List UInt8) (hs:s.length≤1048576):Q1 118 (.v (vS s)) (.v (vI (splI s))):=by
 have hl:s.length≤9223372036854775807:=by omega
 refine sb 1 [.tm 2] func118 ?_
 refine loopZ (fun i:Nat=>pE 25 [.v (vS s),.dead,.v (vI 0),.v (vI i)]) [0,2,3] (fun i=>i≤s.length∧splB s=(splB (s.drop i)).map (· + i)) (fun i=>s.length-i) 0 rfl ⟨Nat.zero_le _,by show splB s=(splB s).map _; cases splB s<;>rfl⟩ ?_
 intro i ⟨hi,hinv⟩
 have w4:IntKind.i64.wrap ((i:Int)+4)=((i+4:Nat):Int):=by rw [wrapI (by omega)]; rfl
 by_cases hc:i+4≤s.length
 ·have hlt:i<s.length:=by omega
  have w1:=wrapN hlt hl
  rw [splB_cons hlt] at hinv
  have c1:i≤i+4:=by omega
  cases hb:s.getD i 0==13 with
  | false =>
   rw [if_neg (take4_ne hlt hb)] at hinv
   have hinv:splB s=(splB (s.drop (i+1))).map (· + (i+1)):=by rw [hinv,Option.map_map]; congr 1; funext x; simp; omega
   have hb2:(((s.getD i 0).toNat:Int)==13)=false:=by rw [←hb]; exact beqC _ 13
   clear hb
   refine X6 hc hlt w1 w4 hb2 hl ?_
   exact ⟨i+1,rfl,⟨hlt,hinv⟩,by omega⟩
  | true =>
   have hb2:(((s.getD i 0).toNat:Int)==13)=true:=by rw [←hb]; exact beqC _ 13
   have c4:i+4-i=4:=by omega
   clear hb
   cases h4:(s.drop i).take 4==[13,10,13,10] with
   | false =>
    rw [if_neg (fun e=>by rw [e] at h4; cases h4)] at hinv
    have hinv:splB s=(splB (s.drop (i+1))).map (· + (i+1)):=by rw [hinv,Option.map_map]; congr 1; funext x; simp; omega
    refine X9 hc hlt w1 w4 hb2 hl c1 c4 h4 ?_
    exact ⟨i+1,rfl,⟨hlt,hinv⟩,by omega⟩
   | true =>
    rw [if_pos (show _=e4 from eq_of_beq h4)] at hinv
    have hr:splI s=((i+4:Nat):Int):=by unfold splI; rw [hinv]; simp [Nat.add_comm]
    rw [hr]
    clear hr hinv
    refine X9 hc hlt w1 w4 hb2 hl c1 c4 h4 ?_
    exact fz
 ·rw [splB_short (s:=s.drop i) (by rw [List.length_drop]; omega)] at hinv
  have hr:splI s=-1:=by unfold splI; rw [hinv]; rfl
  rw [hr]
  clear hr hinv
  refine Z ?_
  exact fz
theorem c55 (s:List UInt8) (hs:s.length≤1048576):Q1 55 (.v (vS s)) (.tup [.v (vS (payB s)),.v (vB (splB s).isSome)]):=by
 have x1:=c118 s hs
 have hl:s.length≤9223372036854775807:=by omega
 unfold payB
 unfold splI at x1
 cases h:splB s with
 | none =>
  rw [h] at x1
  refine sb 1 [.tm 2,.tm 3] func55 ?_
  refine call0 x1 ?_
  exact fz
 | some k =>
  rw [h] at x1
  have hk:=splB_le h
  have hk2:¬ ((k:Int)<0):=by omega
  clear h
  refine sb 1 [.tm 2,.tm 3] func55 ?_
  refine call0 x1 ?_
  exact fz
end Go.Proofs.YtbdfdfhamlmodaaGreatDoor.Fw
/- Plain facts: quarters of a day. -/
namespace Go.Proofs.YtbdfdfhamlmodaaGreatDoor.Fw
open Go
def quE (day:Int) (e:Ex):Int:=(e.aq.tmod day).tdiv (day.tdiv 4)
theorem day_in {n:Int} (h:dayB n=true):∃ m:Int,1≤m∧m≤250000∧n=4*m:=by
 unfold dayB inB at h
 simp only [Bool.and_eq_true,decide_eq_true_eq,beq_iff_eq] at h
 obtain ⟨⟨h1,h2⟩,h3⟩:=h
 rw [Int.tmod_eq_emod_of_nonneg (by omega)] at h3
 exact ⟨n / 4,by omega,by omega,by omega⟩
theorem aq_in {e:Ex} (h:exB e=true):0≤e.aq∧e.aq≤253402300799:=by
 unfold exB preB timeB inB at h
 simp only [Bool.and_eq_true,decide_eq_true_eq] at h
 exact h.1.1.1.2
theorem quE_in {n:Int} {e:Ex} (h:dayB n=true) (he:0≤e.aq):0≤quE n e∧quE n e<4:=by
 obtain ⟨m,h1,h2,rfl⟩:=day_in h
 unfold quE
 have e1:(4*m).tdiv 4=m:=by rw [Int.tdiv_eq_ediv_of_nonneg (by omega)]; omega
 have a1:0≤e.aq % (4*m):=Int.emod_nonneg _ (by omega)
 have a2:e.aq % (4*m)<4*m:=Int.emod_lt_of_pos _ (by omega)
 rw [Int.tmod_eq_emod_of_nonneg he,e1,Int.tdiv_eq_ediv_of_nonneg a1]
 exact ⟨Int.ediv_nonneg a1 (by omega),Int.ediv_lt_of_lt_mul (by omega) (by omega)⟩
def cnQ (n:Int) (k:Int) (l:List Ex):Nat:=(l.filter fun e=>e.sd==0&&quE n e==k).length
def cn0 (l:List Ex):Nat:=(l.filter fun e=>e.sd==0).length
theorem cnQ_step {n k:Int} {l:List Ex} {i:Nat} (h:i<l.length):cnQ n k (l.take (i+1))=cnQ n k (l.take i)+(if (l.getD i ex0).sd==0&&quE n (l.getD i ex0)==k then 1 else 0):=by
 rw [take_at (d:=ex0) h,cnQ,List.filter_append,List.length_append,List.filter_cons]
 split<;>simp_all [cnQ]
theorem cn0_step {l:List Ex} {i:Nat} (h:i<l.length):cn0 (l.take (i+1))=cn0 (l.take i)+(if (l.getD i ex0).sd==0 then 1 else 0):=by
 rw [take_at (d:=ex0) h,cn0,List.filter_append,List.length_append,List.filter_cons]
 split<;>simp_all [cn0]
theorem cnQ_le {n k:Int} {l:List Ex} {i:Nat}:cnQ n k (l.take i)≤i:=by
 refine Nat.le_trans (List.length_filter_le _ _) ?_
 rw [List.length_take]; omega
theorem cn0_le {l:List Ex} {i:Nat}:cn0 (l.take i)≤i:=by
 refine Nat.le_trans (List.length_filter_le _ _) ?_
 rw [List.length_take]; omega
end Go.Proofs.YtbdfdfhamlmodaaGreatDoor.Fw
/- Contracts: the rhythm of a day. -/
namespace Go.Proofs.YtbdfdfhamlmodaaGreatDoor.Fw
open Go
open Go.Proofs.Tryz
set_option maxRecDepth 100000
set_option maxHeartbeats 4000000
attribute [local congr] c_bnd c_slot c_cell c_all c_len c_chk c_asm c_opdR c_wp c_pwp c_pOps c_Done c_nx c_blk c_fin c_coeLeaf c_coeLeaves c_argR c_argsR c_partsR c_ite c_wpF c_OutF c_pHead c_pHeadN c_pDraw
attribute [local go_sem] rowsE_length sdE_nil
theorem goodE_le (l:List Ex):(goodE l).length≤200:=by
 unfold goodE
 split
 ·simp
 ·exact Nat.le_trans (List.length_filter_le _ _) (by omega)
theorem goodE_aq {l:List Ex} {i:Nat} (h:i<(goodE l).length):0≤((goodE l).getD i ex0).aq:=by
 have hm:(goodE l).getD i ex0∈goodE l:=by
  rw [List.getD_eq_getElem?_getD,List.getElem?_eq_getElem h]
  exact List.getElem_mem h
 generalize (goodE l).getD i ex0=e at hm
 unfold goodE at hm
 split at hm
 ·simp at hm
 ·exact (aq_in (List.mem_filter.1 hm).2).1
theorem quE_cases {n:Int} {e:Ex} (h:dayB n=true) (he:0≤e.aq):n≠0∧IntKind.i64.wrap (n.tdiv 4)=n.tdiv 4∧n.tdiv 4≠0∧(IntKind.i64.wrap ((e.aq.tmod n).tdiv (n.tdiv 4))=quE n e)∧(quE n e=0∨quE n e=1∨quE n e=2∨quE n e=3):=by
 have hq:=quE_in h he
 obtain ⟨m,h1,h2,rfl⟩:=day_in h
 have e1:(4*m).tdiv 4=m:=by rw [Int.tdiv_eq_ediv_of_nonneg (by omega)]; omega
 refine ⟨by omega,by rw [e1]; exact wrapI (by omega),by rw [e1]; omega,?_,by omega⟩
 show IntKind.i64.wrap (quE (4*m) e)=_
 exact wrapI (by omega)
theorem c52 (l:List Ex) (hl:SmallE l) (n:Int) (hn:dayB n=true):Q2 52 (.imm 71 (rowsE l)) (.v (vI n)) (.tup [.v (vI (cnQ n 0 (goodE l)-cnQ n 2 (goodE l):Int)),.v (vI (cnQ n 1 (goodE l)-cnQ n 3 (goodE l):Int)),.v (vI (cn0 (goodE l):Int))]):=by
 have x1:=c56 l hl
 have hg2:=goodE_le l
 have hgl:(goodE l).length≤9223372036854775807:=by omega
 by_cases hg:goodE l=[]
 ·rw [hg] at x1 ⊢
  clear hg2 hgl
  refine sb 2 [.tm 4,.tm 5,.tm 6] func52 ?_
  refine call0 x1 ?_
  refine loopZ (fun i:Nat=>pE 49 [.imm 71 (rowsE l),.v (vI n),.dead,.dead,.v (vI 0),.v (vI 0),.v (vI 0),.v (vI 0),.v (vI 0),.v (vI 0),.dead,.dead,.imm 71 (rowsE l),.nil,.v (vI 0),.v (vI 0)]) [0,1,4,5,6,7,8,9,12,13,14,15] (fun i=>i=0) (fun i=>i) 0 rfl rfl ?_
  intro i hi
  refine Z ?_
  exact fz
 ·rw [sd_own (rowsE_ne hg)] at x1
  refine sb 2 [.tm 4,.tm 5,.tm 6] func52 ?_
  refine call0 x1 ?_
  refine loopZ (fun i:Nat=>pE 49 [.imm 71 (rowsE l),.v (vI n),.dead,.dead,.v (vI 0),.v (vI 0),.v (vI 0),.v (vI (cnQ n 0 ((goodE l).take i)-cnQ n 2 ((goodE l).take i):Int)),.v (vI (cnQ n 1 ((goodE l).take i)-cnQ n 3 ((goodE l).take i):Int)),.v (vI (cn0 ((goodE l).take i):Int)),.dead,.dead,.imm 71 (rowsE l),.own 71 (rowsE (goodE l)),.v (vI (goodE l).length),.v (vI i)]) [0,1,4,5,6,7,8,9,12,13,14,15] (fun i=>i≤(goodE l).length) (fun i=>(goodE l).length-i) 0 rfl (Nat.zero_le _) ?_
  intro i hi
  by_cases hc:i<(goodE l).length
  ·have w1:=wrapN hc hgl
   have e1:=rowsE_getD hc
   have l0:=cnQ_le (n:=n) (k:=0) (l:=goodE l) (i:=i)
   have l1:=cnQ_le (n:=n) (k:=1) (l:=goodE l) (i:=i)
   have l2:=cnQ_le (n:=n) (k:=2) (l:=goodE l) (i:=i)
   have l3:=cnQ_le (n:=n) (k:=3) (l:=goodE l) (i:=i)
   have l4:=cn0_le (l:=goodE l) (i:=i)
   have w2:IntKind.i64.wrap ((cn0 ((goodE l).take i):Int)+1)=((cn0 ((goodE l).take i)+1:Nat):Int):=by rw [wrapI (by omega)]; rfl
   have s1:∀ k,cnQ n k ((goodE l).take (i+1))=cnQ n k ((goodE l).take i)+(if ((goodE l).getD i ex0).sd==0&&quE n ((goodE l).getD i ex0)==k then 1 else 0):=fun k=>cnQ_step hc
   have s2:=cn0_step hc
   cases h0:((goodE l).getD i ex0).sd==0 with
   | false =>
    have h9:(((goodE l).getD i ex0).sd != 0)=true:=by rw [bne,h0]; rfl
    have m1:∀ k,cnQ n k ((goodE l).take (i+1))=cnQ n k ((goodE l).take i):=fun k=>by rw [s1,h0]; simp
    have m2:cn0 ((goodE l).take (i+1))=cn0 ((goodE l).take i):=by rw [s2,h0]; simp
    clear h0 s1 s2
    refine X4 hc e1 h9 w1 ?_
    exact ⟨i+1,by simp only [m1,m2]; rfl,hc,by omega⟩
   | true =>
    have h9:(((goodE l).getD i ex0).sd != 0)=false:=by rw [bne,h0]; rfl
    have m2:cn0 ((goodE l).take (i+1))=cn0 ((goodE l).take i)+1:=by rw [s2,h0]; rfl
    obtain ⟨d1,d2,d3,d4,d5⟩:=quE_cases (e:=(goodE l).getD i ex0) hn (goodE_aq hc)
    rw [h0] at s1
    clear h0 s2
    rcases d5 with d5 | d5 | d5 | d5
    ·have s10:=s1 0
     have s11:=s1 1
     have s12:=s1 2
     have s13:=s1 3
     rw [d5] at d4 s10 s11 s12 s13
     simp only [Bool.true_and,Int.reduceBEq,if_true,Bool.false_eq_true,if_false,Nat.add_zero] at s10 s11 s12 s13
     have w3:IntKind.i64.wrap ((cnQ n 0 ((goodE l).take i)-cnQ n 2 ((goodE l).take i):Int)+1)=(cnQ n 0 ((goodE l).take (i+1))-cnQ n 2 ((goodE l).take (i+1)):Int):=by rw [s10,s12,wrapI (by omega)]; omega
     refine X4 hc e1 h9 w2 ?_
     refine ⟨d1,by decide,by rw [d2]; exact d3,?_⟩
     clear s1
     refine X5 d2 d4 w1 w2 w3 ?_
     exact ⟨i+1,by simp only [s10,s11,s12,s13,m2]; rfl,hc,by omega⟩
    
    ·have s10:=s1 0
     have s11:=s1 1
     have s12:=s1 2
     have s13:=s1 3
     rw [d5] at d4 s10 s11 s12 s13
     simp only [Bool.true_and,Int.reduceBEq,if_true,Bool.false_eq_true,if_false,Nat.add_zero] at s10 s11 s12 s13
     have w3:IntKind.i64.wrap ((cnQ n 1 ((goodE l).take i)-cnQ n 3 ((goodE l).take i):Int)+1)=(cnQ n 1 ((goodE l).take (i+1))-cnQ n 3 ((goodE l).take (i+1)):Int):=by rw [s11,s13,wrapI (by omega)]; omega
     refine X4 hc e1 h9 w2 ?_
     refine ⟨d1,by decide,by rw [d2]; exact d3,?_⟩
     clear s1
     refine X5 d2 d4 w1 w2 w3 ?_
     exact ⟨i+1,by simp only [s10,s11,s12,s13,m2]; rfl,hc,by omega⟩
    
    ·have s10:=s1 0
     have s11:=s1 1
     have s12:=s1 2
     have s13:=s1 3
     rw [d5] at d4 s10 s11 s12 s13
     simp only [Bool.true_and,Int.reduceBEq,if_true,Bool.false_eq_true,if_false,Nat.add_zero] at s10 s11 s12 s13
     have w3:IntKind.i64.wrap ((cnQ n 0 ((goodE l).take i)-cnQ n 2 ((goodE l).take i):Int)-1)=(cnQ n 0 ((goodE l).take (i+1))-cnQ n 2 ((goodE l).take (i+1)):Int):=by rw [s10,s12,wrapI (by omega)]; omega
     refine X4 hc e1 h9 w2 ?_
     refine ⟨d1,by decide,by rw [d2]; exact d3,?_⟩
     clear s1
     refine X5 d2 d4 w1 w2 w3 ?_
     exact ⟨i+1,by simp only [s10,s11,s12,s13,m2]; rfl,hc,by omega⟩
    
    ·have s10:=s1 0
     have s11:=s1 1
     have s12:=s1 2
     have s13:=s1 3
     rw [d5] at d4 s10 s11 s12 s13
     simp only [Bool.true_and,Int.reduceBEq,if_true,Bool.false_eq_true,if_false,Nat.add_zero] at s10 s11 s12 s13
     have w3:IntKind.i64.wrap ((cnQ n 1 ((goodE l).take i)-cnQ n 3 ((goodE l).take i):Int)-1)=(cnQ n 1 ((goodE l).take (i+1))-cnQ n 3 ((goodE l).take (i+1)):Int):=by rw [s11,s13,wrapI (by omega)]; omega
     refine X4 hc e1 h9 w2 ?_
     refine ⟨d1,by decide,by rw [d2]; exact d3,?_⟩
     clear s1
     refine X5 d2 d4 w1 w2 w3 ?_
     exact ⟨i+1,by simp only [s10,s11,s12,s13,m2]; rfl,hc,by omega⟩
  ·have he:(goodE l).take i=goodE l:=List.take_of_length_le (by omega)
   rw [he]
   clear he
   refine Z ?_
   exact fz
def gs17_0:List (Option (List Nat)):=[some [16,17,18,20,21,22,23,24,25,26],some [16,17,18,20,21,22,23,24,25,26],some [16,17,18,20,21,22,23,24,25,26],some [13,14,15,20,21,22,23,24,25,26],some [13,14,15,20,21,22,23,24,25,26],some [13,14,15,20,21,22,23,24,25,26],some [20,21,22,23,24,25,26],some [13,14,15,16,17,18,19,23,24,25,4],some [13,14,15,16,17,18,19,23,24,25,4],some [13,14,15,16,17,18,19,23,24,25,4],some [13,14,15,16,17,18,19,20,21,22,4],some [13,14,15,16,17,18,19,20,21,22,4],some [13,14,15,16,17,18,19,20,21,22,4],some [13,14,15,16,17,18,19,4],some [20,21,22,23,24,25,26],none]
attribute [go_sem] gs17_0
attribute [local go_sem] rowsE_length sdE_nil
def qR (n:Int) (l:List Ex):List (List T):=[[.v (vI (cnQ n 0 l))],[.v (vI (cnQ n 1 l))],[.v (vI (cnQ n 2 l))],[.v (vI (cnQ n 3 l))]]
theorem qR_length (n:Int) (l:List Ex):(qR n l).length=4:=rfl
theorem c49 (l:List Ex) (hl:SmallE l) (n:Int) (hn:dayB n=true):Q2 49 (.imm 71 (rowsE l)) (.v (vI n)) (.own 3 (qR n (goodE l))):=by
 have x1:=c54 l hl
 have hg2:=goodE_le l
 have hgl:(goodE l).length≤9223372036854775807:=by omega
 by_cases hg:goodE l=[]
 ·rw [hg] at x1 ⊢
  clear hg2 hgl
  refine sb 2 [.tm 4] func49 ?_
  refine call0 x1 ?_
  refine loopZ (fun i:Nat=>pE 43 [.imm 71 (rowsE l),.v (vI n),.dead,.dead,.nil,.own 3 (qR n []),.nil,.v (vI 0)]) [0,1,4,5,6,7] (fun i=>i=0) (fun i=>i) 0 rfl rfl ?_
  intro i hi
  refine Z ?_
  exact fz
 ·rw [sd_own (rowsE_ne hg)] at x1
  refine sb 2 [.tm 4] func49 ?_
  refine call0 x1 ?_
  refine loopZ (fun i:Nat=>pE 43 [.imm 71 (rowsE l),.v (vI n),.dead,.dead,.nil,.own 3 (qR n ((goodE l).take i)),.own 71 (rowsE (goodE l)),.v (vI i)]) [0,1,4,5,6,7] (fun i=>i≤(goodE l).length) (fun i=>(goodE l).length-i) 0 rfl (Nat.zero_le _) ?_
  intro i hi
  by_cases hc:i<(goodE l).length
  ·have w1:=wrapN hc hgl
   have e1:=rowsE_getD hc
   have l0:=cnQ_le (n:=n) (k:=0) (l:=goodE l) (i:=i)
   have l1:=cnQ_le (n:=n) (k:=1) (l:=goodE l) (i:=i)
   have l2:=cnQ_le (n:=n) (k:=2) (l:=goodE l) (i:=i)
   have l3:=cnQ_le (n:=n) (k:=3) (l:=goodE l) (i:=i)
   have s1:∀ k,cnQ n k ((goodE l).take (i+1))=cnQ n k ((goodE l).take i)+(if ((goodE l).getD i ex0).sd==0&&quE n ((goodE l).getD i ex0)==k then 1 else 0):=fun k=>cnQ_step hc
   have hql:=qR_length n ((goodE l).take i)
   have hqi:((qR n ((goodE l).take i)).length:Int)=4:=rfl
   cases h0:((goodE l).getD i ex0).sd==0 with
   | false =>
    have m1:qR n ((goodE l).take (i+1))=qR n ((goodE l).take i):=by unfold qR; rw [s1,s1,s1,s1,h0]; rfl
    clear s1
    refine X5 hc e1 h0 w1 hgl ?_
    exact ⟨i+1,by rw [m1]; rfl,hc,by omega⟩
   | true =>
    obtain ⟨d1,d2,d3,d4,d5⟩:=quE_cases (e:=(goodE l).getD i ex0) hn (goodE_aq hc)
    rw [h0] at s1
    rcases d5 with d5 | d5 | d5 | d5
    ·have w3:IntKind.i64.wrap ((cnQ n 0 ((goodE l).take i):Int)+1)=(cnQ n 0 ((goodE l).take i)+1:Nat):=by rw [wrapI (by omega)]; rfl
     have g1:(qR n ((goodE l).take i)).getD 0 []=[.v (vI (cnQ n 0 ((goodE l).take i)))]:=rfl
     have g2:(qR n ((goodE l).take i)).set 0 [.v (vI (cnQ n 0 ((goodE l).take i)+1:Nat))]=qR n ((goodE l).take (i+1)):=by
      unfold qR
      rw [s1,s1,s1,s1,d5]
      rfl
     rw [d5] at d4
     clear s1 d5
     refine X4 hc e1 h0 hgl ?_
     refine ⟨d1,by decide,by rw [d2]; exact d3,?_⟩
     refine X8 d2 d4 w1 w3 hql hqi g1 g2 ?_
     exact ⟨i+1,rfl,hc,by omega⟩
    
    ·have w3:IntKind.i64.wrap ((cnQ n 1 ((goodE l).take i):Int)+1)=(cnQ n 1 ((goodE l).take i)+1:Nat):=by rw [wrapI (by omega)]; rfl
     have g1:(qR n ((goodE l).take i)).getD 1 []=[.v (vI (cnQ n 1 ((goodE l).take i)))]:=rfl
     have g2:(qR n ((goodE l).take i)).set 1 [.v (vI (cnQ n 1 ((goodE l).take i)+1:Nat))]=qR n ((goodE l).take (i+1)):=by
      unfold qR
      rw [s1,s1,s1,s1,d5]
      rfl
     rw [d5] at d4
     clear s1 d5
     refine X4 hc e1 h0 hgl ?_
     refine ⟨d1,by decide,by rw [d2]; exact d3,?_⟩
     refine X8 d2 d4 w1 w3 hql hqi g1 g2 ?_
     exact ⟨i+1,rfl,hc,by omega⟩
    
    ·have w3:IntKind.i64.wrap ((cnQ n 2 ((goodE l).take i):Int)+1)=(cnQ n 2 ((goodE l).take i)+1:Nat):=by rw [wrapI (by omega)]; rfl
     have g1:(qR n ((goodE l).take i)).getD 2 []=[.v (vI (cnQ n 2 ((goodE l).take i)))]:=rfl
     have g2:(qR n ((goodE l).take i)).set 2 [.v (vI (cnQ n 2 ((goodE l).take i)+1:Nat))]=qR n ((goodE l).take (i+1)):=by
      unfold qR
      rw [s1,s1,s1,s1,d5]
      rfl
     rw [d5] at d4
     clear s1 d5
     refine X4 hc e1 h0 hgl ?_
     refine ⟨d1,by decide,by rw [d2]; exact d3,?_⟩
     refine X8 d2 d4 w1 w3 hql hqi g1 g2 ?_
     exact ⟨i+1,rfl,hc,by omega⟩
    
    ·have w3:IntKind.i64.wrap ((cnQ n 3 ((goodE l).take i):Int)+1)=(cnQ n 3 ((goodE l).take i)+1:Nat):=by rw [wrapI (by omega)]; rfl
     have g1:(qR n ((goodE l).take i)).getD 3 []=[.v (vI (cnQ n 3 ((goodE l).take i)))]:=rfl
     have g2:(qR n ((goodE l).take i)).set 3 [.v (vI (cnQ n 3 ((goodE l).take i)+1:Nat))]=qR n ((goodE l).take (i+1)):=by
      unfold qR
      rw [s1,s1,s1,s1,d5]
      rfl
     rw [d5] at d4
     clear s1 d5
     refine X4 hc e1 h0 hgl ?_
     refine ⟨d1,by decide,by rw [d2]; exact d3,?_⟩
     refine X8 d2 d4 w1 w3 hql hqi g1 g2 ?_
     exact ⟨i+1,rfl,hc,by omega⟩
  ·have he:(goodE l).take i=goodE l:=List.take_of_length_le (by omega)
   rw [he]
   clear he
   refine Z ?_
   exact fz
def rhyD (l:List Ex) (n:Int):D:=if dayB n then .tup [.v (vI (cnQ n 0 (goodE l)-cnQ n 2 (goodE l):Int)),.v (vI (cnQ n 1 (goodE l)-cnQ n 3 (goodE l):Int))] else .tup [.v (vI 0),.v (vI 0)]
theorem c19 (l:List Ex) (hl:SmallE l) (n:Int):Q2 19 (.imm 71 (rowsE l)) (.v (vI n)) (rhyD l n):=by
 have x1:=c51 n
 unfold rhyD
 cases h:dayB n with
 | false =>
  rw [h] at x1
  refine sb 2 [.tm 4,.tm 5] func19 ?_
  refine call0 x1 ?_
  exact fz
 | true =>
  have x2:=c52 l hl n h
  rw [h] at x1
  refine sb 2 [.tm 4,.tm 5] func19 ?_
  refine call0 x1 ?_
  refine call0 x2 ?_
  exact fz
theorem cnQ_all {n k:Int} {l:List Ex}:cnQ n k (goodE l)≤200:=Nat.le_trans (List.length_filter_le _ _) (goodE_le l)
theorem c17 (l:List Ex) (hl:SmallE l) (n:Int):Q2 17 (.imm 71 (rowsE l)) (.v (vI n)) (rhyD l n):=by
 have x1:=c48 n
 unfold rhyD
 cases h:dayB n with
 | false =>
  rw [h] at x1
  refine sb 2 [.tm 4,.tm 5] func17 ?_
  refine call0 x1 ?_
  exact fz
 | true =>
  have x2:=c49 l hl n h
  unfold qR at x2
  rw [h] at x1
  have l0:=cnQ_all (n:=n) (k:=0) (l:=l)
  have l1:=cnQ_all (n:=n) (k:=1) (l:=l)
  have l2:=cnQ_all (n:=n) (k:=2) (l:=l)
  have l3:=cnQ_all (n:=n) (k:=3) (l:=l)
  have w1:IntKind.i64.wrap ((cnQ n 0 (goodE l):Int)-cnQ n 2 (goodE l))=cnQ n 0 (goodE l)-cnQ n 2 (goodE l):=wrapI (by omega)
  have w2:IntKind.i64.wrap ((cnQ n 1 (goodE l):Int)-cnQ n 3 (goodE l))=cnQ n 1 (goodE l)-cnQ n 3 (goodE l):=wrapI (by omega)
  clear l0 l1 l2 l3
  refine sb 2 [.tm 4,.tm 5] func17 ?_
  refine call0 x1 ?_
  refine call0 x2 ?_
  refine drZ gs17_0 ?_
  exact fz
def gs21_0:List (Option (List Nat)):=[some [72,73,74,75,76,77],some [72,73,74,75,76,77],some [70,71,73],some [70,71,72],some [70,71],some [70,71],some [70,71],some [70,71],none,none,none]
attribute [go_sem] gs21_0
def gs21_1:List (Option (List Nat)):=[none,none,none,some [84,85],some [83],some [83],none,none,none,none,none,none,some [93,94,98,99,100,101,102],some [92,98,99,100,101,102],some [92,98,99,100,101,102],some [98,99,100,101,102],some [98,99,100,101,102],some [98,99,100,101,102],some [92,93,94,95,96,97,99],some [92,93,94,95,96,97,98],some [92,93,94,95,96,97],some [92,93,94,95,96,97],some [92,93,94,95,96,97],none,none,none,some [107,108,112,113,114,115,116],some [106,112,113,114,115,116],some [106,112,113,114,115,116],some [112,113,114,115,116],some [112,113,114,115,116],some [112,113,114,115,116],some [106,107,108,109,110,111,113],some [106,107,108,109,110,111,112],some [106,107,108,109,110,111],some [106,107,108,109,110,111],some [106,107,108,109,110,111],none,none,none,some [121,122,126,127,128,129,130],some [120,126,127,128,129,130],some [120,126,127,128,129,130],some [126,127,128,129,130],some [126,127,128,129,130],some [126,127,128,129,130],some [120,121,122,123,124,125,127],some [120,121,122,123,124,125,126],some [120,121,122,123,124,125],some [120,121,122,123,124,125],some [120,121,122,123,124,125],none,none]
attribute [go_sem] gs21_1
attribute [local go_sem] rowsE_length sdE_nil
structure Tal where
 cl:Nat
 og:Nat
 hi:Nat
 by':Nat
 sa:Nat
abbrev talC (t:Tal):List D:=[.v (vI t.cl),.v (vI t.og),.v (vI t.hi),.v (vI t.by'),.v (vI t.sa)]
def payE (e:Ex):List UInt8:=payB e.an
def seenE (g:List Ex) (i:Nat):Bool:=(g.take i).any fun e=>payE e==payE (g.getD i ex0)
def hitE (p e:Ex):Bool:=p.sd != 1 || p.ur != e.ur || p.aq != e.aq || p.at' != e.at'
def saN (g:List Ex) (i:Nat) (t:Tal):Nat:=if seenE g i then t.sa+(payE (g.getD i ex0)).length else t.sa
def talS (g:List Ex) (i:Nat) (t:Tal):Tal :=
 if (g.getD i ex0).sd==1 then ⟨t.cl,t.og+1,t.hi,t.by',saN g i t⟩
 else ⟨t.cl+1,t.og,if i==0 || hitE (g.getD (i-1) ex0) (g.getD i ex0) then t.hi+1 else t.hi,t.by'+(g.getD i ex0).an.length,saN g i t⟩
def talN (g:List Ex):Nat→Tal
 | 0=>⟨0,0,0,0,0⟩
 | i+1=>talS g i (talN g i)
theorem talN_le {g:List Ex} (hg:∀ e,e∈g→e.an.length≤1048576):∀ i:Nat,i≤g.length→(talN g i).cl≤i∧(talN g i).og≤i∧(talN g i).hi≤i∧(talN g i).by'≤i*1048576∧(talN g i).sa≤i*1048576
 | 0,_=>⟨Nat.le_refl _,Nat.le_refl _,Nat.le_refl _,Nat.zero_le _,Nat.zero_le _⟩
 | i+1,h=>by
  have ih:=talN_le hg i (by omega)
  have he:(g.getD i ex0).an.length≤1048576:=hg _ (by rw [List.getD_eq_getElem?_getD,List.getElem?_eq_getElem (by omega)]; exact List.getElem_mem _)
  have hp:(payE (g.getD i ex0)).length≤1048576:=Nat.le_trans (payB_le _) he
  have hs:saN g i (talN g i)≤(i+1)*1048576:=by unfold saN; split<;>omega
  rw [talN,talS]
  split
  ·exact ⟨by show (talN g i).cl≤_; omega,by show (talN g i).og+1≤_; omega,by show (talN g i).hi≤_; omega,by show (talN g i).by'≤_; omega,hs⟩
  ·refine ⟨by show (talN g i).cl+1≤_; omega,by show (talN g i).og≤_; omega,?_,by show (talN g i).by'+_≤_; omega,hs⟩
   show (if (i==0 || hitE (g.getD (i-1) ex0) (g.getD i ex0))=true then (talN g i).hi+1 else (talN g i).hi)≤i+1
   split<;>omega
theorem seen_step {g:List Ex} {k:Nat} {x:List UInt8} (h:k<g.length):((g.take (k+1)).any fun e=>payE e==x)=(((g.take k).any fun e=>payE e==x) || payE (g.getD k ex0)==x):=by
 rw [take_at (d:=ex0) h,List.any_append,List.any_cons,List.any_nil,Bool.or_false]
theorem sd_in {e:Ex} (h:exB e=true):e.sd=0∨e.sd=1:=by
 unfold exB preB sideB at h
 simp only [Bool.and_eq_true,Bool.or_eq_true,beq_iff_eq] at h
 exact h.1.1.1.1
theorem goodE_mem {l:List Ex} {i:Nat} (h:i<(goodE l).length):exB ((goodE l).getD i ex0)=true∧(goodE l).getD i ex0∈l:=by
 have hm:(goodE l).getD i ex0∈goodE l:=by
  rw [List.getD_eq_getElem?_getD,List.getElem?_eq_getElem h]
  exact List.getElem_mem h
 generalize (goodE l).getD i ex0=e at hm
 unfold goodE at hm
 split at hm
 ·simp at hm
 ·exact ⟨(List.mem_filter.1 hm).2,(List.mem_filter.1 hm).1⟩
abbrev tIn (l:List Ex) (i k:Nat):Env:=pC 138 [.imm 71 (rowsE l),.dead,.cref 2 0,.cref 3 0,.own 71 (rowsE (goodE l)),.v (vI i),.v (vS (payE ((goodE l).getD i ex0))),.dead,.v (vB (((goodE l).take k).any fun e=>payE e==payE ((goodE l).getD i ex0))),.v (vI k)] [none,none,some (talC ⟨0,0,0,0,0⟩),some (talC (talN (goodE l) i))]
abbrev tOut (l:List Ex) (i:Nat):Env:=pC 138 [.imm 71 (rowsE l),.dead,.cref 2 0,.cref 3 0,.own 71 (rowsE (goodE l)),.v (vI i)] [none,none,some (talC ⟨0,0,0,0,0⟩),some (talC (talN (goodE l) i))]
theorem talN_succ (g:List Ex) (i:Nat):talN g (i+1)=talS g i (talN g i):=rfl
theorem seenE_def (g:List Ex) (i:Nat):((g.take i).any fun e=>payE e==payE (g.getD i ex0))=seenE g i:=rfl
theorem c21 (l:List Ex) (hl:SmallE l):Q1 21 (.imm 71 (rowsE l)) (.agg (talC (talN (goodE l) (goodE l).length))):=by
 have x1:=c54 l hl
 have hg2:=goodE_le l
 have hgl:(goodE l).length≤9223372036854775807:=by omega
 have hbd:=talN_le (g:=goodE l) (fun e he=>by
  obtain ⟨i,hi,rfl⟩:=List.getElem_of_mem he
  have:=goodE_mem (l:=l) hi
  rw [List.getD_eq_getElem?_getD,List.getElem?_eq_getElem hi] at this
  exact (hl.2 _ this.2).2.2)
 by_cases hg:goodE l=[]
 ·rw [hg] at x1 ⊢
  clear hg2 hgl hbd
  refine sb 1 [.ce 2 44] func21 ?_
  refine call0 x1 ?_
  refine loopZ (fun i:Nat=>pC 138 [.imm 71 (rowsE l),.dead,.cref 2 0,.cref 3 0,.nil,.v (vI 0)] [none,none,some (talC ⟨0,0,0,0,0⟩),some (talC ⟨0,0,0,0,0⟩)]) [0,2,3,4,5] (fun i=>i=0) (fun i=>i) 0 rfl rfl ?_
  intro i hi
  refine Z ?_
  exact fz
 ·rw [sd_own (rowsE_ne hg)] at x1
  refine sb 1 [.ce 2 44] func21 ?_
  refine call0 x1 ?_
  refine loopZ (fun i:Nat=>tOut l i) [0,2,3,4,5] (fun i=>i≤(goodE l).length) (fun i=>(goodE l).length-i) 0 rfl (Nat.zero_le _) ?_
  intro i hi
  by_cases hc:i<(goodE l).length
  ·have w1:=wrapN hc hgl
   have e1:=rowsE_getD hc
   have gm:=(hl.2 _ (goodE_mem hc).2).2.2
   have x2:=c55 ((goodE l).getD i ex0).an gm
   have b0:=hbd i hi
   have b1:(payE ((goodE l).getD i ex0)).length≤1048576:=Nat.le_trans (payB_le _) gm
   refine X4 hc e1 hgl w1 ?_
   refine cY x2 ?_
   refine loopZ (fun k:Nat=>tIn l i k) [0,2,3,4,5,6,8,9] (fun k=>k≤i) (fun k=>i-k) 0 rfl (Nat.zero_le _) ?_
   intro k hk
   by_cases hd:k<i
   ·have hkg:k<(goodE l).length:=by omega
    have w2:=wrapN hkg hgl
    have e2:=rowsE_getD hkg
    have gk:=(hl.2 _ (goodE_mem hkg).2).2.2
    have x3:=c55 ((goodE l).getD k ex0).an gk
    have s4:=seen_step (x:=payE ((goodE l).getD i ex0)) hkg
    cases hA:((goodE l).take k).any fun e=>payE e==payE ((goodE l).getD i ex0) with
    | true =>
     have s5:((goodE l).take (k+1)).any (fun e=>payE e==payE ((goodE l).getD i ex0))=true:=by rw [s4,hA]; rfl
     refine X5 hd hkg e2 hA w2 ?_
     clear s4 hA
     refine call0 x3 ?_
     exact ⟨k+1,by rw [s5]; rfl,hd,by omega⟩
    | false =>
     have s5:((goodE l).take (k+1)).any (fun e=>payE e==payE ((goodE l).getD i ex0))=(payB ((goodE l).getD k ex0).an==payE ((goodE l).getD i ex0)):=by rw [s4,hA]; rfl
     refine X5 hd hkg e2 hA w2 ?_
     clear s4 hA
     refine call0 x3 ?_
     exact ⟨k+1,by rw [s5]; rfl,hd,by omega⟩
   ·have hki:k=i:=by omega
    have hsn:((goodE l).take k).any (fun e=>payE e==payE ((goodE l).getD i ex0))=seenE (goodE l) i:=by rw [hki]; rfl
    have hsd:=sd_in (goodE_mem hc).1
    have hn:=talN_succ (goodE l) i
    have hgm:=hgl
    generalize hT:talN (goodE l) i=t at b0 hn ⊢
    obtain ⟨cl,og,hh,by',sa⟩:=t
    obtain ⟨v1,v2,v3,v4,v5⟩:=b0
    simp only at v1 v2 v3 v4 v5
    have u1:IntKind.i64.wrap ((cl:Int)+1)=((cl+1:Nat):Int):=by rw [wrapI (by omega)]; rfl
    have u2:IntKind.i64.wrap ((og:Int)+1)=((og+1:Nat):Int):=by rw [wrapI (by omega)]; rfl
    have u3:IntKind.i64.wrap ((hh:Int)+1)=((hh+1:Nat):Int):=by rw [wrapI (by omega)]; rfl
    have u4:IntKind.i64.wrap ((by':Int)+((goodE l).getD i ex0).an.length)=((by'+((goodE l).getD i ex0).an.length:Nat):Int):=by rw [wrapI (by omega)]; rfl
    have u5:IntKind.i64.wrap ((sa:Int)+(payE ((goodE l).getD i ex0)).length)=((sa+(payE ((goodE l).getD i ex0)).length:Nat):Int):=by rw [wrapI (by omega)]; rfl
    have g1:(payE ((goodE l).getD i ex0)).length≤9223372036854775807:=by omega
    have g2:((goodE l).getD i ex0).an.length≤9223372036854775807:=by omega
    clear v1 v2 v3 v4 v5 x2 hbd hi hk gm b1 hg2 hl x1
    clear hT
    cases hA:seenE (goodE l) i with
    | false =>
     have hsa:saN (goodE l) i ⟨cl,og,hh,by',sa⟩=sa:=by unfold saN; rw [hA]; rfl
     rw [hA] at hsn
     rw [talS,hsa] at hn
     clear hsa hA hki
     clear u5
     rcases hsd with e0 | e0
     ·have f1:(((goodE l).getD i ex0).sd==1)=false:=by rw [e0]; rfl
      rw [f1,if_neg Bool.false_ne_true] at hn
      clear e0 u2
      by_cases hi0:i=0
      ·have f2:((i:Int)==0)=true:=by rw [hi0]; rfl
       have f3:(i==0 || hitE ((goodE l).getD (i-1) ex0) ((goodE l).getD i ex0))=true:=by rw [hi0]; rfl
       clear hi0
       rw [f3,if_pos rfl] at hn
       clear f3
       refine Z ?_
       refine drZ gs21_0 ?_
       refine drZ gs21_1 ?_
       exact ⟨i+1,by rw [hn]; rfl,hc,by omega⟩
      ·have f2:((i:Int)==0)=false:=by rw [beq_eq_false_iff_ne]; omega
       have f4:(i==0)=false:=by rw [beq_eq_false_iff_ne]; omega
       have wi:IntKind.i64.wrap ((i:Int)-1)=((i-1:Nat):Int):=by rw [wrapI (by omega)]; omega
       have hp:i-1<(goodE l).length:=by omega
       have p1:=rowsE_getD hp
       refine bc (((goodE l).getD (i-1) ex0).sd != 1) (fun q1 => ?_) fun q1 => ?_
       ·refine bc (((goodE l).getD (i-1) ex0).ur==((goodE l).getD i ex0).ur) (fun q2 => ?_) fun q2 => ?_
        ·have f3:(i==0 || hitE ((goodE l).getD (i-1) ex0) ((goodE l).getD i ex0))=true:=by unfold hitE; rw [f4,q1,bne,q2]; rfl
         rw [f3,if_pos rfl] at hn
         clear f3
         refine Z ?_
         refine drZ gs21_0 ?_
         refine drZ gs21_1 ?_
         exact ⟨i+1,by rw [hn]; rfl,hc,by omega⟩
        ·refine bc (((goodE l).getD (i-1) ex0).aq != ((goodE l).getD i ex0).aq) (fun q3 => ?_) fun q3 => ?_
         ·refine bc (((goodE l).getD (i-1) ex0).at' != ((goodE l).getD i ex0).at') (fun q4 => ?_) fun q4 => ?_
          ·have f3:(i==0 || hitE ((goodE l).getD (i-1) ex0) ((goodE l).getD i ex0))=false:=by unfold hitE; rw [f4,q1,bne,q2,q3,q4]; rfl
           rw [f3,if_neg Bool.false_ne_true] at hn
           clear u3
           clear f3
           refine Z ?_
           refine drZ gs21_0 ?_
           refine drZ gs21_1 ?_
           exact ⟨i+1,by rw [hn]; rfl,hc,by omega⟩
          ·have f3:(i==0 || hitE ((goodE l).getD (i-1) ex0) ((goodE l).getD i ex0))=true:=by unfold hitE; rw [f4,q1,bne,q2,q3,q4]; rfl
           rw [f3,if_pos rfl] at hn
           clear f3
           refine Z ?_
           refine drZ gs21_0 ?_
           refine drZ gs21_1 ?_
           exact ⟨i+1,by rw [hn]; rfl,hc,by omega⟩
         ·have f3:(i==0 || hitE ((goodE l).getD (i-1) ex0) ((goodE l).getD i ex0))=true:=by unfold hitE; rw [f4,q1,bne,q2,q3]; rfl
          rw [f3,if_pos rfl] at hn
          clear f3
          refine Z ?_
          refine drZ gs21_0 ?_
          refine drZ gs21_1 ?_
          exact ⟨i+1,by rw [hn]; rfl,hc,by omega⟩
       ·have f3:(i==0 || hitE ((goodE l).getD (i-1) ex0) ((goodE l).getD i ex0))=true:=by unfold hitE; rw [f4,q1]; rfl
        rw [f3,if_pos rfl] at hn
        clear f3
        refine Z ?_
        refine drZ gs21_0 ?_
        refine drZ gs21_1 ?_
        exact ⟨i+1,by rw [hn]; rfl,hc,by omega⟩
     ·have f1:(((goodE l).getD i ex0).sd==1)=true:=by rw [e0]; rfl
      rw [f1,if_pos rfl] at hn
      clear e0 u1 u3 u4
      refine Z ?_
      exact ⟨i+1,by rw [hn]; rfl,hc,by omega⟩
    | true =>
     have hsa:saN (goodE l) i ⟨cl,og,hh,by',sa⟩=sa+(payE ((goodE l).getD i ex0)).length:=by unfold saN; rw [hA]; rfl
     rw [hA] at hsn
     rw [talS,hsa] at hn
     clear hsa hA hki
     rcases hsd with e0 | e0
     ·have f1:(((goodE l).getD i ex0).sd==1)=false:=by rw [e0]; rfl
      rw [f1,if_neg Bool.false_ne_true] at hn
      clear e0 u2
      by_cases hi0:i=0
      ·have f2:((i:Int)==0)=true:=by rw [hi0]; rfl
       have f3:(i==0 || hitE ((goodE l).getD (i-1) ex0) ((goodE l).getD i ex0))=true:=by rw [hi0]; rfl
       clear hi0
       rw [f3,if_pos rfl] at hn
       clear f3
       refine Z ?_
       refine drZ gs21_0 ?_
       refine drZ gs21_1 ?_
       exact ⟨i+1,by rw [hn]; rfl,hc,by omega⟩
      ·have f2:((i:Int)==0)=false:=by rw [beq_eq_false_iff_ne]; omega
       have f4:(i==0)=false:=by rw [beq_eq_false_iff_ne]; omega
       have wi:IntKind.i64.wrap ((i:Int)-1)=((i-1:Nat):Int):=by rw [wrapI (by omega)]; omega
       have hp:i-1<(goodE l).length:=by omega
       have p1:=rowsE_getD hp
       refine bc (((goodE l).getD (i-1) ex0).sd != 1) (fun q1 => ?_) fun q1 => ?_
       ·refine bc (((goodE l).getD (i-1) ex0).ur==((goodE l).getD i ex0).ur) (fun q2 => ?_) fun q2 => ?_
        ·have f3:(i==0 || hitE ((goodE l).getD (i-1) ex0) ((goodE l).getD i ex0))=true:=by unfold hitE; rw [f4,q1,bne,q2]; rfl
         rw [f3,if_pos rfl] at hn
         clear f3
         refine Z ?_
         refine drZ gs21_0 ?_
         refine drZ gs21_1 ?_
         exact ⟨i+1,by rw [hn]; rfl,hc,by omega⟩
        ·refine bc (((goodE l).getD (i-1) ex0).aq != ((goodE l).getD i ex0).aq) (fun q3 => ?_) fun q3 => ?_
         ·refine bc (((goodE l).getD (i-1) ex0).at' != ((goodE l).getD i ex0).at') (fun q4 => ?_) fun q4 => ?_
          ·have f3:(i==0 || hitE ((goodE l).getD (i-1) ex0) ((goodE l).getD i ex0))=false:=by unfold hitE; rw [f4,q1,bne,q2,q3,q4]; rfl
           rw [f3,if_neg Bool.false_ne_true] at hn
           clear u3
           clear f3
           refine Z ?_
           refine drZ gs21_0 ?_
           refine drZ gs21_1 ?_
           exact ⟨i+1,by rw [hn]; rfl,hc,by omega⟩
          ·have f3:(i==0 || hitE ((goodE l).getD (i-1) ex0) ((goodE l).getD i ex0))=true:=by unfold hitE; rw [f4,q1,bne,q2,q3,q4]; rfl
           rw [f3,if_pos rfl] at hn
           clear f3
           refine Z ?_
           refine drZ gs21_0 ?_
           refine drZ gs21_1 ?_
           exact ⟨i+1,by rw [hn]; rfl,hc,by omega⟩
         ·have f3:(i==0 || hitE ((goodE l).getD (i-1) ex0) ((goodE l).getD i ex0))=true:=by unfold hitE; rw [f4,q1,bne,q2,q3]; rfl
          rw [f3,if_pos rfl] at hn
          clear f3
          refine Z ?_
          refine drZ gs21_0 ?_
          refine drZ gs21_1 ?_
          exact ⟨i+1,by rw [hn]; rfl,hc,by omega⟩
       ·have f3:(i==0 || hitE ((goodE l).getD (i-1) ex0) ((goodE l).getD i ex0))=true:=by unfold hitE; rw [f4,q1]; rfl
        rw [f3,if_pos rfl] at hn
        clear f3
        refine Z ?_
        refine drZ gs21_0 ?_
        refine drZ gs21_1 ?_
        exact ⟨i+1,by rw [hn]; rfl,hc,by omega⟩
     ·have f1:(((goodE l).getD i ex0).sd==1)=true:=by rw [e0]; rfl
      rw [f1,if_pos rfl] at hn
      clear e0 u1 u3 u4
      refine Z ?_
      exact ⟨i+1,by rw [hn]; rfl,hc,by omega⟩
  ·have he:i=(goodE l).length:=by omega
   subst he
   refine Z ?_
   exact fz
def gs57_0:List (Option (List Nat)):=[some [11,12,14,15,16,17],some [10,14,15,16,17],some [10,14,15,16,17],some [14,15,16,17],some [10,11,12,13,15,16,2],some [10,11,12,13,14,2],some [10,11,12,13,14,2],some [10,11,12,13,2],some [14,15,16,17],none,none]
attribute [go_sem] gs57_0
theorem lib_lays143:Go.Proofs.Lays.n143 prog lib_lays146_ren:={ lib_lays146 with }
theorem c120 (s p:List UInt8) (hs:s.length<4294967281):Sem prog 120 ⟨[.v (vS s),.v (vS p)],[none,none]⟩ ⟨[.v (vS s),.v (vS p),.v (vI (Lib.index s p))],[none,none,none]⟩:=by
 refine sem_calls (Ein:=⟨[.v (vS s),.v (vS p)],[none,none]⟩) (r:=vI (Lib.index s p)) (enter_of func120 rfl rfl) rfl rfl rfl ?_
 intro w a F loc M R
 obtain ⟨m,hm⟩:=maxLen R
 have h0:=slot_of R (i:=0) (d := .v (vS s)) rfl rfl (by simp)
 have h1:=slot_of R (i:=1) (d := .v (vS p)) rfl rfl (by simp)
 rw [args2 R.tmps]
 generalize a.tmps.getD 0 undef=v0 at h0
 generalize a.tmps.getD 1 undef=v1 at h1
 cases h1
 cases h0
 exact (Go.Proofs.Any.strings_Index lib_lays143 (ofL s) (ofL p) m w hs hm).mono fun e w' ⟨he,hw⟩=>⟨he,hw▸RowKit.Below.refl _ _⟩
theorem pre4 (l:List UInt8):e4.isPrefixOf l=(l.take 4==e4):=by
 rw [Bool.eq_iff_iff,List.isPrefixOf_iff_prefix,List.prefix_iff_eq_take,beq_iff_eq]
 exact ⟨fun h=>h.symm,fun h=>h.symm⟩
theorem index_spl:∀ s:List UInt8,Lib.index s e4=match splB s with | some k=>(k:Int)-4 | none=>-1
 | []=>rfl
 | b::l=>by
  rw [Lib.index,pre4,splB,index_spl l]
  by_cases h:(b::l).take 4=e4
  ·rw [if_pos (beq_iff_eq.2 h),if_pos h]; rfl
  ·rw [if_neg (by rw [beq_iff_eq]; exact h),if_neg h]
   cases hs:splB l with
   | none=>rfl
   | some k =>
    have hk:=splB_ge hs
    have h1:¬ (((k:Int)-4==-1)=true):=by rw [beq_iff_eq]; omega
    simp only [Option.map_some]
    rw [if_neg h1]
    show (k:Int)-4+1=((k+1:Nat):Int)-4
    omega
def divD (s:List UInt8):D:=match splB s with
 | some k => .tup [.v (vS (s.take k)),.v (vS (s.drop k)),.v (vB true)]
 | none => .tup [.v (vS []),.v (vS []),.v (vB false)]
theorem c57 (s:List UInt8) (hs:s.length≤1048576):Q1 57 (.v (vS s)) (divD s):=by
 have x1:=c120 s [13,10,13,10] (by omega)
 have hi:=index_spl s
 unfold e4 at hi
 rw [hi] at x1
 have hl:s.length≤9223372036854775807:=by omega
 unfold divD
 cases h:splB s with
 | none =>
  rw [h] at x1
  clear hi h
  refine sb 1 [.tm 2,.tm 3,.tm 4] func57 ?_
  refine call0 x1 ?_
  exact fz
 | some k =>
  rw [h] at x1
  have x1:Sem prog 120 ⟨[.v (vS s),.v (vS [13,10,13,10])],[none,none]⟩ ⟨[.v (vS s),.v (vS [13,10,13,10]),.v (vI ((k:Int)-4))],[none,none,none]⟩:=x1
  have hk:=splB_le h
  have hk4:=splB_ge h
  have hk2:¬ ((k:Int)-4<0):=by omega
  have w1:IntKind.i64.wrap ((k:Int)-4+4)=(k:Int):=by rw [wrapI (by omega)]; omega
  have hk3:k≤s.length:=hk
  clear hi h
  refine sb 1 [.tm 2,.tm 3,.tm 4] func57 ?_
  refine call0 x1 ?_
  refine drZ gs57_0 ?_
  exact fz
def gs22_0:List (Option (List Nat)):=[none,none,none,some [60,61],some [59],some [59],none,none,none,none,none,none,some [69,70,74,75],some [68,74,75],some [68,74,75],some [74,75],some [74,75],some [74,75],some [68,69,70,71,72,73],some [68,69,70,71,72,73],none,none,none,some [80,81,85,86],some [79,85,86],some [79,85,86],some [85,86],some [85,86],some [85,86],some [79,80,81,82,83,84],some [79,80,81,82,83,84],none,none,none,some [91,92,96,97],some [90,96,97],some [90,96,97],some [96,97],some [96,97],some [96,97],some [90,91,92,93,94,95],some [90,91,92,93,94,95],none,none]
attribute [go_sem] gs22_0
attribute [local go_sem] rowsE_length sdE_nil
theorem divD_is (s:List UInt8):∃ (a:List UInt8) (b:Bool),divD s = .tup [.v (vS a),.v (vS (payB s)),.v (vB b)]:=by
 unfold divD payB
 cases splB s with
 | none=>exact ⟨[],false,rfl⟩
 | some k=>exact ⟨_,true,rfl⟩
def metL (g:List Ex):Nat→List (List UInt8 × Value)
 | 0=>[]
 | i+1=>mapU (metL g i) (payB (g.getD i ex0).an) (.bool true)
theorem mapF_mapU (x:Value):∀ (l:List (List UInt8 × Value)) (s t:List UInt8),mapF (mapU l s x) t=if s==t then some x else mapF l t
 | [],s,t=>rfl
 | q::l,s,t=>by
  rw [mapU]
  by_cases h:(q.1==s)=true
  ·rw [if_pos h,mapF,mapF,eq_of_beq h]
   split<;>rfl
  ·rw [if_neg h,mapF,mapF,mapF_mapU x l s t]
   by_cases h1:(q.1==t)=true
   ·rw [if_pos h1,if_pos h1,if_neg]
    intro h2
    rw [eq_of_beq h1,eq_of_beq h2] at h
    simp at h
   ·rw [if_neg h1,if_neg h1]
theorem metL_is (g:List Ex) (x:List UInt8):∀ i:Nat,i≤g.length→mapF (metL g i) x=if ((g.take i).any fun e=>payE e==x) then some (.bool true) else none
 | 0,_=>rfl
 | i+1,h=>by
  rw [metL,mapF_mapU,metL_is g x i (by omega),seen_step (by omega)]
  show (if payE (g.getD i ex0)==x then _ else _)=_
  cases payE (g.getD i ex0)==x<;>cases (g.take i).any fun e=>payE e==x<;>rfl
theorem c22 (l:List Ex) (hl:SmallE l):Q1 22 (.imm 71 (rowsE l)) (.agg (talC (talN (goodE l) (goodE l).length))):=by
 have x1:=c56 l hl
 have hg2:=goodE_le l
 have hgl:(goodE l).length≤9223372036854775807:=by omega
 have hbd:=talN_le (g:=goodE l) (fun e he=>by
  obtain ⟨i,hi,rfl⟩:=List.getElem_of_mem he
  have:=goodE_mem (l:=l) hi
  rw [List.getD_eq_getElem?_getD,List.getElem?_eq_getElem hi] at this
  exact (hl.2 _ this.2).2.2)
 by_cases hg:goodE l=[]
 ·rw [hg] at x1 ⊢
  clear hg2 hgl hbd
  refine sb 1 [.ce 2 44] func22 ?_
  refine call0 x1 ?_
  refine loopZ (fun i:Nat=>pC 106 [.nil,.dead,.cref 2 0,.cref 3 0,.own mapE [[.v (mapV [])]],.dead,.dead,.dead,.dead,.dead,.dead,.dead,.dead,.nil,.v (vI 0),.v (vI 0)] [none,none,some (talC ⟨0,0,0,0,0⟩),some (talC ⟨0,0,0,0,0⟩)]) [0,2,3,4,13,14,15] (fun i=>i=0) (fun i=>i) 0 rfl rfl ?_
  intro i hi
  refine Z ?_
  exact fz
 ·rw [sd_own (rowsE_ne hg)] at x1
  refine sb 1 [.ce 2 44] func22 ?_
  refine call0 x1 ?_
  refine loopZ (fun i:Nat=>pC 106 [.own 71 (rowsE (goodE l)),.dead,.cref 2 0,.cref 3 0,.own mapE [[.v (mapV (metL (goodE l) i))]],.dead,.dead,.dead,.dead,.dead,.dead,.dead,.dead,.ali ⟨false,0,0⟩,.v (vI (goodE l).length),.v (vI i)] [none,none,some (talC ⟨0,0,0,0,0⟩),some (talC (talN (goodE l) i))]) [0,2,3,4,13,14,15] (fun i=>i≤(goodE l).length) (fun i=>(goodE l).length-i) 0 rfl (Nat.zero_le _) ?_
  intro i hi
  by_cases hc:i<(goodE l).length
  ·have w1:=wrapN hc hgl
   have e1:=rowsE_getD hc
   have gm:=(hl.2 _ (goodE_mem hc).2).2.2
   have x2:=c57 ((goodE l).getD i ex0).an gm
   obtain ⟨hd,ok,hdv⟩:=divD_is ((goodE l).getD i ex0).an
   rw [hdv] at x2
   have b0:=hbd i hi
   have b1:(payB ((goodE l).getD i ex0).an).length≤1048576:=Nat.le_trans (payB_le _) gm
   have hm:(mapF (metL (goodE l) i) (payB ((goodE l).getD i ex0).an)).getD (.bool false) = .bool (seenE (goodE l) i):=by
    rw [metL_is _ _ i hi]
    unfold seenE payE
    cases (List.take i (goodE l)).any fun e=>payB e.an==payB ((goodE l).getD i ex0).an<;>rfl
   have hmt:metL (goodE l) (i+1)=mapU (metL (goodE l) i) (payB ((goodE l).getD i ex0).an) (.bool true):=rfl
   have hsd:=sd_in (goodE_mem hc).1
   have hn:=talN_succ (goodE l) i
   generalize hT:talN (goodE l) i=t at b0 hn ⊢
   obtain ⟨cl,og,hh,by',sa⟩:=t
   obtain ⟨v1,v2,v3,v4,v5⟩:=b0
   simp only at v1 v2 v3 v4 v5
   have u1:IntKind.i64.wrap ((cl:Int)+1)=((cl+1:Nat):Int):=by rw [wrapI (by omega)]; rfl
   have u2:IntKind.i64.wrap ((og:Int)+1)=((og+1:Nat):Int):=by rw [wrapI (by omega)]; rfl
   have u3:IntKind.i64.wrap ((hh:Int)+1)=((hh+1:Nat):Int):=by rw [wrapI (by omega)]; rfl
   have u4:IntKind.i64.wrap ((by':Int)+((goodE l).getD i ex0).an.length)=((by'+((goodE l).getD i ex0).an.length:Nat):Int):=by rw [wrapI (by omega)]; rfl
   have u5:IntKind.i64.wrap ((sa:Int)+(payB ((goodE l).getD i ex0).an).length)=((sa+(payB ((goodE l).getD i ex0).an).length:Nat):Int):=by rw [wrapI (by omega)]; rfl
   have g1:(payB ((goodE l).getD i ex0).an).length≤9223372036854775807:=by omega
   have g2:((goodE l).getD i ex0).an.length≤9223372036854775807:=by omega
   clear v1 v2 v3 v4 v5 hbd hi gm b1 hg2 hl x1 hdv hT
   cases hA:seenE (goodE l) i with
   | false =>
    have hsa:saN (goodE l) i ⟨cl,og,hh,by',sa⟩=sa:=by unfold saN; rw [hA]; rfl
    rw [hA] at hm
    rw [talS,hsa] at hn
    clear hsa hA
    clear u5
    rcases hsd with e0 | e0
    ·have f1:(((goodE l).getD i ex0).sd==1)=false:=by rw [e0]; rfl
     rw [f1,if_neg Bool.false_ne_true] at hn
     clear e0 u2
     by_cases hi0:i=0
     ·have f2:((i:Int)==0)=true:=by rw [hi0]; rfl
      have f3:(i==0 || hitE ((goodE l).getD (i-1) ex0) ((goodE l).getD i ex0))=true:=by rw [hi0]; rfl
      clear hi0
      rw [f3,if_pos rfl] at hn
      clear f3
      refine Z ?_
      refine call0 x2 ?_
      refine drZ gs22_0 ?_
      exact ⟨i+1,by rw [hn,hmt]; rfl,hc,by omega⟩
     ·have f2:((i:Int)==0)=false:=by rw [beq_eq_false_iff_ne]; omega
      have f4:(i==0)=false:=by rw [beq_eq_false_iff_ne]; omega
      have wi:IntKind.i64.wrap ((i:Int)-1)=((i-1:Nat):Int):=by rw [wrapI (by omega)]; omega
      have hp:i-1<(goodE l).length:=by omega
      have p1:=rowsE_getD hp
      refine bc (((goodE l).getD (i-1) ex0).sd != 1) (fun q1 => ?_) fun q1 => ?_
      ·refine bc (((goodE l).getD (i-1) ex0).ur==((goodE l).getD i ex0).ur) (fun q2 => ?_) fun q2 => ?_
       ·have f3:(i==0 || hitE ((goodE l).getD (i-1) ex0) ((goodE l).getD i ex0))=true:=by unfold hitE; rw [f4,q1,bne,q2]; rfl
        rw [f3,if_pos rfl] at hn
        clear f3
        refine Z ?_
        refine call0 x2 ?_
        refine drZ gs22_0 ?_
        exact ⟨i+1,by rw [hn,hmt]; rfl,hc,by omega⟩
       ·refine bc (((goodE l).getD (i-1) ex0).aq != ((goodE l).getD i ex0).aq) (fun q3 => ?_) fun q3 => ?_
        ·refine bc (((goodE l).getD (i-1) ex0).at' != ((goodE l).getD i ex0).at') (fun q4 => ?_) fun q4 => ?_
         ·have f3:(i==0 || hitE ((goodE l).getD (i-1) ex0) ((goodE l).getD i ex0))=false:=by unfold hitE; rw [f4,q1,bne,q2,q3,q4]; rfl
          rw [f3,if_neg Bool.false_ne_true] at hn
          clear u3
          clear f3
          refine Z ?_
          refine call0 x2 ?_
          refine drZ gs22_0 ?_
          exact ⟨i+1,by rw [hn,hmt]; rfl,hc,by omega⟩
         ·have f3:(i==0 || hitE ((goodE l).getD (i-1) ex0) ((goodE l).getD i ex0))=true:=by unfold hitE; rw [f4,q1,bne,q2,q3,q4]; rfl
          rw [f3,if_pos rfl] at hn
          clear f3
          refine Z ?_
          refine call0 x2 ?_
          refine drZ gs22_0 ?_
          exact ⟨i+1,by rw [hn,hmt]; rfl,hc,by omega⟩
        ·have f3:(i==0 || hitE ((goodE l).getD (i-1) ex0) ((goodE l).getD i ex0))=true:=by unfold hitE; rw [f4,q1,bne,q2,q3]; rfl
         rw [f3,if_pos rfl] at hn
         clear f3
         refine Z ?_
         refine call0 x2 ?_
         refine drZ gs22_0 ?_
         exact ⟨i+1,by rw [hn,hmt]; rfl,hc,by omega⟩
      ·have f3:(i==0 || hitE ((goodE l).getD (i-1) ex0) ((goodE l).getD i ex0))=true:=by unfold hitE; rw [f4,q1]; rfl
       rw [f3,if_pos rfl] at hn
       clear f3
       refine Z ?_
       refine call0 x2 ?_
       refine drZ gs22_0 ?_
       exact ⟨i+1,by rw [hn,hmt]; rfl,hc,by omega⟩
    ·have f1:(((goodE l).getD i ex0).sd==1)=true:=by rw [e0]; rfl
     rw [f1,if_pos rfl] at hn
     clear e0 u1 u3 u4
     refine Z ?_
     refine call0 x2 ?_
     exact ⟨i+1,by rw [hn,hmt]; rfl,hc,by omega⟩
   | true =>
    have hsa:saN (goodE l) i ⟨cl,og,hh,by',sa⟩=sa+(payE ((goodE l).getD i ex0)).length:=by unfold saN; rw [hA]; rfl
    rw [hA] at hm
    rw [talS,hsa] at hn
    clear hsa hA
    rcases hsd with e0 | e0
    ·have f1:(((goodE l).getD i ex0).sd==1)=false:=by rw [e0]; rfl
     rw [f1,if_neg Bool.false_ne_true] at hn
     clear e0 u2
     by_cases hi0:i=0
     ·have f2:((i:Int)==0)=true:=by rw [hi0]; rfl
      have f3:(i==0 || hitE ((goodE l).getD (i-1) ex0) ((goodE l).getD i ex0))=true:=by rw [hi0]; rfl
      clear hi0
      rw [f3,if_pos rfl] at hn
      clear f3
      refine Z ?_
      refine call0 x2 ?_
      refine drZ gs22_0 ?_
      exact ⟨i+1,by rw [hn,hmt]; rfl,hc,by omega⟩
     ·have f2:((i:Int)==0)=false:=by rw [beq_eq_false_iff_ne]; omega
      have f4:(i==0)=false:=by rw [beq_eq_false_iff_ne]; omega
      have wi:IntKind.i64.wrap ((i:Int)-1)=((i-1:Nat):Int):=by rw [wrapI (by omega)]; omega
      have hp:i-1<(goodE l).length:=by omega
      have p1:=rowsE_getD hp
      refine bc (((goodE l).getD (i-1) ex0).sd != 1) (fun q1 => ?_) fun q1 => ?_
      ·refine bc (((goodE l).getD (i-1) ex0).ur==((goodE l).getD i ex0).ur) (fun q2 => ?_) fun q2 => ?_
       ·have f3:(i==0 || hitE ((goodE l).getD (i-1) ex0) ((goodE l).getD i ex0))=true:=by unfold hitE; rw [f4,q1,bne,q2]; rfl
        rw [f3,if_pos rfl] at hn
        clear f3
        refine Z ?_
        refine call0 x2 ?_
        refine drZ gs22_0 ?_
        exact ⟨i+1,by rw [hn,hmt]; rfl,hc,by omega⟩
       ·refine bc (((goodE l).getD (i-1) ex0).aq != ((goodE l).getD i ex0).aq) (fun q3 => ?_) fun q3 => ?_
        ·refine bc (((goodE l).getD (i-1) ex0).at' != ((goodE l).getD i ex0).at') (fun q4 => ?_) fun q4 => ?_
         ·have f3:(i==0 || hitE ((goodE l).getD (i-1) ex0) ((goodE l).getD i ex0))=false:=by unfold hitE; rw [f4,q1,bne,q2,q3,q4]; rfl
          rw [f3,if_neg Bool.false_ne_true] at hn
          clear u3
          clear f3
          refine Z ?_
          refine call0 x2 ?_
          refine drZ gs22_0 ?_
          exact ⟨i+1,by rw [hn,hmt]; rfl,hc,by omega⟩
         ·have f3:(i==0 || hitE ((goodE l).getD (i-1) ex0) ((goodE l).getD i ex0))=true:=by unfold hitE; rw [f4,q1,bne,q2,q3,q4]; rfl
          rw [f3,if_pos rfl] at hn
          clear f3
          refine Z ?_
          refine call0 x2 ?_
          refine drZ gs22_0 ?_
          exact ⟨i+1,by rw [hn,hmt]; rfl,hc,by omega⟩
        ·have f3:(i==0 || hitE ((goodE l).getD (i-1) ex0) ((goodE l).getD i ex0))=true:=by unfold hitE; rw [f4,q1,bne,q2,q3]; rfl
         rw [f3,if_pos rfl] at hn
         clear f3
         refine Z ?_
         refine call0 x2 ?_
         refine drZ gs22_0 ?_
         exact ⟨i+1,by rw [hn,hmt]; rfl,hc,by omega⟩
      ·have f3:(i==0 || hitE ((goodE l).getD (i-1) ex0) ((goodE l).getD i ex0))=true:=by unfold hitE; rw [f4,q1]; rfl
       rw [f3,if_pos rfl] at hn
       clear f3
       refine Z ?_
       refine call0 x2 ?_
       refine drZ gs22_0 ?_
       exact ⟨i+1,by rw [hn,hmt]; rfl,hc,by omega⟩
    ·have f1:(((goodE l).getD i ex0).sd==1)=true:=by rw [e0]; rfl
     rw [f1,if_pos rfl] at hn
     clear e0 u1 u3 u4
     refine Z ?_
     refine call0 x2 ?_
     exact ⟨i+1,by rw [hn,hmt]; rfl,hc,by omega⟩
  ·have he:i=(goodE l).length:=by omega
   subst he
   refine Z ?_
   exact fz
def gs20_0:List (Option (List Nat)):=[some [18,21,22,23,24],some [17,21,22,23,24],some [21,22,23,24],some [21,22,23,24],some [17,18,19,20,22],some [17,18,19,20,21],some [17,18,19,20],some [17,18,19,20],none,none]
attribute [go_sem] gs20_0
attribute [local go_sem] rowsE_length
def mkE (l:List Ex) (i:Nat):List (List T):=rowsE (l.take i)++List.replicate (l.length-i) (rowE ex0)
theorem mkE_length (l:List Ex) (i:Nat):(mkE l i).length=l.length:=by simp [mkE,rowsE_length]; omega
theorem mkE_zero (l:List Ex):mkE l 0=List.replicate l.length (rowE ex0):=by simp [mkE,rowsE]
theorem mkE_all (l:List Ex):mkE l l.length=rowsE l:=by simp [mkE]
theorem mkE_getD {l:List Ex} {i:Nat} (h:i<l.length):(mkE l i).getD i []=[.v (vI 0),.v (vI 0),.v (vI 0),.v (vS []),.v (vS []),.v (vS [])]:=by
 unfold mkE
 rw [List.getD_eq_getElem?_getD,List.getElem?_append_right (by simp [rowsE_length]; omega)]
 simp only [rowsE_length,List.length_take,Nat.min_eq_left (Nat.le_of_lt h),Nat.sub_self]
 rw [List.getElem?_replicate,if_pos (by omega)]; rfl
theorem mkE_set {l:List Ex} {i:Nat} (h:i<l.length):(mkE l i).set i [.v (vI (l.getD i ex0).sd),.v (vI (l.getD i ex0).aq),.v (vI (l.getD i ex0).at'),.v (vS (l.getD i ex0).ur),.v (vS (l.getD i ex0).rq),.v (vS (l.getD i ex0).an)]=mkE l (i+1):=by
 unfold mkE
 have h1:l.length-i=(l.length-(i+1))+1:=by omega
 rw [take_at (d:=ex0) h,h1,List.set_append_right _ _ (by simp [rowsE_length]; omega)]
 simp only [rowsE_length,List.length_take,Nat.min_eq_left (Nat.le_of_lt h),Nat.sub_self,List.replicate_succ,List.set_cons_zero]
 simp [rowsE,rowE]
theorem c18 (l:List Ex) (hl:l.length≤1048576):Q1 18 (.imm 67 (rowsE l)) (.own 71 (rowsE l)):=by
 have hb1:l.length*72≤140737488355328:=by omega
 have hs:l.length≤9223372036854775807:=by omega
 have hs':(l.length:Int)≤9223372036854775807:=by omega
 have z0:=mkE_zero l
 have hm:=mkE_length l
 refine sb 1 [.tm 2] func18 ?_
 refine loopZ (fun i:Nat=>pE 23 [.imm 67 (rowsE l),.dead,.nil,.own 71 (mkE l i),.v (vI i)]) [0,2,3,4] (fun i=>i≤l.length) (fun i=>l.length-i) 0 (by simp only [mkE_zero]; rfl) (Nat.zero_le _) ?_
 intro i hi
 by_cases hc:i<l.length
 ·have hw:=wrapN hc hs
  have e1:=rowsE_getD hc
  have h2:=mkE_getD hc
  have h3:=mkE_set hc
  have x1:=c50 (l.getD i ex0)
  clear z0
  refine Z ?_
  refine call0 x1 ?_
  exact ⟨i+1,rfl,hc,by omega⟩
 ·have he:i=l.length:=by omega
  subst he
  have h3:=mkE_all l
  clear z0
  refine Z ?_
  exact fz
theorem c20 (l:List Ex) (hs:l.length≤9223372036854775807):Q2 20 (.imm 71 (rowsE l)) (.imm 71 (rowsE l)) (.v (vB true)):=by
 have hne:((l.length:Int) != (l.length:Int))=false:=by simp
 refine sb 2 [.tm 4] func20 ?_
 refine loopZ (fun i:Nat=>pE 27 [.imm 71 (rowsE l),.imm 71 (rowsE l),.dead,.dead,.v (vB false),.v (vI i)]) [0,1,4,5] (fun i=>i≤l.length) (fun i=>l.length-i) 0 rfl (Nat.zero_le _) ?_
 intro i hi
 by_cases hc:i<l.length
 ·have hw:=wrapN hc hs
  have e1:=rowsE_getD hc
  have x1:=c53 (l.getD i ex0)
  refine Z ?_
  refine draw_new gs20_0 mixedOk (by kernel_rfl) ?_
  refine Z ?_
  refine call0 x1 ?_
  exact ⟨i+1,rfl,hc,by omega⟩
 ·refine Z ?_
  exact fz
attribute [local go_sem] rowsE_length
theorem rhyD_is (l:List Ex) (n:Int):∃ a b:Int,rhyD l n = .tup [.v (vI a),.v (vI b)]:=by
 unfold rhyD
 split
 ·exact ⟨_,_,rfl⟩
 ·exact ⟨0,0,rfl⟩
theorem c4 (l:List Ex) (hl:BigE l) (n:Int):Q2 4 (.imm 67 (rowsE l)) (.v (vI n)) (.v (vB true)):=by
 have x1:=c16 l hl
 have hp:=szE_in (l:=l)
 generalize szE l 1048576=z at x1 hp
 by_cases hz:z<0
 ·clear hp
  refine sb 2 [.tm 4] func4 ?_
  refine call0 x1 ?_
  exact fz
 ·obtain ⟨hs,hm⟩:=hp hz
  have hl9:=hs.1
  have x2:=c18 l hm
  have x3:=c17 l hs n
  have x4:=c19 l hs n
  have x5:=c20 l hl9
  obtain ⟨a,b,hr⟩:=rhyD_is l n
  rw [hr] at x3 x4
  have b1:∀ x:Int,(x != x)=false:=fun x=>by simp
  clear hp hr
  refine sb 2 [.tm 4] func4 ?_
  refine call0 x1 ?_
  refine call0 x2 ?_
  refine call0 x3 ?_
  refine call0 x2 ?_
  refine call0 x4 ?_
  refine call0 x2 ?_
  refine call0 x5 ?_
  exact fz
attribute [local go_sem] rowsE_length
theorem c23 (t:Tal):Q2 23 (.agg (talC t)) (.agg (talC t)) (.v (vB true)):=by
 have b1:∀ x:Int,(x != x)=false:=fun x=>by simp
 refine sb 2 [.tm 4] func23 ?_
 exact fz
theorem c5 (l:List Ex) (hl:BigE l):Q1 5 (.imm 67 (rowsE l)) (.v (vB true)):=by
 have x1:=c16 l hl
 have hp:=szE_in (l:=l)
 generalize szE l 1048576=z at x1 hp
 by_cases hz:z<0
 ·clear hp
  refine sb 1 [.tm 2] func5 ?_
  refine call0 x1 ?_
  exact fz
 ·obtain ⟨hs,hm⟩:=hp hz
  have hl9:=hs.1
  have x2:=c18 l hm
  have x3:=c21 l hs
  have x4:=c22 l hs
  have x5:=c20 l hl9
  generalize talN (goodE l) (goodE l).length=t at x3 x4
  have x6:=c23 t
  clear hp
  refine sb 1 [.tm 2] func5 ?_
  refine call0 x1 ?_
  refine call0 x2 ?_
  refine call0 x3 ?_
  refine call0 x2 ?_
  refine call0 x4 ?_
  refine call0 x6 ?_
  refine call0 x2 ?_
  refine call0 x5 ?_
  exact fz
end Go.Proofs.YtbdfdfhamlmodaaGreatDoor.Fw
