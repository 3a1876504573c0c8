/- Texts of the proof: FgP FjC FjD FjE FjF FjG FjH FgQ FgR FgS FgT FgU FgW FgV FgZ FgX FhE FjJ FwNc FjK FjI FjL. -/
import Derived.Test.YtbdfdfhamlmodaaGreatDoorM5
set_option linter.unusedSimpArgs false
set_option linter.unusedVariables false
/- Contracts: exchanges. -/
namespace Go.Proofs.YtbdfdfhamlmodaaGreatDoor.Fw
open Go
open Go.Proofs.Tryz
set_option maxRecDepth 100000
set_option maxHeartbeats 4000000
attribute [local congr] c_bnd c_slot c_cell c_all c_len c_chk c_asm c_opdR c_wp c_pwp c_pOps c_Done c_nx c_blk c_fin c_coeLeaf c_coeLeaves c_argR c_argsR c_partsR c_ite c_wpF c_OutF c_pHead c_pHeadN c_pDraw
def gs68_0:List (Option (List Nat)):=[none,none,none,none,none,none,none,some [68,69],some [67],some [67],none,none,none,some [75,76],some [75,76],some [73,74],some [73,74],none,none]
attribute [go_sem] gs68_0
def gs68_1:List (Option (List Nat)):=[some [82],some [81,2],some [82],none,none]
attribute [go_sem] gs68_1
def gs124_0:List (Option (List Nat)):=[none,none,none,some [79,80],some [79,80],some [77,78],some [77,78],none,none]
attribute [go_sem] gs124_0
def gs124_1:List (Option (List Nat)):=[some [86],some [85,2],some [86],none,none]
attribute [go_sem] gs124_1
attribute [local go_sem ↓ high] fD_mv fD_as fD_own fD_oi fD_mp fD_lf fD_rb fD_bn fD_ar fD_wb fD_cl
def timeB (n:Int):Bool:=inB 0 253402300799 n
def sideB (n:Int):Bool:=(n==0) || (n==1)
theorem c127 (n:Int):Q1 127 (.v (vI n)) (.v (vB (sideB n))):=by
 unfold sideB
 cases h:n==0 with
 | true =>
  refine sb 1 [.tm 2] func127 ?_
  exact fz
 | false =>
  refine sb 1 [.tm 2] func127 ?_
  exact fz
theorem c67 (n:Int):Q1 67 (.v (vI n)) (.v (vB (timeB n))):=by
 have x1:=c116 n 0 253402300799
 refine sb 1 [.tm 2] func67 ?_
 refine call0 x1 ?_
 exact fz
theorem c62 (n:Int):Q1 62 (.v (vI n)) (.v (vB (timeB n))):=by
 unfold timeB inB
 by_cases h:0≤n
 ·refine sb 1 [.tm 2] func62 ?_
  refine fq ?_
  simp [shutR,shutD,h]
 ·refine sb 1 [.tm 2] func62 ?_
  refine fq ?_
  simp [shutR,shutD,h]
structure Ex where
 sd:Int
 aq:Int
 at':Int
 ur:List UInt8
 rq:List UInt8
 an:List UInt8
def headN:List UInt8:=[72,69,65,68]
abbrev exD (e:Ex):D := .agg [.v (vI e.sd),.v (vI e.aq),.v (vI e.at'),.v (vS e.ur),.v (vS e.rq),.v (vS e.an)]
def preB (e:Ex):Bool:=sideB e.sd&&timeB e.aq&&timeB e.at' && !decide (e.at'<e.aq)
def exB (e:Ex):Bool:=preB e&&match readR e.rq false false with
 | .error _=>false
 | .ok (me,ta,_,_,_,_,_)=>match canR ta with
  | none=>false
  | some u=>(u==e.ur)&&match readR e.an true (me==headN) with
   | .error _=>false
   | .ok (me2,ta2,st2,re2,ba2,l2,bo2)=>wmT me2 ta2 (st2:Nat) re2 ba2 l2 bo2==e.an
abbrev no3:D := .tup [mZ,mZ,.v (vB false)]
theorem readR_in {t:List UInt8} {an hd ba:Bool} {me ta re bo:List UInt8} {st:Nat} {l:List Fld} (h:readR t an hd = .ok (me,ta,st,re,ba,l,bo)):me.length≤20∧ta.length≤200∧re.length≤40∧bo.length≤600∧Small l:=by
 unfold readR at h
 cases hh:headR t an with
 | error k=>rw [hh] at h; cases h
 | ok x =>
  obtain ⟨me',ta',st',re',a,l'⟩:=x
  rw [hh] at h
  simp only at h
  split at h
  ·split at h
   ·rename_i hm
    injection h with h
    injection h with h1 h
    injection h with h2 h
    injection h with h3 h
    injection h with h4 h
    injection h with h5 h
    injection h with h6 h7
    subst h1 h2 h3 h4 h5 h6 h7
    obtain ⟨g1,g2,g3,g4,g5,g6⟩:=msg_in hm
    exact ⟨g2,g3,g4,g6,small_of g1⟩
   ·cases h
  ·cases h
theorem readR_code {t:List UInt8} {an hd:Bool} {k:Nat} (h:readR t an hd = .error k):((k:Int) != 0)=true:=by
 rw [bne_iff_ne]
 unfold readR at h
 cases hh:headR t an with
 | error j =>
  rw [hh] at h
  injection h with h
  have:=headR_code hh
  omega
 | ok x =>
  obtain ⟨me',ta',st',re',a,l'⟩:=x
  rw [hh] at h
  simp only at h
  split at h
  ·split at h
   ·cases h
   ·injection h with h; omega
  ·injection h with h; rename_i h0; omega
theorem drZ {cfg:Cfg} {l:List Oper} {E:Env} {K:Env→Prop} {q:Prop} (fs:List (Option (List Nat))) (x:q) (e:pHeadN prog cfg l (l.zip fs) E K=q:=by simp only [go_sem,Nat.reduceLeDiff,Nat.reduceLT,Nat.reduceAdd,Nat.reduceSub,Nat.reduceMul,Nat.reduceBEq,Nat.reduceBNe,Nat.reduceEqDiff,reduceCtorEq,reduceIte,Int.reduceLT,Int.reduceLE,Int.reduceAdd,Int.reduceSub,Int.reduceNeg,Int.reduceEq,Int.reduceBEq,Int.reduceBNe,Int.reduceToNat,Nat.reduceDiv,Nat.reduceMod, *]; rfl) (hok:drawN l fs=true:=by kernel_rfl):pDraw prog cfg l E K:=draw_new fs mixedOk hok (Eq.mpr e x)
theorem side_no {n:Int} (h:sideB n=false):(n != 0)=true∧(n != 1)=true:=by
 unfold sideB at h
 rw [Bool.or_eq_false_iff] at h
 exact ⟨by rw [bne,h.1]; rfl,by rw [bne,h.2]; rfl⟩
theorem side_or {n:Int} (h:sideB n=true):(n != 0)=false∨((n != 0)=true∧(n != 1)=false):=by
 unfold sideB at h
 rw [Bool.or_eq_true] at h
 cases h0:n==0 with
 | true=>exact .inl (by rw [bne,h0]; rfl)
 | false =>
  rw [h0] at h
  rcases h with h | h
  ·cases h
  ·exact .inr ⟨by rw [bne,h0]; rfl,by rw [bne,h]; rfl⟩
theorem fD_re1 {me ta re bo:List UInt8} {st:Int} {ba:Bool} {l:List Fld} {a:Value}:D.anyL (fun d => !d.resLeaf) (.tup [mD me ta st re ba (fD l) bo,.v a])=false:=by cases l<;>rfl
theorem callr {P:Program} {K:Env→Prop} {E:Env} {f:FuncId} {a0 d0 r:D} {ce cl:List (Option (List D))} {t:Nat} {q:Prop} (h:Sem P f ⟨[a0],ce⟩ ⟨[d0,r],cl⟩) (h3:r.anyL (fun d => !d.resLeaf)=false) (x:q)
  (e:K (E.app [.ca [] [] [],.rw t r])=q:=by simp only [go_sem,Nat.reduceLeDiff,Nat.reduceLT,Nat.reduceAdd,Nat.reduceSub,Nat.reduceMul,Nat.reduceBEq,Nat.reduceBNe,Nat.reduceEqDiff,reduceCtorEq,reduceIte,Int.reduceLT,Int.reduceLE,Int.reduceAdd,Int.reduceSub,Int.reduceNeg,Int.reduceEq,Int.reduceBEq,Int.reduceBNe,Int.reduceToNat,Nat.reduceDiv,Nat.reduceMod, *]; rfl):Done P K E (.call f ⟨[a0],ce⟩ (retW ⟨[a0],ce,[],[],[],[]⟩ (some t))):=by
 cases h4:r.anyL D.isImm
 ·exact ev_call h (retW0 rfl rfl h3 h4) (e▸x)
 ·exact ev_call (ws:=[.fz [],.ca [] [] [],.rw t r]) h (retWi rfl rfl h3 h4) (by have e2:K (E.app [.fz [],.ca [] [] [],.rw t r])=q:=e; exact e2▸x)
theorem c68a (e:Ex) (p:sideB e.sd=false):Q1 68 (exD e) no3:=by
 have t1:=c127 e.sd
 rw [p] at t1
 refine sb 1 [.ce 2 25,.ce 3 25,.tm 4] func68 ?_
 refine call0 t1 ?_
 exact fz
theorem c68b (e:Ex) (p:sideB e.sd=true) (q:timeB e.aq=false):Q1 68 (exD e) no3:=by
 have t1:=c127 e.sd
 have t2:=c67 e.aq
 rw [p] at t1
 rw [q] at t2
 refine sb 1 [.ce 2 25,.ce 3 25,.tm 4] func68 ?_
 refine call0 t1 ?_
 refine call0 t2 ?_
 exact fz
theorem c68c (e:Ex) (p:sideB e.sd=true) (q:timeB e.aq=true) (r:timeB e.at'=false):Q1 68 (exD e) no3:=by
 have t1:=c127 e.sd
 have t2:=c67 e.aq
 have t3:=c67 e.at'
 rw [p] at t1
 rw [q] at t2
 rw [r] at t3
 refine sb 1 [.ce 2 25,.ce 3 25,.tm 4] func68 ?_
 refine call0 t1 ?_
 refine call0 t2 ?_
 refine call0 t3 ?_
 exact fz
theorem c68d (e:Ex) (p:sideB e.sd=true) (q:timeB e.aq=true) (r:timeB e.at'=true) (s:e.at'<e.aq):Q1 68 (exD e) no3:=by
 have t1:=c127 e.sd
 have t2:=c67 e.aq
 have t3:=c67 e.at'
 rw [p] at t1
 rw [q] at t2
 rw [r] at t3
 refine sb 1 [.ce 2 25,.ce 3 25,.tm 4] func68 ?_
 refine call0 t1 ?_
 refine call0 t2 ?_
 refine call0 t3 ?_
 exact fz
theorem c68e (e:Ex) (h2:e.rq.length≤1048576) (p:preB e=true) (k:Nat) (g:readR e.rq false false = .error k):Q1 68 (exD e) no3:=by
 unfold preB at p
 simp only [Bool.and_eq_true,Bool.not_eq_true',decide_eq_false_iff_not] at p
 obtain ⟨⟨⟨p,q⟩,r⟩,s⟩:=p
 have t1:=c127 e.sd
 have t2:=c67 e.aq
 have t3:=c67 e.at'
 rw [p] at t1
 rw [q] at t2
 rw [r] at t3
 have x1:=c13 e.rq h2
 rw [g] at x1
 simp only [reqD] at x1
 have g1:=readR_code g
 clear g
 refine sb 1 [.ce 2 25,.ce 3 25,.tm 4] func68 ?_
 refine call0 t1 ?_
 refine call0 t2 ?_
 refine call0 t3 ?_
 refine call0 x1 ?_
 exact fz
theorem c68f (e:Ex) (h2:e.rq.length≤1048576) (h3:e.an.length≤1048576) (p:preB e=true) (me ta:List UInt8) (st:Nat) (re:List UInt8) (ba:Bool) (l:List Fld) (bo:List UInt8) (g:readR e.rq false false = .ok (me,ta,st,re,ba,l,bo)) (k:Nat) (f:readR e.an true (me==headN) = .error k) (c:canR ta=none):Q1 68 (exD e) no3:=by
 unfold preB at p
 simp only [Bool.and_eq_true,Bool.not_eq_true',decide_eq_false_iff_not] at p
 obtain ⟨⟨⟨p,q⟩,r⟩,s⟩:=p
 have t1:=c127 e.sd
 have t2:=c67 e.aq
 have t3:=c67 e.at'
 rw [p] at t1
 rw [q] at t2
 rw [r] at t3
 have x1:=c13 e.rq h2
 rw [g] at x1
 simp only [reqD] at x1
 obtain ⟨b1,b2,b3,b4,b5⟩:=readR_in g
 have x2:=c15 e.an h3 (me==headN)
 have x3:=c66 ta (by omega)
 rw [f] at x2
 simp only [reqD] at x2
 have f1:=readR_code f
 rw [c] at x3
 simp only [canD] at x3
 clear g f c
 refine sb 1 [.ce 2 25,.ce 3 25,.tm 4] func68 ?_
 refine call0 t1 ?_
 refine call0 t2 ?_
 refine call0 t3 ?_
 refine callr x1 fD_re1 ?_
 refine call0 x2 ?_
 refine call0 x3 ?_
 refine drZ gs68_0 ?_
 exact fz
theorem c68f2 (e:Ex) (h2:e.rq.length≤1048576) (h3:e.an.length≤1048576) (p:preB e=true) (me ta:List UInt8) (st:Nat) (re:List UInt8) (ba:Bool) (l:List Fld) (bo:List UInt8) (g:readR e.rq false false = .ok (me,ta,st,re,ba,l,bo)) (k:Nat) (f:readR e.an true (me==headN) = .error k) (u:List UInt8) (c:canR ta=some u):Q1 68 (exD e) no3:=by
 unfold preB at p
 simp only [Bool.and_eq_true,Bool.not_eq_true',decide_eq_false_iff_not] at p
 obtain ⟨⟨⟨p,q⟩,r⟩,s⟩:=p
 have t1:=c127 e.sd
 have t2:=c67 e.aq
 have t3:=c67 e.at'
 rw [p] at t1
 rw [q] at t2
 rw [r] at t3
 have x1:=c13 e.rq h2
 rw [g] at x1
 simp only [reqD] at x1
 obtain ⟨b1,b2,b3,b4,b5⟩:=readR_in g
 have x2:=c15 e.an h3 (me==headN)
 have x3:=c66 ta (by omega)
 rw [f] at x2
 simp only [reqD] at x2
 have f1:=readR_code f
 rw [c] at x3
 simp only [canD] at x3
 clear g f c
 refine sb 1 [.ce 2 25,.ce 3 25,.tm 4] func68 ?_
 refine call0 t1 ?_
 refine call0 t2 ?_
 refine call0 t3 ?_
 refine callr x1 fD_re1 ?_
 refine call0 x2 ?_
 refine call0 x3 ?_
 refine drZ gs68_0 ?_
 exact fz
theorem c68g (e:Ex) (h2:e.rq.length≤1048576) (h3:e.an.length≤1048576) (p:preB e=true) (me ta:List UInt8) (st:Nat) (re:List UInt8) (ba:Bool) (l:List Fld) (bo:List UInt8) (g:readR e.rq false false = .ok (me,ta,st,re,ba,l,bo)) (me2 ta2:List UInt8) (st2:Nat) (re2:List UInt8) (ba2:Bool) (l2:List Fld) (bo2:List UInt8) (f:readR e.an true (me==headN) = .ok (me2,ta2,st2,re2,ba2,l2,bo2)) (c:canR ta=none):Q1 68 (exD e) no3:=by
 unfold preB at p
 simp only [Bool.and_eq_true,Bool.not_eq_true',decide_eq_false_iff_not] at p
 obtain ⟨⟨⟨p,q⟩,r⟩,s⟩:=p
 have t1:=c127 e.sd
 have t2:=c67 e.aq
 have t3:=c67 e.at'
 rw [p] at t1
 rw [q] at t2
 rw [r] at t3
 have x1:=c13 e.rq h2
 rw [g] at x1
 simp only [reqD] at x1
 obtain ⟨b1,b2,b3,b4,b5⟩:=readR_in g
 have x2:=c15 e.an h3 (me==headN)
 have x3:=c66 ta (by omega)
 rw [f] at x2
 simp only [reqD] at x2
 obtain ⟨d1,d2,d3,d4,d5⟩:=readR_in f
 have x4:=c10 me2 ta2 (st2:Nat) re2 ba2 l2 bo2 (by omega) (by omega) (by omega) (by omega) d5
 rw [c] at x3
 simp only [canD] at x3
 clear g f c
 refine sb 1 [.ce 2 25,.ce 3 25,.tm 4] func68 ?_
 refine call0 t1 ?_
 refine call0 t2 ?_
 refine call0 t3 ?_
 refine callr x1 fD_re1 ?_
 refine callf x2 fD_re1 ?_
 refine call0 x3 ?_
 refine drZ gs68_0 ?_
 exact fz
theorem c68h (e:Ex) (h2:e.rq.length≤1048576) (h3:e.an.length≤1048576) (p:preB e=true) (me ta:List UInt8) (st:Nat) (re:List UInt8) (ba:Bool) (l:List Fld) (bo:List UInt8) (g:readR e.rq false false = .ok (me,ta,st,re,ba,l,bo)) (me2 ta2:List UInt8) (st2:Nat) (re2:List UInt8) (ba2:Bool) (l2:List Fld) (bo2:List UInt8) (f:readR e.an true (me==headN) = .ok (me2,ta2,st2,re2,ba2,l2,bo2)) (u:List UInt8) (c:canR ta=some u) (y:(u==e.ur)=false):Q1 68 (exD e) no3:=by
 unfold preB at p
 simp only [Bool.and_eq_true,Bool.not_eq_true',decide_eq_false_iff_not] at p
 obtain ⟨⟨⟨p,q⟩,r⟩,s⟩:=p
 have t1:=c127 e.sd
 have t2:=c67 e.aq
 have t3:=c67 e.at'
 rw [p] at t1
 rw [q] at t2
 rw [r] at t3
 have x1:=c13 e.rq h2
 rw [g] at x1
 simp only [reqD] at x1
 obtain ⟨b1,b2,b3,b4,b5⟩:=readR_in g
 have x2:=c15 e.an h3 (me==headN)
 have x3:=c66 ta (by omega)
 rw [f] at x2
 simp only [reqD] at x2
 obtain ⟨d1,d2,d3,d4,d5⟩:=readR_in f
 have x4:=c10 me2 ta2 (st2:Nat) re2 ba2 l2 bo2 (by omega) (by omega) (by omega) (by omega) d5
 rw [c] at x3
 simp only [canD] at x3
 clear g f c
 refine sb 1 [.ce 2 25,.ce 3 25,.tm 4] func68 ?_
 refine call0 t1 ?_
 refine call0 t2 ?_
 refine call0 t3 ?_
 refine callr x1 fD_re1 ?_
 refine callf x2 fD_re1 ?_
 refine call0 x3 ?_
 refine drZ gs68_0 ?_
 exact fz
theorem c68i (e:Ex) (h2:e.rq.length≤1048576) (h3:e.an.length≤1048576) (p:preB e=true) (me ta:List UInt8) (st:Nat) (re:List UInt8) (ba:Bool) (l:List Fld) (bo:List UInt8) (g:readR e.rq false false = .ok (me,ta,st,re,ba,l,bo)) (me2 ta2:List UInt8) (st2:Nat) (re2:List UInt8) (ba2:Bool) (l2:List Fld) (bo2:List UInt8) (f:readR e.an true (me==headN) = .ok (me2,ta2,st2,re2,ba2,l2,bo2)) (u:List UInt8) (c:canR ta=some u) (y:(u==e.ur)=true) (z:(wmT me2 ta2 (st2:Nat) re2 ba2 l2 bo2==e.an)=false):Q1 68 (exD e) no3:=by
 unfold preB at p
 simp only [Bool.and_eq_true,Bool.not_eq_true',decide_eq_false_iff_not] at p
 obtain ⟨⟨⟨p,q⟩,r⟩,s⟩:=p
 have t1:=c127 e.sd
 have t2:=c67 e.aq
 have t3:=c67 e.at'
 rw [p] at t1
 rw [q] at t2
 rw [r] at t3
 have x1:=c13 e.rq h2
 rw [g] at x1
 simp only [reqD] at x1
 obtain ⟨b1,b2,b3,b4,b5⟩:=readR_in g
 have x2:=c15 e.an h3 (me==headN)
 have x3:=c66 ta (by omega)
 rw [f] at x2
 simp only [reqD] at x2
 obtain ⟨d1,d2,d3,d4,d5⟩:=readR_in f
 have x4:=c10 me2 ta2 (st2:Nat) re2 ba2 l2 bo2 (by omega) (by omega) (by omega) (by omega) d5
 rw [c] at x3
 simp only [canD] at x3
 clear g f c
 refine sb 1 [.ce 2 25,.ce 3 25,.tm 4] func68 ?_
 refine call0 t1 ?_
 refine call0 t2 ?_
 refine call0 t3 ?_
 refine callr x1 fD_re1 ?_
 refine callf x2 fD_re1 ?_
 refine call0 x3 ?_
 refine drZ gs68_0 ?_
 refine drawn0 x4 ?_
 exact fz
theorem c68j (e:Ex) (h2:e.rq.length≤1048576) (h3:e.an.length≤1048576) (p:preB e=true) (me ta:List UInt8) (st:Nat) (re:List UInt8) (ba:Bool) (l:List Fld) (bo:List UInt8) (g:readR e.rq false false = .ok (me,ta,st,re,ba,l,bo)) (me2 ta2:List UInt8) (st2:Nat) (re2:List UInt8) (ba2:Bool) (l2:List Fld) (bo2:List UInt8) (f:readR e.an true (me==headN) = .ok (me2,ta2,st2,re2,ba2,l2,bo2)) (u:List UInt8) (c:canR ta=some u) (y:(u==e.ur)=true) (z:(wmT me2 ta2 (st2:Nat) re2 ba2 l2 bo2==e.an)=true):Q1 68 (exD e) (.tup [mD me ta (st:Nat) re ba (fD l) bo,mD me2 ta2 (st2:Nat) re2 ba2 (fD l2) bo2,.v (vB true)]):=by
 unfold preB at p
 simp only [Bool.and_eq_true,Bool.not_eq_true',decide_eq_false_iff_not] at p
 obtain ⟨⟨⟨p,q⟩,r⟩,s⟩:=p
 have t1:=c127 e.sd
 have t2:=c67 e.aq
 have t3:=c67 e.at'
 rw [p] at t1
 rw [q] at t2
 rw [r] at t3
 have x1:=c13 e.rq h2
 rw [g] at x1
 simp only [reqD] at x1
 obtain ⟨b1,b2,b3,b4,b5⟩:=readR_in g
 have x2:=c15 e.an h3 (me==headN)
 have x3:=c66 ta (by omega)
 rw [f] at x2
 simp only [reqD] at x2
 obtain ⟨d1,d2,d3,d4,d5⟩:=readR_in f
 have x4:=c10 me2 ta2 (st2:Nat) re2 ba2 l2 bo2 (by omega) (by omega) (by omega) (by omega) d5
 rw [c] at x3
 simp only [canD] at x3
 clear g f c
 refine sb 1 [.ce 2 25,.ce 3 25,.tm 4] func68 ?_
 refine call0 t1 ?_
 refine call0 t2 ?_
 refine call0 t3 ?_
 refine callr x1 fD_re1 ?_
 refine callf x2 fD_re1 ?_
 refine call0 x3 ?_
 refine drZ gs68_0 ?_
 refine drawn0 x4 ?_
 refine drZ gs68_1 ?_
 exact fz (hok:=by cases l<;>cases l2<;>rfl)
theorem c124a (e:Ex) (p:sideB e.sd=false):Q1 124 (exD e) no3:=by
 obtain ⟨p1,p2⟩:=side_no p
 clear p
 refine sb 1 [.ce 2 25,.ce 3 25,.tm 4] func124 ?_
 exact fz
theorem c124b (e:Ex) (p:sideB e.sd=true) (q:timeB e.aq=false):Q1 124 (exD e) no3:=by
 have t2:=c62 e.aq
 rw [q] at t2
 rcases side_or p with p1 | ⟨p1,p2⟩
 all_goals clear p
 all_goals refine sb 1 [.ce 2 25,.ce 3 25,.tm 4] func124 ?_
 all_goals refine call0 t2 ?_
 all_goals exact fz
theorem c124c (e:Ex) (p:sideB e.sd=true) (q:timeB e.aq=true) (r:timeB e.at'=false):Q1 124 (exD e) no3:=by
 have t2:=c62 e.aq
 have t3:=c62 e.at'
 rw [q] at t2
 rw [r] at t3
 rcases side_or p with p1 | ⟨p1,p2⟩
 all_goals clear p
 all_goals refine sb 1 [.ce 2 25,.ce 3 25,.tm 4] func124 ?_
 all_goals refine call0 t2 ?_
 all_goals refine call0 t3 ?_
 all_goals exact fz
theorem c124d (e:Ex) (p:sideB e.sd=true) (q:timeB e.aq=true) (r:timeB e.at'=true) (s:e.at'<e.aq):Q1 124 (exD e) no3:=by
 have t2:=c62 e.aq
 have t3:=c62 e.at'
 rw [q] at t2
 rw [r] at t3
 rcases side_or p with p1 | ⟨p1,p2⟩
 all_goals clear p
 all_goals refine sb 1 [.ce 2 25,.ce 3 25,.tm 4] func124 ?_
 all_goals refine call0 t2 ?_
 all_goals refine call0 t3 ?_
 all_goals exact fz
theorem c124e (e:Ex) (h2:e.rq.length≤1048576) (p:preB e=true) (k:Nat) (g:readR e.rq false false = .error k):Q1 124 (exD e) no3:=by
 unfold preB at p
 simp only [Bool.and_eq_true,Bool.not_eq_true',decide_eq_false_iff_not] at p
 obtain ⟨⟨⟨p,q⟩,r⟩,s⟩:=p
 have t2:=c62 e.aq
 have t3:=c62 e.at'
 rw [q] at t2
 rw [r] at t3
 have x1:=c58 e.rq h2
 rw [g] at x1
 simp only [reqD] at x1
 have g1:=readR_code g
 clear g
 rcases side_or p with p1 | ⟨p1,p2⟩
 all_goals clear p
 all_goals refine sb 1 [.ce 2 25,.ce 3 25,.tm 4] func124 ?_
 all_goals refine call0 t2 ?_
 all_goals refine call0 t3 ?_
 all_goals refine call0 x1 ?_
 all_goals exact fz
theorem c124g (e:Ex) (h2:e.rq.length≤1048576) (h3:e.an.length≤1048576) (p:preB e=true) (me ta:List UInt8) (st:Nat) (re:List UInt8) (ba:Bool) (l:List Fld) (bo:List UInt8) (g:readR e.rq false false = .ok (me,ta,st,re,ba,l,bo)) (c:canR ta=none):Q1 124 (exD e) no3:=by
 unfold preB at p
 simp only [Bool.and_eq_true,Bool.not_eq_true',decide_eq_false_iff_not] at p
 obtain ⟨⟨⟨p,q⟩,r⟩,s⟩:=p
 have t2:=c62 e.aq
 have t3:=c62 e.at'
 rw [q] at t2
 rw [r] at t3
 have x1:=c58 e.rq h2
 rw [g] at x1
 simp only [reqD] at x1
 obtain ⟨b1,b2,b3,b4,b5⟩:=readR_in g
 have x2:=c171 e.an h3 (me==headN)
 have x3:=c61 ta (by omega)
 rw [c] at x3
 simp only [canD] at x3
 clear g c
 rcases side_or p with p1 | ⟨p1,p2⟩
 all_goals clear p
 all_goals refine sb 1 [.ce 2 25,.ce 3 25,.tm 4] func124 ?_
 all_goals refine call0 t2 ?_
 all_goals refine call0 t3 ?_
 all_goals refine callr x1 fD_re1 ?_
 all_goals refine call0 x3 ?_
 all_goals exact fz
theorem c124h (e:Ex) (h2:e.rq.length≤1048576) (h3:e.an.length≤1048576) (p:preB e=true) (me ta:List UInt8) (st:Nat) (re:List UInt8) (ba:Bool) (l:List Fld) (bo:List UInt8) (g:readR e.rq false false = .ok (me,ta,st,re,ba,l,bo)) (u:List UInt8) (c:canR ta=some u) (y:(u==e.ur)=false):Q1 124 (exD e) no3:=by
 unfold preB at p
 simp only [Bool.and_eq_true,Bool.not_eq_true',decide_eq_false_iff_not] at p
 obtain ⟨⟨⟨p,q⟩,r⟩,s⟩:=p
 have t2:=c62 e.aq
 have t3:=c62 e.at'
 rw [q] at t2
 rw [r] at t3
 have x1:=c58 e.rq h2
 rw [g] at x1
 simp only [reqD] at x1
 obtain ⟨b1,b2,b3,b4,b5⟩:=readR_in g
 have x2:=c171 e.an h3 (me==headN)
 have x3:=c61 ta (by omega)
 rw [c] at x3
 simp only [canD] at x3
 clear g c
 rcases side_or p with p1 | ⟨p1,p2⟩
 all_goals clear p
 all_goals refine sb 1 [.ce 2 25,.ce 3 25,.tm 4] func124 ?_
 all_goals refine call0 t2 ?_
 all_goals refine call0 t3 ?_
 all_goals refine callr x1 fD_re1 ?_
 all_goals refine call0 x3 ?_
 all_goals exact fz
theorem c124f (e:Ex) (h2:e.rq.length≤1048576) (h3:e.an.length≤1048576) (p:preB e=true) (me ta:List UInt8) (st:Nat) (re:List UInt8) (ba:Bool) (l:List Fld) (bo:List UInt8) (g:readR e.rq false false = .ok (me,ta,st,re,ba,l,bo)) (u:List UInt8) (c:canR ta=some u) (y:(u==e.ur)=true) (k:Nat) (f:readR e.an true (me==headN) = .error k):Q1 124 (exD e) no3:=by
 unfold preB at p
 simp only [Bool.and_eq_true,Bool.not_eq_true',decide_eq_false_iff_not] at p
 obtain ⟨⟨⟨p,q⟩,r⟩,s⟩:=p
 have t2:=c62 e.aq
 have t3:=c62 e.at'
 rw [q] at t2
 rw [r] at t3
 have x1:=c58 e.rq h2
 rw [g] at x1
 simp only [reqD] at x1
 obtain ⟨b1,b2,b3,b4,b5⟩:=readR_in g
 have x2:=c171 e.an h3 (me==headN)
 have x3:=c61 ta (by omega)
 rw [f] at x2
 simp only [reqD] at x2
 have f1:=readR_code f
 rw [c] at x3
 simp only [canD] at x3
 clear g f c
 rcases side_or p with p1 | ⟨p1,p2⟩
 all_goals clear p
 all_goals refine sb 1 [.ce 2 25,.ce 3 25,.tm 4] func124 ?_
 all_goals refine call0 t2 ?_
 all_goals refine call0 t3 ?_
 all_goals refine callr x1 fD_re1 ?_
 all_goals refine call0 x3 ?_
 all_goals refine call0 x2 ?_
 all_goals refine drZ gs124_0 ?_
 all_goals exact fz
theorem c124i (e:Ex) (h2:e.rq.length≤1048576) (h3:e.an.length≤1048576) (p:preB e=true) (me ta:List UInt8) (st:Nat) (re:List UInt8) (ba:Bool) (l:List Fld) (bo:List UInt8) (g:readR e.rq false false = .ok (me,ta,st,re,ba,l,bo)) (u:List UInt8) (c:canR ta=some u) (y:(u==e.ur)=true) (me2 ta2:List UInt8) (st2:Nat) (re2:List UInt8) (ba2:Bool) (l2:List Fld) (bo2:List UInt8) (f:readR e.an true (me==headN) = .ok (me2,ta2,st2,re2,ba2,l2,bo2)) (z:(wmT me2 ta2 (st2:Nat) re2 ba2 l2 bo2==e.an)=false):Q1 124 (exD e) no3:=by
 unfold preB at p
 simp only [Bool.and_eq_true,Bool.not_eq_true',decide_eq_false_iff_not] at p
 obtain ⟨⟨⟨p,q⟩,r⟩,s⟩:=p
 have t2:=c62 e.aq
 have t3:=c62 e.at'
 rw [q] at t2
 rw [r] at t3
 have x1:=c58 e.rq h2
 rw [g] at x1
 simp only [reqD] at x1
 obtain ⟨b1,b2,b3,b4,b5⟩:=readR_in g
 have x2:=c171 e.an h3 (me==headN)
 have x3:=c61 ta (by omega)
 rw [f] at x2
 simp only [reqD] at x2
 obtain ⟨d1,d2,d3,d4,d5⟩:=readR_in f
 have x4:=c59 me2 ta2 (st2:Nat) re2 ba2 l2 bo2 (by omega) (by omega) (by omega) (by omega) d5
 rw [c] at x3
 simp only [canD] at x3
 clear g f c
 rcases side_or p with p1 | ⟨p1,p2⟩
 all_goals clear p
 all_goals refine sb 1 [.ce 2 25,.ce 3 25,.tm 4] func124 ?_
 all_goals refine call0 t2 ?_
 all_goals refine call0 t3 ?_
 all_goals refine callr x1 fD_re1 ?_
 all_goals refine call0 x3 ?_
 all_goals refine callf x2 fD_re1 ?_
 all_goals refine drZ gs124_0 ?_
 all_goals refine drawn0 x4 ?_
 all_goals exact fz
theorem c124j (e:Ex) (h2:e.rq.length≤1048576) (h3:e.an.length≤1048576) (p:preB e=true) (me ta:List UInt8) (st:Nat) (re:List UInt8) (ba:Bool) (l:List Fld) (bo:List UInt8) (g:readR e.rq false false = .ok (me,ta,st,re,ba,l,bo)) (u:List UInt8) (c:canR ta=some u) (y:(u==e.ur)=true) (me2 ta2:List UInt8) (st2:Nat) (re2:List UInt8) (ba2:Bool) (l2:List Fld) (bo2:List UInt8) (f:readR e.an true (me==headN) = .ok (me2,ta2,st2,re2,ba2,l2,bo2)) (z:(wmT me2 ta2 (st2:Nat) re2 ba2 l2 bo2==e.an)=true):Q1 124 (exD e) (.tup [mD me ta (st:Nat) re ba (fD l) bo,mD me2 ta2 (st2:Nat) re2 ba2 (fD l2) bo2,.v (vB true)]):=by
 unfold preB at p
 simp only [Bool.and_eq_true,Bool.not_eq_true',decide_eq_false_iff_not] at p
 obtain ⟨⟨⟨p,q⟩,r⟩,s⟩:=p
 have t2:=c62 e.aq
 have t3:=c62 e.at'
 rw [q] at t2
 rw [r] at t3
 have x1:=c58 e.rq h2
 rw [g] at x1
 simp only [reqD] at x1
 obtain ⟨b1,b2,b3,b4,b5⟩:=readR_in g
 have x2:=c171 e.an h3 (me==headN)
 have x3:=c61 ta (by omega)
 rw [f] at x2
 simp only [reqD] at x2
 obtain ⟨d1,d2,d3,d4,d5⟩:=readR_in f
 have x4:=c59 me2 ta2 (st2:Nat) re2 ba2 l2 bo2 (by omega) (by omega) (by omega) (by omega) d5
 rw [c] at x3
 simp only [canD] at x3
 clear g f c
 rcases side_or p with p1 | ⟨p1,p2⟩
 all_goals clear p
 all_goals refine sb 1 [.ce 2 25,.ce 3 25,.tm 4] func124 ?_
 all_goals refine call0 t2 ?_
 all_goals refine call0 t3 ?_
 all_goals refine callr x1 fD_re1 ?_
 all_goals refine call0 x3 ?_
 all_goals refine callf x2 fD_re1 ?_
 all_goals refine drZ gs124_0 ?_
 all_goals refine drawn0 x4 ?_
 all_goals refine drZ gs124_1 ?_
 all_goals exact fz (hok:=by cases l<;>cases l2<;>rfl)
theorem pre_cases {e:Ex} (h:preB e=false):sideB e.sd=false∨(sideB e.sd=true∧timeB e.aq=false)∨(sideB e.sd=true∧timeB e.aq=true∧timeB e.at'=false)∨(sideB e.sd=true∧timeB e.aq=true∧timeB e.at'=true∧e.at'<e.aq):=by
 unfold preB at h
 cases h1:sideB e.sd with
 | false=>exact .inl rfl
 | true =>
  cases h2:timeB e.aq with
  | false=>exact .inr (.inl ⟨rfl,rfl⟩)
  | true =>
   cases h3:timeB e.at' with
   | false=>exact .inr (.inr (.inl ⟨rfl,rfl,rfl⟩))
   | true =>
    rw [h1,h2,h3] at h
    exact .inr (.inr (.inr ⟨rfl,rfl,rfl,by simpa using h⟩))
theorem c68 (e:Ex) (h2:e.rq.length≤1048576) (h3:e.an.length≤1048576):(exB e=false∧Q1 68 (exD e) no3)∨(exB e=true∧∃ (me ta:List UInt8) (st:Nat) (re:List UInt8) (ba:Bool) (l:List Fld) (bo me2 ta2:List UInt8) (st2:Nat) (re2:List UInt8) (ba2:Bool) (l2:List Fld) (bo2:List UInt8),readR e.rq false false = .ok (me,ta,st,re,ba,l,bo)∧readR e.an true (me==headN) = .ok (me2,ta2,st2,re2,ba2,l2,bo2)∧Q1 68 (exD e) (.tup [mD me ta (st:Nat) re ba (fD l) bo,mD me2 ta2 (st2:Nat) re2 ba2 (fD l2) bo2,.v (vB true)])):=by
 cases p:preB e with
 | false =>
  refine .inl ⟨by rw [exB,p]; rfl,?_⟩
  rcases pre_cases p with a | ⟨a,b⟩ | ⟨a,b,c⟩ | ⟨a,b,c,d⟩
  ·exact c68a e a
  ·exact c68b e a b
  ·exact c68c e a b c
  ·exact c68d e a b c d
 | true =>
  cases g:readR e.rq false false with
  | error k=>exact .inl ⟨by rw [exB,p,g]; rfl,c68e e h2 p k g⟩
  | ok x =>
   obtain ⟨me,ta,st,re,ba,l,bo⟩:=x
   cases c:canR ta with
   | none =>
    refine .inl ⟨by rw [exB,p,g]; simp only [c]; rfl,?_⟩
    cases f:readR e.an true (me==headN) with
    | error k=>exact c68f e h2 h3 p me ta st re ba l bo g k f c
    | ok x2 =>
     obtain ⟨me2,ta2,st2,re2,ba2,l2,bo2⟩:=x2
     exact c68g e h2 h3 p me ta st re ba l bo g me2 ta2 st2 re2 ba2 l2 bo2 f c
   | some u =>
    cases y:u==e.ur with
    | false =>
     refine .inl ⟨by rw [exB,p,g]; simp only [c,y]; rfl,?_⟩
     cases f:readR e.an true (me==headN) with
     | error k=>exact c68f2 e h2 h3 p me ta st re ba l bo g k f u c
     | ok x2 =>
      obtain ⟨me2,ta2,st2,re2,ba2,l2,bo2⟩:=x2
      exact c68h e h2 h3 p me ta st re ba l bo g me2 ta2 st2 re2 ba2 l2 bo2 f u c y
    | true =>
     cases f:readR e.an true (me==headN) with
     | error k =>
      refine .inl ⟨by rw [exB,p,g]; simp only [c,y,f]; rfl,?_⟩
      exact c68f2 e h2 h3 p me ta st re ba l bo g k f u c
     | ok x2 =>
      obtain ⟨me2,ta2,st2,re2,ba2,l2,bo2⟩:=x2
      cases z:wmT me2 ta2 (st2:Nat) re2 ba2 l2 bo2==e.an with
      | false =>
       refine .inl ⟨by rw [exB,p,g]; simp only [c,y,f,z]; rfl,?_⟩
       exact c68i e h2 h3 p me ta st re ba l bo g me2 ta2 st2 re2 ba2 l2 bo2 f u c y z
      | true =>
       refine .inr ⟨by rw [exB,p,g]; simp only [c,y,f,z]; rfl,me,ta,st,re,ba,l,bo,me2,ta2,st2,re2,ba2,l2,bo2,rfl,f,?_⟩
       exact c68j e h2 h3 p me ta st re ba l bo g me2 ta2 st2 re2 ba2 l2 bo2 f u c y z
theorem c124 (e:Ex) (h2:e.rq.length≤1048576) (h3:e.an.length≤1048576):(exB e=false∧Q1 124 (exD e) no3)∨(exB e=true∧∃ (me ta:List UInt8) (st:Nat) (re:List UInt8) (ba:Bool) (l:List Fld) (bo me2 ta2:List UInt8) (st2:Nat) (re2:List UInt8) (ba2:Bool) (l2:List Fld) (bo2:List UInt8),readR e.rq false false = .ok (me,ta,st,re,ba,l,bo)∧readR e.an true (me==headN) = .ok (me2,ta2,st2,re2,ba2,l2,bo2)∧Q1 124 (exD e) (.tup [mD me ta (st:Nat) re ba (fD l) bo,mD me2 ta2 (st2:Nat) re2 ba2 (fD l2) bo2,.v (vB true)])):=by
 cases p:preB e with
 | false =>
  refine .inl ⟨by rw [exB,p]; rfl,?_⟩
  rcases pre_cases p with a | ⟨a,b⟩ | ⟨a,b,c⟩ | ⟨a,b,c,d⟩
  ·exact c124a e a
  ·exact c124b e a b
  ·exact c124c e a b c
  ·exact c124d e a b c d
 | true =>
  cases g:readR e.rq false false with
  | error k=>exact .inl ⟨by rw [exB,p,g]; rfl,c124e e h2 p k g⟩
  | ok x =>
   obtain ⟨me,ta,st,re,ba,l,bo⟩:=x
   cases c:canR ta with
   | none =>
    refine .inl ⟨by rw [exB,p,g]; simp only [c]; rfl,?_⟩
    exact c124g e h2 h3 p me ta st re ba l bo g c
   | some u =>
    cases y:u==e.ur with
    | false =>
     refine .inl ⟨by rw [exB,p,g]; simp only [c,y]; rfl,?_⟩
     exact c124h e h2 h3 p me ta st re ba l bo g u c y
    | true =>
     cases f:readR e.an true (me==headN) with
     | error k =>
      refine .inl ⟨by rw [exB,p,g]; simp only [c,y,f]; rfl,?_⟩
      exact c124f e h2 h3 p me ta st re ba l bo g u c y k f
     | ok x2 =>
      obtain ⟨me2,ta2,st2,re2,ba2,l2,bo2⟩:=x2
      cases z:wmT me2 ta2 (st2:Nat) re2 ba2 l2 bo2==e.an with
      | false =>
       refine .inl ⟨by rw [exB,p,g]; simp only [c,y,f,z]; rfl,?_⟩
       exact c124i e h2 h3 p me ta st re ba l bo g u c y me2 ta2 st2 re2 ba2 l2 bo2 f z
      | true =>
       refine .inr ⟨by rw [exB,p,g]; simp only [c,y,f,z]; rfl,me,ta,st,re,ba,l,bo,me2,ta2,st2,re2,ba2,l2,bo2,rfl,f,?_⟩
       exact c124j e h2 h3 p me ta st re ba l bo g u c y me2 ta2 st2 re2 ba2 l2 bo2 f z
def gs145_0:List (Option (List Nat)):=[some [18,19,20,21,22],some [18,19,20,21,22],some [18,19,20,21,22],some [18,19,20,21,22],some [18,19,20,21,22],some [13,14,15,16,17],some [13,14,15,16,17],some [13,14,15,16,17],some [13,14,15,16,17],some [13,14,15,16,17],none,none,none]
attribute [go_sem] gs145_0
def gs145_1:List (Option (List Nat)):=[some [29,30,31,32,33],some [29,30,31,32,33],some [29,30,31,32,33],some [29,30,31,32,33],some [25,26,27,28],some [25,26,27,28],some [25,26,27,28],some [25,26,27,28],some [25,26,27,28],none]
attribute [go_sem] gs145_1
def gs145_2:List (Option (List Nat)):=[some [36,37,38,39,40,41,42,43,44,45,46],some [35,40,41,42,43],some [35,40,41,42,43],some [35,40,41,42,43],some [35,40,41,42,43],some [35,36,37,38,39],some [35,36,37,38,39],some [35,36,37,38,39],some [35,36,37,38,39],some [35],some [35],some [35],none,none,none]
attribute [go_sem] gs145_2
theorem ar2_cref {tb:Tab} {pt:TypeId} {acc:CallAcc} {k:CallAcc→Rdr Stp} {c j:Nat}:argR tb pt 2 (.cref c j) acc k=(match tb.kd pt with
  | some (.ptr e)=>(match tb e with
   | none => .fail
   | some ie => .cell c fun
    | none => .fail
    | some ls =>
     if ((ls.drop j).take ie.size).all lendable&&decide (j+ie.size≤ls.length)&&decide (0<ie.size) then
      k { acc with args:=acc.args++[.cref acc.args.length 0],ce:=acc.ce++[some ((ls.drop j).take ie.size)],wc:=acc.wc++[(c,j,ie.size,acc.args.length)] }
     else .fail)
  | _ => .fail):=by
 unfold argR
 simp only
 cases tb.kd pt with
 | none=>rfl
 | some x=>cases x<;>rfl
attribute [go_sem] ar2_cref
theorem retWci {dst:Option Tmp} {args:List D} {ce:List (Option (List D))} {bor:List Lf} {Eout:Env} {r:D} {c j n i:Nat} {ls:List D} (h5:Eout.ce.getD i none=some ls) (h6:ls.length=n) (h7:ls.all D.resLeaf=true) (h8:ls.any D.isImm=true)
  (h1:Eout.sl.length=args.length+1) (h2:Eout.sl.getD args.length .dead=r) (h3:r.anyL (fun d => !d.resLeaf)=false) :
  retW ⟨args,ce,[],[(c,j,n,i)],bor,[]⟩ dst Eout=some (.fz bor :: .ca [] [] [(c,j,ls)]::(match dst with | none=>[] | some t=>[.rw t r])):=by
 have hg:gones Eout []=[]:=rfl
 simp only [retW,wbs,wcs,retIm,h2,h3,h1,h5,h6,h7,hg]
 simp [h8]
 cases dst<;>rfl
theorem callc {P:Program} {K:Env→Prop} {E Ein Eout:Env} {f:FuncId} {k:Env→Option (List W)} {ws:List W} {q:Prop} (h:Sem P f Ein Eout) (x:q) (hk:k Eout=some ws:=by exact retWci (by rfl) (by rfl) (by rfl) (by rfl) (by rfl) (by rfl) (by rfl))
  (e:K (E.app ws)=q:=by simp only [go_sem,Nat.reduceLeDiff,Nat.reduceLT,Nat.reduceAdd,Nat.reduceSub,Nat.reduceMul,Nat.reduceBEq,Nat.reduceBNe,Nat.reduceEqDiff,reduceCtorEq,reduceIte,Int.reduceLT,Int.reduceLE,Int.reduceAdd,Int.reduceSub,Int.reduceNeg,Int.reduceEq,Int.reduceBEq,Int.reduceBNe,Int.reduceToNat,Nat.reduceDiv,Nat.reduceMod, *]; rfl):Done P K E (.call f Ein k) :=
 ev_call h hk (e▸x)
theorem fzc {cfg:Cfg} {ts:List RV} {E:Env} {r:D} {x:Go.Exit} {C:List (Option (List D))} (he:x = .normal∨x = .ret:=by first | exact .inr rfl | exact .inl rfl) (hk:cfg.keep=fun _=>false:=by rfl) (hce:(List.range cfg.np).map (fun i=>E.ce.getD i none)=C:=by rfl) (hok:shutOk cfg ts E=true:=by rfl) (hr:shutR E ts=r:=by rfl) :
  Fin cfg ts ⟨List.replicate cfg.np .dead++[r],C⟩ x E:=by
 refine ⟨he,E,.inl rfl,hok,?_⟩
 unfold shut
 rw [hr,hce,map_const_range cfg.np (shutP cfg.keep E) .dead fun i _=>shutP_none hk]
abbrev cur (B:List UInt8) (i:Nat) (h:Int):List D:=[.imm 5 (bytesRows B),.v (vI i),.v (vI h)]
theorem bytesRows_len {B:List UInt8}:(bytesRows B).length=B.length:=bytesRows_length B
attribute [local go_sem] bytesRows_len
def a255 (m:Int):Int:=IntKind.i64.wrap ((BitVec.ofInt 64 m &&& BitVec.ofInt 64 255).toNat:Int)
theorem a255_in (m:Int):0≤a255 m∧a255 m≤255:=by
 unfold a255
 have h:(BitVec.ofInt 64 m &&& BitVec.ofInt 64 255).toNat≤255:=by
  rw [BitVec.toNat_and]
  exact Nat.and_le_right
 rw [wrapI (by omega)]
 omega
def hx (h:Int):Int:=IntKind.i64.wrap (IntKind.i64.wrap (h*6364136223846793005)+1442695040888963407)
def rx (h:Int):Int:=a255 (IntKind.i64.wrap ((BitVec.ofInt 64 ((hx h).fdiv (2 ^ min 33 64)) ^^^ BitVec.ofInt 64 ((hx h).fdiv (2 ^ min 45 64))).toNat:Int))
theorem c145 (B:List UInt8) (hB:B.length≤9223372036854775807) (i:Nat) (hi:i≤B.length) (h:Int):∃ (i':Nat) (h' x:Int),i'≤B.length∧(0≤x∧x≤255)∧Sem prog 145 ⟨[.cref 0 0],[some (cur B i h)]⟩ ⟨[.dead,.v (vI x)],[some (cur B i' h')]⟩:=by
 by_cases hc:i<B.length
 ·have e1:=bytesRows_getD hc
  have w1:=wrapN hc hB
  refine ⟨i+1,hx h,a255 (IntKind.i64.wrap (rx h+IntKind.i64.wrap (B.getD i 0).toNat)),hc,a255_in _,?_⟩
  refine sb 1 [.tm 2] func145 ?_
  refine drZ gs145_0 ?_
  refine drZ gs145_1 ?_
  refine drZ gs145_2 ?_
  exact fzc
 ·refine ⟨i,hx h,rx h,hi,a255_in _,?_⟩
  refine sb 1 [.tm 2] func145 ?_
  refine drZ gs145_0 ?_
  refine drZ gs145_1 ?_
  exact fzc
theorem c80 (B:List UInt8) (hB:B.length≤9223372036854775807) (i:Nat) (hi:i≤B.length) (h n:Int) (hn:n≤256):∃ (i':Nat) (h' x:Int),i'≤B.length∧(0≤x∧(x<n∨x=0))∧Sem prog 80 ⟨[.cref 0 0,.v (vI n)],[some (cur B i h),none]⟩ ⟨[.dead,.dead,.v (vI x)],[some (cur B i' h'),none]⟩:=by
 by_cases h0:n≤0
 ·refine ⟨i,h,0,hi,⟨Int.le_refl _,.inr rfl⟩,?_⟩
  refine sb 2 [.tm 4] func80 ?_
  exact fzc
 ·obtain ⟨i',h',x,q1,⟨q2,q3⟩,x1⟩:=c145 B hB i hi h
  have hne:n≠0:=by omega
  have hx1:x.tmod n=x % n:=Int.tmod_eq_emod_of_nonneg q2
  refine ⟨i',h',x.tmod n,q1,⟨by rw [hx1]; exact Int.emod_nonneg _ hne,.inl (by rw [hx1]; exact Int.emod_lt_of_pos _ (by omega))⟩,?_⟩
  clear q1 q2 q3 hx1
  refine sb 2 [.tm 4] func80 ?_
  refine callc x1 ?_
  exact ⟨hne,fzc⟩
theorem c79 (B:List UInt8) (hB:B.length≤9223372036854775807) (i:Nat) (hi:i≤B.length) (h n:Int) (hn:n≤256):∃ (i':Nat) (h':Int) (x:Bool),i'≤B.length∧Sem prog 79 ⟨[.cref 0 0,.v (vI n)],[some (cur B i h),none]⟩ ⟨[.dead,.dead,.v (vB x)],[some (cur B i' h'),none]⟩:=by
 obtain ⟨i',h',x,q1,q2,x1⟩:=c80 B hB i hi h n hn
 refine ⟨i',h',x==0,q1,?_⟩
 clear q1 q2
 refine sb 2 [.tm 4] func79 ?_
 refine callc x1 ?_
 exact fzc
theorem ev_fz1 {E:Env} {p:Lf}:E.app1 (.fz [p])=(E.frz p).getD E:=id rfl
attribute [local go_sem] ev_fz1 Env.frz frzB
theorem rowsI_getD {l:List Int} {i:Nat} (h:i<l.length):(l.map fun n=>([.v (vI n)]:List T)).getD i []=[.v (vI (l.getD i 0))]:=by
 simp [gDg,h]
theorem c82 (B:List UInt8) (hB:B.length≤9223372036854775807) (i:Nat) (hi:i≤B.length) (h:Int) (l:List Int) (h0:0<l.length) (hl:l.length≤256):∃ (i':Nat) (h' x:Int),i'≤B.length∧x∈l∧Sem prog 82 ⟨[.cref 0 0,.imm 3 (l.map fun n=>[.v (vI n)])],[some (cur B i h),none]⟩ ⟨[.dead,.dead,.v (vI x)],[some (cur B i' h'),none]⟩:=by
 obtain ⟨i',h',x,q1,⟨q2,q3⟩,x1⟩:=c80 B hB i hi h l.length (by omega)
 obtain ⟨k,rfl⟩:∃ k:Nat,x=k:=⟨x.toNat,by omega⟩
 have hk:k<l.length:=by omega
 have e1:=rowsI_getD hk
 have hl9:l.length≤9223372036854775807:=by omega
 have e2:(l.map fun n=>([.v (vI n)]:List T)).length=l.length:=List.length_map ..
 have hk2:(k:Int)<(l.length:Int):=by omega
 have hm:l.getD k 0∈l:=by rw [gDg,gEg hk]; exact List.getElem_mem hk
 refine ⟨i',h',l.getD k 0,q1,hm,?_⟩
 clear q1 q2 q3 hm
 generalize (l.map fun n=>([.v (vI n)]:List T))=X at e1 e2 ⊢
 refine sb 2 [.tm 4] func82 ?_
 refine callc x1 ?_
 exact fzc
theorem sdB_nil:sd 5 (bytesRows []) = .nil:=id rfl
attribute [local go_sem] sdB_nil
theorem c83 (B:List UInt8) (hB:B.length≤9223372036854775807) (set:List UInt8) (h0:0<set.length) (hs:set.length≤256) (i:Nat) (hi:i≤B.length) (h:Int) (n:Nat) (hn:n≤100000):∃ (i':Nat) (h':Int) (s:List UInt8),i'≤B.length∧s.length=n∧Sem prog 83 ⟨[.cref 0 0,.v (vI n),.v (vS set)],[some (cur B i h),none,none]⟩ ⟨[.dead,.dead,.dead,.v (vS s)],[some (cur B i' h'),none,none]⟩:=by
 have hF:∀ s:Nat × Int,∃ q:(Nat × Int) × Nat,s.1≤B.length→(q.1.1≤B.length∧q.2<set.length∧Sem prog 80 ⟨[.cref 0 0,.v (vI set.length)],[some (cur B s.1 s.2),none]⟩ ⟨[.dead,.dead,.v (vI q.2)],[some (cur B q.1.1 q.1.2),none]⟩):=by
  intro s
  by_cases hs1:s.1≤B.length
  ·obtain ⟨i',h',x,q1,⟨q2,q3⟩,x1⟩:=c80 B hB s.1 hs1 s.2 set.length (by omega)
   obtain ⟨k,rfl⟩:∃ k:Nat,x=k:=⟨x.toNat,by omega⟩
   exact ⟨((i',h'),k),fun _=>⟨q1,by show k<_; omega,x1⟩⟩
  ·exact ⟨((0,0),0),fun k=>absurd k hs1⟩
 obtain ⟨G,hG⟩:=Classical.axiomOfChoice hF
 let sq:Nat→(Nat × Int) × List UInt8:=fun k=>Nat.rec ((i,h),[]) (fun _ q=>((G q.1).1,q.2++[set.getD (G q.1).2 0])) k
 have sq0:sq 0=((i,h),[]):=rfl
 have sqs:∀ k,sq (k+1)=((G (sq k).1).1,(sq k).2++[set.getD (G (sq k).1).2 0]):=fun k=>rfl
 generalize sq=sq at sq0 sqs
 have hin:∀ k,(sq k).1.1≤B.length∧(sq k).2.length=k:=by
  intro k
  induction k with
  | zero=>rw [sq0]; exact ⟨hi,rfl⟩
  | succ k ih =>
   rw [sqs]
   exact ⟨(hG _ ih.1).1,by simp [ih.2]⟩
 have hn9:n≤9223372036854775807:=by omega
 have hs9:set.length≤9223372036854775807:=by omega
 have hsn:∀ k l,sd 5 (bytesRows (l++[k])) = .own 5 (bytesRows l++[[.v (vC k.toNat)]]):=fun k l=>by
  have:bytesRows (l++[k])=bytesRows l++[[.v (vC k.toNat)]]:=by simp [bytesRows]
  rw [this]; exact sd_own (by simp)
 refine ⟨(sq n).1.1,(sq n).1.2,(sq n).2,(hin n).1,(hin n).2,?_⟩
 have eB:∀ l,rowsBytes (bytesRows l)=l:=rowsBytes_bytesRows
 refine sb 3 [.tm 6] func83 ?_
 refine loopZ (fun k:Nat=>pC 25 [.cref 0 0,.v (vI n),.v (vS set),.dead,.dead,.dead,.v (vS []),sd 5 (bytesRows (sq k).2),.v (vI k)] [some (cur B (sq k).1.1 (sq k).1.2)]) [0,1,2,6,7,8] (fun k=>k≤n) (fun k=>n-k) 0 (by rw [sq0]; rfl) (Nat.zero_le _) ?_
 intro k hk
 have hik:=hin k
 by_cases hc:k<n
 ·have w1:=wrapN hc hn9
  obtain ⟨g1,g2,x1⟩:=hG (sq k).1 hik.1
  have hst:=sqs k
  have hb4:(sq k).2.length+1≤140737488355328:=by omega
  have hg2:(((G (sq k).1).2:Nat):Int)<(set.length:Int):=by omega
  generalize G (sq k).1=y at x1 hst g2 hg2
  generalize hq:sq k=z at *
  by_cases h1:z.2=[]
  ·rw [h1] at hst ⊢
   clear h1
   refine Z ?_
   refine callc x1 ?_
   exact ⟨k+1,by rw [hst,hsn]; rfl,hc,by omega⟩
  ·have hne:bytesRows z.2≠[]:=by
    intro e; apply h1
    cases hz:z.2 with
    | nil=>rfl
    | cons a b=>rw [hz] at e; simp [bytesRows] at e
   have hsd:=sd_own (e:=5) hne
   clear h1 hne
   refine X5 hsd hc hs9 w1 hb4 ?_
   refine callc x1 ?_
   exact ⟨by omega,k+1,by rw [hst,hsn]; rfl,hc,by omega⟩
 ·have he:k=n:=by omega
  subst he
  generalize sq k=z at *
  by_cases h1:z.2=[]
  ·rw [h1]
   clear h1
   refine Z ?_
   exact fzc
  ·have hne:bytesRows z.2≠[]:=by
    intro e; apply h1
    cases hz:z.2 with
    | nil=>rfl
    | cons a b=>rw [hz] at e; simp [bytesRows] at e
   have hsd:=sd_own (e:=5) hne
   rw [hsd]
   clear h1 hne
   refine Z ?_
   exact fzc
def gs81_1:List (Option (List Nat)):=[some [41,43,44,45,46],some [40,43,44,45,46],some [43,44,45,46],some [40,41,42,44,45],some [40,41,42,43],some [40,41,42,43],some [40,41,42],none,none]
attribute [go_sem] gs81_1
def gs81_2:List (Option (List Nat)):=[some [55,56,57,58,59,60,61,62,63,1000],some [54,56,57,58,59,60,61,62,63,1000],some [54,55,57,60,61,62,1000],some [54,55,56,60,61,62,1000],some [54,55,60,61,62,1000],some [54,55,60,61,62,1000],some [54,55,56,57,58,59,1000],some [54,55,56,57,58,59,2000],some [54,55,56,57,58,59,1000],some [54,55,1000],none,none]
attribute [go_sem] gs81_2
def gs81_0:List (Option (List Nat)):=[some [17,19,20,21,22,23,25,26,27,1000],some [16,19,20,21,22,23,25,26,27,1000],some [19,20,21,22,23,25,26,27,1000],some [16,17,18,25,26,27,1000],some [16,17,18,25,26,27,2000],some [16,17,18,25,26,27,1000],some [16,17,18,25,26,27,1000],some [16,17,18,25,26,27,1000],some [25,26,27,1000],some [16,17,18,19,20,21,22,23,24,26,1000],some [16,17,18,19,20,21,22,23,24,25,1000],some [16,17,18,19,20,21,22,23,24,1000],none,none]
attribute [go_sem] gs81_0
attribute [local go_sem] bytesRows_len ev_fz1 Env.frz frzB sdB_nil List.length_set
theorem drawnc {P:Program} {S:Nat→Bool} {E Ein Eout:Env} {dst:Option Tmp} {Q:Nat→D→Option (Nat × List D)→Prop} {f:FuncId} {k:Env→Option (List W)} {t u:Nat} {d:D} {ls:List D} {q:Prop} (h:Sem P f Ein Eout) (x:q) (hk:k Eout=some [.fz [],.ca [] [] [(u,0,ls)],.rw t d]:=by exact retWci (by rfl) (by rfl) (by rfl) (by rfl) (by rfl) (by rfl) (by rfl)) (hd:dst=some t:=by rfl) (hS:S t=true:=by rfl) (ho:(E.sl.getD t .dead).anyOwn=false:=by rfl) (hl:LentF S E u ls:=by exact ⟨rfl,rfl,rfl,rfl,rfl⟩)
  (e:Q t d (some (u,ls))=q:=by simp only [go_sem,Nat.reduceLeDiff,Nat.reduceLT,Nat.reduceAdd,Nat.reduceSub,Nat.reduceMul,Nat.reduceBEq,Nat.reduceBNe,Nat.reduceEqDiff,reduceCtorEq,reduceIte,Int.reduceLT,Int.reduceLE,Int.reduceAdd,Int.reduceSub,Int.reduceNeg,Int.reduceEq,Int.reduceBEq,Int.reduceBNe,Int.reduceToNat,Nat.reduceDiv,Nat.reduceMod, *]; rfl):OutF P S E dst Q (.call f Ein k) :=
 of_lent h hk hd hS ho hl (e▸x)
theorem rows_set {s:List UInt8} {k:Nat} {n:Nat} (hn:n<256):(bytesRows s).set k [.v (.int .u8 (n:Int))]=bytesRows (s.set k (UInt8.ofNat n)):=by
 unfold bytesRows
 rw [List.map_set]
 have:(UInt8.ofNat n).toNat=n:=by simp; omega
 rw [this]
theorem u8_in (m:Int):∃ n:Nat,n<256∧IntKind.u8.wrap m=n:=by
 have h:0≤IntKind.u8.wrap m∧IntKind.u8.wrap m<256:=by
  unfold IntKind.wrap
  simp [IntKind.signed,IntKind.bits]
  omega
 exact ⟨(IntKind.u8.wrap m).toNat,by omega,by omega⟩
theorem c81 (B:List UInt8) (hB:B.length≤9223372036854775807) (i:Nat) (hi:i≤B.length) (h:Int) (s:List UInt8) (hs:s.length≤200):∃ (i':Nat) (h':Int) (r:List UInt8),i'≤B.length∧r.length≤s.length+1∧Sem prog 81 ⟨[.cref 0 0,.v (vS s)],[some (cur B i h),none]⟩ ⟨[.dead,.dead,.v (vS r)],[some (cur B i' h'),none]⟩:=by
 obtain ⟨i1,h1,x,q1,⟨q2,q3⟩,x1⟩:=c80 B hB i hi h ((s.length:Int)+1) (by omega)
 obtain ⟨k,rfl⟩:∃ k:Nat,x=k:=⟨x.toNat,by omega⟩
 have hk:k≤s.length:=by omega
 obtain ⟨i2,h2,y,p1,⟨p2,p3⟩,x2⟩:=c80 B hB i1 q1 h1 4 (by omega)
 have hs9:s.length≤9223372036854775807:=by omega
 have w1:IntKind.i64.wrap ((s.length:Int)+1)=(s.length:Int)+1:=wrapI (by omega)
 have hy:y=0∨y=1∨y=2∨y=3:=by omega
 have hk2:k<s.length→IntKind.i64.wrap ((k:Int)+1)=((k+1:Nat):Int):=fun hk=>wrapN hk hs9
 clear q2 q3 p2 p3
 have tail:(y=2→¬ k<s.length)→(y=2∨y=3)→∃ (i':Nat) (h':Int) (r:List UInt8),i'≤B.length∧r.length≤s.length+1∧Sem prog 81 ⟨[.cref 0 0,.v (vS s)],[some (cur B i h),none]⟩ ⟨[.dead,.dead,.v (vS r)],[some (cur B i' h'),none]⟩:=by
  intro ht hy
  by_cases hc:k<s.length
  ·have hy3:y=3:=by rcases hy with e | e; exact absurd hc (ht e); exact e
   subst hy3
   obtain ⟨i3,h3,z,r1,⟨r2,r3⟩,x3⟩:=c80 B hB i2 p1 h2 8 (by omega)
   have e1:=bytesRows_getD hc
   obtain ⟨n,hn,en⟩:=u8_in ((@HXor.hXor (BitVec 8) (BitVec 8) (BitVec 8) (@instHXorOfXorOp (BitVec IntKind.u8.bits) (@BitVec.instXorOp IntKind.u8.bits)) (BitVec.ofInt 8 ((s.getD k 0).toNat:Int)) (BitVec.ofInt 8 (IntKind.u8.wrap (1*2 ^ min z.toNat 8)))).toNat:Int)
   have e2:=rows_set (s:=s) (k:=k) hn
   have e3:=rowsBytes_bytesRows (s.set k (UInt8.ofNat n))
   refine ⟨i3,h3,s.set k (UInt8.ofNat n),r1,by simp,?_⟩
   clear ht hy hk2 r3 hi q1 p1 r1
   refine sb 2 [.tm 4] func81 ?_
   refine callc x1 ?_
   refine callc x2 ?_
   refine drZ gs81_2 ?_
   refine drawnc x3 ?_
   exact fzc
  ·have hke:k=s.length:=by omega
   refine ⟨i2,h2,s++[48],p1,by simp,?_⟩
   have hl2:s.length+1≤9223372036854775807:=by omega
   rcases hy with rfl | rfl
   ·clear ht hk2
    refine sb 2 [.tm 4] func81 ?_
    refine callc x1 ?_
    refine callc x2 ?_
    exact fzc
   ·clear ht hk2
    refine sb 2 [.tm 4] func81 ?_
    refine callc x1 ?_
    refine callc x2 ?_
    exact fzc
 rcases hy with rfl | rfl | rfl | rfl
 ·clear tail
  obtain ⟨i3,h3,z,r1,⟨r2,r3⟩,x3⟩:=c145 B hB i2 p1 h2
  obtain ⟨n,rfl⟩:∃ n:Nat,z=n:=⟨z.toNat,by omega⟩
  have hn:n<256:=by omega
  have w2:IntKind.u8.wrap (n:Int)=(n:Int):=w8 (by omega)
  have e1:=rows1' n hn
  have e2:=bytes1' n hn
  refine ⟨i3,h3,s.take k++[UInt8.ofNat n]++s.drop k,r1,by simp; omega,?_⟩
  have l1:(s.take k).length+1≤9223372036854775807:=by simp; omega
  clear hk2 r2 r3
  refine sb 2 [.tm 4] func81 ?_
  refine callc x1 ?_
  refine callc x2 ?_
  refine drZ gs81_0 ?_
  refine drawnc x3 ?_
  refine sid ?_
  exact fzc
 ·clear tail
  refine ⟨i2,h2,s.take k,p1,by simp; omega,?_⟩
  clear hk2
  refine sb 2 [.tm 4] func81 ?_
  refine callc x1 ?_
  refine callc x2 ?_
  exact fzc
 ·by_cases hc:k<s.length
  ·clear tail
   have w2:=hk2 hc
   refine ⟨i2,h2,s.take k++s.drop (k+1),p1,by simp; omega,?_⟩
   clear hk2
   refine sb 2 [.tm 4] func81 ?_
   refine callc x1 ?_
   refine callc x2 ?_
   refine drZ gs81_1 ?_
   refine sid ?_
   refine sid ?_
   exact fzc
  ·exact tail (fun _=>hc) (.inl rfl)
 ·exact tail (fun e=>by cases e) (.inr rfl)
attribute [local go_sem] bytesRows_len ev_fz1 Env.frz frzB sdB_nil List.length_set
theorem c144 (B:List UInt8) (hB:B.length≤9223372036854775807) (i:Nat) (hi:i≤B.length) (h:Int):∃ (i':Nat) (h':Int) (f:Fld),i'≤B.length∧(f.1.length≤100∧f.2.length≤100)∧Sem prog 144 ⟨[.cref 0 0],[some (cur B i h)]⟩ ⟨[.dead,.agg [.v (vS f.1),.v (vS f.2)]],[some (cur B i' h')]⟩:=by
 obtain ⟨i1,h1,x,q1,⟨q2,q3⟩,x1⟩:=c80 B hB i hi h 12 (by omega)
 have hx:x=0∨x=1∨x=2∨x=3∨x=4∨5≤x:=by omega
 clear q2 q3 hi
 rcases hx with rfl | rfl | rfl | rfl | rfl | h5
 ·obtain ⟨i2,h2,y,p1,⟨p2,p3⟩,x2⟩:=c80 B hB i1 q1 h1 60 (by omega)
  obtain ⟨n,rfl⟩:∃ n:Nat,y=n:=⟨y.toNat,by omega⟩
  have x3:=c102 n (by omega)
  have hl:=decDigits_len n
  refine ⟨i2,h2,([67,97,99,104,101,45,67,111,110,116,114,111,108],[109,97,120,45,97,103,101,61]++Lib.decDigits n),p1,⟨by show (13:Nat)≤100; decide,by simp; omega⟩,?_⟩
  have hl2:(Lib.decDigits n).length≤100:=by omega
  clear p2 p3 p1 q1 hl
  refine sb 1 [.ce 2 105] func144 ?_
  refine callc x1 ?_
  refine callc x2 ?_
  refine call0 x3 ?_
  exact sid fzc
 ·obtain ⟨i2,h2,s,p1,p2,x2⟩:=c83 B hB [97,98,99] (by decide) (by decide) i1 q1 h1 1 (by omega)
  refine ⟨i2,h2,([69,84,97,103],[34]++s++[34]),p1,⟨by show (4:Nat)≤100; decide,by simp; omega⟩,?_⟩
  clear p1 q1
  refine sb 1 [.ce 2 105] func144 ?_
  refine callc x1 ?_
  refine callc x2 ?_
  exact fzc
 ·refine ⟨i1,h1,([86,97,114,121],[65,99,99,101,112,116]),q1,⟨by decide,by decide⟩,?_⟩
  clear q1
  refine sb 1 [.ce 2 105] func144 ?_
  refine callc x1 ?_
  exact fzc
 ·obtain ⟨i2,h2,s,p1,p2,x2⟩:=c83 B hB [97,98] (by decide) (by decide) i1 q1 h1 1 (by omega)
  refine ⟨i2,h2,([65,99,99,101,112,116],s),p1,⟨by show (6:Nat)≤100; decide,by show s.length≤100; omega⟩,?_⟩
  clear p1 q1
  refine sb 1 [.ce 2 105] func144 ?_
  refine callc x1 ?_
  refine callc x2 ?_
  exact fzc
 ·refine ⟨i1,h1,([67,111,110,110,101,99,116,105,111,110],[99,108,111,115,101]),q1,⟨by decide,by decide⟩,?_⟩
  clear q1
  refine sb 1 [.ce 2 105] func144 ?_
  refine callc x1 ?_
  exact fzc
 ·obtain ⟨i2,h2,y,p1,⟨p2,p3⟩,x2⟩:=c80 B hB i1 q1 h1 3 (by omega)
  obtain ⟨n,rfl⟩:∃ n:Nat,y=n:=⟨y.toNat,by omega⟩
  have w1:IntKind.i64.wrap (1+(n:Int))=((1+n:Nat):Int):=by rw [wrapI (by omega)]; omega
  obtain ⟨i3,h3,s,r1,r2,x3⟩:=c83 B hB [97,66,45] (by decide) (by decide) i2 p1 h2 (1+n) (by omega)
  obtain ⟨i4,h4,z,s1,⟨s2,s3⟩,x4⟩:=c80 B hB i3 r1 h3 5 (by omega)
  obtain ⟨m,rfl⟩:∃ n:Nat,z=n:=⟨z.toNat,by omega⟩
  obtain ⟨i5,h5',t,t1,t2,x5⟩:=c83 B hB [97,98,49,61] (by decide) (by decide) i4 s1 h4 m (by omega)
  have e0:(x==0)=false:=by simp; omega
  have e1:(x==1)=false:=by simp; omega
  have e2:(x==2)=false:=by simp; omega
  have e3:(x==3)=false:=by simp; omega
  have e4:(x==4)=false:=by simp; omega
  refine ⟨i5,h5',(s,t),t1,⟨by show s.length≤100; omega,by show t.length≤100; omega⟩,?_⟩
  clear h5 q1 p1 p2 p3 r1 r2 s1 s2 s3 t1 t2
  refine sb 1 [.ce 2 105] func144 ?_
  refine callc x1 ?_
  refine callc x2 ?_
  refine callc x3 ?_
  refine callc x4 ?_
  refine callc x5 ?_
  exact fzc
theorem c122a (n:Int):∃ r:List UInt8,r.length≤40∧Q1 122 (.v (vI n)) (.v (vS r)):=by
 by_cases h1:n=200
 ·subst h1; exact ⟨[79,75],by decide,by refine sb 1 [.tm 2] func122 ?_; exact fz⟩
 have e1:(n==200)=false:=by simpa using h1
 by_cases h2:n=304
 ·subst h2; exact ⟨[78,111,116,32,77,111,100,105,102,105,101,100],by decide,by refine sb 1 [.tm 2] func122 ?_; exact fz⟩
 have e2:(n==304)=false:=by simpa using h2
 by_cases h3:n=400
 ·subst h3; exact ⟨[66,97,100,32,82,101,113,117,101,115,116],by decide,by refine sb 1 [.tm 2] func122 ?_; exact fz⟩
 have e3:(n==400)=false:=by simpa using h3
 by_cases h4:n=413
 ·subst h4; exact ⟨[67,111,110,116,101,110,116,32,84,111,111,32,76,97,114,103,101],by decide,by refine sb 1 [.tm 2] func122 ?_; exact fz⟩
 have e4:(n==413)=false:=by simpa using h4
 by_cases h5:n=431
 ·subst h5; exact ⟨[82,101,113,117,101,115,116,32,72,101,97,100,101,114,32,70,105,101,108,100,115,32,84,111,111,32,76,97,114,103,101],by decide,by refine sb 1 [.tm 2] func122 ?_; exact fz⟩
 have e5:(n==431)=false:=by simpa using h5
 by_cases h6:n=502
 ·subst h6; exact ⟨[66,97,100,32,71,97,116,101,119,97,121],by decide,by refine sb 1 [.tm 2] func122 ?_; exact fz⟩
 have e6:(n==502)=false:=by simpa using h6
 by_cases h7:n=503
 ·subst h7; exact ⟨[83,101,114,118,105,99,101,32,85,110,97,118,97,105,108,97,98,108,101],by decide,by refine sb 1 [.tm 2] func122 ?_; exact fz⟩
 have e7:(n==503)=false:=by simpa using h7
 by_cases h8:n=504
 ·subst h8; exact ⟨[71,97,116,101,119,97,121,32,84,105,109,101,111,117,116],by decide,by refine sb 1 [.tm 2] func122 ?_; exact fz⟩
 have e8:(n==504)=false:=by simpa using h8
 clear h1 h2 h3 h4 h5 h6 h7 h8
 exact ⟨[],by decide,by refine sb 1 [.tm 2] func122 ?_; exact fz⟩
def gs78_0:List (Option (List Nat)):=[some [13,14,15,1000],some [13,14,15,1000],some [11,12,1000],some [11,12,2000],some [11,12,1000],none,none,none]
attribute [go_sem] gs78_0
attribute [local go_sem] bytesRows_len ev_fz1 Env.frz frzB sdB_nil List.length_set
structure Dr where
 i:Nat
 h:Int
 me:List UInt8
 ta:List UInt8
 st:Int
 re:List UInt8
 ba:Bool
 bo:List UInt8
def Dr.ok (B:List UInt8) (n:Nat) (o:Dr):Prop:=o.i≤B.length∧o.me.length≤n∧o.ta.length≤n∧o.re.length≤n∧o.bo.length≤n
def okF (n:Nat) (l:List Fld):Prop:=l.length≤n∧∀ f,f∈l→f.1.length≤n∧f.2.length≤n
def mets:List (List UInt8):=[[71,69,84],[72,69,65,68],[80,79,83,84],[68,69,76,69,84,69],[120]]
theorem c78 (B:List UInt8) (hB:B.length≤9223372036854775807) (i:Nat) (hi:i≤B.length) (h:Int):∃ (o:Dr) (l:List Fld),o.ok B 100∧okF 100 l∧Sem prog 78 ⟨[.cref 0 0],[some (cur B i h)]⟩ ⟨[.dead,mD o.me o.ta o.st o.re o.ba (sd 105 (rowsF l)) o.bo],[some (cur B o.i o.h)]⟩:=by
 obtain ⟨i0,h0,x,q1,⟨q2,q3⟩,x1⟩:=c80 B hB i hi h 5 (by omega)
 obtain ⟨K,rfl⟩:∃ n:Nat,x=n:=⟨x.toNat,by omega⟩
 have hK:K≤5:=by omega
 have hF:∀ s:Nat × Int,∃ q:(Nat × Int) × Fld,s.1≤B.length→(q.1.1≤B.length∧(q.2.1.length≤100∧q.2.2.length≤100)∧Sem prog 144 ⟨[.cref 0 0],[some (cur B s.1 s.2)]⟩ ⟨[.dead,.agg [.v (vS q.2.1),.v (vS q.2.2)]],[some (cur B q.1.1 q.1.2)]⟩):=by
  intro s
  by_cases hs1:s.1≤B.length
  ·obtain ⟨i',h',f,q1,q2,x1⟩:=c144 B hB s.1 hs1 s.2
   exact ⟨((i',h'),f),fun _=>⟨q1,q2,x1⟩⟩
  ·exact ⟨((0,0),([],[])),fun k=>absurd k hs1⟩
 obtain ⟨G,hG⟩:=Classical.axiomOfChoice hF
 clear hF
 let sq:Nat→(Nat × Int) × List Fld:=fun k=>Nat.rec ((i0,h0),[]) (fun _ q=>((G q.1).1,q.2++[(G q.1).2])) k
 have sq0:sq 0=((i0,h0),[]):=rfl
 have sqs:∀ k,sq (k+1)=((G (sq k).1).1,(sq k).2++[(G (sq k).1).2]):=fun k=>rfl
 generalize sq=sq at sq0 sqs
 have hin:∀ k,(sq k).1.1≤B.length∧(sq k).2.length=k∧∀ f,f∈(sq k).2→f.1.length≤100∧f.2.length≤100:=by
  intro k
  induction k with
  | zero=>rw [sq0]; exact ⟨q1,rfl,fun f h=>by simp at h⟩
  | succ k ih =>
   rw [sqs]
   refine ⟨(hG _ ih.1).1,by simp [ih.2.1],fun f hf => ?_⟩
   rcases List.mem_append.1 hf with hf | hf
   ·exact ih.2.2 f hf
   ·rw [List.mem_singleton.1 hf]; exact (hG _ ih.1).2.1
 obtain ⟨ia,ha,y1,a1,⟨a2,a3⟩,xa⟩:=c80 B hB (sq K).1.1 (hin K).1 (sq K).1.2 20 (by omega)
 obtain ⟨n1,rfl⟩:∃ n:Nat,y1=n:=⟨y1.toNat,by omega⟩
 obtain ⟨ib,hb,bo,b1,b2,xb⟩:=c83 B hB [97,98,99,13,10,48] (by decide) (by decide) ia a1 ha n1 (by omega)
 obtain ⟨ic,hc,rq,c1,xc⟩:=c79 B hB ib b1 hb 2 (by omega)
 obtain ⟨id,hd,y2,d1,⟨d2,d3⟩,xd⟩:=c80 B hB ic c1 hc 5 (by omega)
 obtain ⟨ie,he,y3,e1,⟨e2,e3⟩,xe⟩:=c80 B hB id d1 hd 5 (by omega)
 obtain ⟨n3,rfl⟩:∃ n:Nat,y3=n:=⟨y3.toNat,by omega⟩
 obtain ⟨i9,h9,t,f1,f2,xf⟩:=c83 B hB [97,98,63] (by decide) (by decide) ie e1 he n3 (by omega)
 have hy:y2=0∨y2=1∨y2=2∨y2=3∨y2=4:=by omega
 obtain ⟨ig,hg,st,g1,g2,xg⟩:=c82 B hB ic c1 hc [200,200,204,304,404,599] (by decide) (by decide)
 obtain ⟨re,r1,xr⟩:=c122a st
 have xk:=c101 st
 obtain ⟨ij,hj,be,j1,xj⟩:=c79 B hB ig g1 hg 5 (by omega)
 have hme:(mets.getD y2.toNat []).length≤100:=by rcases hy with rfl | rfl | rfl | rfl | rfl<;>decide
 obtain ⟨o,ho,o1,o2,o3,o4⟩:∃ o:Dr,o.ok B 100∧Hid (rq=true→o=⟨i9,h9,mets.getD y2.toNat [],[104,116,116,112,58,47,47,97,46,101,120,97,109,112,108,101,47]++t,0,[],false,bo⟩)∧Hid (rq=false→bareB st=true→o=⟨ig,hg,[],[],st,re,true,[]⟩)∧Hid (rq=false→bareB st=false→be=true→o=⟨ij,hj,[],[],st,re,true,[]⟩)∧Hid (rq=false→bareB st=false→be=false→o=⟨ij,hj,[],[],st,re,false,bo⟩):=by
  have z0:([]:List UInt8).length≤100:=by decide
  have z1:re.length≤100:=by omega
  have z2:bo.length≤100:=by omega
  cases rq
  ·cases bareB st
   ·cases be
    ·exact ⟨_,⟨j1,z0,z0,z1,z2⟩,fun k=>(by cases k),fun _ k=>(by cases k),fun _ _ k=>(by cases k),fun _ _ _=>rfl⟩
    ·exact ⟨_,⟨j1,z0,z0,z1,z0⟩,fun k=>(by cases k),fun _ k=>(by cases k),fun _ _ _=>rfl,fun _ _ k=>(by cases k)⟩
   ·exact ⟨_,⟨g1,z0,z0,z1,z0⟩,fun k=>(by cases k),fun _ _=>rfl,fun _ k=>(by cases k),fun _ k=>(by cases k)⟩
  ·exact ⟨_,⟨f1,hme,by show ([104,116,116,112,58,47,47,97,46,101,120,97,109,112,108,101,47]++t).length≤100; simp; omega,z0,z2⟩,fun _=>rfl,fun k=>(by cases k),fun k=>(by cases k),fun k=>(by cases k)⟩
 have hinK:=hin K
 have hsn:∀ (f:Fld) l,sd 105 (rowsF (l++[f])) = .own 105 (rowsF l++[[.v (vS f.1),.v (vS f.2)]]):=fun f l=>by
  have:rowsF (l++[f])=rowsF l++[[.v (vS f.1),.v (vS f.2)]]:=by simp [rowsF,rowF]
  rw [this]; exact sd_own (by simp)
 have hs0:sd 105 (rowsF []) = .nil:=rfl
 have ht9:17+t.length≤9223372036854775807:=by omega
 refine ⟨o,(sq K).2,ho,⟨by omega,hinK.2.2⟩,?_⟩
 clear hme d2 d3 e2 e3 a2 a3 hi q1 q2 q3 a1 b1 c1 d1 e1 f1 g1 g2 r1 j1 ho
 refine sb 1 [.ce 2 25] func78 ?_
 refine callc x1 ?_
 refine loopZ (fun k:Nat=>pC 56 [.cref 0 0,.dead,.cref 2 0,.cref 3 0,.v (vI k)] [some (cur B (sq (K-k)).1.1 (sq (K-k)).1.2),none,some [.v (vS []),.v (vS []),.v (vI 0),.v (vS []),.v (vB false),.nil,.v (vS [])],some [.v (vS []),.v (vS []),.v (vI 0),.v (vS []),.v (vB false),sd 105 (rowsF (sq (K-k)).2),.v (vS [])]]) [0,2,3,4] (fun k=>k≤K) (fun k=>k) K (by rw [Nat.sub_self,sq0]; rfl) (Nat.le_refl _) ?_
 intro k hk
 have hik:=hin (K-k)
 clear x1
 by_cases hc0:0<k
 ·clear o1 o2 o3 o4 xa xb xc xd xe xf hy xg xr xk xj hinK ht9 hin
  obtain ⟨m,rfl⟩:∃ m,k=m+1:=⟨k-1,by omega⟩
  have w1:IntKind.i64.wrap (((m+1:Nat):Int)-1)=(m:Int):=by rw [wrapI (by omega)]; omega
  have hk1:(0:Int)<((m+1:Nat):Int):=by omega
  have hst:=sqs (K-(m+1))
  rw [show K-(m+1)+1=K-m by omega] at hst
  obtain ⟨g1,g2,x2⟩:=hG (sq (K-(m+1))).1 hik.1
  clear sqs hG
  have hb4:(sq (K-(m+1))).2.length+1≤1000:=by omega
  generalize G (sq (K-(m+1))).1=y at x2 hst g2
  generalize sq (K-(m+1))=z at *
  clear g1 hik
  by_cases h1:z.2=[]
  ·rw [h1] at hst ⊢
   clear h1 hb4
   refine Z ?_
   refine drZ gs78_0 ?_
   refine drawnc x2 ?_
   exact ⟨m,by rw [hst,hsn]; rfl,by omega,by omega⟩
  ·have hne:rowsF z.2≠[]:=by
    intro e; apply h1
    cases hz:z.2 with
    | nil=>rfl
    | cons a b=>rw [hz] at e; simp [rowsF] at e
   have hsd:=sd_own (e:=105) hne
   have hl:=rowsF_length z.2
   clear h1 hne
   refine Z ?_
   refine drZ gs78_0 ?_
   refine drawnc x2 ?_
   exact ⟨by omega,m,by rw [hst,hsn]; rfl,by omega,by omega⟩
 ·have he:k=0:=by omega
  subst he
  rw [Nat.sub_zero]
  clear sqs hG hc0 hk hik hin sq0
  have hlz:(sq K).2.length≤9223372036854775807:=by omega
  clear hinK
  generalize sq K=z at *
  by_cases h1:z.2=[]
  ·rw [h1]
   clear h1 hlz hsn
   refine Z ?_
   refine callc xa ?_
   refine callc xb ?_
   refine callc xc ?_
   refine bc rq (fun e => ?_) fun e => ?_
   ·clear xd xe xf hy o1 ht9
    refine X1 e ?_
    refine callc xg ?_
    refine call0 xr ?_
    refine bc (bareB st) (fun e2 => ?_) fun e2 => ?_
    ·refine call0 xk ?_
     refine callc xj ?_
     refine bc be (fun e3 => ?_) fun e3 => ?_
     ·refine X1 e3 ?_
      rw [show o=_ from o4 e e2 e3]; exact fzc
     ·refine X1 e3 ?_
      rw [show o=_ from o3 e e2 e3]; exact fzc
    ·refine call0 xk ?_
     rw [show o=_ from o2 e e2]; exact fzc
   ·clear xg xr xk xj o2 o3 o4
    refine X1 e ?_
    rcases hy with rfl | rfl | rfl | rfl | rfl
    all_goals
     refine callc xd ?_
     refine callc xe ?_
     refine callc xf ?_
     refine sid ?_
     rw [show o=_ from o1 e]; exact fzc
  ·have hne:rowsF z.2≠[]:=by
    intro e; apply h1
    cases hz:z.2 with
    | nil=>rfl
    | cons a b=>rw [hz] at e; simp [rowsF] at e
   have hsd:=sd_own (e:=105) hne
   clear h1 hne hsn hs0
   refine Z ?_
   refine callc xa ?_
   refine callc xb ?_
   refine callc xc ?_
   refine bc rq (fun e => ?_) fun e => ?_
   ·clear xd xe xf hy o1 ht9
    refine X1 e ?_
    refine callc xg ?_
    refine call0 xr ?_
    refine bc (bareB st) (fun e2 => ?_) fun e2 => ?_
    ·refine call0 xk ?_
     refine callc xj ?_
     refine bc be (fun e3 => ?_) fun e3 => ?_
     ·refine X1 e3 ?_
      rw [show o=_ from o4 e e2 e3]; rw [hsd]; exact fzc
     ·refine X1 e3 ?_
      rw [show o=_ from o3 e e2 e3]; rw [hsd]; exact fzc
    ·refine call0 xk ?_
     rw [show o=_ from o2 e e2]; rw [hsd]; exact fzc
   ·clear xg xr xk xj o2 o3 o4
    refine X1 e ?_
    rcases hy with rfl | rfl | rfl | rfl | rfl
    all_goals
     refine callc xd ?_
     refine callc xe ?_
     refine callc xf ?_
     refine sid ?_
     rw [show o=_ from o1 e]; rw [hsd]; exact fzc
attribute [local go_sem] bytesRows_len ev_fz1 Env.frz frzB sdB_nil List.length_set
theorem okF.add {n:Nat} {l:List Fld} (h:okF n l) (hn:l.length+1≤n) {f:Fld} (h1:f.1.length≤n) (h2:f.2.length≤n):okF n (l++[f]):=by
 refine ⟨by simp; omega,fun g hg => ?_⟩
 rcases List.mem_append.1 hg with hg | hg
 ·exact h.2 g hg
 ·rw [List.mem_singleton.1 hg]; exact ⟨h1,h2⟩
theorem okF.rep {n:Nat} {l:List Fld} (h:okF n l) (m:Nat) (hn:l.length+m≤n) {f:Fld} (h1:f.1.length≤n) (h2:f.2.length≤n):okF n (l++List.replicate m f):=by
 refine ⟨by simp; omega,fun g hg => ?_⟩
 rcases List.mem_append.1 hg with hg | hg
 ·exact h.2 g hg
 ·rw [(List.mem_replicate.1 hg).2]; exact ⟨h1,h2⟩
theorem okF.le {n m:Nat} {l:List Fld} (h:okF n l) (hm:n≤m):okF m l:=⟨Nat.le_trans h.1 hm,fun f hf=>⟨Nat.le_trans (h.2 f hf).1 hm,Nat.le_trans (h.2 f hf).2 hm⟩⟩
theorem sdF_add (f:Fld) (l:List Fld):sd 105 (rowsF (l++[f])) = .own 105 (rowsF l++[[.v (vS f.1),.v (vS f.2)]]):=by
 have:rowsF (l++[f])=rowsF l++[[.v (vS f.1),.v (vS f.2)]]:=by simp [rowsF,rowF]
 rw [this]; exact sd_own (by simp)
theorem seven (B:List UInt8) (hB:B.length≤9223372036854775807) (i:Nat) (hi:i≤B.length) (h:Int) (l:List Fld) (hl:okF 100 l):∃ (sq:Nat→(Nat × Int) × List Fld),sq 0=((i,h),l)∧∀ k,(sq k).1.1≤B.length∧(sq k).2.length=l.length+k∧(∀ f,f∈(sq k).2→f.1.length≤1000∧f.2.length≤1000) ∧
  ∃ (i2:Nat) (h2:Int) (y:Nat) (v:List UInt8),y<9∧Sem prog 80 ⟨[.cref 0 0,.v (vI 9)],[some (cur B (sq k).1.1 (sq k).1.2),none]⟩ ⟨[.dead,.dead,.v (vI y)],[some (cur B i2 h2),none]⟩ ∧
   Sem prog 83 ⟨[.cref 0 0,.v (vI (180+y:Nat)),.v (vS [118])],[some (cur B i2 h2),none,none]⟩ ⟨[.dead,.dead,.dead,.v (vS v)],[some (cur B (sq (k+1)).1.1 (sq (k+1)).1.2),none,none]⟩∧(sq (k+1)).2=(sq k).2++[([110],v)]:=by
 have hF:∀ s:Nat × Int,∃ q:(Nat × Int) × (Nat × Int) × Nat × List UInt8,s.1≤B.length→(q.2.1.1≤B.length∧q.2.2.2.length≤1000∧q.2.2.1<9∧Sem prog 80 ⟨[.cref 0 0,.v (vI 9)],[some (cur B s.1 s.2),none]⟩ ⟨[.dead,.dead,.v (vI q.2.2.1)],[some (cur B q.1.1 q.1.2),none]⟩ ∧
   Sem prog 83 ⟨[.cref 0 0,.v (vI (180+q.2.2.1:Nat)),.v (vS [118])],[some (cur B q.1.1 q.1.2),none,none]⟩ ⟨[.dead,.dead,.dead,.v (vS q.2.2.2)],[some (cur B q.2.1.1 q.2.1.2),none,none]⟩):=by
  intro s
  by_cases hs1:s.1≤B.length
  ·obtain ⟨i1,h1,x,q1,⟨q2,q3⟩,x1⟩:=c80 B hB s.1 hs1 s.2 9 (by omega)
   obtain ⟨y,rfl⟩:∃ n:Nat,x=n:=⟨x.toNat,by omega⟩
   obtain ⟨i2,h2,v,r1,r2,x2⟩:=c83 B hB [118] (by decide) (by decide) i1 q1 h1 (180+y) (by omega)
   exact ⟨((i1,h1),(i2,h2),y,v),fun _=>⟨r1,by show v.length≤1000; omega,by show y<9; omega,x1,x2⟩⟩
  ·exact ⟨((0,0),(0,0),0,[]),fun k=>absurd k hs1⟩
 obtain ⟨G,hG⟩:=Classical.axiomOfChoice hF
 let sq:Nat→(Nat × Int) × List Fld:=fun k=>Nat.rec ((i,h),l) (fun _ q=>((G q.1).2.1,q.2++[([110],(G q.1).2.2.2)])) k
 have sq0:sq 0=((i,h),l):=rfl
 have sqs:∀ k,sq (k+1)=((G (sq k).1).2.1,(sq k).2++[([110],(G (sq k).1).2.2.2)]):=fun k=>rfl
 generalize sq=sq at sq0 sqs
 have hin:∀ k,(sq k).1.1≤B.length∧(sq k).2.length=l.length+k∧∀ f,f∈(sq k).2→f.1.length≤1000∧f.2.length≤1000:=by
  intro k
  induction k with
  | zero=>rw [sq0]; exact ⟨hi,rfl,(hl.le (by decide)).2⟩
  | succ k ih =>
   obtain ⟨g1,g2,g3,_⟩:=hG _ ih.1
   rw [sqs]
   refine ⟨g1,by simp [ih.2.1]; omega,fun f hf => ?_⟩
   rcases List.mem_append.1 hf with hf | hf
   ·exact ih.2.2 f hf
   ·rw [List.mem_singleton.1 hf]; exact ⟨by show (1:Nat)≤1000; decide,g2⟩
 refine ⟨sq,sq0,fun k => ?_⟩
 obtain ⟨g1,g2,g3,g4,g5⟩:=hG _ (hin k).1
 refine ⟨(hin k).1,(hin k).2.1,(hin k).2.2,(G (sq k).1).1.1,(G (sq k).1).1.2,(G (sq k).1).2.2.1,(G (sq k).1).2.2.2,g3,g4,?_,by rw [sqs]⟩
 rw [sqs]; exact g5
def gs34_0:List (Option (List Nat)):=[some [95,96,97,98,99,100,101,1000],some [95,96,97,98,99,100,101,1000],some [93,94,96,97,98,1000],some [93,94,95,1000],some [93,94,95,2000],some [93,94,95,1000],some [93,94,2000],some [93,94,1000],some [93,94,1000],none,none,none]
attribute [go_sem] gs34_0
attribute [local go_sem] bytesRows_len ev_fz1 Env.frz frzB sdB_nil List.length_set
theorem Hid.out {p:Prop} (h:Hid p):p:=h
theorem c34 (B:List UInt8) (hB:B.length≤9223372036854775807) (i:Nat) (hi:i≤B.length) (h:Int):∃ (o:Dr) (l:List Fld),o.ok B 1000∧okF 1000 l∧Sem prog 34 ⟨[.cref 0 0],[some (cur B i h)]⟩ ⟨[.dead,mD o.me o.ta o.st o.re o.ba (sd 105 (rowsF l)) o.bo],[some (cur B o.i o.h)]⟩:=by
 obtain ⟨⟨ia,ha,me,ta,st,re,ba,bo⟩,l,⟨k1,k2,k3,k4,k5⟩,hl,xa⟩:=c78 B hB i hi h
 have k1:ia≤B.length:=k1
 have k2:me.length≤100:=k2
 have k3:ta.length≤100:=k3
 have k4:re.length≤100:=k4
 have k5:bo.length≤100:=k5
 have xa:Sem prog 78 ⟨[.cref 0 0],[some (cur B i h)]⟩ ⟨[.dead,mD me ta st re ba (sd 105 (rowsF l)) bo],[some (cur B ia ha)]⟩:=xa
 obtain ⟨ib,hb,b,b1,xb⟩:=c79 B hB ia k1 ha 4 (by omega)
 obtain ⟨ic,hc,y,c1,⟨c2,c3⟩,xc⟩:=c80 B hB ib b1 hb 10 (by omega)
 have hy:y=0∨y=1∨y=2∨y=3∨y=4∨y=5∨y=6∨y=7∨y=8∨y=9:=by omega
 obtain ⟨i0,h0,r0,q0,p0,x0⟩:=c81 B hB ic c1 hc me (by omega)
 obtain ⟨i1,h1,r1,q1,p1,x1⟩:=c81 B hB ic c1 hc ta (by omega)
 obtain ⟨i2,h2,r2,q2,p2,x2⟩:=c82 B hB ic c1 hc [0,199,200,600,304,204] (by decide) (by decide)
 obtain ⟨j3,g3,y3,t3,⟨u3,v3⟩,z3⟩:=c80 B hB ic c1 hc 2 (by omega)
 obtain ⟨y3,rfl⟩:∃ n:Nat,y3=n:=⟨y3.toNat,by omega⟩
 obtain ⟨i3,h3,r3,q3,p3,x3⟩:=c83 B hB [114,32] (by decide) (by decide) j3 t3 g3 (40+y3) (by omega)
 have w3:IntKind.i64.wrap (40+(y3:Int))=((40+y3:Nat):Int):=by rw [wrapI (by omega)]; omega
 obtain ⟨i5,h5,r5,q5,p5,x5⟩:=c83 B hB [98,66] (by decide) (by decide) j3 t3 g3 (600+y3) (by omega)
 have w5:IntKind.i64.wrap (600+(y3:Int))=((600+y3:Nat):Int):=by rw [wrapI (by omega)]; omega
 obtain ⟨sq,s0,sqk⟩:=seven B hB ic c1 hc l hl
 have w8:IntKind.i64.wrap (20-(y3:Int))=((20-y3:Nat):Int):=by rw [wrapI (by omega)]; omega
 obtain ⟨i9,h9,r9,q9,p9,x9⟩:=c83 B hB [116] (by decide) (by decide) j3 t3 g3 (193+y3) (by omega)
 have w9:IntKind.i64.wrap (193+(y3:Int))=((193+y3:Nat):Int):=by rw [wrapI (by omega)]; omega
 have hl3:okF 1000 l:=hl.le (by decide)
 have hl4:=hl.1
 have hm:1≤20-y3∧20-y3≤20:=by omega
 have n9:7+r9.length≤9223372036854775807:=by omega
 obtain ⟨o,m,ho,hmF,o10,o0,o1,o2,o3,o4,o5,o6,o7,o8,o9⟩:∃ (o:Dr) (m:List Fld),o.ok B 1000∧okF 1000 m∧Hid (b=false→o=⟨ib,hb,me,ta,st,re,ba,bo⟩∧m=l)∧Hid (b=true→y=0→o=⟨i0,h0,r0,ta,st,re,ba,bo⟩∧m=l)∧Hid (b=true→y=1→o=⟨i1,h1,me,r1,st,re,ba,bo⟩∧m=l)∧Hid (b=true→y=2→o=⟨i2,h2,me,ta,r2,re,ba,bo⟩∧m=l)∧Hid (b=true→y=3→o=⟨i3,h3,me,ta,st,r3,ba,bo⟩∧m=l)∧Hid (b=true→y=4→o=⟨ic,hc,me,ta,st,re,(!ba),bo⟩∧m=l)∧Hid (b=true→y=5→o=⟨i5,h5,me,ta,st,re,ba,r5⟩∧m=l)∧Hid (b=true→y=6→o=⟨ic,hc,me,ta,st,re,ba,bo⟩∧m=(l++[([67,111,110,116,101,110,116,45,108,101,110,103,116,104],[51])]))∧Hid (b=true→y=7→o=⟨(sq 7).1.1,(sq 7).1.2,me,ta,st,re,ba,bo⟩∧m=(sq 7).2)∧Hid (b=true→y=8→o=⟨j3,g3,me,ta,st,re,ba,bo⟩∧m=(l++List.replicate ((20-y3)-l.length) ([112],[113])))∧Hid (b=true→y=9→o=⟨i9,h9,me,([104,116,116,112,58,47,47]++r9),st,re,ba,bo⟩∧m=l):=by
  cases b
  ·exact ⟨⟨ib,hb,me,ta,st,re,ba,bo⟩,l,⟨b1,by show me.length≤1000; omega,by show ta.length≤1000; omega,by show re.length≤1000; omega,by show bo.length≤1000; omega⟩,hl3,fun _=>⟨rfl,rfl⟩,fun e=>(by cases e),fun e=>(by cases e),fun e=>(by cases e),fun e=>(by cases e),fun e=>(by cases e),fun e=>(by cases e),fun e=>(by cases e),fun e=>(by cases e),fun e=>(by cases e),fun e=>(by cases e)⟩
  ·rcases hy with rfl | rfl | rfl | rfl | rfl | rfl | rfl | rfl | rfl | rfl
   ·exact ⟨⟨i0,h0,r0,ta,st,re,ba,bo⟩,l,⟨q0,by show r0.length≤1000; omega,by show ta.length≤1000; omega,by show re.length≤1000; omega,by show bo.length≤1000; omega⟩,hl3,fun e=>(by cases e),fun _ _=>⟨rfl,rfl⟩,fun _ e=>absurd e (by decide),fun _ e=>absurd e (by decide),fun _ e=>absurd e (by decide),fun _ e=>absurd e (by decide),fun _ e=>absurd e (by decide),fun _ e=>absurd e (by decide),fun _ e=>absurd e (by decide),fun _ e=>absurd e (by decide),fun _ e=>absurd e (by decide)⟩
   ·exact ⟨⟨i1,h1,me,r1,st,re,ba,bo⟩,l,⟨q1,by show me.length≤1000; omega,by show r1.length≤1000; omega,by show re.length≤1000; omega,by show bo.length≤1000; omega⟩,hl3,fun e=>(by cases e),fun _ e=>absurd e (by decide),fun _ _=>⟨rfl,rfl⟩,fun _ e=>absurd e (by decide),fun _ e=>absurd e (by decide),fun _ e=>absurd e (by decide),fun _ e=>absurd e (by decide),fun _ e=>absurd e (by decide),fun _ e=>absurd e (by decide),fun _ e=>absurd e (by decide),fun _ e=>absurd e (by decide)⟩
   ·exact ⟨⟨i2,h2,me,ta,r2,re,ba,bo⟩,l,⟨q2,by show me.length≤1000; omega,by show ta.length≤1000; omega,by show re.length≤1000; omega,by show bo.length≤1000; omega⟩,hl3,fun e=>(by cases e),fun _ e=>absurd e (by decide),fun _ e=>absurd e (by decide),fun _ _=>⟨rfl,rfl⟩,fun _ e=>absurd e (by decide),fun _ e=>absurd e (by decide),fun _ e=>absurd e (by decide),fun _ e=>absurd e (by decide),fun _ e=>absurd e (by decide),fun _ e=>absurd e (by decide),fun _ e=>absurd e (by decide)⟩
   ·exact ⟨⟨i3,h3,me,ta,st,r3,ba,bo⟩,l,⟨q3,by show me.length≤1000; omega,by show ta.length≤1000; omega,by show r3.length≤1000; omega,by show bo.length≤1000; omega⟩,hl3,fun e=>(by cases e),fun _ e=>absurd e (by decide),fun _ e=>absurd e (by decide),fun _ e=>absurd e (by decide),fun _ _=>⟨rfl,rfl⟩,fun _ e=>absurd e (by decide),fun _ e=>absurd e (by decide),fun _ e=>absurd e (by decide),fun _ e=>absurd e (by decide),fun _ e=>absurd e (by decide),fun _ e=>absurd e (by decide)⟩
   ·exact ⟨⟨ic,hc,me,ta,st,re,(!ba),bo⟩,l,⟨c1,by show me.length≤1000; omega,by show ta.length≤1000; omega,by show re.length≤1000; omega,by show bo.length≤1000; omega⟩,hl3,fun e=>(by cases e),fun _ e=>absurd e (by decide),fun _ e=>absurd e (by decide),fun _ e=>absurd e (by decide),fun _ e=>absurd e (by decide),fun _ _=>⟨rfl,rfl⟩,fun _ e=>absurd e (by decide),fun _ e=>absurd e (by decide),fun _ e=>absurd e (by decide),fun _ e=>absurd e (by decide),fun _ e=>absurd e (by decide)⟩
   ·exact ⟨⟨i5,h5,me,ta,st,re,ba,r5⟩,l,⟨q5,by show me.length≤1000; omega,by show ta.length≤1000; omega,by show re.length≤1000; omega,by show r5.length≤1000; omega⟩,hl3,fun e=>(by cases e),fun _ e=>absurd e (by decide),fun _ e=>absurd e (by decide),fun _ e=>absurd e (by decide),fun _ e=>absurd e (by decide),fun _ e=>absurd e (by decide),fun _ _=>⟨rfl,rfl⟩,fun _ e=>absurd e (by decide),fun _ e=>absurd e (by decide),fun _ e=>absurd e (by decide),fun _ e=>absurd e (by decide)⟩
   ·exact ⟨⟨ic,hc,me,ta,st,re,ba,bo⟩,(l++[([67,111,110,116,101,110,116,45,108,101,110,103,116,104],[51])]),⟨c1,by show me.length≤1000; omega,by show ta.length≤1000; omega,by show re.length≤1000; omega,by show bo.length≤1000; omega⟩,hl3.add (by omega) (by show (14:Nat)≤1000; decide) (by show (1:Nat)≤1000; decide),fun e=>(by cases e),fun _ e=>absurd e (by decide),fun _ e=>absurd e (by decide),fun _ e=>absurd e (by decide),fun _ e=>absurd e (by decide),fun _ e=>absurd e (by decide),fun _ e=>absurd e (by decide),fun _ _=>⟨rfl,rfl⟩,fun _ e=>absurd e (by decide),fun _ e=>absurd e (by decide),fun _ e=>absurd e (by decide)⟩
   ·exact ⟨⟨(sq 7).1.1,(sq 7).1.2,me,ta,st,re,ba,bo⟩,(sq 7).2,⟨(sqk 7).1,by show me.length≤1000; omega,by show ta.length≤1000; omega,by show re.length≤1000; omega,by show bo.length≤1000; omega⟩,⟨by have:=(sqk 7).2.1; omega,(sqk 7).2.2.1⟩,fun e=>(by cases e),fun _ e=>absurd e (by decide),fun _ e=>absurd e (by decide),fun _ e=>absurd e (by decide),fun _ e=>absurd e (by decide),fun _ e=>absurd e (by decide),fun _ e=>absurd e (by decide),fun _ e=>absurd e (by decide),fun _ _=>⟨rfl,rfl⟩,fun _ e=>absurd e (by decide),fun _ e=>absurd e (by decide)⟩
   ·exact ⟨⟨j3,g3,me,ta,st,re,ba,bo⟩,(l++List.replicate ((20-y3)-l.length) ([112],[113])),⟨t3,by show me.length≤1000; omega,by show ta.length≤1000; omega,by show re.length≤1000; omega,by show bo.length≤1000; omega⟩,hl3.rep _ (by omega) (by show (1:Nat)≤1000; decide) (by show (1:Nat)≤1000; decide),fun e=>(by cases e),fun _ e=>absurd e (by decide),fun _ e=>absurd e (by decide),fun _ e=>absurd e (by decide),fun _ e=>absurd e (by decide),fun _ e=>absurd e (by decide),fun _ e=>absurd e (by decide),fun _ e=>absurd e (by decide),fun _ e=>absurd e (by decide),fun _ _=>⟨rfl,rfl⟩,fun _ e=>absurd e (by decide)⟩
   ·exact ⟨⟨i9,h9,me,([104,116,116,112,58,47,47]++r9),st,re,ba,bo⟩,l,⟨q9,by show me.length≤1000; omega,by show (([104,116,116,112,58,47,47]++r9)).length≤1000; simp; omega,by show re.length≤1000; omega,by show bo.length≤1000; omega⟩,hl3,fun e=>(by cases e),fun _ e=>absurd e (by decide),fun _ e=>absurd e (by decide),fun _ e=>absurd e (by decide),fun _ e=>absurd e (by decide),fun _ e=>absurd e (by decide),fun _ e=>absurd e (by decide),fun _ e=>absurd e (by decide),fun _ e=>absurd e (by decide),fun _ e=>absurd e (by decide),fun _ _=>⟨rfl,rfl⟩⟩
 refine ⟨o,m,ho,hmF,?_⟩
 clear hi k1 b1 c1 c2 c3 q0 p0 q1 p1 q2 p2 t3 u3 v3 q3 p3 q5 p5 q9 p9 hl3 ho hmF
 by_cases h1:l=[]
 ·subst h1
  have hs0:sd 105 (rowsF []) = .nil:=rfl
  refine sb 1 [.ce 2 25] func34 ?_
  refine callc xa ?_
  refine callc xb ?_
  refine bc b (fun e => ?_) fun e => ?_
  ·clear x0 x1 x2 z3 x3 w3 x5 w5 s0 sqk w8 x9 w9 hm n9
   refine X1 e ?_
   rw [show o=_ from (o10 e).1,show m=_ from (o10 e).2]
   exact fzc
  ·refine X1 e ?_
   rcases hy with rfl | rfl | rfl | rfl | rfl | rfl | rfl | rfl | rfl | rfl
   ·clear x1 x2 z3 x3 w3 x5 w5 s0 sqk w8 x9 w9 hm n9 o1 o2 o3 o4 o5 o6 o7 o8 o9 o10
    refine callc xc ?_
    refine callc x0 ?_
    rw [show o=_ from (o0 e rfl).1,show m=_ from (o0 e rfl).2]
    exact fzc
   ·clear x0 x2 z3 x3 w3 x5 w5 s0 sqk w8 x9 w9 hm n9 o0 o2 o3 o4 o5 o6 o7 o8 o9 o10
    refine callc xc ?_
    refine callc x1 ?_
    rw [show o=_ from (o1 e rfl).1,show m=_ from (o1 e rfl).2]
    exact fzc
   ·clear x0 x1 z3 x3 w3 x5 w5 s0 sqk w8 x9 w9 hm n9 o0 o1 o3 o4 o5 o6 o7 o8 o9 o10
    refine callc xc ?_
    refine callc x2 ?_
    rw [show o=_ from (o2 e rfl).1,show m=_ from (o2 e rfl).2]
    exact fzc
   ·clear x0 x1 x2 x5 w5 s0 sqk w8 x9 w9 hm n9 o0 o1 o2 o4 o5 o6 o7 o8 o9 o10
    refine callc xc ?_
    refine callc z3 ?_
    refine callc x3 ?_
    rw [show o=_ from (o3 e rfl).1,show m=_ from (o3 e rfl).2]
    exact fzc
   ·clear x0 x1 x2 z3 x3 w3 x5 w5 s0 sqk w8 x9 w9 hm n9 o0 o1 o2 o3 o5 o6 o7 o8 o9 o10
    refine callc xc ?_
    rw [show o=_ from (o4 e rfl).1,show m=_ from (o4 e rfl).2]
    exact fzc
   ·clear x0 x1 x2 x3 w3 s0 sqk w8 x9 w9 hm n9 o0 o1 o2 o3 o4 o6 o7 o8 o9 o10
    refine callc xc ?_
    refine callc z3 ?_
    refine callc x5 ?_
    rw [show o=_ from (o5 e rfl).1,show m=_ from (o5 e rfl).2]
    exact fzc
   ·clear x0 x1 x2 z3 x3 w3 x5 w5 s0 sqk w8 x9 w9 hm n9 o0 o1 o2 o3 o4 o5 o7 o8 o9 o10
    refine callc xc ?_
    rw [show o=_ from (o6 e rfl).1,show m=_ from (o6 e rfl).2,sdF_add]
    exact fzc
   ·clear x0 x1 x2 z3 x3 w3 x5 w5 w8 x9 w9 hm n9 o0 o1 o2 o3 o4 o5 o6 o8 o9 o10
    refine callc xc ?_
    have sK:∀ k,(sq k).2.length=List.length (α:=Fld) []+k:=fun k=>(sqk k).2.1
    refine loopZ (fun k:Nat=>pC 105 [.cref 0 0,.dead,.cref 2 0,.cref 3 0,.dead,.v (vI k)] [some (cur B (sq k).1.1 (sq k).1.2),none,some [.v (vS []),.v (vS []),.v (vI 0),.v (vS []),.v (vB false),.nil,.v (vS [])],some [.v (vS me),.v (vS ta),.v (vI st),.v (vS re),.v (vB ba),sd 105 (rowsF (sq k).2),.v (vS bo)]]) [0,2,3,5] (fun k=>k≤7) (fun k=>7-k) 0 (by rw [s0]; rfl) (Nat.zero_le _) ?_
    intro k hk
    by_cases hc:k<7
    ·clear o7
     obtain ⟨_,t2,_,i2,h2,y,v,t4,t5,t6,t7⟩:=sqk k
     have w1:=wrapN hc (by decide)
     have hc1:(k:Int)<7:=by omega
     have w2:IntKind.i64.wrap (180+(y:Int))=((180+y:Nat):Int):=by rw [wrapI (by omega)]; omega
     have hb:(sq k).2.length+1≤1000:=by omega
     clear sqk sK s0 t2
     generalize hz:sq (k+1)=z at *
     generalize sq k=w at *
     by_cases h1:w.2=[]
     ·rw [h1] at t7 ⊢
      clear h1 hb
      have hs1:sd 105 (rowsF []) = .nil:=rfl
      refine Z ?_
      refine drZ gs34_0 ?_
      refine drawnc t5 ?_
      refine drawnc t6 ?_
      exact ⟨k+1,by rw [hz,t7,sdF_add]; rfl,hc,by omega⟩
     ·have hsd:=sd_own (e:=105) (rowsF_ne h1)
      have hln:=rowsF_length w.2
      clear h1
      refine Z ?_
      refine drZ gs34_0 ?_
      refine drawnc t5 ?_
      refine drawnc t6 ?_
      exact ⟨by omega,k+1,by rw [hz,t7,sdF_add]; rfl,hc,by omega⟩
    ·have hk7:k=7:=by omega
     subst hk7
     have hsd2:=sd_own (e:=105) (rowsF_ne (l:=(sq 7).2) (fun e=>by have:=sK 7; rw [e] at this; simp at this))
     clear sK sqk s0
     refine Z ?_
     rw [show o=_ from (o7 e rfl).1,show m=_ from (o7 e rfl).2,hsd2]
     exact fzc
   ·clear x0 x1 x2 x3 w3 x5 w5 s0 sqk x9 w9 n9 o0 o1 o2 o3 o4 o5 o6 o7 o9 o10
    refine callc xc ?_
    refine callc z3 ?_
    have hF:∀ j,(List.replicate (j+1) (([112],[113]):Fld))=(List.replicate j (([112],[113]):Fld))++[([112],[113])]:=fun j=>by rw [List.replicate_succ']
    have hG:∀ j,(List.replicate j (([112],[113]):Fld)).length=j:=fun j=>by simp
    refine loopZ (fun j:Nat=>pC 105 [.cref 0 0,.dead,.cref 2 0,.cref 3 0,.v (vI (20-y3:Nat))] [some (cur B j3 g3),none,some [.v (vS []),.v (vS []),.v (vI 0),.v (vS []),.v (vB false),.nil,.v (vS [])],some [.v (vS me),.v (vS ta),.v (vI st),.v (vS re),.v (vB ba),sd 105 (rowsF (List.replicate j (([112],[113]):Fld))),.v (vS bo)]]) [0,2,3,4] (fun j=>j≤(20-y3)) (fun j=>(20-y3)-j) 0 (by rw [List.replicate_zero]; rfl) (Nat.zero_le _) ?_
    intro j hj
    have hj1:=hF j
    have hj2:=hG j
    by_cases hc:(List.replicate j (([112],[113]):Fld)).length<20-y3
    ·clear o8 hF hG
     generalize (List.replicate j (([112],[113]):Fld))=w at *
     have hw9:w.length+1≤1000:=by omega
     have hw8:w.length≤9223372036854775807:=by omega
     replace hj2:Hid (w.length=j):=hj2
     by_cases h2:w=[]
     ·subst h2
      have hc1:(0:Int)<((20-y3:Nat):Int):=by omega
      have hj3:sd 105 (rowsF (List.replicate (j+1) (([112],[113]):Fld))) = .own 105 [[.v (vS [112]),.v (vS [113])]]:=by rw [hj1]; rfl
      clear hj1
      have hs1:sd 105 (rowsF []) = .nil:=rfl
      refine Z ?_
      exact ⟨j+1,by rw [hj3]; rfl,by have h9:List.length (α:=Fld) []=j:=hj2; simp only [List.length_nil] at h9 hc; omega,by have h9:List.length (α:=Fld) []=j:=hj2; simp only [List.length_nil] at h9 hc; omega⟩
     ·have hsd3:=sd_own (e:=105) (rowsF_ne h2)
      have hln3:=rowsF_length w
      have hc1:(w.length:Int)<((20-y3:Nat):Int):=by omega
      have hj3:sd 105 (rowsF (List.replicate (j+1) (([112],[113]):Fld))) = .own 105 (rowsF w++[[.v (vS [112]),.v (vS [113])]]):=by rw [hj1]; exact sdF_add _ _
      clear h2 hj1
      refine Z ?_
      exact ⟨by omega,j+1,by rw [hj3]; rfl,by have h9:=Hid.out hj2; omega,by have h9:=Hid.out hj2; omega⟩
    ·have hjn:j=(20-y3):=by omega
     have op:Hid (o=⟨j3,g3,me,ta,st,re,ba,bo⟩∧m=(List.replicate j (([112],[113]):Fld))):=⟨(o8 e rfl).1,(o8 e rfl).2.trans (by rw [hjn]<;>rfl)⟩
     have hw0:0<(List.replicate j (([112],[113]):Fld)).length:=by omega
     have hc1:¬ (((List.replicate j (([112],[113]):Fld)).length:Nat):Int)<((20-y3:Nat):Int):=by omega
     have hw7:(List.replicate j (([112],[113]):Fld)).length≤9223372036854775807:=by omega
     clear o8 hF hG hj1 hj2 hjn
     generalize (List.replicate j (([112],[113]):Fld))=w at *
     have hsd3:=sd_own (e:=105) (rowsF_ne (l:=w) (fun e=>by rw [e] at hw0; cases hw0))
     have hln3:=rowsF_length w
     refine Z ?_
     rw [show o=_ from op.1,show m=_ from op.2,hsd3]
     exact fzc
   ·clear x0 x1 x2 x3 w3 x5 w5 s0 sqk w8 hm o0 o1 o2 o3 o4 o5 o6 o7 o8 o10
    refine callc xc ?_
    refine callc z3 ?_
    refine callc x9 ?_
    rw [show o=_ from (o9 e rfl).1,show m=_ from (o9 e rfl).2]
    exact fzc
 ·have hsd:=sd_own (e:=105) (rowsF_ne h1)
  have hln:=rowsF_length l
  rw [hsd] at xa
  clear h1
  refine sb 1 [.ce 2 25] func34 ?_
  refine callc xa ?_
  refine callc xb ?_
  refine bc b (fun e => ?_) fun e => ?_
  ·clear x0 x1 x2 z3 x3 w3 x5 w5 s0 sqk w8 x9 w9 hm n9
   refine X1 e ?_
   rw [show o=_ from (o10 e).1,show m=_ from (o10 e).2,hsd]
   exact fzc
  ·refine X1 e ?_
   rcases hy with rfl | rfl | rfl | rfl | rfl | rfl | rfl | rfl | rfl | rfl
   ·clear x1 x2 z3 x3 w3 x5 w5 s0 sqk w8 x9 w9 hm n9 o1 o2 o3 o4 o5 o6 o7 o8 o9 o10
    refine callc xc ?_
    refine callc x0 ?_
    rw [show o=_ from (o0 e rfl).1,show m=_ from (o0 e rfl).2,hsd]
    exact fzc
   ·clear x0 x2 z3 x3 w3 x5 w5 s0 sqk w8 x9 w9 hm n9 o0 o2 o3 o4 o5 o6 o7 o8 o9 o10
    refine callc xc ?_
    refine callc x1 ?_
    rw [show o=_ from (o1 e rfl).1,show m=_ from (o1 e rfl).2,hsd]
    exact fzc
   ·clear x0 x1 z3 x3 w3 x5 w5 s0 sqk w8 x9 w9 hm n9 o0 o1 o3 o4 o5 o6 o7 o8 o9 o10
    refine callc xc ?_
    refine callc x2 ?_
    rw [show o=_ from (o2 e rfl).1,show m=_ from (o2 e rfl).2,hsd]
    exact fzc
   ·clear x0 x1 x2 x5 w5 s0 sqk w8 x9 w9 hm n9 o0 o1 o2 o4 o5 o6 o7 o8 o9 o10
    refine callc xc ?_
    refine callc z3 ?_
    refine callc x3 ?_
    rw [show o=_ from (o3 e rfl).1,show m=_ from (o3 e rfl).2,hsd]
    exact fzc
   ·clear x0 x1 x2 z3 x3 w3 x5 w5 s0 sqk w8 x9 w9 hm n9 o0 o1 o2 o3 o5 o6 o7 o8 o9 o10
    refine callc xc ?_
    rw [show o=_ from (o4 e rfl).1,show m=_ from (o4 e rfl).2,hsd]
    exact fzc
   ·clear x0 x1 x2 x3 w3 s0 sqk w8 x9 w9 hm n9 o0 o1 o2 o3 o4 o6 o7 o8 o9 o10
    refine callc xc ?_
    refine callc z3 ?_
    refine callc x5 ?_
    rw [show o=_ from (o5 e rfl).1,show m=_ from (o5 e rfl).2,hsd]
    exact fzc
   ·clear x0 x1 x2 z3 x3 w3 x5 w5 s0 sqk w8 x9 w9 hm n9 o0 o1 o2 o3 o4 o5 o7 o8 o9 o10
    refine callc xc ?_
    refine sid ?_
    rw [show o=_ from (o6 e rfl).1,show m=_ from (o6 e rfl).2,sdF_add]
    exact fzc
   ·clear x0 x1 x2 z3 x3 w3 x5 w5 w8 x9 w9 hm n9 o0 o1 o2 o3 o4 o5 o6 o8 o9 o10
    refine callc xc ?_
    have sK:∀ k,(sq k).2.length=List.length (α:=Fld) l+k:=fun k=>(sqk k).2.1
    refine loopZ (fun k:Nat=>pC 105 [.cref 0 0,.dead,.cref 2 0,.cref 3 0,.dead,.v (vI k)] [some (cur B (sq k).1.1 (sq k).1.2),none,some [.v (vS []),.v (vS []),.v (vI 0),.v (vS []),.v (vB false),.nil,.v (vS [])],some [.v (vS me),.v (vS ta),.v (vI st),.v (vS re),.v (vB ba),sd 105 (rowsF (sq k).2),.v (vS bo)]]) [0,2,3,5] (fun k=>k≤7) (fun k=>7-k) 0 (by rw [s0]; show Env.forget _ _=pC 105 _ [_,_,_,some [_,_,_,_,_,sd 105 (rowsF l),_]]; rw [hsd]; rfl) (Nat.zero_le _) ?_
    intro k hk
    by_cases hc:k<7
    ·clear o7
     obtain ⟨_,t2,_,i2,h2,y,v,t4,t5,t6,t7⟩:=sqk k
     have w1:=wrapN hc (by decide)
     have hc1:(k:Int)<7:=by omega
     have w2:IntKind.i64.wrap (180+(y:Int))=((180+y:Nat):Int):=by rw [wrapI (by omega)]; omega
     have hb:(sq k).2.length+1≤1000:=by omega
     clear sqk sK s0 t2
     generalize hz:sq (k+1)=z at *
     generalize sq k=w at *
     by_cases h1:w.2=[]
     ·rw [h1] at t7 ⊢
      clear h1 hb
      have hs1:sd 105 (rowsF []) = .nil:=rfl
      refine Z ?_
      refine drZ gs34_0 ?_
      refine drawnc t5 ?_
      refine drawnc t6 ?_
      exact ⟨k+1,by rw [hz,t7,sdF_add]; rfl,hc,by omega⟩
     ·have hsd:=sd_own (e:=105) (rowsF_ne h1)
      have hln:=rowsF_length w.2
      clear h1
      refine Z ?_
      refine drZ gs34_0 ?_
      refine drawnc t5 ?_
      refine drawnc t6 ?_
      exact ⟨by omega,k+1,by rw [hz,t7,sdF_add]; rfl,hc,by omega⟩
    ·have hk7:k=7:=by omega
     subst hk7
     have hsd2:=sd_own (e:=105) (rowsF_ne (l:=(sq 7).2) (fun e=>by have:=sK 7; rw [e] at this; simp at this))
     clear sK sqk s0
     refine Z ?_
     rw [show o=_ from (o7 e rfl).1,show m=_ from (o7 e rfl).2,hsd2]
     exact fzc
   ·clear x0 x1 x2 x3 w3 x5 w5 s0 sqk x9 w9 n9 o0 o1 o2 o3 o4 o5 o6 o7 o9 o10
    refine callc xc ?_
    refine callc z3 ?_
    have hF:∀ j,(l++List.replicate (j+1) (([112],[113]):Fld))=(l++List.replicate j (([112],[113]):Fld))++[([112],[113])]:=fun j=>by rw [List.replicate_succ',List.append_assoc]
    have hG:∀ j,(l++List.replicate j (([112],[113]):Fld)).length=l.length+j:=fun j=>by simp
    refine loopZ (fun j:Nat=>pC 105 [.cref 0 0,.dead,.cref 2 0,.cref 3 0,.v (vI (20-y3:Nat))] [some (cur B j3 g3),none,some [.v (vS []),.v (vS []),.v (vI 0),.v (vS []),.v (vB false),.nil,.v (vS [])],some [.v (vS me),.v (vS ta),.v (vI st),.v (vS re),.v (vB ba),sd 105 (rowsF (l++List.replicate j (([112],[113]):Fld))),.v (vS bo)]]) [0,2,3,4] (fun j=>j≤(20-y3-l.length)) (fun j=>(20-y3-l.length)-j) 0 (by rw [List.replicate_zero,List.append_nil,hsd]; rfl) (Nat.zero_le _) ?_
    intro j hj
    have hj1:=hF j
    have hj2:=hG j
    by_cases hc:(l++List.replicate j (([112],[113]):Fld)).length<20-y3
    ·clear o8 hF hG hsd hln
     generalize (l++List.replicate j (([112],[113]):Fld))=w at *
     have hw9:w.length+1≤1000:=by omega
     have hw8:w.length≤9223372036854775807:=by omega
     replace hj2:Hid (w.length=l.length+j):=hj2
     by_cases h2:w=[]
     ·subst h2
      have hc1:(0:Int)<((20-y3:Nat):Int):=by omega
      have hj3:sd 105 (rowsF (l++List.replicate (j+1) (([112],[113]):Fld))) = .own 105 [[.v (vS [112]),.v (vS [113])]]:=by rw [hj1]; rfl
      clear hj1
      have hs1:sd 105 (rowsF []) = .nil:=rfl
      refine Z ?_
      exact ⟨j+1,by rw [hj3]; rfl,by have h9:List.length (α:=Fld) []=l.length+j:=hj2; simp only [List.length_nil] at h9 hc; omega,by have h9:List.length (α:=Fld) []=l.length+j:=hj2; simp only [List.length_nil] at h9 hc; omega⟩
     ·have hsd3:=sd_own (e:=105) (rowsF_ne h2)
      have hln3:=rowsF_length w
      have hc1:(w.length:Int)<((20-y3:Nat):Int):=by omega
      have hj3:sd 105 (rowsF (l++List.replicate (j+1) (([112],[113]):Fld))) = .own 105 (rowsF w++[[.v (vS [112]),.v (vS [113])]]):=by rw [hj1]; exact sdF_add _ _
      clear h2 hj1
      refine Z ?_
      exact ⟨by omega,j+1,by rw [hj3]; rfl,by have h9:=Hid.out hj2; omega,by have h9:=Hid.out hj2; omega⟩
    ·have hjn:j=(20-y3-l.length):=by omega
     have op:Hid (o=⟨j3,g3,me,ta,st,re,ba,bo⟩∧m=(l++List.replicate j (([112],[113]):Fld))):=⟨(o8 e rfl).1,(o8 e rfl).2.trans (by rw [hjn]<;>rfl)⟩
     have hw0:0<(l++List.replicate j (([112],[113]):Fld)).length:=by omega
     have hc1:¬ (((l++List.replicate j (([112],[113]):Fld)).length:Nat):Int)<((20-y3:Nat):Int):=by omega
     have hw7:(l++List.replicate j (([112],[113]):Fld)).length≤9223372036854775807:=by omega
     clear o8 hF hG hj1 hj2 hjn hsd hln
     generalize (l++List.replicate j (([112],[113]):Fld))=w at *
     have hsd3:=sd_own (e:=105) (rowsF_ne (l:=w) (fun e=>by rw [e] at hw0; cases hw0))
     have hln3:=rowsF_length w
     refine Z ?_
     rw [show o=_ from op.1,show m=_ from op.2,hsd3]
     exact fzc
   ·clear x0 x1 x2 x3 w3 x5 w5 s0 sqk w8 hm o0 o1 o2 o3 o4 o5 o6 o7 o8 o10
    refine callc xc ?_
    refine callc z3 ?_
    refine callc x9 ?_
    rw [show o=_ from (o9 e rfl).1,show m=_ from (o9 e rfl).2,hsd]
    exact fzc
attribute [local go_sem ↓ high] fD_mv fD_as fD_own fD_oi fD_mp fD_lf fD_rb fD_bn fD_ar fD_wb fD_cl
theorem fD_re3 {me ta re bo me2 ta2 re2 bo2:List UInt8} {st st2:Int} {ba ba2:Bool} {l l2:List Fld} {a:Value}:D.anyL (fun d => !d.resLeaf) (.tup [mD me ta st re ba (fD l) bo,mD me2 ta2 st2 re2 ba2 (fD l2) bo2,.v a])=false:=by cases l<;>cases l2<;>rfl
theorem c119 (e:Ex) (h2:e.rq.length≤1048576) (h3:e.an.length≤1048576):Q1 119 (exD e) (.v (vB (exB e))):=by
 rcases c68 e h2 h3 with ⟨h,x⟩ | ⟨h,me,ta,st,re,ba,l,bo,me2,ta2,st2,re2,ba2,l2,bo2,_,_,x⟩
 ·rw [h]
  clear h
  refine sb 1 [.tm 2] func119 ?_
  refine call0 x ?_
  exact fz
 ·rw [h]
  clear h
  refine sb 1 [.tm 2] func119 ?_
  refine callr x fD_re3 ?_
  exact fz
theorem c117 (e:Ex) (h2:e.rq.length≤1048576) (h3:e.an.length≤1048576):Q1 117 (exD e) (.v (vB (exB e))):=by
 rcases c124 e h2 h3 with ⟨h,x⟩ | ⟨h,me,ta,st,re,ba,l,bo,me2,ta2,st2,re2,ba2,l2,bo2,_,_,x⟩
 ·rw [h]
  clear h
  refine sb 1 [.tm 2] func117 ?_
  refine call0 x ?_
  exact fz
 ·rw [h]
  clear h
  refine sb 1 [.tm 2] func117 ?_
  refine callr x fD_re3 ?_
  exact fz
def dayB (n:Int):Bool:=inB 4 1000000 n&&(n.tmod 4==0)
theorem c51 (n:Int):Q1 51 (.v (vI n)) (.v (vB (dayB n))):=by
 have x1:=c116 n 4 1000000
 unfold dayB
 cases h:inB 4 1000000 n with
 | false =>
  rw [h] at x1
  refine sb 1 [.tm 2] func51 ?_
  refine call0 x1 ?_
  exact fz
 | true =>
  rw [h] at x1
  clear h
  refine sb 1 [.tm 2] func51 ?_
  refine call0 x1 ?_
  refine ⟨by decide,?_⟩
  exact fz
theorem c48 (n:Int):Q1 48 (.v (vI n)) (.v (vB (dayB n))):=by
 by_cases h1:4≤n
 ·by_cases h2:n≤1000000
  ·have e:dayB n=(n.tmod 4==0):=by simp [dayB,inB,h1,h2]
   rw [e]
   clear e
   refine sb 1 [.tm 2] func48 ?_
   refine ⟨by decide,?_⟩
   exact fz
  ·have e:dayB n=false:=by simp [dayB,inB,h2]
   rw [e]
   clear e
   refine sb 1 [.tm 2] func48 ?_
   exact fz
 ·have e:dayB n=false:=by simp [dayB,inB,h1]
  rw [e]
  clear e
  refine sb 1 [.tm 2] func48 ?_
  exact fz
attribute [local go_sem ↓ high] fD_mv fD_as fD_own fD_oi fD_mp fD_lf fD_rb fD_bn fD_ar fD_wb fD_cl
def rowE (e:Ex):List T:=[.v (vI e.sd),.v (vI e.aq),.v (vI e.at'),.v (vS e.ur),.v (vS e.rq),.v (vS e.an)]
def rowsE (l:List Ex):List (List T):=l.map rowE
def ex0:Ex:=⟨0,0,0,[],[],[]⟩
theorem rowsE_length {l:List Ex}:(rowsE l).length=l.length:=List.length_map ..
theorem rowsE_getD {l:List Ex} {i:Nat} (h:i<l.length):(rowsE l).getD i []=[.v (vI (l.getD i ex0).sd),.v (vI (l.getD i ex0).aq),.v (vI (l.getD i ex0).at'),.v (vS (l.getD i ex0).ur),.v (vS (l.getD i ex0).rq),.v (vS (l.getD i ex0).an)]:=by
 simp [rowsE,rowE,gDg,h]
theorem rowsE_ne {l:List Ex} (h:l≠[]):rowsE l≠[]:=by
 cases l with
 | nil=>exact absurd rfl h
 | cons x l=>simp [rowsE]
def SmallE (l:List Ex):Prop:=l.length≤9223372036854775807∧∀ e,e∈l→e.ur.length≤1048576∧e.rq.length≤1048576∧e.an.length≤1048576
theorem SmallE.at {l:List Ex} (h:SmallE l) {i:Nat} (hi:i<l.length):(l.getD i ex0).ur.length≤1048576∧(l.getD i ex0).rq.length≤1048576∧(l.getD i ex0).an.length≤1048576:=by
 refine h.2 _ ?_
 rw [gDg,gEg hi]
 exact List.getElem_mem hi
def goodE (l:List Ex):List Ex:=if 200<l.length then [] else l.filter exB
theorem filE_hit {l:List Ex} {i:Nat} (h:i<l.length) (hb:exB (l.getD i ex0)=true):(l.take (i+1)).filter exB=(l.take i).filter exB++[l.getD i ex0]:=by
 have:[l.getD i ex0].filter exB=[l.getD i ex0]:=by rw [List.filter_cons,if_pos hb]; rfl
 rw [take_at (d:=ex0) h,List.filter_append,this]
theorem filE_miss {l:List Ex} {i:Nat} (h:i<l.length) (hb:exB (l.getD i ex0)=false):(l.take (i+1)).filter exB=(l.take i).filter exB:=by
 have:[l.getD i ex0].filter exB=[]:=by rw [List.filter_cons,if_neg (by rw [hb]; simp)]; rfl
 rw [take_at (d:=ex0) h,List.filter_append,this,List.append_nil]
theorem filE_le (l:List Ex) (i:Nat):((l.take i).filter exB).length≤i:=by
 refine Nat.le_trans (List.length_filter_le _ _) ?_
 rw [List.length_take]; omega
theorem sdE_nil:sd 71 (rowsE []) = .nil:=id rfl
attribute [local go_sem] rowsE_length sdE_nil
theorem c54a (l:List Ex) (h:200<l.length) (hL:l.length≤9223372036854775807):Q1 54 (.imm 71 (rowsE l)) .nil:=by
 have h1:(200:Int)<l.length:=by omega
 refine sb 1 [.tm 2] func54 ?_
 exact fz
theorem c56a (l:List Ex) (h:200<l.length) (hL:l.length≤9223372036854775807):Q1 56 (.imm 71 (rowsE l)) .nil:=by
 have h1:(200:Int)<l.length:=by omega
 refine sb 1 [.tm 2] func56 ?_
 exact fz
theorem c54b (l:List Ex) (hl:SmallE l) (h:¬ 200<l.length):Q1 54 (.imm 71 (rowsE l)) (sd 71 (rowsE (l.filter exB))):=by
 have hL:l.length≤9223372036854775807:=hl.1
 have h1:¬ (200:Int)<l.length:=by omega
 refine sb 1 [.tm 2] func54 ?_
 refine loopZ (fun i:Nat=>pE 27 [.imm 71 (rowsE l),.dead,.nil,sd 71 (rowsE ((l.take i).filter exB)),.v (vI i)]) [0,2,3,4] (fun i=>i≤l.length) (fun i=>l.length-i) 0 rfl (Nat.zero_le _) ?_
 intro i hi
 have hle:=filE_le l i
 by_cases hc:i<l.length
 ·have w1:=wrapN hc hL
  have e1:=rowsE_getD hc
  have hsm:=hl.at hc
  have x2:=c117 (l.getD i ex0) hsm.2.1 hsm.2.2
  have khit:=filE_hit (l:=l) hc
  have kmiss:=filE_miss (l:=l) hc
  cases hb:exB (l.getD i ex0) with
  | false =>
   rw [hb] at x2
   have kmiss:=kmiss hb
   by_cases h0:(l.take i).filter exB=[]
   ·rw [h0] at kmiss ⊢
    clear khit hb h0
    refine Z ?_
    refine call0 x2 ?_
    exact ⟨i+1,by rw [kmiss]; rfl,hc,by omega⟩
   ·have hsd:=sd_own (e:=71) (rowsE_ne h0)
    clear khit hb h0
    refine X2 hsd e1 ?_
    refine Z ?_
    refine call0 x2 ?_
    exact ⟨i+1,by rw [kmiss,hsd]; rfl,hc,by omega⟩
  | true =>
   rw [hb] at x2
   have khit:=khit hb
   have esd:∀ k:List Ex,sd 71 (rowsE (k++[l.getD i ex0])) = .own 71 (rowsE k++[rowE (l.getD i ex0)]):=fun k=>by
    rw [show rowsE (k++[l.getD i ex0])=rowsE k++[rowE (l.getD i ex0)] by simp [rowsE]]
    exact sd_own (by simp)
   by_cases h0:(l.take i).filter exB=[]
   ·rw [h0] at khit ⊢
    clear kmiss hb h0
    refine Z ?_
    refine call0 x2 ?_
    exact ⟨i+1,by rw [khit,esd]; rfl,hc,by omega⟩
   ·have hsd:=sd_own (e:=71) (rowsE_ne h0)
    have hb4:(((l.take i).filter exB).length+1)*72≤140737488355328:=by omega
    clear kmiss hb h0
    refine X2 hsd e1 ?_
    refine Z ?_
    refine call0 x2 ?_
    exact ⟨i+1,by rw [khit,esd]; rfl,hc,by omega⟩
 ·have he:l.take i=l:=List.take_of_length_le (by omega)
  rw [he]
  by_cases h0:l.filter exB=[]
  ·rw [h0]
   clear he
   refine Z ?_
   exact fz
  ·have hsd:=sd_own (e:=71) (rowsE_ne h0)
   rw [hsd]
   clear he h0
   refine Z ?_
   exact fz
theorem c54 (l:List Ex) (hl:SmallE l):Q1 54 (.imm 71 (rowsE l)) (sd 71 (rowsE (goodE l))):=by
 by_cases h:200<l.length
 ·rw [goodE,if_pos h]; exact c54a l h hl.1
 ·rw [goodE,if_neg h]; exact c54b l hl h
theorem c56b (l:List Ex) (hl:SmallE l) (h:¬ 200<l.length):Q1 56 (.imm 71 (rowsE l)) (sd 71 (rowsE (l.filter exB))):=by
 have hL:l.length≤9223372036854775807:=hl.1
 have h1:¬ (200:Int)<l.length:=by omega
 refine sb 1 [.tm 2] func56 ?_
 refine loopZ (fun i:Nat=>pE 23 [.imm 71 (rowsE l),.dead,.nil,sd 71 (rowsE ((l.take i).filter exB)),.dead,.dead,.dead,.dead,.dead,.imm 71 (rowsE l),.v (vI l.length),.v (vI i)]) [0,2,3,9,10,11] (fun i=>i≤l.length) (fun i=>l.length-i) 0 rfl (Nat.zero_le _) ?_
 intro i hi
 have hle:=filE_le l i
 by_cases hc:i<l.length
 ·have w1:=wrapN hc hL
  have e1:=rowsE_getD hc
  have hsm:=hl.at hc
  have x2:=c119 (l.getD i ex0) hsm.2.1 hsm.2.2
  have khit:=filE_hit (l:=l) hc
  have kmiss:=filE_miss (l:=l) hc
  cases hb:exB (l.getD i ex0) with
  | false =>
   rw [hb] at x2
   have kmiss:=kmiss hb
   by_cases h0:(l.take i).filter exB=[]
   ·rw [h0] at kmiss ⊢
    clear khit hb h0
    refine Z ?_
    refine call0 x2 ?_
    exact ⟨i+1,by rw [kmiss]; rfl,hc,by omega⟩
   ·have hsd:=sd_own (e:=71) (rowsE_ne h0)
    clear khit hb h0
    refine X2 hsd e1 ?_
    refine Z ?_
    refine call0 x2 ?_
    exact ⟨i+1,by rw [kmiss,hsd]; rfl,hc,by omega⟩
  | true =>
   rw [hb] at x2
   have khit:=khit hb
   have esd:∀ k:List Ex,sd 71 (rowsE (k++[l.getD i ex0])) = .own 71 (rowsE k++[rowE (l.getD i ex0)]):=fun k=>by
    rw [show rowsE (k++[l.getD i ex0])=rowsE k++[rowE (l.getD i ex0)] by simp [rowsE]]
    exact sd_own (by simp)
   by_cases h0:(l.take i).filter exB=[]
   ·rw [h0] at khit ⊢
    clear kmiss hb h0
    refine Z ?_
    refine call0 x2 ?_
    exact ⟨i+1,by rw [khit,esd]; rfl,hc,by omega⟩
   ·have hsd:=sd_own (e:=71) (rowsE_ne h0)
    have hb4:(((l.take i).filter exB).length+1)*72≤140737488355328:=by omega
    clear kmiss hb h0
    refine X2 hsd e1 ?_
    refine Z ?_
    refine call0 x2 ?_
    exact ⟨i+1,by rw [khit,esd]; rfl,hc,by omega⟩
 ·have he:l.take i=l:=List.take_of_length_le (by omega)
  rw [he]
  by_cases h0:l.filter exB=[]
  ·rw [h0]
   clear he
   refine Z ?_
   exact fz
  ·have hsd:=sd_own (e:=71) (rowsE_ne h0)
   rw [hsd]
   clear he h0
   refine Z ?_
   exact fz
theorem c56 (l:List Ex) (hl:SmallE l):Q1 56 (.imm 71 (rowsE l)) (sd 71 (rowsE (goodE l))):=by
 by_cases h:200<l.length
 ·rw [goodE,if_pos h]; exact c56a l h hl.1
 ·rw [goodE,if_neg h]; exact c56b l hl h
end Go.Proofs.YtbdfdfhamlmodaaGreatDoor.Fw
namespace Go.Proofs.YtbdfdfhamlmodaaGreatDoor.Fw
open Go
def quE (day:Int) (e:Ex):Int:=(e.aq.tmod day).tdiv (day.tdiv 4)
theorem day_in {n:Int} (h:dayB n=true):∃ m:Int,1≤m∧m≤250000∧n=4*m:=by
 unfold dayB inB at h
 simp only [Bool.and_eq_true,decide_eq_true_eq,beq_iff_eq] at h
 obtain ⟨⟨h1,h2⟩,h3⟩:=h
 rw [Int.tmod_eq_emod_of_nonneg (by omega)] at h3
 exact ⟨n / 4,by omega,by omega,by omega⟩
theorem aq_in {e:Ex} (h:exB e=true):0≤e.aq∧e.aq≤253402300799:=by
 unfold exB preB timeB inB at h
 simp only [Bool.and_eq_true,decide_eq_true_eq] at h
 exact h.1.1.1.2
theorem quE_in {n:Int} {e:Ex} (h:dayB n=true) (he:0≤e.aq):0≤quE n e∧quE n e<4:=by
 obtain ⟨m,h1,h2,rfl⟩:=day_in h
 unfold quE
 have e1:(4*m).tdiv 4=m:=by rw [Int.tdiv_eq_ediv_of_nonneg (by omega)]; omega
 have a1:0≤e.aq % (4*m):=Int.emod_nonneg _ (by omega)
 have a2:e.aq % (4*m)<4*m:=Int.emod_lt_of_pos _ (by omega)
 rw [Int.tmod_eq_emod_of_nonneg he,e1,Int.tdiv_eq_ediv_of_nonneg a1]
 exact ⟨Int.ediv_nonneg a1 (by omega),Int.ediv_lt_of_lt_mul (by omega) (by omega)⟩
def cnQ (n:Int) (k:Int) (l:List Ex):Nat:=(l.filter fun e=>e.sd==0&&quE n e==k).length
def cn0 (l:List Ex):Nat:=(l.filter fun e=>e.sd==0).length
theorem cnQ_step {n k:Int} {l:List Ex} {i:Nat} (h:i<l.length):cnQ n k (l.take (i+1))=cnQ n k (l.take i)+(if (l.getD i ex0).sd==0&&quE n (l.getD i ex0)==k then 1 else 0):=by
 rw [take_at (d:=ex0) h,cnQ,List.filter_append,List.length_append,List.filter_cons]
 split<;>simp_all [cnQ]
theorem cn0_step {l:List Ex} {i:Nat} (h:i<l.length):cn0 (l.take (i+1))=cn0 (l.take i)+(if (l.getD i ex0).sd==0 then 1 else 0):=by
 rw [take_at (d:=ex0) h,cn0,List.filter_append,List.length_append,List.filter_cons]
 split<;>simp_all [cn0]
theorem cnQ_le {n k:Int} {l:List Ex} {i:Nat}:cnQ n k (l.take i)≤i:=by
 refine Nat.le_trans (List.length_filter_le _ _) ?_
 rw [List.length_take]; omega
theorem cn0_le {l:List Ex} {i:Nat}:cn0 (l.take i)≤i:=by
 refine Nat.le_trans (List.length_filter_le _ _) ?_
 rw [List.length_take]; omega
end Go.Proofs.YtbdfdfhamlmodaaGreatDoor.Fw
namespace Go.Proofs.YtbdfdfhamlmodaaGreatDoor.Fw
open Go
open Go.Proofs.Tryz
set_option maxRecDepth 100000
set_option maxHeartbeats 4000000
attribute [local congr] c_bnd c_slot c_cell c_all c_len c_chk c_asm c_opdR c_wp c_pwp c_pOps c_Done c_nx c_blk c_fin c_coeLeaf c_coeLeaves c_argR c_argsR c_partsR c_ite c_wpF c_OutF c_pHead c_pHeadN c_pDraw
attribute [local go_sem] rowsE_length sdE_nil
theorem goodE_le (l:List Ex):(goodE l).length≤200:=by
 unfold goodE
 split
 ·simp
 ·exact Nat.le_trans (List.length_filter_le _ _) (by omega)
theorem goodE_aq {l:List Ex} {i:Nat} (h:i<(goodE l).length):0≤((goodE l).getD i ex0).aq:=by
 have hm:(goodE l).getD i ex0∈goodE l:=by
  rw [gDg,gEg h]
  exact List.getElem_mem h
 generalize (goodE l).getD i ex0=e at hm
 unfold goodE at hm
 split at hm
 ·simp at hm
 ·exact (aq_in (List.mem_filter.1 hm).2).1
theorem quE_cases {n:Int} {e:Ex} (h:dayB n=true) (he:0≤e.aq):n≠0∧IntKind.i64.wrap (n.tdiv 4)=n.tdiv 4∧n.tdiv 4≠0∧(IntKind.i64.wrap ((e.aq.tmod n).tdiv (n.tdiv 4))=quE n e)∧(quE n e=0∨quE n e=1∨quE n e=2∨quE n e=3):=by
 have hq:=quE_in h he
 obtain ⟨m,h1,h2,rfl⟩:=day_in h
 have e1:(4*m).tdiv 4=m:=by rw [Int.tdiv_eq_ediv_of_nonneg (by omega)]; omega
 refine ⟨by omega,by rw [e1]; exact wrapI (by omega),by rw [e1]; omega,?_,by omega⟩
 show IntKind.i64.wrap (quE (4*m) e)=_
 exact wrapI (by omega)
theorem c52 (l:List Ex) (hl:SmallE l) (n:Int) (hn:dayB n=true):Q2 52 (.imm 71 (rowsE l)) (.v (vI n)) (.tup [.v (vI (cnQ n 0 (goodE l)-cnQ n 2 (goodE l):Int)),.v (vI (cnQ n 1 (goodE l)-cnQ n 3 (goodE l):Int)),.v (vI (cn0 (goodE l):Int))]):=by
 have x1:=c56 l hl
 have hg2:=goodE_le l
 have hgl:(goodE l).length≤9223372036854775807:=by omega
 by_cases hg:goodE l=[]
 ·rw [hg] at x1 ⊢
  clear hg2 hgl
  refine sb 2 [.tm 4,.tm 5,.tm 6] func52 ?_
  refine call0 x1 ?_
  refine loopZ (fun i:Nat=>pE 49 [.imm 71 (rowsE l),.v (vI n),.dead,.dead,.v (vI 0),.v (vI 0),.v (vI 0),.v (vI 0),.v (vI 0),.v (vI 0),.dead,.dead,.imm 71 (rowsE l),.nil,.v (vI 0),.v (vI 0)]) [0,1,4,5,6,7,8,9,12,13,14,15] (fun i=>i=0) (fun i=>i) 0 rfl rfl ?_
  intro i hi
  refine Z ?_
  exact fz
 ·rw [sd_own (rowsE_ne hg)] at x1
  refine sb 2 [.tm 4,.tm 5,.tm 6] func52 ?_
  refine call0 x1 ?_
  refine loopZ (fun i:Nat=>pE 49 [.imm 71 (rowsE l),.v (vI n),.dead,.dead,.v (vI 0),.v (vI 0),.v (vI 0),.v (vI (cnQ n 0 ((goodE l).take i)-cnQ n 2 ((goodE l).take i):Int)),.v (vI (cnQ n 1 ((goodE l).take i)-cnQ n 3 ((goodE l).take i):Int)),.v (vI (cn0 ((goodE l).take i):Int)),.dead,.dead,.imm 71 (rowsE l),.own 71 (rowsE (goodE l)),.v (vI (goodE l).length),.v (vI i)]) [0,1,4,5,6,7,8,9,12,13,14,15] (fun i=>i≤(goodE l).length) (fun i=>(goodE l).length-i) 0 rfl (Nat.zero_le _) ?_
  intro i hi
  by_cases hc:i<(goodE l).length
  ·have w1:=wrapN hc hgl
   have e1:=rowsE_getD hc
   have l0:=cnQ_le (n:=n) (k:=0) (l:=goodE l) (i:=i)
   have l1:=cnQ_le (n:=n) (k:=1) (l:=goodE l) (i:=i)
   have l2:=cnQ_le (n:=n) (k:=2) (l:=goodE l) (i:=i)
   have l3:=cnQ_le (n:=n) (k:=3) (l:=goodE l) (i:=i)
   have l4:=cn0_le (l:=goodE l) (i:=i)
   have w2:IntKind.i64.wrap ((cn0 ((goodE l).take i):Int)+1)=((cn0 ((goodE l).take i)+1:Nat):Int):=by rw [wrapI (by omega)]; rfl
   have s1:∀ k,cnQ n k ((goodE l).take (i+1))=cnQ n k ((goodE l).take i)+(if ((goodE l).getD i ex0).sd==0&&quE n ((goodE l).getD i ex0)==k then 1 else 0):=fun k=>cnQ_step hc
   have s2:=cn0_step hc
   cases h0:((goodE l).getD i ex0).sd==0 with
   | false =>
    have h9:(((goodE l).getD i ex0).sd != 0)=true:=by rw [bne,h0]; rfl
    have m1:∀ k,cnQ n k ((goodE l).take (i+1))=cnQ n k ((goodE l).take i):=fun k=>by rw [s1,h0]; simp
    have m2:cn0 ((goodE l).take (i+1))=cn0 ((goodE l).take i):=by rw [s2,h0]; simp
    clear h0 s1 s2
    refine X4 hc e1 h9 w1 ?_
    exact ⟨i+1,by simp only [m1,m2]; rfl,hc,by omega⟩
   | true =>
    have h9:(((goodE l).getD i ex0).sd != 0)=false:=by rw [bne,h0]; rfl
    have m2:cn0 ((goodE l).take (i+1))=cn0 ((goodE l).take i)+1:=by rw [s2,h0]; rfl
    obtain ⟨d1,d2,d3,d4,d5⟩:=quE_cases (e:=(goodE l).getD i ex0) hn (goodE_aq hc)
    rw [h0] at s1
    clear h0 s2
    rcases d5 with d5 | d5 | d5 | d5
    ·have s10:=s1 0
     have s11:=s1 1
     have s12:=s1 2
     have s13:=s1 3
     rw [d5] at d4 s10 s11 s12 s13
     simp only [Bool.true_and,Int.reduceBEq,if_true,Bool.false_eq_true,if_false,Nat.add_zero] at s10 s11 s12 s13
     have w3:IntKind.i64.wrap ((cnQ n 0 ((goodE l).take i)-cnQ n 2 ((goodE l).take i):Int)+1)=(cnQ n 0 ((goodE l).take (i+1))-cnQ n 2 ((goodE l).take (i+1)):Int):=by rw [s10,s12,wrapI (by omega)]; omega
     refine X4 hc e1 h9 w2 ?_
     refine ⟨d1,by decide,by rw [d2]; exact d3,?_⟩
     clear s1
     refine X5 d2 d4 w1 w2 w3 ?_
     exact ⟨i+1,by simp only [s10,s11,s12,s13,m2]; rfl,hc,by omega⟩
    
    ·have s10:=s1 0
     have s11:=s1 1
     have s12:=s1 2
     have s13:=s1 3
     rw [d5] at d4 s10 s11 s12 s13
     simp only [Bool.true_and,Int.reduceBEq,if_true,Bool.false_eq_true,if_false,Nat.add_zero] at s10 s11 s12 s13
     have w3:IntKind.i64.wrap ((cnQ n 1 ((goodE l).take i)-cnQ n 3 ((goodE l).take i):Int)+1)=(cnQ n 1 ((goodE l).take (i+1))-cnQ n 3 ((goodE l).take (i+1)):Int):=by rw [s11,s13,wrapI (by omega)]; omega
     refine X4 hc e1 h9 w2 ?_
     refine ⟨d1,by decide,by rw [d2]; exact d3,?_⟩
     clear s1
     refine X5 d2 d4 w1 w2 w3 ?_
     exact ⟨i+1,by simp only [s10,s11,s12,s13,m2]; rfl,hc,by omega⟩
    
    ·have s10:=s1 0
     have s11:=s1 1
     have s12:=s1 2
     have s13:=s1 3
     rw [d5] at d4 s10 s11 s12 s13
     simp only [Bool.true_and,Int.reduceBEq,if_true,Bool.false_eq_true,if_false,Nat.add_zero] at s10 s11 s12 s13
     have w3:IntKind.i64.wrap ((cnQ n 0 ((goodE l).take i)-cnQ n 2 ((goodE l).take i):Int)-1)=(cnQ n 0 ((goodE l).take (i+1))-cnQ n 2 ((goodE l).take (i+1)):Int):=by rw [s10,s12,wrapI (by omega)]; omega
     refine X4 hc e1 h9 w2 ?_
     refine ⟨d1,by decide,by rw [d2]; exact d3,?_⟩
     clear s1
     refine X5 d2 d4 w1 w2 w3 ?_
     exact ⟨i+1,by simp only [s10,s11,s12,s13,m2]; rfl,hc,by omega⟩
    
    ·have s10:=s1 0
     have s11:=s1 1
     have s12:=s1 2
     have s13:=s1 3
     rw [d5] at d4 s10 s11 s12 s13
     simp only [Bool.true_and,Int.reduceBEq,if_true,Bool.false_eq_true,if_false,Nat.add_zero] at s10 s11 s12 s13
     have w3:IntKind.i64.wrap ((cnQ n 1 ((goodE l).take i)-cnQ n 3 ((goodE l).take i):Int)-1)=(cnQ n 1 ((goodE l).take (i+1))-cnQ n 3 ((goodE l).take (i+1)):Int):=by rw [s11,s13,wrapI (by omega)]; omega
     refine X4 hc e1 h9 w2 ?_
     refine ⟨d1,by decide,by rw [d2]; exact d3,?_⟩
     clear s1
     refine X5 d2 d4 w1 w2 w3 ?_
     exact ⟨i+1,by simp only [s10,s11,s12,s13,m2]; rfl,hc,by omega⟩
  ·have he:(goodE l).take i=goodE l:=List.take_of_length_le (by omega)
   rw [he]
   clear he
   refine Z ?_
   exact fz
def gs17_0:List (Option (List Nat)):=[some [16,17,18,20,21,22,23,24,25,26],some [16,17,18,20,21,22,23,24,25,26],some [16,17,18,20,21,22,23,24,25,26],some [13,14,15,20,21,22,23,24,25,26],some [13,14,15,20,21,22,23,24,25,26],some [13,14,15,20,21,22,23,24,25,26],some [20,21,22,23,24,25,26],some [13,14,15,16,17,18,19,23,24,25,4],some [13,14,15,16,17,18,19,23,24,25,4],some [13,14,15,16,17,18,19,23,24,25,4],some [13,14,15,16,17,18,19,20,21,22,4],some [13,14,15,16,17,18,19,20,21,22,4],some [13,14,15,16,17,18,19,20,21,22,4],some [13,14,15,16,17,18,19,4],some [20,21,22,23,24,25,26],none]
attribute [go_sem] gs17_0
attribute [local go_sem] rowsE_length sdE_nil
def qR (n:Int) (l:List Ex):List (List T):=[[.v (vI (cnQ n 0 l))],[.v (vI (cnQ n 1 l))],[.v (vI (cnQ n 2 l))],[.v (vI (cnQ n 3 l))]]
theorem qR_length (n:Int) (l:List Ex):(qR n l).length=4:=rfl
theorem c49 (l:List Ex) (hl:SmallE l) (n:Int) (hn:dayB n=true):Q2 49 (.imm 71 (rowsE l)) (.v (vI n)) (.own 3 (qR n (goodE l))):=by
 have x1:=c54 l hl
 have hg2:=goodE_le l
 have hgl:(goodE l).length≤9223372036854775807:=by omega
 by_cases hg:goodE l=[]
 ·rw [hg] at x1 ⊢
  clear hg2 hgl
  refine sb 2 [.tm 4] func49 ?_
  refine call0 x1 ?_
  refine loopZ (fun i:Nat=>pE 43 [.imm 71 (rowsE l),.v (vI n),.dead,.dead,.nil,.own 3 (qR n []),.nil,.v (vI 0)]) [0,1,4,5,6,7] (fun i=>i=0) (fun i=>i) 0 rfl rfl ?_
  intro i hi
  refine Z ?_
  exact fz
 ·rw [sd_own (rowsE_ne hg)] at x1
  refine sb 2 [.tm 4] func49 ?_
  refine call0 x1 ?_
  refine loopZ (fun i:Nat=>pE 43 [.imm 71 (rowsE l),.v (vI n),.dead,.dead,.nil,.own 3 (qR n ((goodE l).take i)),.own 71 (rowsE (goodE l)),.v (vI i)]) [0,1,4,5,6,7] (fun i=>i≤(goodE l).length) (fun i=>(goodE l).length-i) 0 rfl (Nat.zero_le _) ?_
  intro i hi
  by_cases hc:i<(goodE l).length
  ·have w1:=wrapN hc hgl
   have e1:=rowsE_getD hc
   have l0:=cnQ_le (n:=n) (k:=0) (l:=goodE l) (i:=i)
   have l1:=cnQ_le (n:=n) (k:=1) (l:=goodE l) (i:=i)
   have l2:=cnQ_le (n:=n) (k:=2) (l:=goodE l) (i:=i)
   have l3:=cnQ_le (n:=n) (k:=3) (l:=goodE l) (i:=i)
   have s1:∀ k,cnQ n k ((goodE l).take (i+1))=cnQ n k ((goodE l).take i)+(if ((goodE l).getD i ex0).sd==0&&quE n ((goodE l).getD i ex0)==k then 1 else 0):=fun k=>cnQ_step hc
   have hql:=qR_length n ((goodE l).take i)
   have hqi:((qR n ((goodE l).take i)).length:Int)=4:=rfl
   cases h0:((goodE l).getD i ex0).sd==0 with
   | false =>
    have m1:qR n ((goodE l).take (i+1))=qR n ((goodE l).take i):=by unfold qR; rw [s1,s1,s1,s1,h0]; rfl
    clear s1
    refine X5 hc e1 h0 w1 hgl ?_
    exact ⟨i+1,by rw [m1]; rfl,hc,by omega⟩
   | true =>
    obtain ⟨d1,d2,d3,d4,d5⟩:=quE_cases (e:=(goodE l).getD i ex0) hn (goodE_aq hc)
    rw [h0] at s1
    rcases d5 with d5 | d5 | d5 | d5
    ·have w3:IntKind.i64.wrap ((cnQ n 0 ((goodE l).take i):Int)+1)=(cnQ n 0 ((goodE l).take i)+1:Nat):=by rw [wrapI (by omega)]; rfl
     have g1:(qR n ((goodE l).take i)).getD 0 []=[.v (vI (cnQ n 0 ((goodE l).take i)))]:=rfl
     have g2:(qR n ((goodE l).take i)).set 0 [.v (vI (cnQ n 0 ((goodE l).take i)+1:Nat))]=qR n ((goodE l).take (i+1)):=by
      unfold qR
      rw [s1,s1,s1,s1,d5]
      rfl
     rw [d5] at d4
     clear s1 d5
     refine X4 hc e1 h0 hgl ?_
     refine ⟨d1,by decide,by rw [d2]; exact d3,?_⟩
     refine X8 d2 d4 w1 w3 hql hqi g1 g2 ?_
     exact ⟨i+1,rfl,hc,by omega⟩
    
    ·have w3:IntKind.i64.wrap ((cnQ n 1 ((goodE l).take i):Int)+1)=(cnQ n 1 ((goodE l).take i)+1:Nat):=by rw [wrapI (by omega)]; rfl
     have g1:(qR n ((goodE l).take i)).getD 1 []=[.v (vI (cnQ n 1 ((goodE l).take i)))]:=rfl
     have g2:(qR n ((goodE l).take i)).set 1 [.v (vI (cnQ n 1 ((goodE l).take i)+1:Nat))]=qR n ((goodE l).take (i+1)):=by
      unfold qR
      rw [s1,s1,s1,s1,d5]
      rfl
     rw [d5] at d4
     clear s1 d5
     refine X4 hc e1 h0 hgl ?_
     refine ⟨d1,by decide,by rw [d2]; exact d3,?_⟩
     refine X8 d2 d4 w1 w3 hql hqi g1 g2 ?_
     exact ⟨i+1,rfl,hc,by omega⟩
    
    ·have w3:IntKind.i64.wrap ((cnQ n 2 ((goodE l).take i):Int)+1)=(cnQ n 2 ((goodE l).take i)+1:Nat):=by rw [wrapI (by omega)]; rfl
     have g1:(qR n ((goodE l).take i)).getD 2 []=[.v (vI (cnQ n 2 ((goodE l).take i)))]:=rfl
     have g2:(qR n ((goodE l).take i)).set 2 [.v (vI (cnQ n 2 ((goodE l).take i)+1:Nat))]=qR n ((goodE l).take (i+1)):=by
      unfold qR
      rw [s1,s1,s1,s1,d5]
      rfl
     rw [d5] at d4
     clear s1 d5
     refine X4 hc e1 h0 hgl ?_
     refine ⟨d1,by decide,by rw [d2]; exact d3,?_⟩
     refine X8 d2 d4 w1 w3 hql hqi g1 g2 ?_
     exact ⟨i+1,rfl,hc,by omega⟩
    
    ·have w3:IntKind.i64.wrap ((cnQ n 3 ((goodE l).take i):Int)+1)=(cnQ n 3 ((goodE l).take i)+1:Nat):=by rw [wrapI (by omega)]; rfl
     have g1:(qR n ((goodE l).take i)).getD 3 []=[.v (vI (cnQ n 3 ((goodE l).take i)))]:=rfl
     have g2:(qR n ((goodE l).take i)).set 3 [.v (vI (cnQ n 3 ((goodE l).take i)+1:Nat))]=qR n ((goodE l).take (i+1)):=by
      unfold qR
      rw [s1,s1,s1,s1,d5]
      rfl
     rw [d5] at d4
     clear s1 d5
     refine X4 hc e1 h0 hgl ?_
     refine ⟨d1,by decide,by rw [d2]; exact d3,?_⟩
     refine X8 d2 d4 w1 w3 hql hqi g1 g2 ?_
     exact ⟨i+1,rfl,hc,by omega⟩
  ·have he:(goodE l).take i=goodE l:=List.take_of_length_le (by omega)
   rw [he]
   clear he
   refine Z ?_
   exact fz
def rhyD (l:List Ex) (n:Int):D:=if dayB n then .tup [.v (vI (cnQ n 0 (goodE l)-cnQ n 2 (goodE l):Int)),.v (vI (cnQ n 1 (goodE l)-cnQ n 3 (goodE l):Int))] else .tup [.v (vI 0),.v (vI 0)]
theorem c19 (l:List Ex) (hl:SmallE l) (n:Int):Q2 19 (.imm 71 (rowsE l)) (.v (vI n)) (rhyD l n):=by
 have x1:=c51 n
 unfold rhyD
 cases h:dayB n with
 | false =>
  rw [h] at x1
  refine sb 2 [.tm 4,.tm 5] func19 ?_
  refine call0 x1 ?_
  exact fz
 | true =>
  have x2:=c52 l hl n h
  rw [h] at x1
  refine sb 2 [.tm 4,.tm 5] func19 ?_
  refine call0 x1 ?_
  refine call0 x2 ?_
  exact fz
theorem cnQ_all {n k:Int} {l:List Ex}:cnQ n k (goodE l)≤200:=Nat.le_trans (List.length_filter_le _ _) (goodE_le l)
theorem c17 (l:List Ex) (hl:SmallE l) (n:Int):Q2 17 (.imm 71 (rowsE l)) (.v (vI n)) (rhyD l n):=by
 have x1:=c48 n
 unfold rhyD
 cases h:dayB n with
 | false =>
  rw [h] at x1
  refine sb 2 [.tm 4,.tm 5] func17 ?_
  refine call0 x1 ?_
  exact fz
 | true =>
  have x2:=c49 l hl n h
  unfold qR at x2
  rw [h] at x1
  have l0:=cnQ_all (n:=n) (k:=0) (l:=l)
  have l1:=cnQ_all (n:=n) (k:=1) (l:=l)
  have l2:=cnQ_all (n:=n) (k:=2) (l:=l)
  have l3:=cnQ_all (n:=n) (k:=3) (l:=l)
  have w1:IntKind.i64.wrap ((cnQ n 0 (goodE l):Int)-cnQ n 2 (goodE l))=cnQ n 0 (goodE l)-cnQ n 2 (goodE l):=wrapI (by omega)
  have w2:IntKind.i64.wrap ((cnQ n 1 (goodE l):Int)-cnQ n 3 (goodE l))=cnQ n 1 (goodE l)-cnQ n 3 (goodE l):=wrapI (by omega)
  clear l0 l1 l2 l3
  refine sb 2 [.tm 4,.tm 5] func17 ?_
  refine call0 x1 ?_
  refine call0 x2 ?_
  refine drZ gs17_0 ?_
  exact fz
attribute [local go_sem] rowsE_length
def szX (e:Ex) (k:Int):Int:=if k-e.ur.length<0 then -1 else if k-e.ur.length-e.rq.length<0 then -1 else if k-e.ur.length-e.rq.length-e.an.length<0 then -1 else k-e.ur.length-e.rq.length-e.an.length
def szXs:List Ex→Int→Int
 | [],k=>k
 | e::l,k=>if szX e k<0 then -1 else szXs l (szX e k)
theorem szX_le {e:Ex} {k:Int} (h:0≤k):szX e k≤k:=by unfold szX; split<;>(try split)<;>(try split)<;>omega
theorem szX_in {e:Ex} {k:Int} (hk:k≤1048576) (h:¬ szX e k<0):e.ur.length≤1048576∧e.rq.length≤1048576∧e.an.length≤1048576:=by
 unfold szX at h
 split at h
 ·exact absurd (by decide) h
 split at h
 ·exact absurd (by decide) h
 split at h
 ·exact absurd (by decide) h
 exact ⟨by omega,by omega,by omega⟩
theorem szXs_in:∀ {l:List Ex} {k:Int},0≤k→k≤1048576→¬ szXs l k<0→∀ e,e∈l→e.ur.length≤1048576∧e.rq.length≤1048576∧e.an.length≤1048576
 | [],_,_,_,_,e,he=>by simp at he
 | a::l,k,h0,hk,h,e,he=>by
  rw [szXs] at h
  by_cases hz:szX a k<0
  ·rw [if_pos hz] at h; exact absurd (by decide) h
  ·rw [if_neg hz] at h
   rcases List.mem_cons.1 he with rfl | he
   ·exact szX_in hk hz
   ·exact szXs_in (by omega) (Int.le_trans (szX_le h0) hk) h e he
def BigE (l:List Ex):Prop:=l.length≤9223372036854775807∧∀ e,e∈l→e.ur.length≤9223372036854775807∧e.rq.length≤9223372036854775807∧e.an.length≤9223372036854775807
theorem BigE.at {l:List Ex} (h:BigE l) {i:Nat} (hi:i<l.length):(l.getD i ex0).ur.length≤9223372036854775807∧(l.getD i ex0).rq.length≤9223372036854775807∧(l.getD i ex0).an.length≤9223372036854775807:=by
 refine h.2 _ ?_
 rw [gDg,gEg hi]
 exact List.getElem_mem hi
def szE (l:List Ex) (k:Int):Int:=if k-l.length<0 then -1 else szXs l (k-l.length)
theorem szE_in {l:List Ex} (h:¬ szE l 1048576<0):SmallE l∧l.length≤1048576:=by
 unfold szE at h
 split at h
 ·exact absurd (by decide) h
 ·exact ⟨⟨by omega,szXs_in (by omega) (by omega) h⟩,by omega⟩
theorem c47 (e:Ex) (h1:e.ur.length≤9223372036854775807) (h2:e.rq.length≤9223372036854775807) (h3:e.an.length≤9223372036854775807) (k:Int) (h0:0≤k) (hk:k≤1048576):Q2 47 (exD e) (.v (vI k)) (.v (vI (szX e k))):=by
 have w1:IntKind.i64.wrap (k-e.ur.length)=k-e.ur.length:=wrapI (by omega)
 unfold szX
 by_cases a1:k-e.ur.length<0
 ·rw [if_pos a1]
  refine sb 2 [.tm 4] func47 ?_
  exact fz
 have w2:IntKind.i64.wrap (k-e.ur.length-e.rq.length)=k-e.ur.length-e.rq.length:=wrapI (by omega)
 rw [if_neg a1]
 by_cases a2:k-e.ur.length-e.rq.length<0
 ·rw [if_pos a2]
  refine sb 2 [.tm 4] func47 ?_
  exact fz
 have w3:IntKind.i64.wrap (k-e.ur.length-e.rq.length-e.an.length)=k-e.ur.length-e.rq.length-e.an.length:=wrapI (by omega)
 rw [if_neg a2]
 by_cases a3:k-e.ur.length-e.rq.length-e.an.length<0
 ·rw [if_pos a3]
  refine sb 2 [.tm 4] func47 ?_
  exact fz
 ·rw [if_neg a3]
  refine sb 2 [.tm 4] func47 ?_
  exact fz
theorem c50 (e:Ex):Q1 50 (exD e) (exD e):=by
 refine sb 1 [.ce 2 71] func50 ?_
 exact fz
theorem c53 (e:Ex):Q2 53 (exD e) (exD e) (.v (vB true)):=by
 have b1:∀ x:Int,(x != x)=false:=fun x=>by simp
 have b2:∀ x:List UInt8,(x != x)=false:=fun x=>by simp
 refine sb 2 [.tm 4] func53 ?_
 exact fz
theorem c16 (l:List Ex) (hl:BigE l):Q2 16 (.imm 67 (rowsE l)) (.v (vI 1048576)) (.v (vI (szE l 1048576))):=by
 have hs:l.length≤9223372036854775807:=hl.1
 have w0:IntKind.i64.wrap ((1048576:Int)-l.length)=1048576-l.length:=wrapI (by omega)
 unfold szE
 by_cases a1:(1048576:Int)-l.length<0
 ·rw [if_pos a1]
  refine sb 2 [.tm 4] func16 ?_
  exact fz
 rw [if_neg a1]
 refine sb 2 [.tm 4] func16 ?_
 refine loopZ (fun s:Nat × Int=>pE 27 [.imm 67 (rowsE l),.v (vI s.2),.dead,.dead,.v (vI 0),.v (vI s.1)]) [0,1,4,5] (fun s=>s.1≤l.length∧0≤s.2∧s.2≤1048576∧szXs (l.drop s.1) s.2=szXs l (1048576-l.length)) (fun s=>l.length-s.1) (0,1048576-l.length) rfl ⟨by show 0≤_; omega,by show 0≤(1048576:Int)-_; omega,by show (1048576:Int)-_≤_; omega,rfl⟩ ?_
 intro ⟨i,kk⟩ ⟨hi,hk0,hk1,hsz⟩
 simp only at hi hk0 hk1 hsz ⊢
 by_cases hc:i<l.length
 ·have hw:=wrapN hc hs
  have e1:=rowsE_getD hc
  have hsm:=hl.at hc
  rw [drop_at (d:=ex0) hc] at hsz
  have x1:=c47 (l.getD i ex0) hsm.1 hsm.2.1 hsm.2.2 kk hk0 hk1
  have hup:szX (l.getD i ex0) kk≤kk:=szX_le hk0
  have hm1:szX (l.getD i ex0) kk<0→szXs (l.getD i ex0::l.drop (i+1)) kk=-1:=fun h=>by rw [szXs,if_pos h]
  have hm2:¬ szX (l.getD i ex0) kk<0→szXs (l.getD i ex0::l.drop (i+1)) kk=szXs (l.drop (i+1)) (szX (l.getD i ex0) kk):=fun h=>by rw [szXs,if_neg h]
  generalize szX (l.getD i ex0) kk=z at x1 hup hm1 hm2
  by_cases hz:z<0
  ·rw [hm1 hz] at hsz
   rw [←hsz]
   clear hm1 hm2 hsz hup
   refine Z ?_
   refine call0 x1 ?_
   exact fz
  ·rw [hm2 hz] at hsz
   clear hm1 hm2
   refine X4 hc hs hw e1 ?_
   refine call0 x1 ?_
   exact ⟨(i+1,z),rfl,⟨hc,by show 0≤z; omega,by show z≤_; omega,hsz⟩,by show _-(i+1)<_; omega⟩
 ·rw [List.drop_of_length_le (by omega)] at hsz
  have hsz:kk=szXs l (1048576-l.length):=hsz
  rw [←hsz]
  clear hsz
  refine Z ?_
  exact fz
def gs20_0:List (Option (List Nat)):=[some [18,21,22,23,24],some [17,21,22,23,24],some [21,22,23,24],some [21,22,23,24],some [17,18,19,20,22],some [17,18,19,20,21],some [17,18,19,20],some [17,18,19,20],none,none]
attribute [go_sem] gs20_0
attribute [local go_sem] rowsE_length
def mkE (l:List Ex) (i:Nat):List (List T):=rowsE (l.take i)++List.replicate (l.length-i) (rowE ex0)
theorem mkE_length (l:List Ex) (i:Nat):(mkE l i).length=l.length:=by simp [mkE,rowsE_length]; omega
theorem mkE_zero (l:List Ex):mkE l 0=List.replicate l.length (rowE ex0):=by simp [mkE,rowsE]
theorem mkE_all (l:List Ex):mkE l l.length=rowsE l:=by simp [mkE]
theorem mkE_getD {l:List Ex} {i:Nat} (h:i<l.length):(mkE l i).getD i []=[.v (vI 0),.v (vI 0),.v (vI 0),.v (vS []),.v (vS []),.v (vS [])]:=by
 unfold mkE
 rw [gDg,List.getElem?_append_right (by simp [rowsE_length]; omega)]
 simp only [rowsE_length,List.length_take,Nat.min_eq_left (Nat.le_of_lt h),Nat.sub_self]
 rw [List.getElem?_replicate,if_pos (by omega)]; rfl
theorem mkE_set {l:List Ex} {i:Nat} (h:i<l.length):(mkE l i).set i [.v (vI (l.getD i ex0).sd),.v (vI (l.getD i ex0).aq),.v (vI (l.getD i ex0).at'),.v (vS (l.getD i ex0).ur),.v (vS (l.getD i ex0).rq),.v (vS (l.getD i ex0).an)]=mkE l (i+1):=by
 unfold mkE
 have h1:l.length-i=(l.length-(i+1))+1:=by omega
 rw [take_at (d:=ex0) h,h1,List.set_append_right _ _ (by simp [rowsE_length]; omega)]
 simp only [rowsE_length,List.length_take,Nat.min_eq_left (Nat.le_of_lt h),Nat.sub_self,List.replicate_succ,List.set_cons_zero]
 simp [rowsE,rowE]
theorem c18 (l:List Ex) (hl:l.length≤1048576):Q1 18 (.imm 67 (rowsE l)) (.own 71 (rowsE l)):=by
 have hb1:l.length*72≤140737488355328:=by omega
 have hs:l.length≤9223372036854775807:=by omega
 have hs':(l.length:Int)≤9223372036854775807:=by omega
 have z0:=mkE_zero l
 have hm:=mkE_length l
 refine sb 1 [.tm 2] func18 ?_
 refine loopZ (fun i:Nat=>pE 23 [.imm 67 (rowsE l),.dead,.nil,.own 71 (mkE l i),.v (vI i)]) [0,2,3,4] (fun i=>i≤l.length) (fun i=>l.length-i) 0 (by simp only [mkE_zero]; rfl) (Nat.zero_le _) ?_
 intro i hi
 by_cases hc:i<l.length
 ·have hw:=wrapN hc hs
  have e1:=rowsE_getD hc
  have h2:=mkE_getD hc
  have h3:=mkE_set hc
  have x1:=c50 (l.getD i ex0)
  clear z0
  refine Z ?_
  refine call0 x1 ?_
  exact ⟨i+1,rfl,hc,by omega⟩
 ·have he:i=l.length:=by omega
  subst he
  have h3:=mkE_all l
  clear z0
  refine Z ?_
  exact fz
theorem c20 (l:List Ex) (hs:l.length≤9223372036854775807):Q2 20 (.imm 71 (rowsE l)) (.imm 71 (rowsE l)) (.v (vB true)):=by
 have hne:((l.length:Int) != (l.length:Int))=false:=by simp
 refine sb 2 [.tm 4] func20 ?_
 refine loopZ (fun i:Nat=>pE 27 [.imm 71 (rowsE l),.imm 71 (rowsE l),.dead,.dead,.v (vB false),.v (vI i)]) [0,1,4,5] (fun i=>i≤l.length) (fun i=>l.length-i) 0 rfl (Nat.zero_le _) ?_
 intro i hi
 by_cases hc:i<l.length
 ·have hw:=wrapN hc hs
  have e1:=rowsE_getD hc
  have x1:=c53 (l.getD i ex0)
  refine Z ?_
  refine draw_new gs20_0 mixedOk (by kernel_rfl) ?_
  refine Z ?_
  refine call0 x1 ?_
  exact ⟨i+1,rfl,hc,by omega⟩
 ·refine Z ?_
  exact fz
attribute [local go_sem] rowsE_length
theorem rhyD_is (l:List Ex) (n:Int):∃ a b:Int,rhyD l n = .tup [.v (vI a),.v (vI b)]:=by
 unfold rhyD
 split
 ·exact ⟨_,_,rfl⟩
 ·exact ⟨0,0,rfl⟩
theorem c4 (l:List Ex) (hl:BigE l) (n:Int):Q2 4 (.imm 67 (rowsE l)) (.v (vI n)) (.v (vB true)):=by
 have x1:=c16 l hl
 have hp:=szE_in (l:=l)
 generalize szE l 1048576=z at x1 hp
 by_cases hz:z<0
 ·clear hp
  refine sb 2 [.tm 4] func4 ?_
  refine call0 x1 ?_
  exact fz
 ·obtain ⟨hs,hm⟩:=hp hz
  have hl9:=hs.1
  have x2:=c18 l hm
  have x3:=c17 l hs n
  have x4:=c19 l hs n
  have x5:=c20 l hl9
  obtain ⟨a,b,hr⟩:=rhyD_is l n
  rw [hr] at x3 x4
  have b1:∀ x:Int,(x != x)=false:=fun x=>by simp
  clear hp hr
  refine sb 2 [.tm 4] func4 ?_
  refine call0 x1 ?_
  refine call0 x2 ?_
  refine call0 x3 ?_
  refine call0 x2 ?_
  refine call0 x4 ?_
  refine call0 x2 ?_
  refine call0 x5 ?_
  exact fz
attribute [local go_sem ↓ high] fD_mv fD_as fD_own fD_oi fD_mp fD_lf fD_rb fD_bn fD_ar fD_wb fD_cl
attribute [local go_sem] rowsE_length rowsF_length
def r502:List UInt8:=[66,97,100,32,71,97,116,101,119,97,121]
theorem c44b:Q2 44 (.v (vI 502)) (.v (vB false)) (mD [] [] 502 r502 false .nil []):=by
 have x1:=c89 502
 have x2:Q1 109 (.v (vI 502)) (.v (vS r502)):=by
  refine sb 1 [.tm 2] func109 ?_
  exact fz
 have x3:=c91 502
 rw [show statusB 502=true by decide] at x1
 rw [show bareB 502=false by decide] at x3
 refine sb 2 [.ce 4 25] func44 ?_
 refine call0 x1 ?_
 refine call0 x2 ?_
 refine call0 x3 ?_
 exact fz
def gA:List UInt8:=[71,69,84,32,47,32,72,84,84,80,47,49,46,49,13,10,65,58,32,98,13,10,13,10]
def gB:List UInt8:=[71,69,84,32,47,32,72,84,84,80,47,49,46,49,13,10,67,111,110,116,101,110,116,45,76,101,110,103,116,104,58,32,49,13,10,13,10]
def gC:List UInt8:=[49,13,10,120,13,10,48,13,10,13,10]
theorem gA_ok:readR gA false false = .ok ([71,69,84],[47],0,[],false,[([65],[98])],[]):=by kernel_rfl
theorem gB_ok:readR gB false false = .error 400:=by kernel_rfl
theorem gC_ok:chR gC 0 []=(0,[120]):=by kernel_rfl
theorem m502:msgB [] [] 502 r502 false [] []=true:=by kernel_rfl
theorem c12:Sem prog 12 ⟨[],[]⟩ ⟨[.v (vB true)],[]⟩:=by
 have x1:=c13 (s:=gA) (by decide)
 rw [gA_ok] at x1
 have x1:Q1 13 (.v (vS gA)) (.tup [.agg [.v (vS [71,69,84]),.v (vS [47]),.v (vI 0),.v (vS []),.v (vB false),.imm 105 [[.v (vS [65]),.v (vS [98])]],.v (vS [])],.v (vI 0)]):=x1
 have x2:=c43 (t:=gC) (by decide)
 rw [gC_ok] at x2
 have x2:Q1 43 (.v (vS gC)) (.tup [.v (vS [120]),.v (vI 0)]):=x2
 have x3:=c13 (s:=gB) (by decide)
 rw [gB_ok] at x3
 have x3:Q1 13 (.v (vS gB)) (.tup [.agg [.v (vS []),.v (vS []),.v (vI 0),.v (vS []),.v (vB false),.nil,.v (vS [])],.v (vI 400)]):=x3
 have x4:=c44b
 have x5:=c36 c37 [] [] 502 r502 false [] [] (by decide) (by decide) (by decide) (by decide) ⟨by decide,fun p h=>by cases h⟩
 rw [m502] at x5
 refine sb 0 [.tm 0] func12 ?_
 refine calli x1 ?_
 refine call0 x2 ?_
 refine call0 x3 ?_
 refine call0 x4 ?_
 refine call0 x5 ?_
 exact fz
end Go.Proofs.YtbdfdfhamlmodaaGreatDoor.Fw
namespace Go.Proofs.YtbdfdfhamlmodaaGreatDoor.Fw
open Go
theorem Rel.growCell {w0 : World} {L : Nat → Nat → Prop} {C : Ctx} (R : Rel w0 L C) (t : Nat) (ds : List D) {cs : Array Value} {e : TypeId} {fr : Nat × Nat} {w' : World} {b' o' : Nat} (x : Ext C.w w') (hb' : C.w.heap.size ≤ b') (hh : w'.heap[b']? = some (.cells cs e fr)) (hth : Thawed cs.size fr) (hsz : o' + ds.length ≤ cs.size)
    (ht : C.E.ce[t]? = some none) (hno : (C.E.sl.getD t .dead).anyOwn = false)
    (hl : ∀ (i : Nat) (d : D),ds[i]? = some d → d.leafy = true ∧ one (cs.getD (o' + i) undef) = true ∧ ∃ S,RL C.P w' S (fun _ => False) d (cs.getD (o' + i) undef) ∧ ∀ b,S b → b < w'.heap.size → b ≠ b' ∧ (C.w.heap.size ≤ b ∨ C.Rd b)) :
    Rel w0 L { C with E := { sl := C.E.sl.set t (.cref t 0),ce := C.E.ce.set t (some ds) },a := C.a.put (some t) (.pointer (some ⟨b',o',none⟩)),w := w',
                      loc := fun t' => if t' = t then (b',o') else C.loc t' } := by
  have hnl : ∀ ds,¬ C.live t ds := by intro ds h; have : C.E.ce[t]? = some (some ds) := h; rw [ht] at this; cases this
  have blk : ∀ t ds,C.live t ds → (C.loc t).1 < C.w.heap.size := by
    intro t ds hl
    obtain ⟨cs,e,fr,a1,_⟩ := (R.cell t ds hl).out
    exact (Array.getElem?_eq_some_iff.1 a1).1
  have hlt : t < C.E.ce.length := (gSm ht).1
  have main : Rel w0 L { C with E := { C.E with ce := C.E.ce.set t (some ds) },w := w',loc := fun t' => if t' = t then (b',o') else C.loc t' } := by
    generalize hC' : ({ C with E := { C.E with ce := C.E.ce.set t (some ds) },w := w',loc := fun t' => if t' = t then (b',o') else C.loc t' } : Ctx) = C'
    have hP : C'.P = C.P := by rw [← hC']
    have hE : C'.E = { C.E with ce := C.E.ce.set t (some ds) } := by rw [← hC']
    have ha : C'.a = C.a := by rw [← hC']
    have hw : C'.w = w' := by rw [← hC']
    have hF : C'.F = C.F := by rw [← hC']
    have hloc : C'.loc = fun t' => if t' = t then (b',o') else C.loc t' := by rw [← hC']
    have hlv : ∀ t' ds',C'.live t' ds' → (t' = t ∧ ds' = ds) ∨ (t' ≠ t ∧ C.live t' ds') := by
      intro t' ds' h
      have h : C'.E.ce[t']? = some (some ds') := h
      rw [hE] at h
      simp only at h
      by_cases hne : t' = t
      · subst hne
        rw [List.getElem?_set_self hlt] at h
        injection h with h; injection h with h
        exact .inl ⟨rfl,h.symm⟩
      · rw [List.getElem?_set_ne (fun h => hne h.symm)] at h
        exact .inr ⟨hne,h⟩
    have hlv2 : ∀ t' ds',C.live t' ds' → C'.live t' ds' ∧ C'.loc t' = C.loc t' := by
      intro t' ds' h
      have hne : t' ≠ t := by rintro rfl; exact hnl _ h
      refine ⟨?_,by rw [hloc]; exact if_neg hne⟩
      show C'.E.ce[t']? = _
      rw [hE]
      show (C.E.ce.set t (some ds))[t']? = _
      rw [List.getElem?_set_ne (fun h => hne h.symm)]; exact h
    have hleaf : ∀ q : Lf,¬ (q.c = true ∧ q.t = t) → C'.E.leaf q = C.E.leaf q := by
      rintro ⟨c,t',k⟩ hq
      rw [hE]
      cases c with
      | false => rfl
      | true =>
        have hne : t ≠ t' := fun h => hq ⟨rfl,h.symm⟩
        show (((C.E.ce.set t (some ds)).getD t' none).getD []).getD k .dead = ((C.E.ce.getD t' none).getD []).getD k .dead
        have e1 : (C.E.ce.set t (some ds)).getD t' none = C.E.ce.getD t' none := by
          rw [gDg,List.getElem?_set_ne hne,← gDg]
        rw [e1]
    have hdeadt : ∀ k,C.E.leaf ⟨true,t,k⟩ = .dead := by
      intro k
      show ((C.E.ce.getD t none).getD []).getD k .dead = .dead
      rw [getD_some ht]; rfl
    have hnt : ∀ q,C.E.leaf q ≠ .dead → ¬ (q.c = true ∧ q.t = t) := by
      rintro ⟨c,t',k⟩ h ⟨h1,h2⟩
      simp only at h1 h2
      subst h1; subst h2
      exact h (hdeadt k)
    have hcv : ∀ q,C.E.leaf q ≠ .dead → C'.cv q = C.cv q := by
      rintro ⟨c,t',k⟩ hn
      unfold Ctx.cv
      rw [ha,hw]
      cases c with
      | false => rfl
      | true =>
        obtain ⟨ds',hl'⟩ := Rel.liveOf (w0 := w0) (L := L) hn
        simp only [if_true]
        rw [(hlv2 t' ds' hl').2]
        simp only [World.cell?,x.kept _ (blk t' ds' hl')]
    have hown : ∀ b,C'.Owned b → b < C.w.heap.size → C.Owned b := by
      rintro b (⟨p,hp⟩ | ⟨t',ds',hl',hb⟩) hlt'
      · rw [hF] at hp; exact .inl ⟨p,hp⟩
      · rcases hlv t' ds' hl' with ⟨rfl,rfl⟩ | ⟨hne,hl''⟩
        · rw [hloc] at hb; simp at hb; omega
        · rw [(hlv2 t' ds' hl'').2] at hb; exact .inr ⟨t',ds',hl'',hb⟩
    have s : Same C C' (fun q => q) (fun _ => False) (fun _ => False) := by
      refine ⟨hP,fun b hb hl => ⟨fun h => hb (hown b h hl),by rw [hw]; exact x.kept b hl⟩,?_,?_,by rw [← hC']; exact fun _ h => h⟩
      · intro q e xs _ hl
        have hn : C.E.leaf q ≠ .dead := by rw [hl]; simp
        refine ⟨xs,by rw [hleaf q (hnt q hn)]; exact hl,rfl,hcv q hn,fun i j e' ys hg => ⟨hg,fun b o n cap v _ hv => by rw [hw]; exact x.cell hv⟩⟩
      · intro t' ds' _ hl
        exact ⟨ds',(hlv2 t' ds' hl).1,rfl,(hlv2 t' ds' hl).2⟩
    have go1 : ∀ p d' v,LRel C p d' v → LRel C' p d' v := by
      intro p d' v' hv
      by_cases ho : d'.isOwn = true
      · cases d' <;> simp [D.isOwn] at ho
        cases hv with
        | own _ _ _ h =>
          refine .own _ _ _ _ ?_
          rw [hP,hw,hF]
          exact h.mono (fun b hb => hb) (fun b _ hb => x.kept b hb)
      · have := LRel.same s hv p (by simpa using ho) ⟨fun q h => by simp,fun t ht => by simp⟩
        rwa [D.re_id] at this
    refine ⟨by rw [ha,hE]; exact R.tmps,by rw [ha]; exact R.defers,?_,?_,by rw [hF]; exact R.disj,?_,?_,?_,by rw [hF]; exact R.flent,?_,by rw [hw]; exact R.frame.ext x,by rw [← hC']; exact R.mnew,by rw [← hC']; exact R.mL,by rw [← hC']; exact R.glob⟩
    · intro t' d hd
      rw [hE] at hd
      rw [ha]
      exact (R.slot t' d hd).tr' fun k x v hx hv => go1 _ _ _ hv
    · intro t' ds' hl'
      rcases hlv t' ds' hl' with ⟨rfl,rfl⟩ | ⟨hne,hl''⟩
      · have e1 : C'.loc t' = (b',o') := by rw [hloc]; exact if_pos rfl
        refine ⟨cs,e,fr,by rw [e1,hw]; exact hh,hth,by rw [e1]; exact hsz,?_⟩
        intro i d hd
        rw [e1]
        obtain ⟨a,c,S,f,g⟩ := hl i d hd
        refine ⟨a,c,?_⟩
        have f : RL C'.P C'.w S (fun _ => False) d (cs.getD (o' + i) undef) := by rw [hP,hw]; exact f
        refine f.rel (fun e xs b _ hb hlt => ?_) (fun e xs _ b hb => hb.elim)
        rw [hw] at hlt
        obtain ⟨g1,g2⟩ := g b hb hlt
        have hM : C'.M = C.M := by rw [← hC']
        have hno : ¬ C'.Owned b := by
          rintro (⟨p,hp⟩ | ⟨t'',ds'',hl'',hb''⟩)
          · rw [hF] at hp
            rcases g2 with g2 | g2
            · have := R.fbound p b hp; omega
            · exact g2.1 (.inl ⟨p,hp⟩)
          · rcases hlv t'' ds'' hl'' with ⟨rfl,rfl⟩ | ⟨hne,hl3⟩
            · rw [e1] at hb''; exact g1 hb''.symm
            · rw [(hlv2 t'' ds'' hl3).2] at hb''
              rcases g2 with g2 | g2
              · have := blk t'' ds'' hl3; omega
              · exact g2.1 (.inr ⟨t'',ds'',hl3,hb''⟩)
        refine ⟨hno,?_⟩
        rw [hM]
        rcases g2 with g2 | g2
        · exact R.mnew b (by have := R.frame.size; omega)
        · exact g2.2
      · obtain ⟨cs',e',fr,a1,a2,a3,a4⟩ := (R.cell t' ds' hl'').out
        have e1 := (hlv2 t' ds' hl'').2
        refine ⟨cs',e',fr,by rw [e1,hw]; exact (x.kept _ (blk t' ds' hl'')).trans a1,a2,by rw [e1]; exact a3,?_⟩
        intro i d hd
        rw [e1]
        obtain ⟨b1,b2,b3⟩ := a4 i d hd
        exact ⟨b1,b2,go1 _ _ _ b3⟩
    · intro t1 d1 t2 d2 h1 h2 he
      rcases hlv t1 d1 h1 with ⟨rfl,rfl⟩ | ⟨n1,h1'⟩
      · rcases hlv t2 d2 h2 with ⟨rfl,rfl⟩ | ⟨n2,h2'⟩
        · rfl
        · rw [(hlv2 t2 d2 h2').2,hloc] at he
          simp at he
          have := blk t2 d2 h2'; omega
      · rcases hlv t2 d2 h2 with ⟨rfl,rfl⟩ | ⟨n2,h2'⟩
        · rw [(hlv2 t1 d1 h1').2,hloc] at he
          simp at he
          have := blk t1 d1 h1'; omega
        · rw [(hlv2 t1 d1 h1').2,(hlv2 t2 d2 h2').2] at he
          exact R.cdisj t1 d1 t2 d2 h1' h2' he
    · intro t' ds' p hl' hp
      rw [hF] at hp
      rcases hlv t' ds' hl' with ⟨rfl,rfl⟩ | ⟨n1,h1'⟩
      · rw [hloc] at hp
        simp at hp
        have := R.fbound p _ hp; omega
      · rw [(hlv2 t' ds' h1').2] at hp
        exact R.fcd t' ds' p h1' hp
    · intro p b hp
      rw [hF] at hp
      rw [hw]
      exact Nat.lt_of_lt_of_le (R.fbound p b hp) x.size
    · intro t' ds' hl' hb i hi
      rcases hlv t' ds' hl' with ⟨rfl,rfl⟩ | ⟨n1,h1'⟩
      · rw [hloc] at hb
        simp at hb
        have := R.frame.size; omega
      · rw [(hlv2 t' ds' h1').2] at hb ⊢
        exact R.clent t' ds' h1' hb i hi
  have hput := main.put1 t (.cref t 0) (.pointer (some ⟨b',o',none⟩)) hno (.comp _ _ rfl (.leaf _ _ _ rfl rfl (by
    have hlive : Ctx.live { C with E := { C.E with ce := C.E.ce.set t (some ds) },w := w',loc := fun t' => if t' = t then (b',o') else C.loc t' } t ds := by
      show (C.E.ce.set t (some ds))[t]? = _
      rw [List.getElem?_set_self hlt]
    have := LRel.cref (C := { C with E := { C.E with ce := C.E.ce.set t (some ds) },w := w',loc := fun t' => if t' = t then (b',o') else C.loc t' }) ⟨false,t,0⟩ t 0 ds hlive (Nat.zero_le _)
    simpa using this)))
  exact hput
def D.plain1 (d:D):Bool:=d.resLeaf && !d.isOwn
theorem RL.noOwn {P:Program} {w:World} {S G:Nat→Prop} {d:D} {v:Value} (h:RL P w S G d v) (ho:d.isOwn=false):RL P w S (fun _=>False) d v:=by
 obtain ⟨a,b,h⟩:=h
 refine ⟨a,b,?_⟩
 rcases h with h | h | h | h | ⟨e,xs,rfl,_⟩ | h
 ·exact .inl h
 ·exact .inr (.inl h)
 ·exact .inr (.inr (.inl h))
 ·exact .inr (.inr (.inr (.inl h)))
 ·cases ho
 ·exact .inr (.inr (.inr (.inr (.inr h))))
theorem Rel.shutNew {w0:World} {L:Nat→Nat→Prop} {C:Ctx} (R:Rel w0 L C) {np t u:Nat} {ls:List D} (ht:C.E.sl[t]? = some (.cref u 0)) (hu:C.live u ls) (hp:ls.all D.plain1=true) {args:Array Value} (hsz:args.size=np) :
  Rel w0 L { C with E:=⟨List.replicate np .dead++[.cref np 0],List.replicate np none++[some ls]⟩,a:={ tmps:=args.push (C.a.tmps.getD t undef),defers:=[] },F:=fun _ _=>False,loc:=fun x=>if x=np then C.loc u else C.loc x }:=by
 generalize hC':({ C with E:=⟨List.replicate np .dead++[.cref np 0],List.replicate np none++[some ls]⟩,a:={ tmps:=args.push (C.a.tmps.getD t undef),defers:=[] },F:=fun _ _=>False,loc:=fun x=>if x=np then C.loc u else C.loc x }:Ctx)=C'
 have hP:C'.P=C.P:=by rw [←hC']
 have hw:C'.w=C.w:=by rw [←hC']
 have hM:C'.M=C.M:=by rw [←hC']
 have hE:C'.E=⟨List.replicate np .dead++[.cref np 0],List.replicate np none++[some ls]⟩:=by rw [←hC']
 have hF:C'.F=fun _ _=>False:=by rw [←hC']
 have ha:C'.a={ tmps:=args.push (C.a.tmps.getD t undef),defers:=[] }:=by rw [←hC']
 have hln:C'.loc np=C.loc u:=by rw [←hC']; exact if_pos rfl
 have hlive:∀ x ds,C'.live x ds→x=np∧ds=ls:=by
  intro x ds h
  have h:C'.E.ce[x]? = some (some ds):=h
  rw [hE] at h
  have h:(List.replicate np none++[some ls])[x]? = some (some ds):=h
  by_cases hx:x<np
  ·rw [List.getElem?_append_left (by simpa using hx),List.getElem?_replicate,if_pos hx] at h; cases h
  ·rw [List.getElem?_append_right (by simpa using hx)] at h
   by_cases hx2:x=np
   ·subst hx2; simp at h; exact ⟨rfl,h.symm⟩
   ·rw [List.getElem?_eq_none (by simp; omega)] at h; cases h
 have hlv:C'.live np ls:=by
  show C'.E.ce[np]? = _
  rw [hE]
  show (List.replicate np none++[some ls])[np]? = _
  rw [List.getElem?_append_right (by simp)]; simp
 have hRd:∀ b,C.Rd b→C'.Rd b:=by
  rintro b ⟨h1,h2⟩
  refine ⟨?_,by rw [hM]; exact h2⟩
  rintro (⟨p,hp⟩ | ⟨x,ds,hl,hb⟩)
  ·rw [hF] at hp; exact hp
  ·obtain ⟨rfl,rfl⟩:=hlive x ds hl
   rw [hln] at hb
   exact h1 (.inr ⟨u,ds,hu,hb⟩)
 have hv:C.a.tmps.getD t undef = .pointer (some ⟨(C.loc u).1,(C.loc u).2,none⟩):=by
  have hs:=R.slot t _ ht
  generalize C.a.tmps.getD t undef=vv at hs
  cases hs with
  | comp _ _ _ hc =>
   cases hc with
   | leaf _ _ a b c=>cases c; rfl
 refine ⟨?_,by rw [ha],?_,?_,?_,?_,?_,?_,?_,?_,by rw [hw]; exact R.frame,by rw [hM]; exact R.mnew,by rw [hM]; exact R.mL,by rw [hP]; exact R.glob⟩
 ·rw [ha,hE]; simp [hsz]
 ·intro x d hd
  rw [hE] at hd
  have hd:(List.replicate np D.dead++[.cref np 0])[x]? = some d:=hd
  by_cases hx:x<np
  ·rw [List.getElem?_append_left (by simpa using hx),List.getElem?_replicate,if_pos hx] at hd
   injection hd with hd; subst hd
   exact .comp _ _ rfl (.dead _ _)
  ·rw [List.getElem?_append_right (by simpa using hx)] at hd
   by_cases hx2:x=np
   ·subst hx2
    simp at hd
    subst hd
    have e:C'.a.tmps.getD x undef = .pointer (some ⟨(C'.loc x).1,(C'.loc x).2+0,none⟩):=by
     rw [ha,hln,←hsz]
     show (args.push (C.a.tmps.getD t undef)).getD args.size undef=_
     rw [arrGetD]
     simp [hv]
    rw [e]
    exact .comp _ _ rfl (.leaf _ _ _ rfl rfl (.cref _ _ _ _ hlv (Nat.zero_le _)))
   ·rw [List.getElem?_eq_none (by simp; omega)] at hd; cases hd
 ·intro x ds hl
  obtain ⟨rfl,rfl⟩:=hlive x ds hl
  obtain ⟨cs,e,fr,a1,a2,a3,a4⟩:=(R.cell u ds hu).out
  refine ⟨cs,e,fr,by rw [hln,hw]; exact a1,a2,by rw [hln]; exact a3,fun i d hd => ?_⟩
  obtain ⟨b1,b2,b3⟩:=a4 i d hd
  rw [hln]
  have hpd:=List.all_eq_true.1 hp d (List.mem_of_getElem? hd)
  simp only [D.plain1,Bool.and_eq_true,Bool.not_eq_true'] at hpd
  refine ⟨b1,b2,?_⟩
  have:=(b3.rl hpd.1 b1 b2).noOwn hpd.2
  rw [←hP,←hw] at this
  exact this.rel (fun e xs b _ hb _=>hRd b hb) (fun e xs _ b hb=>hb.elim)
 ·intro p q b hp; rw [hF] at hp; exact hp.elim
 ·intro x ds x' ds' h1 h2 _
  rw [(hlive x ds h1).1,(hlive x' ds' h2).1]
 ·intro x ds p _ hp; rw [hF] at hp; exact hp
 ·intro p b hp; rw [hF] at hp; exact hp.elim
 ·intro p b hp; rw [hF] at hp; exact hp.elim
 ·intro x ds hl hb i hi
  obtain ⟨rfl,rfl⟩:=hlive x ds hl
  rw [hln] at hb ⊢
  exact R.clent u ds hu hb i hi
theorem sem_new {P:Program} {cfg:Cfg} {f:FuncId} {fn:Func} {c:Code} {t:Nat} (hT:TabOk P cfg.tb) (hf:P.funcs[f]? = some fn) (hname:(fn.name == "runtime.NumGoroutine")=false) (hb:fn.body=some c)
  (hres:fn.results = #[.tmp t]) {Ein:Env} {ls:List D} (hnp:Ein.sl.length=cfg.np) (hp:ls.all D.plain1=true)
  (h:pwp P cfg c (Ein.pad (fn.ntmps-cfg.np)) fun e E=>(e = .normal∨e = .ret)∧∃ u,E.sl[t]? = some (.cref u 0)∧E.ce[u]? = some (some ls)) :
  Sem P f Ein ⟨List.replicate cfg.np .dead++[.cref cfg.np 0],List.replicate cfg.np none++[some ls]⟩:=by
 intro w a F loc M R
 refine .inl ⟨by simp only [callFunc,Sem.run_bind,run_program,Result.andThen_ok,hf,hname,hb,Option.isNone_some,Bool.false_eq_true,if_false,Sem.run_pure],?_⟩
 have hsz:a.tmps.size=cfg.np:=by have:=R.tmps; rw [←hnp]; exact this
 have R1:=R.pad (fn.ntmps-cfg.np)
 refine calls_of_wp hf hb ?_
 rw [hsz]
 refine pwp_sound (op_ok hT) c _ _ _ R1 rfl h ?_
 rintro e C' R' hP' hl' hk' ⟨he,u,h1,h2⟩
 have hres1:(results fn C'.a.tmps).run P C'.w = .ok (C'.a.tmps.getD t undef) C'.w:=by
  unfold results
  rw [hres]
  simp
 have R3:=R'.shutNew h1 h2 hp (args:=a.tmps) hsz
 have fin:C'.a.defers=[]∧∃ v,(results fn C'.a.tmps).run P C'.w = .ok v C'.w∧(∃ v',Ending.returned v = .returned v'∧∃ F' loc',(∀ t,t<Ein.sl.length→loc' t=loc t) ∧
   Rel w (lentOf Ein F loc) ⟨P,⟨List.replicate cfg.np .dead++[.cref cfg.np 0],List.replicate cfg.np none++[some ls]⟩,{ tmps:=a.tmps.push v',defers:=[] },C'.w,F',loc',M⟩):=by
  refine ⟨R'.defers,_,hres1,_,rfl,(fun _ _=>False),(fun x=>if x=cfg.np then C'.loc u else C'.loc x),fun x hx => ?_,?_⟩
  rotate_left 1
  ·have hM:C'.M=M:=hk'.2
   clear hres1
   obtain ⟨P1,E1,a1,w1,F1,l1,M1⟩:=C'
   simp only at hP' hM R3
   subst hP'; subst hM
   exact R3
  ·have hne:x≠cfg.np:=by rw [hnp] at hx; omega
   show (if x=cfg.np then C'.loc u else C'.loc x)=loc x
   rw [if_neg hne]
   exact hl' x (by rw [←hnp]; exact hx)
 rcases he with rfl | rfl
 ·exact fin
 ·exact fin
theorem cref_val {C:Ctx} {t n:Nat} {v:Value} (hs:SRel C t (.cref n 0) v):v = .pointer (some ⟨(C.loc n).1,(C.loc n).2,none⟩):=by
 cases hs with
 | comp _ _ _ hc =>
  cases hc with
  | leaf _ _ a b c=>cases c; rfl
theorem snd_new {w0:World} {L:Nat→Nat→Prop} {C:Ctx} (R:Rel w0 L C) {np:Nat} {K:Env→Prop} {next:Act→World→Prop} (hn:Nxt w0 L np C K next) {Q:Go.Exit→Act→World→Prop} {o:Oper}
  {f:FuncId} {acc:CallAcc} {ws:List Value} (ha:AccOk C acc ws) (hf:AccFine acc) (h1:acc.wb=[]) (h2:acc.wc=[]) (h3:acc.bor=[]) (h4:acc.borc=[]) (h5:∀ x,x∈acc.ce→x=none)
  {ls:List D} {Eout:Env} (hsem:Sem C.P f ⟨acc.args,acc.ce⟩ Eout) (hs1:Eout.sl[acc.args.length]? = some (.cref acc.args.length 0)) (hs2:Eout.ce[acc.args.length]? = some (some ls)) (hp:ls.all D.plain1=true) (hl0:0<ls.length)
  (hx:(execOp C.a.eval o).run C.P C.w=(callFunc f ws.toArray).run C.P C.w) {t:Tmp} (hd:o.dst=some t) (htn:np≤t) (htc:C.E.ce[t]? = some none) (hno:(C.E.sl.getD t .dead).anyOwn=false)
  (hK:K { sl:=C.E.sl.set t (.cref t 0),ce:=C.E.ce.set t (some ls) }):o.wp C.P C.a C.w next Q:=by
 have hFin:∀ p b,¬ FIn C acc p b:=by
  rintro p b (⟨_,q,hq,_⟩ | ⟨_,c,j,n,hq,_⟩)
  ·rw [h1] at hq; cases hq
  ·rw [h2] at hq; cases hq
 have hL:∀ b o,¬ lentOf (CIn C acc ws).E (CIn C acc ws).F (CIn C acc ws).loc b o:=by
  rintro b o (⟨p,hp⟩ | ⟨x,ds,hx,_⟩)
  ·exact hFin p b hp
  ·have:=h5 _ (List.mem_of_getElem? hx); cases this
 have hc:=hsem C.w { tmps:=ws.toArray,defers:=[] } (FIn C acc) (locIn C acc) (MIn C acc) (Rel.entry R ha hf)
 have back:∀ v w',(∃ F' loc',(∀ t,t<acc.args.length→loc' t=locIn C acc t)∧Rel C.w (lentOf (CIn C acc ws).E (CIn C acc ws).F (CIn C acc ws).loc) { P:=C.P,E:=Eout,a:={ tmps:=ws.toArray.push v,defers:=[] },w:=w',F:=F',loc:=loc',M:=MIn C acc })→next (C.a.put o.dst v) w':=by
  rintro v w' ⟨F',loc',hloc,Ro⟩
  have x:Ext C.w w':=⟨Ro.frame.os,Ro.frame.tape,Ro.frame.output,Ro.frame.size,fun b hb=>Ro.frame.kept b hb (fun o h=>hL b o h)⟩
  obtain ⟨cs,e,fr,a1,a2,a3,a4⟩:=(Ro.cell acc.args.length ls hs2).out
  have hv:v = .pointer (some ⟨(loc' acc.args.length).1,(loc' acc.args.length).2,none⟩):=by
   have hs:=Ro.slot _ _ hs1
   have e:({ tmps:=ws.toArray.push v,defers:=[] }:Act).tmps.getD acc.args.length undef=v:=by
    show (ws.toArray.push v).getD acc.args.length undef=v
    rw [ha.len,arrGetD]
    simp
   have hs:SRel _ acc.args.length (.cref acc.args.length 0) (({ tmps:=ws.toArray.push v,defers:=[] }:Act).tmps.getD acc.args.length undef):=hs
   rw [e] at hs
   exact cref_val hs
  have hb':C.w.heap.size≤(loc' acc.args.length).1:=by
   by_cases h:(loc' acc.args.length).1<C.w.heap.size
   ·exact absurd (Ro.clent _ _ hs2 h 0 hl0) (hL _ _)
   ·omega
  have R2:=R.growCell t ls x hb' a1 a2 a3 htc hno (fun i d hd=>by
   obtain ⟨b1,b2,b3⟩:=a4 i d hd
   have hpd:=List.all_eq_true.1 hp d (List.mem_of_getElem? hd)
   simp only [D.plain1,Bool.and_eq_true,Bool.not_eq_true'] at hpd
   refine ⟨b1,b2,_,(b3.rl hpd.1 b1 b2).noOwn hpd.2,fun b hb hlt => ?_⟩
   obtain ⟨g1,g2⟩:=hb
   refine ⟨fun e=>g1 (.inr ⟨_,ls,hs2,e.symm⟩),?_⟩
   rcases g2 with g2 | g2 | g2
   ·exact .inl g2
   ·rcases g2 with ⟨p,hp⟩ | ⟨c,j,n,i,hq,_⟩
    ·exact absurd hp (hFin p b)
    ·rw [h2] at hq; cases hq
   ·rcases g2 with g2 | ⟨q,e,xs,hq,_⟩ | ⟨c,ds,hq,_⟩
    ·exact .inr g2
    ·rw [h3] at hq; cases hq
    ·rw [h4] at hq; cases hq)
  rw [hd,hv]
  refine hn _ R2 rfl (fun x hx => ?_) hK
  show (if x=t then _ else C.loc x)=C.loc x
  rw [if_neg (by omega)]
 rcases hc with ⟨c1,c2⟩ | ⟨v,w',c1,c2⟩
 ·unfold Oper.wp
  rw [hx,c1,Oper.upon_enter]
  refine Calls.mono c2 ?_
  rintro e w' ⟨v,rfl,h⟩
  exact back v w' h
 ·exact wp_value (hx.trans c1) (back v w' c2)
def NewCall (P:Program) (cfg:Cfg) (o:Oper) (E:Env) (K:Env→Prop):Prop :=
 ∃ (t:Tmp) (c:Call) (f:FuncId),o.guard=none∧o.dst=some t∧o.op = .call c∧c.callee = .value (.func f)∧cfg.np≤t∧cfg.keep t=false∧E.ce[t]? = some none∧(E.sl.getD t .dead).anyOwn=false ∧
  (opdsR c.args.toList [] fun ds=>argsR cfg.tb (cfg.md f) (cfg.pts f) ds ⟨[],[],[],[],[],[]⟩ fun acc => .chk (acc.ok=true∧acc.wb=[]∧acc.wc=[]∧acc.bor=[]∧acc.borc=[]∧(∀ x,x∈acc.ce→x=none) ∧
   ∃ Eout ls,Sem P f ⟨acc.args,acc.ce⟩ Eout∧Eout.sl[acc.args.length]? = some (.cref acc.args.length 0)∧Eout.ce[acc.args.length]? = some (some ls)∧ls.all D.plain1=true∧0<ls.length∧K { sl:=E.sl.set t (.cref t 0),ce:=E.ce.set t (some ls) }) (.ret (.done []))).wp E fun _=>True
theorem newCall_sound {P:Program} {cfg:Cfg} {w0:World} {L:Nat→Nat→Prop} {ops:Array Oper} {Q:Go.Exit→Act→World→Prop} {K:Env→Prop} {l':List Oper} {o:Oper} {C:Ctx} (R:Rel w0 L C) (hP:C.P=P) (h:NewCall P cfg o C.E K)
  (hnx:∀ C',Rel w0 L C'→C'.P=P→(∀ t,t<cfg.np→C'.loc t=C.loc t)→KeepA cfg C C'→K C'.E→wpList P ops Q l' C'.a C'.w):wpList P ops Q (o::l') C.a C.w:=by
 subst hP
 obtain ⟨t,c,f,g1,g2,g3,g4,g5,g6,g7,g8,h⟩:=h
 unfold wpList
 rw [if_pos (wanted_none g1)]
 refine .inl (wp_dst ?_)
 obtain ⟨ds,h,e1,e2⟩:=opdsR_wp R c.args.toList (acc:=[]) (vs:=[]) rfl (fun i d hd=>by simp at hd) h
 obtain ⟨acc,h,ha⟩:=argsR_wp R _ ds (c.args.toList.map C.a.eval) (accOk_nil C) (by simpa using e1) (by simpa using e2) h
 rw [List.nil_append] at ha
 obtain ⟨⟨a0,a1,a2,a3,a4,a5,Eout,ls,b1,b2,b3,b4,b5,b6⟩,_⟩:=h
 have hn:Nxt w0 L cfg.np C K (fun a' w'=>(∃ v,a'.tmps=(C.a.put o.dst v).tmps)→wpList C.P ops Q l' a' w'):=by
  intro C' R' hPM hl' hK' hv
  obtain ⟨v,hv⟩:=hv
  injection hPM with hP' hM'
  refine hnx C' R' hP' hl' ⟨fun x hx => ?_,hM'⟩ hK'
  rw [hv]
  exact put_keep (fun e=>by rw [g2] at e; injection e with e; subst e; rw [g6] at hx; cases hx)
 refine snd_new R hn ha (CallAcc.fine a0) a1 a2 a3 a4 a5 b1 b2 b3 b4 b5 ?_ g2 g5 g7 g8 b6
 rw [call_run (f:=f) (caps := #[]) g3 g4 rfl]
 congr 2
 apply Array.ext'
 simp
theorem pOps_pre {P:Program} {cfg:Cfg} (hop:OpOk P cfg) {w0:World} {L:Nat→Nat→Prop} {ops:Array Oper} {Q:Go.Exit→Act→World→Prop} {K:Env→Prop} {l':List Oper} :
  ∀ (l:List Oper) (C:Ctx),Rel w0 L C→C.P=P→pOps P cfg ops.toList l C.E K→(∀ C',Rel w0 L C'→C'.P=P→(∀ t,t<cfg.np→C'.loc t=C.loc t)→KeepA cfg C C'→K C'.E→wpList P ops Q l' C'.a C'.w)→wpList P ops Q (l++l') C.a C.w
 | [],C,R,hP,h,hQ=>hQ C R hP (fun _ _=>rfl) (KeepA.refl cfg C) h
 | o::os,C,R,hP,h,hQ=>by
  show (if Region.wanted o (yielded ops C.a.tmps) then o.wp P C.a C.w (wpList P ops Q (os++l')) Q∨(o.asks P C.a C.w∧LetsOut Q) else wpList P ops Q (os++l') (C.a.put o.dst undef) C.w)
  exact opG_sound hop R hP h fun C' R' hP' hl' hk' hK'=>pOps_pre hop os C' R' hP' hK' fun C2 R2 hP2 hl2 hk2 hK2=>hQ C2 R2 hP2 (fun t ht=>(hl2 t ht).trans (hl' t ht)) (hk'.trans hk2) hK2
def FinP (cfg:Cfg) (ts:List RV) (Eout:Env) (e:Go.Exit) (E:Env):Prop:=(e = .normal∨e = .ret)∧∃ E',Wk E E'∧shutOk cfg ts E'=true∧shut cfg ts E'=Eout
theorem sem_hand {P:Program} {cfg:Cfg} {f:FuncId} {fn:Func} {c0 c2:Code} {id:Nat} {l1 l2:List Oper} {o:Oper} {ts:List RV} (hT:TabOk P cfg.tb) (hf:P.funcs[f]? = some fn) (hname:(fn.name == "runtime.NumGoroutine")=false)
  (hb:fn.body=some (.seq c0 (.seq (.region id (l1++o::l2).toArray false) c2)))
  (hres:fn.results=(ts.map RV.toR).toArray) {Ein Eout:Env} (hnp:Ein.sl.length=cfg.np)
  (h:pwp P cfg c0 (Ein.pad (fn.ntmps-cfg.np)) (Exit.nx (fun E=>pOps P cfg (l1++o::l2) l1 E fun E1=>NewCall P cfg o E1 fun E2=>pOps P cfg (l1++o::l2) l2 E2 fun E3=>pwp P cfg c2 E3 (FinP cfg ts Eout)) (FinP cfg ts Eout))):Sem P f Ein Eout:=by
 intro w a F loc M R
 refine .inl ⟨by simp only [callFunc,Sem.run_bind,run_program,Result.andThen_ok,hf,hname,hb,Option.isNone_some,Bool.false_eq_true,if_false,Sem.run_pure],?_⟩
 have hsz:a.tmps.size=cfg.np:=by have:=R.tmps; rw [←hnp]; exact this
 have R1:=R.pad (fn.ntmps-cfg.np)
 refine calls_of_wp hf hb ?_
 rw [hsz]
 have hend:∀ (e:Go.Exit) (C':Ctx),Rel w (lentOf Ein F loc) C'→C'.P=P→(∀ t,t<cfg.np→C'.loc t=loc t)→(∀ t,cfg.keep t=true→C'.a.tmps.getD t undef=(a.tmps++Array.replicate (fn.ntmps-cfg.np) undef).getD t undef)→C'.M=M→FinP cfg ts Eout e C'.E →
   (e = .normal∨e = .ret)∧(C'.a.defers=[]∧∃ v,(results fn C'.a.tmps).run P C'.w = .ok v C'.w∧(∃ v',Ending.returned v = .returned v'∧∃ F' loc',(∀ t,t<Ein.sl.length→loc' t=loc t) ∧
   Rel w (lentOf Ein F loc) ⟨P,Eout,{ tmps:=a.tmps.push v',defers:=[] },C'.w,F',loc',M⟩)):=by
  rintro e C' R' hP' hl' hk' hM ⟨he,E',hw,hok,hE⟩
  refine ⟨he,?_⟩
  obtain ⟨F2,R2⟩:=R'.weak' hw
  have hT2:TabOk C'.P cfg.tb:=by rw [show C'.P=P from hP']; exact hT
  have hres1:=run_results hres R2 hP' hT (fun t ht=>by
   have hok2:=hok
   simp only [shutOk,Bool.and_eq_true,List.all_eq_true] at hok2
   exact hok2.1.2 t ht)
  have R3:=R2.shut hT2 hok (args:=a.tmps) hsz (by
   intro t ht
   have:=hk' t ht
   show C'.a.tmps.getD t undef=_
   rw [this]
   exact arr_pad a.tmps _ t)
  refine ⟨R'.defers,_,hres1,_,rfl,shutF cfg ts F2,C'.loc,fun t ht=>hl' t (by rw [←hnp]; exact ht),?_⟩
  clear hres1 R2
  obtain ⟨P1,E1,a1,w1,F1,l1,M1⟩:=C'
  simp only at hP' hM R3 hE
  subst hP'; subst hM
  rw [hE] at R3
  exact R3
 refine wp_seq (pwp_sound (op_ok hT) c0 _ _ _ R1 rfl h ?_)
 intro e C1 R1' hP1 hl1 hk1 hq
 have done:∀ (e:Go.Exit),FinP cfg ts Eout e C1.E→_:=fun e hq=>hend e C1 R1' hP1 hl1 hk1.1 hk1.2 hq
 cases e with
 | normal =>
  have hq:pOps P cfg (l1++o::l2) l1 C1.E _:=hq
  refine wp_seq (wp_region_list ?_)
  have et:(l1++o::l2).toArray.toList=l1++o::l2:=by simp
  rw [et]
  refine pOps_pre (op_ok hT) l1 C1 R1' hP1 (by rw [et]; exact hq) ?_
  intro C2 R2 hP2 hl2 hk2 hq2
  refine newCall_sound R2 hP2 hq2 ?_
  intro C3 R3 hP3 hl3 hk3 hq3
  refine pOps_sound (op_ok hT) l2 C3 R3 hP3 (by rw [et]; exact hq3) ?_
  intro C4 R4 hP4 hl4 hk4 hq4
  refine pwp_sound (op_ok hT) c2 C4 _ _ R4 hP4 hq4 ?_
  intro e C5 R5 hP5 hl5 hk5 hq5
  have hk:=(((hk1.trans hk2).trans hk3).trans hk4).trans hk5
  obtain ⟨he,hfin⟩:=hend e C5 R5 hP5 (fun t ht=>(hl5 t ht).trans ((hl4 t ht).trans ((hl3 t ht).trans ((hl2 t ht).trans (hl1 t ht))))) hk.1 hk.2 hq5
  rcases he with rfl | rfl
  ·exact hfin
  ·exact hfin
 | ret=>exact (done .ret hq).2
 | _ =>
  have hq:FinP cfg ts Eout _ C1.E:=hq
  obtain ⟨h1,_⟩:=hq
  rcases h1 with h1 | h1<;>cases h1
end Go.Proofs.YtbdfdfhamlmodaaGreatDoor.Fw
namespace Go.Proofs.YtbdfdfhamlmodaaGreatDoor.Fw
open Go
open Go.Proofs.Tryz
set_option maxRecDepth 100000
set_option maxHeartbeats 4000000
attribute [local congr] c_bnd c_slot c_cell c_all c_len c_chk c_asm c_opdR c_wp c_pwp c_pOps c_Done c_nx c_blk c_fin c_coeLeaf c_coeLeaves c_argR c_argsR c_partsR c_ite c_wpF c_OutF c_pHead c_pHeadN c_pDraw
attribute [local go_sem] bytesRows_len
def FinN (t:Nat) (ls:List D) (e:Go.Exit) (E:Env):Prop:=(e = .normal∨e = .ret)∧∃ u,E.sl[t]? = some (.cref u 0)∧E.ce[u]? = some (some ls)
theorem sn (n t:Nat) {f:FuncId} {fn:Func} {c:Code} {Ein:Env} {ls:List D} {q:Prop} (hf:prog.funcs[f]? = some fn) (x:q) (hname:(fn.name == "runtime.NumGoroutine")=false:=by rfl) (hb:fn.body=some c:=by rfl) (hres:fn.results = #[.tmp t]:=by rfl) (hnp:Ein.sl.length=n:=by rfl) (hp:ls.all D.plain1=true:=by rfl)
  (e:pwp prog (cfg n) c (Ein.pad (fn.ntmps-n)) (FinN t ls)=q:=by simp only [go_sem,Nat.reduceLeDiff,Nat.reduceLT,Nat.reduceAdd,Nat.reduceSub,Nat.reduceMul,Nat.reduceBEq,Nat.reduceBNe,Nat.reduceEqDiff,reduceCtorEq,reduceIte,Int.reduceLT,Int.reduceLE,Int.reduceAdd,Int.reduceSub,Int.reduceNeg,Int.reduceEq,Int.reduceBEq,Int.reduceBNe,Int.reduceToNat,Nat.reduceDiv,Nat.reduceMod, *]; rfl) :
  Sem prog f Ein ⟨List.replicate n .dead++[.cref n 0],List.replicate n none++[some ls]⟩ :=
 sem_new (cfg:=cfg n) tbOk hf hname hb hres hnp hp (e▸x)
def hs1 (h:Int) (b:UInt8):Int:=IntKind.i64.wrap ((@HAnd.hAnd (BitVec 64) (BitVec 64) (BitVec 64) (@instHAndOfAndOp (BitVec IntKind.i64.bits) (@BitVec.instAndOp IntKind.i64.bits)) (BitVec.ofInt 64 (IntKind.i64.wrap (IntKind.i64.wrap (IntKind.i64.wrap (h*131)+IntKind.i64.wrap (b.toNat:Int))+7))) (BitVec.ofInt 64 1073741823)).toNat:Int)
theorem c35 (B:List UInt8) (hB:B.length≤9223372036854775807):∃ h:Int,Sem prog 35 ⟨[.imm 5 (bytesRows B)],[none]⟩ ⟨[.dead,.cref 1 0],[none,some (cur B 0 h)]⟩:=by
 let st:Nat→Int:=fun k=>Nat.rec (IntKind.i64.wrap (64242+(B.length:Int))) (fun k h=>hs1 h (B.getD k 0)) k
 have s0:st 0=IntKind.i64.wrap (64242+(B.length:Int)):=rfl
 have ss:∀ k,st (k+1)=hs1 (st k) (B.getD k 0):=fun k=>rfl
 generalize st=st at s0 ss
 have hat:∀ k,k<B.length→(bytesRows B).getD k []=[.v (vC (B.getD k 0).toNat)]:=fun k hk=>bytesRows_getD hk
 have hlb:=bytesRows_len (B:=B)
 have hB9:B.length≤9223372036854775807:=by omega
 refine ⟨st (min B.length 4000),?_⟩
 have hX:cur B 0 (st (min B.length 4000))=[.imm 5 (bytesRows B),.v (vI 0),.v (vI (st (min B.length 4000)))]:=rfl
 rw [hX]
 clear hX
 generalize bytesRows B=X at *
 refine sn 1 2 func35 ?_
 refine loopZ (fun k:Nat=>pE 32 [.imm 5 X,.dead,.v (.pointer none),.v (vI (st k)),.v (vI k)]) [0,2,3,4] (fun k=>k≤min B.length 4000) (fun k=>4000-k) 0 (by rw [s0]; rfl) (Nat.zero_le _) ?_
 intro k hk
 by_cases hc:k<B.length
 ·by_cases h4:k<4000
  ·have w1:=wrapN hc hB9
   have e1:=hat k hc
   have e2:(k:Int)<4000:=by omega
   have e3:=ss k
   clear ss hat s0
   refine Z ?_
   exact ⟨k+1,by rw [e3]; rfl,by omega,by omega⟩
  ·have hk2:min B.length 4000=k:=by omega
   rw [hk2]
   have e2:¬ (k:Int)<4000:=by omega
   clear ss hat s0 hk hk2
   refine Z ?_
   exact ⟨.inr rfl,31,rfl,rfl⟩
 ·have hk2:min B.length 4000=k:=by omega
  rw [hk2]
  clear ss hat s0 hk hk2
  refine Z ?_
  exact ⟨.inr rfl,31,rfl,rfl⟩
theorem sh (n:Nat) (ts:List RV) {f:FuncId} {fn:Func} {c0 c2:Code} {id:Nat} {ops:Array Oper} {a o:Oper} {l2:List Oper} {Ein Eout:Env} {q:Prop} (hf:prog.funcs[f]? = some fn) (x:q) (hname:(fn.name == "runtime.NumGoroutine")=false:=by rfl) (hb:fn.body=some (.seq c0 (.seq (.region id ops false) c2)):=by rfl) (ho:ops.toList=a::o::l2:=by rfl) (hres:fn.results=(ts.map RV.toR).toArray:=by rfl) (hnp:Ein.sl.length=n:=by rfl)
  (e:pwp prog (cfg n) c0 (Ein.pad (fn.ntmps-n)) (Exit.nx (fun E=>pOps prog (cfg n) (a::o::l2) [a] E fun E1=>NewCall prog (cfg n) o E1 fun E2=>pOps prog (cfg n) (a::o::l2) l2 E2 fun E3=>pwp prog (cfg n) c2 E3 (Fin (cfg n) ts Eout)) (Fin (cfg n) ts Eout))=q:=by simp only [go_sem,Nat.reduceLeDiff,Nat.reduceLT,Nat.reduceAdd,Nat.reduceSub,Nat.reduceMul,Nat.reduceBEq,Nat.reduceBNe,Nat.reduceEqDiff,reduceCtorEq,reduceIte,Int.reduceLT,Int.reduceLE,Int.reduceAdd,Int.reduceSub,Int.reduceNeg,Int.reduceEq,Int.reduceBEq,Int.reduceBNe,Int.reduceToNat,Nat.reduceDiv,Nat.reduceMod]; rfl) :
  Sem prog f Ein Eout:=by
 have hb2:fn.body=some (.seq c0 (.seq (.region id ([a]++o::l2).toArray false) c2)):=by
  rw [hb,show ([a]++o::l2).toArray=ops by rw [show [a]++o::l2=ops.toList from ho.symm]]
 exact sem_hand (cfg:=cfg n) (ts:=ts) tbOk hf hname hb2 hres hnp (e▸x)
theorem c9 (B:List UInt8) (hB:B.length≤9223372036854775807):∃ (o:Dr) (l:List Fld),o.ok B 1000∧okF 1000 l∧Q1 9 (.imm 5 (bytesRows B)) (mD o.me o.ta o.st o.re o.ba (sd 105 (rowsF l)) o.bo):=by
 obtain ⟨h,x1⟩:=c35 B hB
 obtain ⟨o,l,ho,hl,x2⟩:=c34 B (by omega) 0 (Nat.zero_le _) h
 refine ⟨o,l,ho,hl,?_⟩
 clear ho hl
 by_cases h1:l=[]
 ·subst h1
  refine sh 1 [.ce 2 25] func9 ?_
  refine ⟨_,_,_,rfl,rfl,rfl,rfl,by decide,rfl,rfl,rfl,?_⟩
  refine Z ?_
  refine ⟨fun x hx=>List.mem_singleton.1 hx,_,_,x1,rfl,rfl,rfl,(by show 0<3; decide),?_⟩
  refine Z ?_
  refine callc x2 ?_
  exact fz
 ·have hsd:=sd_own (e:=105) (rowsF_ne h1)
  rw [hsd] at x2 ⊢
  clear h1 hsd
  refine sh 1 [.ce 2 25] func9 ?_
  refine ⟨_,_,_,rfl,rfl,rfl,rfl,by decide,rfl,rfl,rfl,?_⟩
  refine Z ?_
  refine ⟨fun x hx=>List.mem_singleton.1 hx,_,_,x1,rfl,rfl,rfl,(by show 0<3; decide),?_⟩
  refine Z ?_
  refine callc x2 ?_
  exact fz
def gs46_0:List (Option (List Nat)):=[some [18,21,22,23,24],some [17,21,22,23,24],some [21,22,23,24],some [21,22,23,24],some [17,18,19,20,22],some [17,18,19,20,21],some [17,18,19,20],some [17,18,19,20],none]
attribute [go_sem] gs46_0
theorem c46 (l:List Fld) (hl:l.length≤9223372036854775807):Q2 46 (.imm 105 (rowsF l)) (.imm 105 (rowsF l)) (.v (vB true)):=by
 have hln:=rowsF_length l
 have hat:∀ i,i<l.length→(rowsF l).getD i []=[.v (vS (l.getD i ([],[])).1),.v (vS (l.getD i ([],[])).2)]:=fun i hi=>rowsF_getD hi
 generalize rowsF l=X at *
 refine sb 2 [.tm 4] func46 ?_
 refine loopZ (fun k:Nat=>pE 26 [.imm 105 X,.imm 105 X,.dead,.dead,.dead,.v (vI k)]) [0,1,5] (fun k=>k≤l.length) (fun k=>l.length-k) 0 rfl (Nat.zero_le _) ?_
 intro k hk
 by_cases hc:k<l.length
 ·have e1:=hat k hc
  have w1:=wrapN hc hl
  clear hat
  refine Z ?_
  refine draw_new gs46_0 mixedOk (by kernel_rfl) ?_
  refine Z ?_
  exact ⟨k+1,rfl,hc,by omega⟩
 ·have he:k=l.length:=by omega
  subst he
  clear hat hc
  refine Z ?_
  exact fz
theorem c14 (me ta:List UInt8) (st:Int) (re:List UInt8) (ba:Bool) (l:List Fld) (bo:List UInt8) (hl:l.length≤9223372036854775807):Q2 14 (.agg [.v (vS me),.v (vS ta),.v (vI st),.v (vS re),.v (vB ba),.imm 105 (rowsF l),.v (vS bo)]) (.agg [.v (vS me),.v (vS ta),.v (vI st),.v (vS re),.v (vB ba),.imm 105 (rowsF l),.v (vS bo)]) (.v (vB true)):=by
 have x1:=c46 l hl
 have e1:(me==me)=true:=by simp
 have e2:(ta==ta)=true:=by simp
 have e3:(st==st)=true:=by simp
 have e4:(re==re)=true:=by simp
 have e5:(ba==ba)=true:=by simp
 have e6:(bo==bo)=true:=by simp
 refine sb 2 [.tm 4] func14 ?_
 refine call0 x1 ?_
 exact fz
theorem c3 (B:List UInt8) (hB:B.length≤9223372036854775807):Q1 3 (.imm 5 (bytesRows B)) (.v (vB true)):=by
 obtain ⟨⟨i,h,me,ta,st,re,ba,bo⟩,l,⟨k1,k2,k3,k4,k5⟩,⟨l1,l2⟩,x9⟩:=c9 B hB
 have k2:me.length≤1000:=k2
 have k3:ta.length≤1000:=k3
 have k4:re.length≤1000:=k4
 have k5:bo.length≤1000:=k5
 have x9:Q1 9 (.imm 5 (bytesRows B)) (mD me ta st re ba (sd 105 (rowsF l)) bo):=x9
 have hs:Small l:=⟨by omega,fun p hp=>⟨by have:=(l2 p hp).1; omega,by have:=(l2 p hp).2; omega⟩⟩
 have x10:=c10 me ta st re ba l bo (by omega) (by omega) (by omega) (by omega) hs
 have x11:=c11 me ta st re ba l bo (by omega) (by omega) (by omega) (by omega) hs
 have x12:=c12
 have x14:=c14 me ta st re ba l bo (by omega)
 cases hm:msgB me ta st re ba l bo
 ·rw [hm] at x11
  have hw:wmT me ta st re ba l bo=[]:=by simp [wmT,hm]
  rw [hw] at x10
  clear x14 hw hs k1 k2 k3 k4 k5 l1 l2
  by_cases h1:l=[]
  ·subst h1
   rw [show sd 105 (rowsF []) = .nil from rfl] at x9
   refine sb 1 [.tm 2] func3 ?_
   refine call0 x9 ?_
   refine call0 x10 ?_
   refine call0 x11 ?_
   refine call0 x12 ?_
   exact fz
  ·have hsd:=sd_own (e:=105) (rowsF_ne h1)
   rw [hsd] at x9
   clear h1 hsd
   refine sb 1 [.tm 2] func3 ?_
   refine call0 x9 ?_
   refine call0 x10 ?_
   refine call0 x11 ?_
   refine call0 x12 ?_
   exact fz
 ·rw [hm] at x11
  have hr:=round hm
  have hwl:(wmT me ta st re ba l bo).length≤1048576:=by
   have h2:=hm
   simp only [msgB,Bool.and_eq_true,decide_eq_true_eq] at h2
   rw [wmT,if_pos hm,List.length_append]
   omega
  have hst:((st.toNat:Nat):Int)=st:=by
   have h2:=hm
   simp only [msgB,Bool.and_eq_true,decide_eq_true_eq] at h2
   have h3:=h2.1.2
   split at h3
   ·have:=(answer_le h3).2; omega
   ·have:=(request_le h3).2.2.1; omega
  have hba:(me==[])=false→ba=false:=by
   intro e
   have h2:=hm
   simp only [msgB,Bool.and_eq_true,decide_eq_true_eq] at h2
   have h3:=h2.1.2
   rw [if_neg (by rw [e]; decide)] at h3
   simp only [requestB,Bool.and_eq_true] at h3
   simpa using h3.2
  generalize wmT me ta st re ba l bo=s at *
  have x13:=c13 s hwl
  have x15:=c15 s hwl ba
  clear hm hs k1 k2 k3 k4 k5 l1 l2 hwl
  cases hme:(me==[])
  ·have hb:=hba hme
   subst hb
   rw [hme] at hr
   rw [hr] at x13
   have x13:Q1 13 (.v (vS s)) (.tup [mD me ta ((st.toNat:Nat):Int) re false (fD l) bo,.v (vI 0)]):=x13
   rw [hst] at x13
   clear x15 hr hba hst
   by_cases h1:l=[]
   ·subst h1
    rw [show sd 105 (rowsF []) = .nil from rfl] at x9
    rw [show fD [] = .nil from rfl] at x13
    refine sb 1 [.tm 2] func3 ?_
    refine call0 x9 ?_
    refine call0 x10 ?_
    refine call0 x11 ?_
    refine call0 x13 ?_
    refine call0 x14 ?_
    refine call0 x12 ?_
    exact fz
   ·have hsd:=sd_own (e:=105) (rowsF_ne h1)
    rw [hsd] at x9
    rw [show fD l = .imm 105 (rowsF l) from by cases l; exact absurd rfl h1; rfl] at x13
    clear h1 hsd
    refine sb 1 [.tm 2] func3 ?_
    refine call0 x9 ?_
    refine call0 x10 ?_
    refine call0 x11 ?_
    refine calli x13 ?_
    refine call0 x14 ?_
    refine call0 x12 ?_
    exact fz
  ·rw [hme] at hr
   rw [hr] at x15
   have x15:Q2 15 (.v (vS s)) (.v (vB ba)) (.tup [mD me ta ((st.toNat:Nat):Int) re ba (fD l) bo,.v (vI 0)]):=x15
   rw [hst] at x15
   clear x13 hr hba hst
   by_cases h1:l=[]
   ·subst h1
    rw [show sd 105 (rowsF []) = .nil from rfl] at x9
    rw [show fD [] = .nil from rfl] at x15
    refine sb 1 [.tm 2] func3 ?_
    refine call0 x9 ?_
    refine call0 x10 ?_
    refine call0 x11 ?_
    refine call0 x15 ?_
    refine call0 x14 ?_
    refine call0 x12 ?_
    exact fz
   ·have hsd:=sd_own (e:=105) (rowsF_ne h1)
    rw [hsd] at x9
    rw [show fD l = .imm 105 (rowsF l) from by cases l; exact absurd rfl h1; rfl] at x15
    clear h1 hsd
    refine sb 1 [.tm 2] func3 ?_
    refine call0 x9 ?_
    refine call0 x10 ?_
    refine call0 x11 ?_
    refine calli x15 ?_
    refine call0 x14 ?_
    refine call0 x12 ?_
    exact fz
end Go.Proofs.YtbdfdfhamlmodaaGreatDoor.Fw
