/- Texts of the proof: FgK FgC FgE FdF FdI FgF FgD FgI FgH FgG FgJ FwBd FwBe FwBf FdK FgL FgM FgN FgO FjA FjB. -/
import Derived.WalkKit
import Derived.BigCall
import Derived.Shelf.Strings.Builder1
import Derived.Test.YtbdfdfhamlmodaaGreatDoorM4
set_option linter.unusedSimpArgs false
set_option linter.unusedVariables false
/- Contracts of the library: strings.CutPrefix of "HTTP/1.1 ", strconv.Atoi of digits. -/
namespace Go.Proofs.YtbdfdfhamlmodaaGreatDoor.Fw
open Go Go.Proofs Go.Shelf
open Go.RowKit (Below)
set_option maxRecDepth 100000
theorem cut_y (s:ByteArray) (w:World) (h9:9≤s.size) (he:s.extract 0 9=ofL httpA) :
  Calls Tryz.prog 200 #[.string s,.string (ofL httpA)] w fun e w'=>e = .returned (.tuple #[.string (s.extract 9 s.size),.bool true])∧w'=w:=by
 have h1:(ofL httpA).size=9:=rfl
 have h2:((9:Int)≤(s.size:Int)):=by omega
 have h3:((ofL httpA).toList==(ofL httpA).toList)=true:=by simp
 go_enter Tryz.func200,Tryz.ntmps200
 go_wp2
 go_ret2
 exact ⟨rfl,rfl⟩
theorem cut_n (s:ByteArray) (w:World) (h9:9≤s.size) (h3:((s.extract 0 9).toList==(ofL httpA).toList)=false) :
  Calls Tryz.prog 200 #[.string s,.string (ofL httpA)] w fun e w'=>e = .returned (.tuple #[.string s,.bool false])∧w'=w:=by
 have h1:(ofL httpA).size=9:=rfl
 have h2:((9:Int)≤(s.size:Int)):=by omega
 go_enter Tryz.func200,Tryz.ntmps200
 go_wp2
 go_ret2
 exact ⟨rfl,rfl⟩
theorem cut_s (s:ByteArray) (w:World) (h9:s.size<9) :
  Calls Tryz.prog 200 #[.string s,.string (ofL httpA)] w fun e w'=>e = .returned (.tuple #[.string s,.bool false])∧w'=w:=by
 have h1:(ofL httpA).size=9:=rfl
 have h2:¬ ((9:Int)≤(s.size:Int)):=by omega
 go_enter Tryz.func200,Tryz.ntmps200
 go_wp2
 go_ret2
 exact ⟨rfl,rfl⟩
theorem ext_ofL (l:List UInt8) (a b:Nat):(ofL l).extract a b=ofL ((l.take b).drop a):=by
 have h:((ofL l).extract a b).data=(ofL ((l.take b).drop a)).data:=by
  rw [ByteArray.data_extract]
  apply Array.ext'
  rw [Array.toList_extract]
  show ((l.drop a).take (b-a))=(l.take b).drop a
  rw [List.drop_take]
 cases hx:(ofL l).extract a b
 rw [hx] at h
 cases h
 rfl
theorem c200 (s:List UInt8) (hs:s.length≤1048576):Sem Tryz.prog 200 ⟨[.v (vS s),.v (vS httpA)],[none,none]⟩ ⟨[.v (vS s),.v (vS httpA),.tup [.v (vS (if s.take 9=httpA then s.drop 9 else s)),.v (vB (decide (s.take 9=httpA)))]],[none,none,none]⟩:=by
 refine sem_callsT (Ein:=⟨[.v (vS s),.v (vS httpA)],[none,none]⟩) (r := .tuple [vS (if s.take 9=httpA then s.drop 9 else s),vB (decide (s.take 9=httpA))].toArray) (enter_of Tryz.func200 rfl rfl) (srel_tup (vs:=[vS (if s.take 9=httpA then s.drop 9 else s),vB (decide (s.take 9=httpA))]) (by
  intro v hv
  simp only [List.mem_cons,List.not_mem_nil,or_false] at hv
  rcases hv with rfl | rfl
  ·simp only [scal,decide_eq_true_eq]
   show (if s.take 9=httpA then s.drop 9 else s).length≤_
   split
   ·rw [List.length_drop]; omega
   ·omega
  ·rfl)) ?_
 intro w a F loc M R
 have h0:=slot_of R (i:=0) (d := .v (vS s)) rfl rfl (by simp)
 have h1:=slot_of R (i:=1) (d := .v (vS httpA)) rfl rfl (by simp)
 rw [args2 R.tmps]
 generalize a.tmps.getD 0 undef=v0 at h0
 generalize a.tmps.getD 1 undef=v1 at h1
 cases h1
 cases h0
 have fin:∀ (v:Value) (w':World) (e:Ending),e = .returned v∧w'=w→e = .returned v∧Below w.heap.size w w':=fun v w' e ⟨h1,h2⟩=>⟨h1,h2▸Below.refl _ _⟩
 by_cases h:s.take 9=httpA
 ·have hl:9≤s.length:=by
   have:=congrArg List.length h
   rw [List.length_take,show httpA.length=9 from rfl] at this
   omega
  have he:(ofL s).extract 0 9=ofL httpA:=by rw [ext_ofL,h]; rfl
  have k:=cut_y (ofL s) w hl he
  rw [ext_ofL,show (ofL s).size=s.length from rfl,List.take_length] at k
  rw [if_pos h,show decide (s.take 9=httpA)=true from decide_eq_true h]
  exact k.mono fun e w' h=>fin _ w' e h
 ·rw [if_neg h,show decide (s.take 9=httpA)=false from decide_eq_false h]
  by_cases h9:9≤s.length
  ·refine (cut_n (ofL s) w h9 ?_).mono fun e w' h=>fin _ w' e h
   cases hq:((ofL s).extract 0 9).toList==(ofL httpA).toList
   ·rfl
   ·have:=beq_iff_eq.1 hq
    rw [ByteArray.toList_eq,ByteArray.toList_eq,ext_ofL] at this
    exact absurd this h
  ·exact (cut_s (ofL s) w (by show s.length<9; omega)).mono fun e w' h=>fin _ w' e h
theorem atoi_digs {l:List UInt8} (h0:l≠[]) (h:∀ b,b∈l→48≤b.toNat∧b.toNat≤57) (hv:valD l 0<1000000000000000000):Lib.atoiAll l = .ok (valD l 0:Int):=by
 have hp:=parse_dig l 0 h hv
 cases l with
 | nil=>exact absurd rfl h0
 | cons c r =>
  have hc:=h c List.mem_cons_self
  rw [Lib.atoiAll_plain c r (by omega) (by omega),Lib.parseMag,if_neg (by simp),hp]
  show (if _ then _ else _)=_
  rw [if_neg (by omega)]
theorem c182 (l:List UInt8) (h0:l≠[]) (h:∀ b,b∈l→48≤b.toNat∧b.toNat≤57) (hl:l.length≤1048576) (hv:valD l 0<1000000000000000000):Sem Tryz.prog 182 ⟨[.v (vS l)],[none]⟩ ⟨[.v (vS l),.tup [.v (vI (valD l 0:Nat)),.v .nilIface]],[none,none]⟩:=by
 refine sem_callsT (Ein:=⟨[.v (vS l)],[none]⟩) (r := .tuple [vI (valD l 0:Nat),.nilIface].toArray) (enter_of Tryz.func182 rfl rfl) (srel_tup (vs:=[vI (valD l 0:Nat),.nilIface]) (by
  intro v hv
  simp only [List.mem_cons,List.not_mem_nil,or_false] at hv
  rcases hv with rfl | rfl<;>rfl)) ?_
 intro w a F loc M R
 have h1:=slot_of R (i:=0) (d := .v (vS l)) rfl rfl (by simp)
 rw [args1 R.tmps]
 generalize a.tmps.getD 0 undef=v0 at h1
 cases h1
 exact (Any.strconv_Atoi_ok lib_laysC172 (ofL l) (by show l.length≤_; omega) (valD l 0:Nat) (atoi_digs h0 h hv) w).mono fun e w' ⟨h1,h2⟩=>⟨h1,below_bytes h2⟩
end Go.Proofs.YtbdfdfhamlmodaaGreatDoor.Fw
namespace Go.Proofs.YtbdfdfhamlmodaaGreatDoor.Fw
open Go
open Go.Proofs.Tryz
set_option maxRecDepth 100000
set_option maxHeartbeats 4000000
attribute [local congr] c_bnd c_slot c_cell c_all c_len c_chk c_asm c_opdR c_wp c_pwp c_pOps c_Done c_nx c_blk c_fin c_coeLeaf c_coeLeaves c_argR c_argsR c_partsR c_ite c_wpF c_OutF c_pHead c_pHeadN c_pDraw
abbrev mD (me ta:List UInt8) (st:Int) (re:List UInt8) (ba:Bool) (f:D) (bo:List UInt8):D := .agg [.v (vS me),.v (vS ta),.v (vI st),.v (vS re),.v (vB ba),f,.v (vS bo)]
abbrev mZ:D:=mD [] [] 0 [] false .nil []
abbrev m1D (me ta:List UInt8) (st:Int) (re:List UInt8) (ok:Bool):D := .tup [mD me ta st re false .nil [],.v (vB ok)]
def digs3 (s:List UInt8):Bool:=((s.drop 9).take 3).all fun b=>isDigitB b.toNat
def st3 (s:List UInt8):Nat:=valD ((s.drop 9).take 3) 0
def stR (s:List UInt8):Option (Nat × List UInt8):=if s.take 9=httpA∧13≤s.length∧s.getD 12 0=32∧digs3 s=true∧statusB (st3 s)=true∧reasonB (s.drop 13)=true then some (st3 s,s.drop 13) else none
def httpV:List UInt8:=[72,84,84,80,47,49,46,49]
def rqR (s:List UInt8):Option (List UInt8 × List UInt8):=match spl 32 s with
 | [a,b,c]=>if (c==httpV&&(methodB a&&targetB b))=true then some (a,b) else none
 | _=>none
theorem get_9 (s:List UInt8):(s.drop 9).getD 3 0=s.getD 12 0:=by simp [gDg,List.getElem?_drop]
theorem digs3_all {s:List UInt8} (h:digs3 s=true):∀ b,b∈(s.drop 9).take 3→48≤b.toNat∧b.toNat≤57:=by
 intro b hb
 have:=(digit_iff _).1 (List.all_eq_true.1 h b hb)
 omega
theorem valD_bd (l:List UInt8):∀ n,(∀ b,b∈l→48≤b.toNat∧b.toNat≤57)→valD l n<(n+1)*10 ^ l.length:=by
 induction l with
 | nil=>intro n _; simp [valD]
 | cons b l ih =>
  intro n h
  have h1:=h b List.mem_cons_self
  have h2:=ih (10*n+(b.toNat-48)) fun x hx=>h x (List.mem_cons_of_mem _ hx)
  refine Nat.lt_of_lt_of_le h2 ?_
  rw [List.length_cons,Nat.pow_succ,Nat.mul_comm (10 ^ l.length) 10,←Nat.mul_assoc]
  exact Nat.mul_le_mul_right _ (by omega)
theorem st3_bd {s:List UInt8} (h:digs3 s=true):st3 s<1000:=by
 have h1:=valD_bd _ 0 (digs3_all h)
 have h2:((s.drop 9).take 3).length≤3:=by rw [List.length_take]; omega
 have h3:10 ^ ((s.drop 9).take 3).length≤10 ^ 3:=Nat.pow_le_pow_right (by decide) h2
 unfold st3
 omega
theorem dec3 (a b c:Nat) (ha:1≤a∧a<10) (hb:b<10) (hc:c<10):Lib.decDigits (100*a+10*b+c)=[UInt8.ofNat (48+a),UInt8.ofNat (48+b),UInt8.ofNat (48+c)]:=by
 have e1:(100*a+10*b+c) / 10=10*a+b:=by omega
 have e2:(10*a+b) / 10=a:=by omega
 rw [decDigits_big (by omega),e1,decDigits_big (by omega),e2,decDigits_small (by omega)]
 rw [show (100*a+10*b+c) % 10=c by omega,show (10*a+b) % 10=b by omega]
 rfl
theorem readD3 {s:List UInt8} (hl:13≤s.length):(∃ n,readD ((s.drop 9).take 3)=some n∧200≤n∧n≤599)↔digs3 s=true∧statusB (st3 s)=true:=by
 have hlen:((s.drop 9).take 3).length=3:=by rw [List.length_take,List.length_drop]; omega
 unfold digs3 st3
 generalize (s.drop 9).take 3=l at hlen
 constructor
 ·rintro ⟨n,h,h1,h2⟩
  obtain ⟨_,rfl⟩:=readD_iff.1 h
  refine ⟨List.all_eq_true.2 fun b hb=>(digit_iff _).2 (by have:=digs_all n b hb; omega),?_⟩
  rw [valD_dec]
  unfold statusB inB
  simp; omega
 ·rintro ⟨h,h2⟩
  match l,hlen with
  | [x,y,z],_ =>
   simp only [List.all_cons,List.all_nil,Bool.and_true,Bool.and_eq_true,digit_iff] at h
   obtain ⟨hx,hy,hz⟩:=h
   have hv:valD [x,y,z] 0=100*(x.toNat-48)+10*(y.toNat-48)+(z.toNat-48):=by simp only [valD]; omega
   rw [hv] at h2
   unfold statusB inB at h2
   simp only [Bool.and_eq_true,decide_eq_true_eq] at h2
   have hd:=dec3 (x.toNat-48) (y.toNat-48) (z.toNat-48) (by omega) (by omega) (by omega)
   have back:∀ u:UInt8,48≤(u.toNat:Int)→UInt8.ofNat (48+(u.toNat-48))=u:=fun u hu=>by
    rw [show 48+(u.toNat-48)=u.toNat by omega]; simp
   rw [back x hx.1,back y hy.1,back z hz.1] at hd
   exact ⟨_,readD_iff.2 ⟨by omega,hd⟩,by omega,by omega⟩
theorem readD_val {l:List UInt8} {n:Nat} (h:readD l=some n):valD l 0=n:=by
 obtain ⟨_,rfl⟩:=readD_iff.1 h
 exact valD_dec n
theorem spl_eq (c:UInt8):∀ s:List UInt8,spl c s=if s.contains c=true then upto c s::spl c (behind c s) else [s]
 | []=>rfl
 | b::l=>by
  have e:spl c (b::l)=if b=c then []::spl c l else (match spl c l with | []=>[[b]] | x::xs=>(b::x)::xs):=rfl
  rw [e]
  by_cases h:b=c
  ·subst h
   rw [if_pos rfl,upto_cons_eq,behind_cons_eq,if_pos (by simp)]
  ·rw [if_neg h,upto_cons_ne h,behind_cons_ne h,spl_eq c l]
   have hc:(b::l).contains c=l.contains c:=by
    rw [List.contains_cons,show (c==b)=false from beq_eq_false_iff_ne.2 fun e=>h e.symm,Bool.false_or]
   rw [hc]
   cases l.contains c
   ·rw [if_neg (by simp),if_neg (by simp)]
   ·rw [if_pos rfl,if_pos rfl]
theorem upto_at {c:UInt8}:∀ {s:List UInt8},(upto c s).length<s.length→s.getD (upto c s).length 0=c
 | [],h=>by simp at h
 | b::l,h=>by
  by_cases e:b=c
  ·subst e; rw [upto_cons_eq]; rfl
  ·rw [upto_cons_ne e] at h ⊢
   simp only [List.length_cons,List.getD_cons_succ]
   exact upto_at (by simpa using h)
theorem join_at {c:UInt8} {s:List UInt8} (h:s.contains c=true):s=upto c s++c::behind c s:=by
 rw [upto_lt] at h
 have h:=of_decide_eq_true h
 conv=>lhs; rw [split_at' h,upto_at h,upto_take,←behind_drop]
theorem vis_no {l:List UInt8} (h:targetB l=true):l.contains 32=false:=by
 unfold targetB at h
 simp only [Bool.and_eq_true] at h
 cases hc:l.contains 32
 ·rfl
 ·have:=List.all_eq_true.1 h.2 32 (List.contains_iff_mem.1 hc)
  exact absurd this (by decide)
theorem tok_no {l:List UInt8} (h:methodB l=true):l.contains 32=false:=by
 unfold methodB tokenI at h
 simp only [Bool.and_eq_true] at h
 cases hc:l.contains 32
 ·rfl
 ·have:=List.all_eq_true.1 h.1.2 32 (List.contains_iff_mem.1 hc)
  exact absurd this (by decide)
theorem rq_some {s a b:List UInt8} (h:rqR s=some (a,b)):s=a++32::(b++32::httpV)∧methodB a=true∧targetB b=true:=by
 unfold rqR at h
 split at h
 ·rename_i x y z hs
  split at h
  ·rename_i hc
   injection h with h
   injection h with h1 h2
   subst h1 h2
   simp only [Bool.and_eq_true,beq_iff_eq] at hc
   obtain ⟨rfl,h3,h4⟩:=hc
   refine ⟨?_,h3,h4⟩
   rw [spl_eq] at hs
   split at hs
   ·rename_i h5
    injection hs with e1 e2
    rw [spl_eq] at e2
    split at e2
    ·rename_i h6
     injection e2 with e3 e4
     rw [spl_eq] at e4
     split at e4
     ·injection e4 with _ e5
      exact absurd e5 (spl_ne _ _)
     ·injection e4 with e5 _
      rw [join_at h5,e1,join_at h6,e3,e5]
    ·cases e2
   ·cases hs
  ·cases h
 ·cases h
theorem rq_iff {s:List UInt8} (me ta:List UInt8):rqR s=some (me,ta)↔me=upto 32 s∧(upto 32 s).length+11≤s.length∧s.drop (s.length-9)=httpZ∧ta=(s.drop ((upto 32 s).length+1)).take (s.length-9-((upto 32 s).length+1))∧methodB me=true∧targetB ta=true:=by
 constructor
 ·intro h
  obtain ⟨hs,h1,h2⟩:=rq_some h
  have hu:upto 32 s=me:=by
   rw [hs]
   exact upto_hit 32 _ _ fun b hb e=>by
    subst e
    have:=List.contains_iff_mem.2 hb
    rw [tok_no h1] at this
    cases this
  have hta:1≤ta.length:=by
   unfold targetB inB at h2
   simp only [Bool.and_eq_true,decide_eq_true_eq] at h2
   omega
  have hl:s.length=me.length+1+ta.length+9:=by
   rw [hs]
   simp only [List.length_append,List.length_cons,show httpV.length=8 from rfl]; omega
  rw [hu]
  have e2:s=(me++32::ta)++httpZ:=by
   rw [hs]; simp only [List.append_assoc,List.cons_append]; rfl
  have e3:s=(me++[32])++(ta++httpZ):=by rw [e2]; simp
  refine ⟨rfl,by omega,?_,?_,h1,h2⟩
  ·have h6:s.length-9=(me++32::ta).length:=by simp only [List.length_append,List.length_cons]; omega
   rw [h6]
   conv=>lhs; rw [e2]
   exact List.drop_left' rfl
  ·have h6:s.length-9-(me.length+1)=ta.length:=by omega
   rw [h6]
   conv=>rhs; rw [e3]
   rw [List.drop_left' (by simp),List.take_left' rfl]
 ·rintro ⟨rfl,h1,h2,h3,h4,h5⟩
  have hc:s.contains 32=true:=by rw [upto_lt]; exact decide_eq_true (by omega)
  have hbd:behind 32 s=ta++httpZ:=by
   rw [behind_drop,h3]
   conv=>lhs; rw [←List.take_append_drop (s.length-9-((upto 32 s).length+1)) (s.drop ((upto 32 s).length+1))]
   rw [List.drop_drop,show (upto 32 s).length+1+(s.length-9-((upto 32 s).length+1))=s.length-9 by omega,h2]
  unfold rqR
  have hz:httpZ=32::httpV:=rfl
  have hb2:(ta++32::httpV).contains 32=true:=by simp
  have hno:∀ b,b∈ta→b≠32:=fun b hb e=>by
   subst e
   have:=List.contains_iff_mem.2 hb
   rw [vis_no h5] at this
   cases this
  have hu2:upto 32 (ta++32::httpV)=ta:=upto_hit 32 _ _ hno
  have hd2:behind 32 (ta++32::httpV)=httpV:=by
   rw [behind_drop,hu2,show ta++32::httpV=(ta++[32])++httpV by simp]
   exact List.drop_left' (by simp)
  have hs3:spl 32 s=[upto 32 s,ta,httpV]:=by
   rw [spl_eq,if_pos hc,hbd,hz,spl_eq,if_pos hb2,hu2,hd2]
   rfl
  rw [hs3]
  simp only [beq_self_eq_true,Bool.true_and,h4,h5]
  rfl
theorem rq_none {s:List UInt8} (h:rqR s=none):¬ ((upto 32 s).length+11≤s.length∧s.drop (s.length-9)=httpZ∧methodB (upto 32 s)=true∧targetB ((s.drop ((upto 32 s).length+1)).take (s.length-9-((upto 32 s).length+1)))=true):=fun ⟨h1,h2,h3,h4⟩=>by
 have:=(rq_iff (upto 32 s) ((s.drop ((upto 32 s).length+1)).take (s.length-9-((upto 32 s).length+1)))).2 ⟨rfl,h1,h2,rfl,h3,h4⟩
 rw [h] at this
 cases this
theorem lineR_le {t:List UInt8} {a:Nat} {l:List UInt8} {c:Nat} (h:lineR t a=some (l,c)):l.length≤t.length∧a+l.length+2=c∧c≤t.length:=by
 unfold lineR at h
 split at h
 ·rename_i h0
  injection h with h
  injection h with h1 h2
  subst h1 h2
  have h3:=lnT_le (t.drop a)
  have h4:(t.drop a).length=t.length-a:=List.length_drop
  unfold lnC at h0
  split at h0
  ·exact absurd h0 (by decide)
  ·split at h0
   ·split at h0
    ·exact absurd h0 (by decide)
    ·exact ⟨by omega,rfl,by omega⟩
   ·exact absurd h0 (by decide)
 ·cases h
theorem lineD_some {t:List UInt8} {a:Nat} {l:List UInt8} {c:Nat} (h:lineR t a=some (l,c)):lineD t a = .tup [.v (vS l),curD t c,.v (vI 0)]:=by
 unfold lineD; rw [h]
theorem lineD_none {t:List UInt8} {a:Nat} (h:lineR t a=none):∃ k:Nat,((k:Int) != 0)=true∧lineD t a=noL k:=by
 refine ⟨lnC (t.drop a),?_,?_⟩
 ·unfold lineR at h
  split at h
  ·cases h
  ·rename_i h0; rw [bne_iff_ne]; omega
 ·unfold lineD; rw [h]
def trailR (t:List UInt8):Nat→Nat→Bool
 | 0,_=>false
 | n+1,a=>match lineR t a with
  | none=>false
  | some (l,c)=>if 300<l.length then false else if l=[] then ((c:Int)==(t.length:Int)) else match fieldR l with
   | none=>false
   | some _=>trailR t n c
theorem fieldD_none:fieldD none = .tup [.agg [.v (vS []),.v (vS [])],.v (vB false)]:=rfl
theorem fieldD_some (p:Fld):fieldD (some p) = .tup [.agg [.v (vS p.1),.v (vS p.2)],.v (vB true)]:=rfl
section
variable (t:List UInt8) (a n:Nat) (hl:t.length≤1048576) (ha:a≤t.length)
include hl ha
theorem c107:Q1 107 (curD t a) (.v (vB (trailR t 21 a))):=by
 have hL:t.length≤9223372036854775807:=by omega
 generalize hR:trailR t 21 a=R
 refine sb 1 [.tm 2] func107 ?_
 refine loopZ (fun s:Nat × Nat × Nat=>pC 44 [.dead,.cref 1 0,.v (vB false),.v (vI (s.1:Nat))] [none,some [.v (vS t),.v (vI (s.2.2:Nat))]]) [1,2,3] (fun s=>s.1+s.2.1=21∧s.1≤20∧s.2.2≤t.length∧trailR t s.2.1 s.2.2=R) (fun s=>s.2.1) (0,21,a) rfl ⟨rfl,Nat.zero_le _,ha,hR⟩ ?_
 rintro ⟨k,n,b⟩ ⟨h1,h2,h3,h4⟩
 simp only at h1 h2 h3 h4
 obtain ⟨n,rfl⟩:∃ m,n=m+1:=⟨n-1,by omega⟩
 have x1:=c104 t b hl h3
 unfold trailR at h4
 cases hln:lineR t b with
 | none =>
  obtain ⟨j,j1,j2⟩:=lineD_none hln
  rw [j2] at x1
  rw [hln] at h4
  subst h4
  clear hln j2 hR
  refine Z ?_
  refine call0 x1 ?_
  exact fz
 | some q =>
  obtain ⟨l,c⟩:=q
  obtain ⟨g1,g2,g3⟩:=lineR_le hln
  rw [lineD_some hln] at x1
  rw [hln] at h4
  have g4:l.length≤9223372036854775807:=by omega
  clear hln hR
  by_cases g5:300<l.length
  ·have g6:(300:Int)<l.length:=by omega
   simp only [if_pos g5] at h4
   subst h4
   clear g2
   refine Z ?_
   refine call0 x1 ?_
   exact fz
  ·have g6:¬ (300:Int)<l.length:=by omega
   simp only [if_neg g5] at h4
   by_cases g7:l=[]
   ·subst g7
    rw [if_pos rfl] at h4
    subst h4
    clear g2 g5 g6
    refine Z ?_
    refine call0 x1 ?_
    exact fz
   ·rw [if_neg g7] at h4
    have g8:(l==[])=false:=beq_eq_false_iff_ne.2 g7
    have x2:=c159 l (by omega)
    cases hf:fieldR l with
    | none =>
     rw [hf,fieldD_none] at x2
     rw [hf] at h4
     subst h4
     clear g2 g5 hf g7
     refine Z ?_
     refine call0 x1 ?_
     refine call0 x2 ?_
     exact fz
    | some p =>
     rw [hf,fieldD_some] at x2
     rw [hf] at h4
     simp only at h4
     by_cases hk:k=20
     ·obtain rfl:n=0:=by omega
      have hk2:((k:Int)==20)=true:=beq_iff_eq.2 (by omega)
      have h5:R=false:=h4.symm
      subst h5
      clear g2 g5 hf g7 h4 hk
      refine Z ?_
      refine call0 x1 ?_
      refine call0 x2 ?_
      exact fz
     ·have hk2:((k:Int)==20)=false:=beq_eq_false_iff_ne.2 (by omega)
      have w1:IntKind.i64.wrap ((k:Int)+1)=((k+1:Nat):Int):=by rw [wrapI (by omega)]; omega
      clear g5 hf g7
      refine Z ?_
      refine call0 x1 ?_
      refine call0 x2 ?_
      exact ⟨(k+1,n,c),rfl,⟨by simp only; omega,by simp only; omega,g3,h4⟩,by simp only; omega⟩
theorem c244:Q1 244 (curD t a) (.v (vB (trailR t 21 a))):=by
 have hL:t.length≤9223372036854775807:=by omega
 generalize hR:trailR t 21 a=R
 refine sb 1 [.tm 2] func244 ?_
 refine loopZ (fun s:Nat × Nat × Nat=>pC 42 [.dead,.cref 1 0,.v (vB false),.v (vI (s.1:Nat))] [none,some [.v (vS t),.v (vI (s.2.2:Nat))]]) [1,2,3] (fun s=>s.1+s.2.1=21∧s.2.2≤t.length∧trailR t s.2.1 s.2.2=R) (fun s=>s.2.1) (0,21,a) rfl ⟨rfl,ha,hR⟩ ?_
 rintro ⟨k,n,b⟩ ⟨h1,h3,h4⟩
 simp only at h1 h3 h4
 cases n with
 | zero =>
  have h5:R=false:=h4.symm
  have h6:¬ (k:Int)≤20:=by omega
  subst h5
  clear h4 hR
  refine Z ?_
  exact fz
 | succ n =>
 have x1:=c207 t b hl h3
 have h6:(k:Int)≤20:=by omega
 unfold trailR at h4
 cases hln:lineR t b with
 | none =>
  obtain ⟨j,j1,j2⟩:=lineD_none hln
  rw [j2] at x1
  rw [hln] at h4
  subst h4
  clear hln j2 hR
  refine Z ?_
  refine call0 x1 ?_
  exact fz
 | some q =>
  obtain ⟨l,c⟩:=q
  obtain ⟨g1,g2,g3⟩:=lineR_le hln
  rw [lineD_some hln] at x1
  rw [hln] at h4
  have g4:l.length≤9223372036854775807:=by omega
  clear hln hR
  by_cases g5:300<l.length
  ·have g6:(300:Int)<l.length:=by omega
   simp only [if_pos g5] at h4
   subst h4
   clear g2
   refine Z ?_
   refine call0 x1 ?_
   exact fz
  ·have g6:¬ (300:Int)<l.length:=by omega
   simp only [if_neg g5] at h4
   by_cases g7:l=[]
   ·subst g7
    rw [if_pos rfl] at h4
    subst h4
    clear g2 g5 g6
    refine Z ?_
    refine call0 x1 ?_
    exact fz
   ·rw [if_neg g7] at h4
    have g8:(l==[])=false:=beq_eq_false_iff_ne.2 g7
    have x2:=c210 l (by omega)
    cases hf:fieldR l with
    | none =>
     rw [hf,fieldD_none] at x2
     rw [hf] at h4
     subst h4
     clear g2 g5 hf g7
     refine Z ?_
     refine call0 x1 ?_
     refine call0 x2 ?_
     exact fz
    | some p =>
     rw [hf,fieldD_some] at x2
     rw [hf] at h4
     simp only at h4
     have w1:IntKind.i64.wrap ((k:Int)+1)=((k+1:Nat):Int):=by rw [wrapI (by omega)]; omega
     clear g5 hf g7
     refine Z ?_
     refine call0 x1 ?_
     refine call0 x2 ?_
     exact ⟨(k+1,n,c),rfl,⟨by simp only; omega,g3,h4⟩,by simp only; omega⟩
end
end Go.Proofs.YtbdfdfhamlmodaaGreatDoor.Fw
namespace Go.Proofs.YtbdfdfhamlmodaaGreatDoor.Fw
open Go
open Go.Proofs.Tryz
set_option maxRecDepth 100000
set_option maxHeartbeats 4000000
attribute [local congr] c_bnd c_slot c_cell c_all c_len c_chk c_asm c_opdR c_wp c_pwp c_pOps c_Done c_nx c_blk c_fin c_coeLeaf c_coeLeaves c_argR c_argsR c_partsR c_ite c_wpF c_OutF c_pHead c_pDraw
def wordsB (name:List UInt8) (l:List Fld):List (List UInt8):=elB (joinB (valsB name l))
theorem addE_mem {out:List (List UInt8)} {e s:List UInt8} (h:s∈addE out e):s∈out∨s=e:=by
 unfold addE at h
 split at h
 ·exact .inl h
 ·simpa using h
theorem elGo_mem (s:List UInt8):∀ (n:Nat) (fr:Nat) (q:Bool) (i:Nat) (out:List (List UInt8)),s.length+2-i≤n→(∀ x,x∈out→x.length≤s.length)→(∀ x,x∈elGo s fr q i out→x.length≤s.length)
 | 0,fr,q,i,out,hn,h=>by
  rw [elGo_end (by omega)]
  intro x hx
  rcases addE_mem hx with h1 | h1
  ·exact h x h1
  ·rw [h1]; have:=trimB_len (s.drop fr); rw [List.length_drop] at this; omega
 | n+1,fr,q,i,out,hn,h=>by
  by_cases hi:i<s.length
  ·by_cases hq:s.getD i 0=34
   ·rw [elGo_q hi hq]; exact elGo_mem s n _ _ _ _ (by omega) h
   ·by_cases hb:q=true∧s.getD i 0=92
    ·obtain ⟨rfl,hb⟩:=hb
     rw [elGo_b hi hq hb]; exact elGo_mem s n _ _ _ _ (by omega) h
    ·by_cases hc:q=false∧s.getD i 0=44
     ·obtain ⟨rfl,hc⟩:=hc
      rw [elGo_c hi hq hc]
      refine elGo_mem s n _ _ _ _ (by omega) ?_
      intro x hx
      rcases addE_mem hx with h1 | h1
      ·exact h x h1
      ·rw [h1]; have:=trimB_len ((s.drop fr).take (i-fr)); rw [List.length_take,List.length_drop] at this; omega
     ·rw [elGo_n hi hq hb hc]; exact elGo_mem s n _ _ _ _ (by omega) h
  ·rw [elGo_end hi]
   intro x hx
   rcases addE_mem hx with h1 | h1
   ·exact h x h1
   ·rw [h1]; have:=trimB_len (s.drop fr); rw [List.length_drop] at this; omega
theorem elGo_len (s:List UInt8):∀ (n:Nat) (fr:Nat) (q:Bool) (i:Nat) (out:List (List UInt8)),s.length+2-i≤n→(elGo s fr q i out).length≤out.length+(s.length-i)+1
 | 0,fr,q,i,out,hn=>by
  rw [elGo_end (by omega)]
  have:=addE_len out (trimB (s.drop fr))
  omega
 | n+1,fr,q,i,out,hn=>by
  by_cases hi:i<s.length
  ·by_cases hq:s.getD i 0=34
   ·rw [elGo_q hi hq]; have:=elGo_len s n fr (!q) (i+1) out (by omega); omega
   ·by_cases hb:q=true∧s.getD i 0=92
    ·obtain ⟨rfl,hb⟩:=hb
     rw [elGo_b hi hq hb]; have:=elGo_len s n fr true (i+2) out (by omega); omega
    ·by_cases hc:q=false∧s.getD i 0=44
     ·obtain ⟨rfl,hc⟩:=hc
      rw [elGo_c hi hq hc]
      have h1:=elGo_len s n (i+1) false (i+1) (addE out (trimB ((s.drop fr).take (i-fr)))) (by omega)
      have h2:=addE_len out (trimB ((s.drop fr).take (i-fr)))
      omega
     ·rw [elGo_n hi hq hb hc]; have:=elGo_len s n fr q (i+1) out (by omega); omega
  ·rw [elGo_end hi]
   have:=addE_len out (trimB (s.drop fr))
   omega
theorem words_le {name:List UInt8} {l:List Fld} (h:fieldsB l=true):(wordsB name l).length≤3841∧∀ x,x∈wordsB name l→x.length≤3840:=by
 have hj:=joined_len (name:=name) h
 unfold wordsB
 generalize joinB (valsB name l)=s at hj
 constructor
 ·have:=elGo_len s (s.length+2) 0 false 0 [] (by omega)
  simp only [List.length_nil] at this
  unfold elB
  omega
 ·intro x hx
  have:=elGo_mem s (s.length+2) 0 false 0 [] (by omega) (fun _ h=>by cases h) x hx
  omega
theorem c161 (l:List Fld) (hl:Small l) (name:List UInt8) (hn:name.length≤9223372036854775807) (h:fieldsB l=true):Q2 161 (.imm 105 (rowsF l)) (.v (vS name)) (sd 9 (rowsS (wordsB name l))):=by
 refine sf 2 [.tm 4] func161 ?_
 have hj:=joined_len (name:=name) h
 have hc1:=c202 l hl name hn h
 have hc2:=c201 (joinB (valsB name l)) (by omega)
 have hw:wordsB name l=elB (joinB (valsB name l)):=rfl
 rw [hw]
 simp only [go_sem,Nat.reduceSub,f161,cfg]
 refine cf hc1 ?_
 simp only [go_sem,Nat.reduceAdd]
 generalize elB (joinB (valsB name l))=W at hc2
 cases hr:rowsS W with
 | nil =>
  rw [hr] at hc2
  refine cf hc2 ?_
  simp only [go_sem,Nat.reduceAdd,Nat.reduceBNe,sd_nil]
  exact fz
 | cons x xs =>
  rw [hr] at hc2
  refine cf hc2 ?_
  simp only [go_sem,Nat.reduceAdd,Nat.reduceBNe,Nat.reduceEqDiff,reduceCtorEq,Nat.reduceDiv,Nat.reduceMod,sd_cons]
  exact fz
theorem c212 (l:List Fld) (hl:Small l) (name:List UInt8) (hn:name.length≤9223372036854775807) (h:fieldsB l=true):Q2 212 (.imm 105 (rowsF l)) (.v (vS name)) (sd 9 (rowsS (wordsB name l))):=by
 refine sf 2 [.tm 4] func212 ?_
 have hj:=joined_len (name:=name) h
 have hc1:=c243 l hl name hn h
 have hc2:=c242 (joinB (valsB name l)) (by omega)
 have hw:wordsB name l=elB (joinB (valsB name l)):=rfl
 rw [hw]
 simp only [go_sem,Nat.reduceSub,f212,cfg]
 refine cf hc1 ?_
 simp only [go_sem,Nat.reduceAdd]
 generalize elB (joinB (valsB name l))=W at hc2
 cases hr:rowsS W with
 | nil =>
  rw [hr] at hc2
  refine cf hc2 ?_
  simp only [go_sem,Nat.reduceAdd,Nat.reduceBNe,sd_nil]
  exact fz
 | cons x xs =>
  rw [hr] at hc2
  refine cf hc2 ?_
  simp only [go_sem,Nat.reduceAdd,Nat.reduceBNe,Nat.reduceEqDiff,reduceCtorEq,Nat.reduceDiv,Nat.reduceMod,sd_cons]
  exact fz
def keepF (p:List UInt8→Bool) (l:List Fld):List Fld:=l.filter fun q=>p q.1
theorem keepF_hit {p:List UInt8→Bool} {l:List Fld} {i:Nat} (h:i<l.length) (hb:p (l.getD i ([],[])).1=true):keepF p (l.take (i+1))=keepF p (l.take i)++[l.getD i ([],[])]:=by
 have:[l.getD i ([],[])].filter (fun q=>p q.1)=[l.getD i ([],[])]:=by rw [List.filter_cons,if_pos hb]; rfl
 rw [take_at (d:=([],[])) h,keepF,List.filter_append,this]; rfl
theorem keepF_miss {p:List UInt8→Bool} {l:List Fld} {i:Nat} (h:i<l.length) (hb:p (l.getD i ([],[])).1=false):keepF p (l.take (i+1))=keepF p (l.take i):=by
 have:[l.getD i ([],[])].filter (fun q=>p q.1)=[]:=by rw [List.filter_cons,if_neg (by rw [hb]; simp)]; rfl
 rw [take_at (d:=([],[])) h,keepF,List.filter_append,this,List.append_nil]; rfl
theorem keepF_le (p:List UInt8→Bool) (l:List Fld) (i:Nat):(rowsF (keepF p (l.take i))).length≤i:=by
 rw [rowsF_length]
 refine Nat.le_trans (List.length_filter_le _ _) ?_
 rw [List.length_take]; omega
end Go.Proofs.YtbdfdfhamlmodaaGreatDoor.Fw
namespace Go.Proofs.YtbdfdfhamlmodaaGreatDoor.Fw
open Go
open Go.Proofs.Tryz
set_option maxRecDepth 100000
set_option maxHeartbeats 4000000
attribute [local congr] c_bnd c_slot c_cell c_all c_len c_chk c_asm c_opdR c_wp c_pwp c_pOps c_Done c_nx c_blk c_fin c_coeLeaf c_coeLeaves c_argR c_argsR c_partsR c_ite c_wpF c_OutF c_pHead c_pHeadN c_pDraw
attribute [local go_sem] rowsS_length
theorem sd_own {e:TypeId} {xs:List (List T)} (h:xs≠[]):sd e xs = .own e xs:=by
 cases xs with
 | nil=>exact absurd rfl h
 | cons x l=>rfl
theorem sd_none {e:TypeId}:sd e (rowsS []) = .nil:=rfl
def lenR (ws:List (List UInt8)):Option Nat:=match ws with
 | []=>none
 | w::_=>match readD w with
  | none=>none
  | some n=>if (ws.all fun x=>readD x==some n)=true then some n else none
theorem lenR_iff {ws:List (List UInt8)} {n:Nat}:lenR ws=some n↔ws≠[]∧∀ w,w∈ws→readD w=some n:=by
 unfold lenR
 cases ws with
 | nil=>simp
 | cons w l =>
  simp only
  constructor
  ·intro h
   split at h
   ·cases h
   ·rename_i m hm
    split at h
    ·rename_i ha
     injection h with h
     subst h
     exact ⟨by simp,fun x hx=>by simpa using List.all_eq_true.1 ha x hx⟩
    ·cases h
  ·rintro ⟨_,h⟩
   rw [h w List.mem_cons_self]
   simp only
   rw [if_pos (List.all_eq_true.2 fun x hx=>by rw [h x hx]; simp)]
theorem lenR_no {ws:List (List UInt8)} (h:∀ n,ws≠[]→¬ ∀ w,w∈ws→readD w=some n):lenR ws=none:=by
 cases e:lenR ws with
 | none=>rfl
 | some n=>exact absurd (lenR_iff.1 e).2 (h n (lenR_iff.1 e).1)
def lenD (v:Int):Option Nat→D
 | none => .tup [.v (vI v),.v (vB false)]
 | some n => .tup [.v (vI (n:Nat)),.v (vB true)]
theorem mem_get {ws:List (List UInt8)} {i:Nat} (h:i<ws.length):ws.getD i []∈ws:=by
 rw [gDg,gEg h]; exact List.getElem_mem h
theorem mem_take {ws:List (List UInt8)} {i:Nat} {w:List UInt8} (hi:i<ws.length) (h:w∈ws.take (i+1)):w∈ws.take i∨w=ws.getD i []:=by
 rw [List.take_succ_eq_append_getElem hi] at h
 rcases List.mem_append.1 h with h | h
 ·exact .inl h
 ·exact .inr (by rw [List.mem_singleton.1 h,gDg,gEg hi]; rfl)
def lenI (ws:List (List UInt8)) (i:Nat) (n:Nat):Prop:=i≤ws.length∧∀ w,w∈ws.take i→readD w=some n
theorem lenI_fail {ws:List (List UInt8)} {i n:Nat} (h:lenI ws i n) (hi:i<ws.length) (hb:readD (ws.getD i [])=none∨(0<i∧∃ m,readD (ws.getD i [])=some m∧m≠n)):lenR ws=none:=by
 refine lenR_no fun m hm hall => ?_
 have h1:=hall _ (mem_get hi)
 rcases hb with hb | ⟨h0,k,hk,hne⟩
 ·rw [hb] at h1; cases h1
 ·have h2:ws.getD 0 []∈ws.take i:=by
   rw [List.mem_take_iff_getElem]
   exact ⟨0,by omega,by rw [gDg,gEg (by omega)]; rfl⟩
  have h3:=h.2 _ h2
  rw [hall _ (List.mem_of_mem_take h2)] at h3
  rw [hk] at h1
  injection h1 with h1
  injection h3 with h3
  omega
theorem lenI_next {ws:List (List UInt8)} {i n m:Nat} (h:lenI ws i n) (hi:i<ws.length) (hb:readD (ws.getD i [])=some m) (hn:0<i→m=n):lenI ws (i+1) m:=by
 refine ⟨hi,fun w hw => ?_⟩
 rcases mem_take hi hw with hw | rfl
 ·by_cases h0:0<i
  ·rw [hn h0]; exact h.2 w hw
  ·obtain rfl:i=0:=by omega
   simp at hw
 ·exact hb
theorem lenI_end {ws:List (List UInt8)} {i n:Nat} (h:lenI ws i n) (hi:i=ws.length) (h0:ws≠[]):lenR ws=some n:=lenR_iff.2 ⟨h0,fun w hw=>h.2 w (by rw [hi,List.take_length]; exact hw)⟩
theorem decD_none {s:List UInt8} (h:readD s=none):decD s = .tup [.v (vI 0),.v (vB false)]:=by unfold decD; rw [h]; rfl
theorem decD_some {s:List UInt8} {n:Nat} (h:readD s=some n):decD s = .tup [.v (vI (n:Nat)),.v (vB true)]:=by unfold decD; rw [h]; rfl
section
variable (l:List Fld) (hl:Small l) (h:fieldsB l=true)
include hl h
theorem c162:Q1 162 (.imm 105 (rowsF l)) (lenD (if wordsB clN l=[] then -1 else 0) (lenR (wordsB clN l))):=by
 have x1:=c161 l hl clN (by decide) h
 have hw:=words_le (name:=clN) h
 generalize wordsB clN l=W at x1 hw
 by_cases h0:W=[]
 ·subst h0
  rw [sd_none] at x1
  rw [if_pos rfl]
  refine sb 1 [.tm 2,.tm 3] func162 ?_
  refine call0 x1 ?_
  refine loopZ (fun _:Unit=>pE 39 [.dead,.dead,.v (vI 0),.v (vB false),.nil,.v (vI (-1)),.dead,.dead,.dead,.dead,.dead,.dead,.nil,.v (vI 0),.v (vI 0)]) [2,3,4,5,12,13,14] (fun _=>True) (fun _=>0) () rfl trivial ?_
  intro _ _
  refine Z ?_
  exact fz
 ·rw [sd_own (rowsS_ne h0)] at x1
  rw [if_neg h0]
  have hL:W.length≤9223372036854775807:=by omega
  have hpos:0<W.length:=List.length_pos_iff.2 h0
  refine sb 1 [.tm 2,.tm 3] func162 ?_
  refine call0 x1 ?_
  refine loopZ (fun s:Nat × Nat=>pE 39 [.dead,.dead,.v (vI 0),.v (vB false),.own 9 (rowsS W),.v (vI (if s.1=0 then -1 else (s.2:Nat))),.dead,.dead,.dead,.dead,.dead,.dead,.ali ⟨false,4,0⟩,.v (vI W.length),.v (vI s.1)]) [2,3,4,5,12,13,14] (fun s=>lenI W s.1 s.2∧s.2≤999999999999999) (fun s=>W.length-s.1) (0,0) rfl ⟨⟨by simp,by simp⟩,by simp⟩ ?_
  rintro ⟨i,n⟩ ⟨hi,hn⟩
  simp only at hi hn
  by_cases hc:i<W.length
  ·have w1:=wrapN hc hL
   have e1:=rowsS_getD hc
   have g1:=hw.2 _ (mem_get hc)
   have x2:=c138 (W.getD i []) (by omega)
   cases hr:readD (W.getD i []) with
   | none =>
    rw [decD_none hr] at x2
    rw [lenI_fail hi hc (.inl hr)]
    clear hi hr hw
    refine Z ?_
    refine call0 x2 ?_
    exact fz
   | some m =>
    rw [decD_some hr] at x2
    have hm:m≤999999999999999:=(readD_iff.1 hr).1
    by_cases hi0:i=0
    ·subst hi0
     have hnx:=lenI_next hi hc hr fun h=>absurd h (by omega)
     clear hi hr hw
     have g2:¬ (0:Int)≤-1:=by decide
     have g4:(0:Int)<(W.length:Int):=by omega
     refine Z ?_
     refine call0 x2 ?_
     exact ⟨(1,m),rfl,⟨hnx,hm⟩,by simp only; omega⟩
    ·by_cases hmn:m=n
     ·have hnx:=lenI_next hi hc hr fun _=>hmn
      subst hmn
      clear hi hr hw
      refine Z ?_
      refine call0 x2 ?_
      exact ⟨(i+1,m),by rfl,⟨hnx,hm⟩,by simp only; omega⟩
     ·have g3:(((m:Nat):Int) != (n:Int))=true:=by rw [bne_iff_ne]; omega
      rw [lenI_fail hi hc (.inr ⟨by omega,m,hr,hmn⟩)]
      clear hi hr hw
      refine Z ?_
      refine call0 x2 ?_
      exact fz
  ·have he:i=W.length:=by have:=hi.1; omega
   have hi0:¬ i=0:=by omega
   rw [lenI_end hi he h0]
   clear hi hw he
   refine Z ?_
   exact fz
theorem c211 (name:List UInt8) (hn:name.length≤9223372036854775807):Q2 211 (.imm 105 (rowsF l)) (.v (vS name)) (.tup [.v (vS ((valsB name l).getD 0 [])),.v (vB (hasF name l))]):=by
 have x1:=c241 l hl name hn h
 have h20:=vals_20 (name:=name) h
 unfold hasF
 generalize valsB name l=W at x1 h20 ⊢
 cases W with
 | nil =>
  rw [sd_none] at x1
  refine sb 2 [.tm 4,.tm 5] func211 ?_
  refine call0 x1 ?_
  exact fz
 | cons w ws =>
  rw [sd_own (rowsS_ne (by simp))] at x1
  have h2:((((w::ws).length:Nat):Int)==0)=false:=beq_eq_false_iff_ne.2 (by simp only [List.length_cons]; omega)
  have h3:0<(w::ws).length:=by simp
  have h4:(w::ws).length≤9223372036854775807:=by omega
  have e1:=rowsS_getD h3
  have h5:(0:Int)<((w::ws).length:Int):=by simp only [List.length_cons]; omega
  generalize hW:w::ws=W at *
  refine sb 2 [.tm 4,.tm 5] func211 ?_
  refine call0 x1 ?_
  refine fq ?_
  subst hW
  simp [shutR,shutD]
end
def gs160_0:List (Option (List Nat)):=[some [43,44,46,47,48,49,50,51,52],some [42,46,47,48,49,50,51,52],some [42,46,47,48,49,50,51,52],some [46,47,48,49,50,51,52],some [42,43,44,45],some [42,43,44,45],some [42,43,44,45],some [42,43,44,45],some [42,43,44,45],some [42,43,44,45],some [42,43,44,45,4],some [52],none]
attribute [go_sem] gs160_0
def gs160_1:List (Option (List Nat)):=[some [68,69,70,72,73,74,75,76,77,78,79,80,81],some [68,69,70,72,73,74,75,76,77,78,79,80,81],some [68,69,70,72,73,74,75,76,77,78,79,80,81],some [65,66,67,72,73,74,75,76,77,78,79,80,81],some [65,66,67,72,73,74,75,76,77,78,79,80,81],some [65,66,67,72,73,74,75,76,77,78,79,80,81],some [72,73,74,75,76,77,78,79,80,81],some [65,66,67,68,69,70,71],some [65,66,67,68,69,70,71],some [65,66,67,68,69,70,71],some [65,66,67,68,69,70,71],some [65,66,67,68,69,70,71],some [65,66,67,68,69,70,71],some [65,66,67,68,69,70,71],some [65,66,67,68,69,70,71],some [65,66,67,68,69,70,71],some [65,66,67,68,69,70,71,4],some [81],none]
attribute [go_sem] gs160_1
def gs208_0:List (Option (List Nat)):=[some [32,33,34,35,36,37,38,39,40,41,42,43,44,45,46,47,48,49,50,51],some [31],some [31],some [31],some [31],some [31],some [31],some [31],some [31],some [31],some [31],some [31],some [31],some [31],some [31],some [31],some [31],some [31],some [31],some [31],some [31,2],some [51],none]
attribute [go_sem] gs208_0
def gs209_0:List (Option (List Nat)):=[some [33,35,36,37,38,39,40,41,5],some [32,35,36,37,38,39,40,41,5],some [35,36,37,38,39,40,41,5],some [32,33,34,36,37,38,39,40,5],some [32,33,34,35,38,39,40,5],some [32,33,34,35,38,39,40,5],some [32,33,34,35,36,37,5],some [32,33,34,35,36,37,5],some [32,33,34,35,36,37,5],some [32,33,34,5],some [5],some [32,33,34,35,36,37,38,39,40,41,42],none]
attribute [go_sem] gs209_0
def gs209_1:List (Option (List Nat)):=[some [44,45],some [43],some [43],none,none]
attribute [go_sem] gs209_1
attribute [local go_sem] rowsS_length
theorem req_nil (me ta:List UInt8):requestB me ta 0 [] false=(methodB me&&targetB ta):=by
 unfold requestB; simp
section
variable (s:List UInt8) (hs:s.length≤1048576)
include hs
theorem c160a (h1:¬ s.take 9=httpA):Q2 160 (.v (vS s)) (.v (vB true)) (m1D [] [] 0 [] false):=by
 have hL:s.length≤9223372036854775807:=by omega
 have x1:=c200 s hs
 rw [if_neg h1,decide_eq_false h1] at x1
 refine sb 2 [.ce 4 25,.tm 5] func160 ?_
 refine call0 x1 ?_
 exact fz
theorem c160b (h1:s.take 9=httpA) (h2:¬ 13≤s.length):Q2 160 (.v (vS s)) (.v (vB true)) (m1D [] [] 0 [] false):=by
 have hL:s.length≤9223372036854775807:=by omega
 have x1:=c200 s hs
 have q1:decide (s.take 9=httpA)=true:=decide_eq_true h1
 rw [if_pos h1,q1] at x1
 have l1:(s.drop 9).length=s.length-9:=List.length_drop
 have l0:(s.drop 9).length≤9223372036854775807:=by omega
 have h3:((s.drop 9).length:Int)<4:=by omega
 clear q1 l1 h2
 refine sb 2 [.ce 4 25,.tm 5] func160 ?_
 refine call0 x1 ?_
 exact fz
theorem c160c (h1:s.take 9=httpA) (h2:13≤s.length) (g:¬ s.getD 12 0=32):Q2 160 (.v (vS s)) (.v (vB true)) (m1D [] [] 0 [] false):=by
 have hL:s.length≤9223372036854775807:=by omega
 have x1:=c200 s hs
 have q1:decide (s.take 9=httpA)=true:=decide_eq_true h1
 rw [if_pos h1,q1] at x1
 have l1:(s.drop 9).length=s.length-9:=List.length_drop
 have l0:(s.drop 9).length≤9223372036854775807:=by omega
 have h3:¬ ((s.drop 9).length:Int)<4:=by omega
 have h4:(3:Int)<((s.drop 9).length:Int):=by omega
 have h5:3≤(s.drop 9).length:=by omega
 have h6:4≤(s.drop 9).length:=by omega
 have g1:((((s.drop 9).getD 3 0).toNat:Int) != 32)=true:=by rw [get_9]; exact bne_iff_ne.2 fun e=>g (ofI e)
 clear q1 l1 h2 g
 refine sb 2 [.ce 4 25,.tm 5] func160 ?_
 refine call0 x1 ?_
 exact fz
theorem c160d (h1:s.take 9=httpA) (h2:13≤s.length) (g:s.getD 12 0=32) (d:digs3 s=false):Q2 160 (.v (vS s)) (.v (vB true)) (m1D [] [] 0 [] false):=by
 have hL:s.length≤9223372036854775807:=by omega
 have x1:=c200 s hs
 have q1:decide (s.take 9=httpA)=true:=decide_eq_true h1
 rw [if_pos h1,q1] at x1
 have l1:(s.drop 9).length=s.length-9:=List.length_drop
 have l0:(s.drop 9).length≤9223372036854775807:=by omega
 have h3:¬ ((s.drop 9).length:Int)<4:=by omega
 have h4:(3:Int)<((s.drop 9).length:Int):=by omega
 have h5:3≤(s.drop 9).length:=by omega
 have h6:4≤(s.drop 9).length:=by omega
 have g1:((((s.drop 9).getD 3 0).toNat:Int))=32:=by rw [get_9]; exact toI g
 have x2:=c133 ((s.drop 9).take 3) 199 isDigitB rfl rfl c199 (by rw [List.length_take]; omega)
 unfold digs3 at d
 rw [d] at x2
 clear q1 l1 h2 g
 refine sb 2 [.ce 4 25,.tm 5] func160 ?_
 refine call0 x1 ?_
 refine call0 x2 ?_
 exact fz
theorem c160e (h1:s.take 9=httpA) (h2:13≤s.length) (g:s.getD 12 0=32) (d:digs3 s=true) (e:statusB (st3 s)=false):Q2 160 (.v (vS s)) (.v (vB true)) (m1D [] [] (st3 s) ((s.drop 9).drop 4) false):=by
 have hL:s.length≤9223372036854775807:=by omega
 have x1:=c200 s hs
 have q1:decide (s.take 9=httpA)=true:=decide_eq_true h1
 rw [if_pos h1,q1] at x1
 have l1:(s.drop 9).length=s.length-9:=List.length_drop
 have l0:(s.drop 9).length≤9223372036854775807:=by omega
 have h3:¬ ((s.drop 9).length:Int)<4:=by omega
 have h4:(3:Int)<((s.drop 9).length:Int):=by omega
 have h5:3≤(s.drop 9).length:=by omega
 have h6:4≤(s.drop 9).length:=by omega
 have g1:((((s.drop 9).getD 3 0).toNat:Int))=32:=by rw [get_9]; exact toI g
 have x2:=c133 ((s.drop 9).take 3) 199 isDigitB rfl rfl c199 (by rw [List.length_take]; omega)
 have b1:=st3_bd d
 have x3:=c182 ((s.drop 9).take 3) (by intro e; have:=congrArg List.length e; rw [List.length_take] at this; simp at this; omega) (digs3_all d) (by rw [List.length_take]; omega) (by unfold st3 at b1; omega)
 have x4:=c89 (st3 s)
 have x5:=c90 ((s.drop 9).drop 4) (by rw [List.length_drop]; omega)
 rw [show valD ((s.drop 9).take 3) 0=st3 s from rfl] at x3
 unfold digs3 at d
 rw [d] at x2
 have t1:((s.drop 9).drop 4).take ((s.drop 9).length-4)=(s.drop 9).drop 4:=take_rest
 clear q1 l1 h2 g d b1
 rw [e] at x4
 refine sb 2 [.ce 4 25,.tm 5] func160 ?_
 refine call0 x1 ?_
 refine call0 x2 ?_
 refine call0 x3 ?_
 refine draw_new gs160_0 mixedOk (by kernel_rfl) ?_
 refine Z ?_
 refine drawn0 x4 ?_
 exact fz
theorem c160f (h1:s.take 9=httpA) (h2:13≤s.length) (g:s.getD 12 0=32) (d:digs3 s=true) (e:statusB (st3 s)=true):Q2 160 (.v (vS s)) (.v (vB true)) (m1D [] [] (st3 s) ((s.drop 9).drop 4) (reasonB ((s.drop 9).drop 4))):=by
 have hL:s.length≤9223372036854775807:=by omega
 have x1:=c200 s hs
 have q1:decide (s.take 9=httpA)=true:=decide_eq_true h1
 rw [if_pos h1,q1] at x1
 have l1:(s.drop 9).length=s.length-9:=List.length_drop
 have l0:(s.drop 9).length≤9223372036854775807:=by omega
 have h3:¬ ((s.drop 9).length:Int)<4:=by omega
 have h4:(3:Int)<((s.drop 9).length:Int):=by omega
 have h5:3≤(s.drop 9).length:=by omega
 have h6:4≤(s.drop 9).length:=by omega
 have g1:((((s.drop 9).getD 3 0).toNat:Int))=32:=by rw [get_9]; exact toI g
 have x2:=c133 ((s.drop 9).take 3) 199 isDigitB rfl rfl c199 (by rw [List.length_take]; omega)
 have b1:=st3_bd d
 have x3:=c182 ((s.drop 9).take 3) (by intro e; have:=congrArg List.length e; rw [List.length_take] at this; simp at this; omega) (digs3_all d) (by rw [List.length_take]; omega) (by unfold st3 at b1; omega)
 have x4:=c89 (st3 s)
 have x5:=c90 ((s.drop 9).drop 4) (by rw [List.length_drop]; omega)
 rw [show valD ((s.drop 9).take 3) 0=st3 s from rfl] at x3
 unfold digs3 at d
 rw [d] at x2
 have t1:((s.drop 9).drop 4).take ((s.drop 9).length-4)=(s.drop 9).drop 4:=take_rest
 clear q1 l1 h2 g d b1
 rw [e] at x4
 refine sb 2 [.ce 4 25,.tm 5] func160 ?_
 refine call0 x1 ?_
 refine call0 x2 ?_
 refine call0 x3 ?_
 refine draw_new gs160_0 mixedOk (by kernel_rfl) ?_
 refine Z ?_
 refine drawn0 x4 ?_
 refine drawn0 x5 ?_
 exact fz
theorem c160g (h:(spl 32 s).length≠3):Q2 160 (.v (vS s)) (.v (vB false)) (m1D [] [] 0 [] false):=by
 have hL:s.length≤9223372036854775807:=by omega
 have x1:=c186 s 32 (by omega)
 have x0:=spl_mem 32 s
 have xl:(spl 32 s).length≤s.length+1:=by rw [spl_len]; have:=List.count_le_length (a:=(32:UInt8)) (l:=s); omega
 have g1:(((spl 32 s).length:Int) != 3)=true:=by rw [bne_iff_ne]; omega
 have g2:(spl 32 s).length≤9223372036854775807:=by omega
 generalize spl 32 s=W at x1 g1 g2
 clear x0 xl h
 refine sb 2 [.ce 4 25,.tm 5] func160 ?_
 refine call0 x1 ?_
 exact fz
theorem c160h (w1 w2 w3:List UInt8) (h:spl 32 s=[w1,w2,w3]) (g:(w3==[72,84,84,80,47,49,46,49])=false):Q2 160 (.v (vS s)) (.v (vB false)) (m1D [] [] 0 [] false):=by
 have hL:s.length≤9223372036854775807:=by omega
 have x1:=c186 s 32 (by omega)
 have x0:=spl_mem 32 s
 have xl:(spl 32 s).length≤s.length+1:=by rw [spl_len]; have:=List.count_le_length (a:=(32:UInt8)) (l:=s); omega
 rw [h] at x1 x0
 rw [show rowsS [w1,w2,w3]=[[.v (vS w1)],[.v (vS w2)],[.v (vS w3)]] from rfl] at x1
 have l1:=x0 w1 (by simp)
 have l2:=x0 w2 (by simp)
 have l3:=x0 w3 (by simp)
 have x2:Q1 87 (.v (vS w1)) (.v (vB (methodB w1))):=c87 w1 (by omega)
 have x3:=c88 w2 (by omega)
 clear x0 xl h
 refine sb 2 [.ce 4 25,.tm 5] func160 ?_
 refine call0 x1 ?_
 exact fz
theorem c160i (w1 w2 w3:List UInt8) (h:spl 32 s=[w1,w2,w3]) (g:(w3==[72,84,84,80,47,49,46,49])=true) (e:methodB w1=false):Q2 160 (.v (vS s)) (.v (vB false)) (m1D w1 w2 0 [] false):=by
 have hL:s.length≤9223372036854775807:=by omega
 have x1:=c186 s 32 (by omega)
 have x0:=spl_mem 32 s
 have xl:(spl 32 s).length≤s.length+1:=by rw [spl_len]; have:=List.count_le_length (a:=(32:UInt8)) (l:=s); omega
 rw [h] at x1 x0
 rw [show rowsS [w1,w2,w3]=[[.v (vS w1)],[.v (vS w2)],[.v (vS w3)]] from rfl] at x1
 have l1:=x0 w1 (by simp)
 have l2:=x0 w2 (by simp)
 have l3:=x0 w3 (by simp)
 have x2:Q1 87 (.v (vS w1)) (.v (vB (methodB w1))):=c87 w1 (by omega)
 have x3:=c88 w2 (by omega)
 clear x0 xl h
 rw [e] at x2
 refine sb 2 [.ce 4 25,.tm 5] func160 ?_
 refine call0 x1 ?_
 refine draw_new gs160_1 mixedOk (by kernel_rfl) ?_
 refine Z ?_
 refine drawn0 x2 ?_
 exact fz
theorem c160j (w1 w2 w3:List UInt8) (h:spl 32 s=[w1,w2,w3]) (g:(w3==[72,84,84,80,47,49,46,49])=true) (e:methodB w1=true):Q2 160 (.v (vS s)) (.v (vB false)) (m1D w1 w2 0 [] (targetB w2)):=by
 have hL:s.length≤9223372036854775807:=by omega
 have x1:=c186 s 32 (by omega)
 have x0:=spl_mem 32 s
 have xl:(spl 32 s).length≤s.length+1:=by rw [spl_len]; have:=List.count_le_length (a:=(32:UInt8)) (l:=s); omega
 rw [h] at x1 x0
 rw [show rowsS [w1,w2,w3]=[[.v (vS w1)],[.v (vS w2)],[.v (vS w3)]] from rfl] at x1
 have l1:=x0 w1 (by simp)
 have l2:=x0 w2 (by simp)
 have l3:=x0 w3 (by simp)
 have x2:Q1 87 (.v (vS w1)) (.v (vB (methodB w1))):=c87 w1 (by omega)
 have x3:=c88 w2 (by omega)
 clear x0 xl h
 rw [e] at x2
 refine sb 2 [.ce 4 25,.tm 5] func160 ?_
 refine call0 x1 ?_
 refine draw_new gs160_1 mixedOk (by kernel_rfl) ?_
 refine Z ?_
 refine drawn0 x2 ?_
 refine drawn0 x3 ?_
 exact fz
theorem c208a (h:¬ 13≤s.length):Q1 208 (.v (vS s)) (m1D [] [] 0 [] false):=by
 have hL:s.length≤9223372036854775807:=by omega
 have g1:(s.length:Int)<13:=by omega
 refine sb 1 [.ce 2 25,.tm 3] func208 ?_
 exact fz
theorem c208b (h:13≤s.length) (h1:¬ s.take 9=httpA):Q1 208 (.v (vS s)) (m1D [] [] 0 [] false):=by
 have hL:s.length≤9223372036854775807:=by omega
 have g1:¬ (s.length:Int)<13:=by omega
 have g2:9≤s.length:=by omega
 have g3:(12:Int)<(s.length:Int):=by omega
 have g4:12≤s.length:=by omega
 have g5:13≤s.length:=h
 have e1:(s.take 9==[72,84,84,80,47,49,46,49,32])=false:=beq_eq_false_iff_ne.2 h1
 clear h h1
 refine sb 1 [.ce 2 25,.tm 3] func208 ?_
 exact fz
theorem c208c (h:13≤s.length) (h1:s.take 9=httpA) (h2:¬ s.getD 12 0=32):Q1 208 (.v (vS s)) (m1D [] [] 0 [] false):=by
 have hL:s.length≤9223372036854775807:=by omega
 have g1:¬ (s.length:Int)<13:=by omega
 have g2:9≤s.length:=by omega
 have g3:(12:Int)<(s.length:Int):=by omega
 have g4:12≤s.length:=by omega
 have g5:13≤s.length:=h
 have e1:s.take 9=[72,84,84,80,47,49,46,49,32]:=h1
 have e2:(((s.getD 12 0).toNat:Int) != 32)=true:=bne_iff_ne.2 fun e=>h2 (ofI e)
 clear h h1 h2
 refine sb 1 [.ce 2 25,.tm 3] func208 ?_
 exact fz
theorem c208d (h:13≤s.length) (h1:s.take 9=httpA) (h2:s.getD 12 0=32) (h3:readD ((s.drop 9).take 3)=none):Q1 208 (.v (vS s)) (m1D [] [] 0 (s.drop 13) false):=by
 have hL:s.length≤9223372036854775807:=by omega
 have g1:¬ (s.length:Int)<13:=by omega
 have g2:9≤s.length:=by omega
 have g3:(12:Int)<(s.length:Int):=by omega
 have g4:12≤s.length:=by omega
 have g5:13≤s.length:=h
 have e1:s.take 9=[72,84,84,80,47,49,46,49,32]:=h1
 have e2:((s.getD 12 0).toNat:Int)=32:=toI h2
 have x1:=c129 ((s.drop 9).take 3) (by rw [List.length_take]; omega)
 have t1:(s.drop 13).take (s.length-13)=s.drop 13:=take_rest
 have x2:=c100 (s.drop 13) (by rw [List.length_drop]; omega)
 have l0:(s.drop 13).length≤9223372036854775807:=by rw [List.length_drop]; omega
 rw [decD_none h3] at x1
 clear h h1 h2 h3
 refine sb 1 [.ce 2 25,.tm 3] func208 ?_
 refine call0 x1 ?_
 refine draw_new gs208_0 mixedOk (by kernel_rfl) ?_
 refine Z ?_
 refine Z ?_
 exact fz
theorem c208e (h:13≤s.length) (h1:s.take 9=httpA) (h2:s.getD 12 0=32) (n:Nat) (h3:readD ((s.drop 9).take 3)=some n) (h4:¬ 200≤n):Q1 208 (.v (vS s)) (m1D [] [] n (s.drop 13) false):=by
 have hL:s.length≤9223372036854775807:=by omega
 have g1:¬ (s.length:Int)<13:=by omega
 have g2:9≤s.length:=by omega
 have g3:(12:Int)<(s.length:Int):=by omega
 have g4:12≤s.length:=by omega
 have g5:13≤s.length:=h
 have e1:s.take 9=[72,84,84,80,47,49,46,49,32]:=h1
 have e2:((s.getD 12 0).toNat:Int)=32:=toI h2
 have x1:=c129 ((s.drop 9).take 3) (by rw [List.length_take]; omega)
 have t1:(s.drop 13).take (s.length-13)=s.drop 13:=take_rest
 have x2:=c100 (s.drop 13) (by rw [List.length_drop]; omega)
 have l0:(s.drop 13).length≤9223372036854775807:=by rw [List.length_drop]; omega
 rw [decD_some h3] at x1
 clear h h1 h2 h3
 have q1:¬ (200:Int)≤(n:Int):=by omega
 refine sb 1 [.ce 2 25,.tm 3] func208 ?_
 refine call0 x1 ?_
 refine draw_new gs208_0 mixedOk (by kernel_rfl) ?_
 refine Z ?_
 refine Z ?_
 exact fz
theorem c208f (h:13≤s.length) (h1:s.take 9=httpA) (h2:s.getD 12 0=32) (n:Nat) (h3:readD ((s.drop 9).take 3)=some n) (h4:200≤n) (h5:¬ n≤599):Q1 208 (.v (vS s)) (m1D [] [] n (s.drop 13) false):=by
 have hL:s.length≤9223372036854775807:=by omega
 have g1:¬ (s.length:Int)<13:=by omega
 have g2:9≤s.length:=by omega
 have g3:(12:Int)<(s.length:Int):=by omega
 have g4:12≤s.length:=by omega
 have g5:13≤s.length:=h
 have e1:s.take 9=[72,84,84,80,47,49,46,49,32]:=h1
 have e2:((s.getD 12 0).toNat:Int)=32:=toI h2
 have x1:=c129 ((s.drop 9).take 3) (by rw [List.length_take]; omega)
 have t1:(s.drop 13).take (s.length-13)=s.drop 13:=take_rest
 have x2:=c100 (s.drop 13) (by rw [List.length_drop]; omega)
 have l0:(s.drop 13).length≤9223372036854775807:=by rw [List.length_drop]; omega
 rw [decD_some h3] at x1
 clear h h1 h2 h3
 have q1:(200:Int)≤(n:Int):=by omega
 have q2:¬ (n:Int)≤599:=by omega
 refine sb 1 [.ce 2 25,.tm 3] func208 ?_
 refine call0 x1 ?_
 refine draw_new gs208_0 mixedOk (by kernel_rfl) ?_
 refine Z ?_
 refine Z ?_
 exact fz
theorem c208g (h:13≤s.length) (h1:s.take 9=httpA) (h2:s.getD 12 0=32) (n:Nat) (h3:readD ((s.drop 9).take 3)=some n) (h4:200≤n) (h5:n≤599) (h6:¬ (s.drop 13).length≤40):Q1 208 (.v (vS s)) (m1D [] [] n (s.drop 13) false):=by
 have hL:s.length≤9223372036854775807:=by omega
 have g1:¬ (s.length:Int)<13:=by omega
 have g2:9≤s.length:=by omega
 have g3:(12:Int)<(s.length:Int):=by omega
 have g4:12≤s.length:=by omega
 have g5:13≤s.length:=h
 have e1:s.take 9=[72,84,84,80,47,49,46,49,32]:=h1
 have e2:((s.getD 12 0).toNat:Int)=32:=toI h2
 have x1:=c129 ((s.drop 9).take 3) (by rw [List.length_take]; omega)
 have t1:(s.drop 13).take (s.length-13)=s.drop 13:=take_rest
 have x2:=c100 (s.drop 13) (by rw [List.length_drop]; omega)
 have l0:(s.drop 13).length≤9223372036854775807:=by rw [List.length_drop]; omega
 rw [decD_some h3] at x1
 clear h h1 h2 h3
 have q1:(200:Int)≤(n:Int):=by omega
 have q2:(n:Int)≤599:=by omega
 have q3:¬ ((s.drop 13).length:Int)≤40:=by omega
 refine sb 1 [.ce 2 25,.tm 3] func208 ?_
 refine call0 x1 ?_
 refine draw_new gs208_0 mixedOk (by kernel_rfl) ?_
 refine Z ?_
 refine Z ?_
 exact fz
theorem c208h (h:13≤s.length) (h1:s.take 9=httpA) (h2:s.getD 12 0=32) (n:Nat) (h3:readD ((s.drop 9).take 3)=some n) (h4:200≤n) (h5:n≤599) (h6:(s.drop 13).length≤40):Q1 208 (.v (vS s)) (m1D [] [] n (s.drop 13) ((s.drop 13).all fun b=>plainB b.toNat)):=by
 have hL:s.length≤9223372036854775807:=by omega
 have g1:¬ (s.length:Int)<13:=by omega
 have g2:9≤s.length:=by omega
 have g3:(12:Int)<(s.length:Int):=by omega
 have g4:12≤s.length:=by omega
 have g5:13≤s.length:=h
 have e1:s.take 9=[72,84,84,80,47,49,46,49,32]:=h1
 have e2:((s.getD 12 0).toNat:Int)=32:=toI h2
 have x1:=c129 ((s.drop 9).take 3) (by rw [List.length_take]; omega)
 have t1:(s.drop 13).take (s.length-13)=s.drop 13:=take_rest
 have x2:=c100 (s.drop 13) (by rw [List.length_drop]; omega)
 have l0:(s.drop 13).length≤9223372036854775807:=by rw [List.length_drop]; omega
 rw [decD_some h3] at x1
 clear h h1 h2 h3
 have q1:(200:Int)≤(n:Int):=by omega
 have q2:(n:Int)≤599:=by omega
 have q3:((s.drop 13).length:Int)≤40:=by omega
 refine sb 1 [.ce 2 25,.tm 3] func208 ?_
 refine call0 x1 ?_
 refine draw_new gs208_0 mixedOk (by kernel_rfl) ?_
 refine Z ?_
 refine drawn0 x2 ?_
 exact fz
theorem c209:Q1 209 (.v (vS s)) (if (upto 32 s).length+11≤s.length∧s.drop (s.length-9)=httpZ then m1D (upto 32 s) ((s.drop ((upto 32 s).length+1)).take (s.length-9-((upto 32 s).length+1))) 0 [] (methodB (upto 32 s)&&targetB ((s.drop ((upto 32 s).length+1)).take (s.length-9-((upto 32 s).length+1)))) else m1D [] [] 0 [] false):=by
 have hL:s.length≤9223372036854775807:=by omega
 refine sb 1 [.ce 2 25,.tm 3] func209 ?_
 refine loopZ (fun i:Nat=>pC 46 [.v (vS s),.dead,.cref 2 0,.v (vB false),.v (vI i)] [none,none,some [.v (vS []),.v (vS []),.v (vI 0),.v (vS []),.v (vB false),.nil,.v (vS [])]]) [0,2,3,4] (fun i=>i≤s.length∧∀ b,b∈s.take i→b≠32) (fun i=>s.length-i) 0 rfl ⟨by omega,by simp⟩ ?_
 intro i ⟨hi,hall⟩
 by_cases hg:i<s.length∧s.getD i 0≠32
 ·obtain ⟨hc,hb⟩:=hg
  have hw:=wrapN hc hL
  have g2:(((s.getD i 0).toNat:Int) != 32)=true:=bne_iff_ne.2 fun e=>hb (ofI e)
  have hall2:∀ b,b∈s.take (i+1)→b≠32:=by
   rw [take_snoc hc]
   intro b h
   rcases List.mem_append.1 h with h | h
   ·exact hall b h
   ·rw [List.mem_singleton.1 h]; exact hb
  clear hall hb
  refine Z ?_
  exact ⟨i+1,rfl,⟨hc,hall2⟩,by omega⟩
 ·have hu:upto 32 s=s.take i:=by
   by_cases hc:i<s.length
   ·have hb:s.getD i 0=32:=Decidable.byContradiction fun h=>hg ⟨hc,h⟩
    conv=>lhs; rw [split_at' hc,hb]
    exact upto_hit 32 _ _ hall
   ·rw [List.take_of_length_le (by omega)] at hall ⊢
    exact upto_none 32 s hall
  have hul:(upto 32 s).length=i:=by rw [hu,List.length_take]; omega
  have hgo:(i<s.length→((s.getD i 0).toNat:Int)=32):=fun hc=>toI (Decidable.byContradiction fun h=>hg ⟨hc,h⟩)
  rw [hul,hu]
  clear hall hg hu hul
  have w1:IntKind.i64.wrap ((i:Int)+11)=((i+11:Nat):Int):=by rw [wrapI (by omega)]; omega
  have w2:IntKind.i64.wrap ((i:Int)+1)=((i+1:Nat):Int):=by rw [wrapI (by omega)]; omega
  by_cases hc:i<s.length
  ·have g2:=hgo hc
   clear hgo
   by_cases h11:i+11≤s.length
   ·have g3:¬ s.length<i+11:=by omega
    have w3:IntKind.i64.wrap ((s.length:Int)-9)=((s.length-9:Nat):Int):=by rw [wrapI (by omega)]; omega
    have g4:s.length-9≤s.length:=by omega
    have t1:(s.drop (s.length-9)).take (s.length-(s.length-9))=s.drop (s.length-9):=take_rest
    by_cases hz:s.drop (s.length-9)=httpZ
    ·rw [if_pos (show i+11≤s.length∧s.drop (s.length-9)=httpZ from ⟨h11,hz⟩)]
     have e1:(s.drop (s.length-9)==[32,72,84,84,80,47,49,46,49])=true:=beq_iff_eq.2 hz
     have g5:i+1≤s.length-9:=by omega
     have x1:=c40 (s.take i) ((s.drop (i+1)).take (s.length-9-(i+1))) 0 [] false [] [] (by rw [List.length_take]; omega) (by rw [List.length_take,List.length_drop]; omega) (by decide) (by decide)
     rw [req_nil] at x1
     clear hz
     refine Z ?_
     refine draw_new gs209_0 mixedOk (by kernel_rfl) ?_
     refine Z ?_
     refine draw_new gs209_1 mixedOk (by kernel_rfl) ?_
     refine Z ?_
     refine drawn0 x1 ?_
     exact fz
    ·have e1:(s.drop (s.length-9)==[32,72,84,84,80,47,49,46,49])=false:=beq_eq_false_iff_ne.2 hz
     rw [if_neg (show ¬ (i+11≤s.length∧s.drop (s.length-9)=httpZ) from fun h=>hz h.2)]
     clear hz
     refine Z ?_
     exact fz
   ·have g3:s.length<i+11:=by omega
    rw [if_neg (show ¬ (i+11≤s.length∧s.drop (s.length-9)=httpZ) from fun h=>h11 h.1)]
    clear h11
    refine Z ?_
    exact fz
  ·have g3:s.length<i+11:=by omega
   rw [if_neg (show ¬ (i+11≤s.length∧s.drop (s.length-9)=httpZ) from fun h=>by have:=h.1; omega)]
   clear hgo
   refine Z ?_
   exact fz
def firstR (an:Bool) (s:List UInt8):Option (List UInt8 × List UInt8 × Nat × List UInt8):=if an=true then (stR s).map fun p=>([],[],p.1,p.2) else (rqR s).map fun p=>(p.1,p.2,0,[])
omit hs in
theorem stR_some {n:Nat} {re:List UInt8}:stR s=some (n,re)↔(s.take 9=httpA∧13≤s.length∧s.getD 12 0=32∧digs3 s=true∧statusB (st3 s)=true∧reasonB (s.drop 13)=true)∧n=st3 s∧re=s.drop 13:=by
 unfold stR
 constructor
 ·intro e
  split at e
  ·rename_i h
   injection e with e
   injection e with e1 e2
   exact ⟨h,e1.symm,e2.symm⟩
  ·cases e
 ·rintro ⟨h,rfl,rfl⟩
  rw [if_pos h]
theorem c160A:∃ n re ok,Q2 160 (.v (vS s)) (.v (vB true)) (m1D [] [] (n:Nat) re ok)∧((ok=true∧stR s=some (n,re))∨(ok=false∧stR s=none)):=by
 have no:∀ P:Prop,¬ P→(stR s≠none→P)→stR s=none:=fun P h1 h2=>Decidable.byContradiction fun h=>h1 (h2 h)
 have get:∀ {Q:Prop},(∀ n re,stR s=some (n,re)→Q)→stR s≠none→Q:=fun f h=>by
  cases e:stR s with
  | none=>exact absurd e h
  | some p=>exact f p.1 p.2 (by rw [e])
 by_cases h1:s.take 9=httpA
 ·by_cases h2:13≤s.length
  ·by_cases h3:s.getD 12 0=32
   ·cases h4:digs3 s with
    | false=>exact ⟨0,[],false,c160d s hs h1 h2 h3 h4,.inr ⟨rfl,no (digs3 s=true) (by rw [h4]; simp) (get fun n re e=>((stR_some s).1 e).1.2.2.2.1)⟩⟩
    | true =>
     have ed:(s.drop 9).drop 4=s.drop 13:=by rw [List.drop_drop]
     cases h5:statusB (st3 s) with
     | false =>
      have x:=c160e s hs h1 h2 h3 h4 h5
      exact ⟨_,_,_,x,.inr ⟨rfl,no (statusB (st3 s)=true) (by rw [h5]; simp) (get fun n re e=>((stR_some s).1 e).1.2.2.2.2.1)⟩⟩
     | true =>
      have x:=c160f s hs h1 h2 h3 h4 h5
      rw [ed] at x
      cases h6:reasonB (s.drop 13) with
      | false=>rw [h6] at x; exact ⟨_,_,_,x,.inr ⟨rfl,no (reasonB (s.drop 13)=true) (by rw [h6]; simp) (get fun n re e=>((stR_some s).1 e).1.2.2.2.2.2)⟩⟩
      | true=>rw [h6] at x; exact ⟨_,_,_,x,.inl ⟨rfl,(stR_some s).2 ⟨⟨h1,h2,h3,h4,h5,h6⟩,rfl,rfl⟩⟩⟩
   ·exact ⟨0,[],false,c160c s hs h1 h2 h3,.inr ⟨rfl,no _ h3 (get fun n re e=>((stR_some s).1 e).1.2.2.1)⟩⟩
  ·exact ⟨0,[],false,c160b s hs h1 h2,.inr ⟨rfl,no _ h2 (get fun n re e=>((stR_some s).1 e).1.2.1)⟩⟩
 ·exact ⟨0,[],false,c160a s hs h1,.inr ⟨rfl,no _ h1 (get fun n re e=>((stR_some s).1 e).1.1)⟩⟩
end
def gs110_0:List (Option (List Nat)):=[some [56,57],some [55,4],some [55,4],some [56,57],none,none]
attribute [go_sem] gs110_0
def gs166_0:List (Option (List Nat)):=[some [59,60],some [58,4],some [58,4],some [59,60],none,none]
attribute [go_sem] gs166_0
section
variable (s:List UInt8) (hs:s.length≤1048576)
include hs
theorem c160B (an:Bool):∃ me ta st re ok,Q2 160 (.v (vS s)) (.v (vB an)) (m1D me ta (st:Nat) re ok)∧((ok=true∧firstR an s=some (me,ta,st,re))∨(ok=false∧firstR an s=none)):=by
 cases an with
 | true =>
  obtain ⟨n,re,ok,x,h⟩:=c160A s hs
  refine ⟨[],[],n,re,ok,x,?_⟩
  unfold firstR
  rcases h with ⟨rfl,h⟩ | ⟨rfl,h⟩<;>rw [h]
  ·exact .inl ⟨rfl,rfl⟩
  ·exact .inr ⟨rfl,rfl⟩
 | false =>
  unfold firstR rqR
  simp only [Bool.false_eq_true,if_false]
  have no:(spl 32 s).length≠3→∃ me ta st re ok,Q2 160 (.v (vS s)) (.v (vB false)) (m1D me ta (st:Nat) re ok)∧ok=false:=fun h=>⟨[],[],0,[],false,c160g s hs h,rfl⟩
  match h:spl 32 s with
  | [w1,w2,w3] =>
   simp only
   cases g:w3==httpV with
   | false=>exact ⟨[],[],0,[],false,c160h s hs w1 w2 w3 h g,.inr ⟨rfl,rfl⟩⟩
   | true =>
    cases e:methodB w1 with
    | false=>exact ⟨w1,w2,0,[],false,c160i s hs w1 w2 w3 h g e,.inr ⟨rfl,rfl⟩⟩
    | true =>
     refine ⟨w1,w2,0,[],targetB w2,c160j s hs w1 w2 w3 h g e,?_⟩
     cases targetB w2
     ·exact .inr ⟨rfl,rfl⟩
     ·exact .inl ⟨rfl,rfl⟩
  | []=>exact ⟨[],[],0,[],false,c160g s hs (by rw [h]; simp),.inr ⟨rfl,rfl⟩⟩
  | [_]=>exact ⟨[],[],0,[],false,c160g s hs (by rw [h]; simp),.inr ⟨rfl,rfl⟩⟩
  | [_,_]=>exact ⟨[],[],0,[],false,c160g s hs (by rw [h]; simp),.inr ⟨rfl,rfl⟩⟩
  | _::_::_::_::_=>exact ⟨[],[],0,[],false,c160g s hs (by rw [h]; simp),.inr ⟨rfl,rfl⟩⟩
theorem c209B:∃ me ta st re ok,Q1 209 (.v (vS s)) (m1D me ta (st:Nat) re ok)∧((ok=true∧firstR false s=some (me,ta,st,re))∨(ok=false∧firstR false s=none)):=by
 have x:=c209 s hs
 unfold firstR
 simp only [Bool.false_eq_true,if_false]
 by_cases h:(upto 32 s).length+11≤s.length∧s.drop (s.length-9)=httpZ
 ·rw [if_pos h] at x
  refine ⟨_,_,0,_,_,x,?_⟩
  cases hr:rqR s with
  | none =>
   refine .inr ⟨?_,rfl⟩
   have:=rq_none hr
   cases h1:methodB (upto 32 s)
   ·rfl
   ·cases h2:targetB ((s.drop ((upto 32 s).length+1)).take (s.length-9-((upto 32 s).length+1)))
    ·rfl
    ·exact absurd ⟨h.1,h.2,h1,h2⟩ this
  | some p =>
   obtain ⟨h1,_,_,h2,h3,h4⟩:=(rq_iff p.1 p.2).1 hr
   rw [←h2,←h1,h3,h4]
   exact .inl ⟨rfl,rfl⟩
 ·rw [if_neg h] at x
  refine ⟨[],[],0,[],false,x,.inr ⟨rfl,?_⟩⟩
  cases hr:rqR s with
  | none=>rfl
  | some p =>
   obtain ⟨_,h1,h2,_⟩:=(rq_iff p.1 p.2).1 hr
   exact absurd ⟨h1,h2⟩ h
theorem c208B:∃ me ta st re ok,Q1 208 (.v (vS s)) (m1D me ta (st:Nat) re ok)∧((ok=true∧firstR true s=some (me,ta,st,re))∨(ok=false∧firstR true s=none)):=by
 unfold firstR
 simp only [if_true]
 have no:∀ P:Prop,¬ P→(∀ n re,stR s=some (n,re)→P)→(stR s).map (fun p=>(([]:List UInt8),([]:List UInt8),p.1,p.2))=none:=fun P h1 h2=>by
  cases e:stR s with
  | none=>rfl
  | some p=>exact absurd (h2 p.1 p.2 (by rw [e])) h1
 by_cases h:13≤s.length
 ·by_cases h1:s.take 9=httpA
  ·by_cases h2:s.getD 12 0=32
   ·have key:=readD3 h
    have nost:∀ m,readD ((s.drop 9).take 3)=some m→¬ (200≤m∧m≤599)→(stR s).map (fun p=>(([]:List UInt8),([]:List UInt8),p.1,p.2))=none:=fun m hm hn=>no (digs3 s=true∧statusB (st3 s)=true) (fun e=>by
     obtain ⟨k,e1,e2,e3⟩:=key.2 e
     rw [hm] at e1
     injection e1 with e1
     exact hn ⟨by omega,by omega⟩) fun n re e=>⟨((stR_some s).1 e).1.2.2.2.1,((stR_some s).1 e).1.2.2.2.2.1⟩
    cases h3:readD ((s.drop 9).take 3) with
    | none=>exact ⟨[],[],0,_,false,c208d s hs h h1 h2 h3,.inr ⟨rfl,no (digs3 s=true∧statusB (st3 s)=true) (fun e=>by obtain ⟨k,e1,_⟩:=key.2 e; rw [h3] at e1; cases e1) fun n re e=>⟨((stR_some s).1 e).1.2.2.2.1,((stR_some s).1 e).1.2.2.2.2.1⟩⟩⟩
    | some n =>
     by_cases h4:200≤n
     ·by_cases h5:n≤599
      ·have hd:=key.1 ⟨n,h3,h4,h5⟩
       have hv:n=st3 s:=(readD_val h3).symm
       by_cases h6:(s.drop 13).length≤40
       ·refine ⟨[],[],n,_,_,c208h s hs h h1 h2 n h3 h4 h5 h6,?_⟩
        have hre:reasonB (s.drop 13)=(s.drop 13).all fun b=>plainB b.toNat:=by unfold reasonB; rw [decide_eq_true h6,Bool.true_and]
        rw [←hre]
        cases h7:reasonB (s.drop 13) with
        | false=>exact .inr ⟨rfl,no (reasonB (s.drop 13)=true) (by rw [h7]; simp) fun n re e=>((stR_some s).1 e).1.2.2.2.2.2⟩
        | true =>
         rw [(stR_some s).2 ⟨⟨h1,h,h2,hd.1,hd.2,h7⟩,hv,rfl⟩]
         exact .inl ⟨rfl,rfl⟩
       ·exact ⟨[],[],n,_,_,c208g s hs h h1 h2 n h3 h4 h5 h6,.inr ⟨rfl,no (reasonB (s.drop 13)=true) (fun e=>h6 (by unfold reasonB at e; simp only [Bool.and_eq_true,decide_eq_true_eq] at e; exact e.1)) fun n re e=>((stR_some s).1 e).1.2.2.2.2.2⟩⟩
      ·exact ⟨[],[],n,_,_,c208f s hs h h1 h2 n h3 h4 h5,.inr ⟨rfl,nost n h3 fun e=>h5 e.2⟩⟩
     ·exact ⟨[],[],n,_,_,c208e s hs h h1 h2 n h3 h4,.inr ⟨rfl,nost n h3 fun e=>h4 e.1⟩⟩
   ·exact ⟨[],[],0,[],false,c208c s hs h h1 h2,.inr ⟨rfl,no _ h2 fun n re e=>((stR_some s).1 e).1.2.2.1⟩⟩
  ·exact ⟨[],[],0,[],false,c208b s hs h h1,.inr ⟨rfl,no _ h1 fun n re e=>((stR_some s).1 e).1.1⟩⟩
 ·exact ⟨[],[],0,[],false,c208a s hs h,.inr ⟨rfl,no _ h fun n re e=>((stR_some s).1 e).1.2.1⟩⟩
end
attribute [local go_sem] rowsF_length
def hdR (t:List UInt8):Nat→Nat→List Fld→Except Nat (Nat × List Fld)
 | 0,_,_ => .error 431
 | n+1,a,l=>match lineR t a with
  | none => .error 400
  | some (s,c)=>if 300<s.length∨1500<c then .error 431 else if s=[] then .ok (c,l) else if l.length=20 then .error 431 else match fieldR s with
   | none => .error 400
   | some f=>hdR t n c (l++[f])
def fD (l:List Fld):D:=match l with | [] => .nil | p::l => .imm 105 (rowsF (p::l))
theorem fD_ne {l:List Fld} (h:l≠[]):fD l = .imm 105 (rowsF l):=by
 cases l with
 | nil=>exact absurd rfl h
 | cons x l=>rfl
theorem dz {cfg:Cfg} {l:List Oper} {E E0:Env} {K:Env→Prop} (q:Lf) (fs:List (Option (List Nat))) (h:pHeadN prog cfg l (l.zip fs) E0 K) (he:E.frz q=some E0:=by simp only [go_sem,Env.frz,frzB,reduceIte,reduceCtorEq,Nat.reduceEqDiff]; rfl) (hok:drawN l fs=true:=by kernel_rfl):pDraw prog cfg l E K:=draw_frz q fs mixedOk he hok h
abbrev HR:=Except Nat (List UInt8 × List UInt8 × Nat × List UInt8 × Nat × List Fld)
def headR (t:List UInt8) (an:Bool):HR :=
 if 4000<t.length then .error 413 else match lineR t 0 with
  | none => .error 400
  | some (s,c)=>if 300<s.length∨1500<c then .error 431 else match firstR an s with
   | none => .error 400
   | some (me,ta,st,re)=>(hdR t 21 c []).map fun r=>(me,ta,st,re,r.1,r.2)
def headD:HR→D
 | .error k => .tup [mZ,.v (vI 0),.v (vI (k:Nat))]
 | .ok (me,ta,st,re,a,l) => .tup [mD me ta (st:Nat) re false (fD l) [],.v (vI (a:Nat)),.v (vI 0)]
def mL:Option (List UInt8 × List UInt8 × Nat × List UInt8)→List Fld→List D
 | none,_=>[.v (vS []),.v (vS []),.v (vI 0),.v (vS []),.v (vB false),.nil,.v (vS [])]
 | some (me,ta,st,re),l=>[.v (vS me),.v (vS ta),.v (vI (st:Nat)),.v (vS re),.v (vB false),sd 105 (rowsF l),.v (vS [])]
theorem sdF_nil {e:TypeId}:sd e (rowsF []) = .nil:=rfl
attribute [local go_sem] mL sdF_nil Option.isNone
theorem rowsF_ne {l:List Fld} (h:l≠[]):rowsF l≠[]:=by
 cases l with
 | nil=>exact absurd rfl h
 | cons x l=>simp [rowsF]
theorem headD_nil {me ta re:List UInt8} {st c:Nat}:headD (.ok (me,ta,st,re,c,[])) = .tup [mD me ta (st:Nat) re false .nil [],.v (vI (c:Nat)),.v (vI 0)]:=rfl
theorem headD_own {me ta re:List UInt8} {st c:Nat} {l:List Fld} (h:l≠[]):headD (.ok (me,ta,st,re,c,l)) = .tup [mD me ta (st:Nat) re false (.imm 105 (rowsF l)) [],.v (vI (c:Nat)),.v (vI 0)]:=by
 show D.tup [mD me ta (st:Nat) re false (fD l) [],.v (vI (c:Nat)),.v (vI 0)]=_
 rw [fD_ne h]
theorem sdF_snoc {l:List Fld} {p:Fld}:sd 105 (rowsF (l++[p])) = .own 105 (rowsF l++[[.v (vS p.1),.v (vS p.2)]]):=by
 have e:rowsF (l++[p])=rowsF l++[[.v (vS p.1),.v (vS p.2)]]:=by simp [rowsF,rowF]
 rw [e]
 exact sd_own (by simp)
def hdI (t:List UInt8) (an:Bool) (R:HR) (s:Option (List UInt8 × List UInt8 × Nat × List UInt8) × Nat × List Fld):Prop :=
 match s.1 with
 | none=>s.2.1=0∧s.2.2=[]∧(match lineR t 0 with
  | none => .error 400
  | some (s,c)=>if 300<s.length∨1500<c then .error 431 else match firstR an s with
   | none => .error 400
   | some (me,ta,st,re)=>(hdR t 21 c []).map fun r=>(me,ta,st,re,r.1,r.2))=R
 | some (me,ta,st,re)=>s.2.1≤t.length∧∃ n,0<n∧s.2.2.length+n=21∧(hdR t n s.2.1 s.2.2).map (fun r=>(me,ta,st,re,r.1,r.2))=R
section
variable (t:List UInt8) (an:Bool) (hl:t.length≤1048576)
include hl
theorem c110:Q2 110 (.v (vS t)) (.v (vB an)) (headD (headR t an)):=by
 have hL:t.length≤9223372036854775807:=by omega
 generalize hR:headR t an=R
 unfold headR at hR
 by_cases h4:4000<t.length
 ·rw [if_pos h4] at hR
  have k1:(4000:Int)<t.length:=by omega
  subst hR
  refine sb 2 [.ce 4 25,.tm 5,.tm 6] func110 ?_
  exact fz
 rw [if_neg h4] at hR
 have k1:¬ (4000:Int)<t.length:=by omega
 refine sb 2 [.ce 4 25,.tm 5,.tm 6] func110 ?_
 refine loopZ (fun s:Option (List UInt8 × List UInt8 × Nat × List UInt8) × Nat × List Fld=>pC 77 [.dead,.v (vB an),.dead,.dead,.cref 4 0,.v (vI 0),.v (vI 0),.cref 7 0,.cref 8 0,.v (vB s.1.isNone)] [none,none,none,none,some (mL none []),none,none,some [.v (vS t),.v (vI (s.2.1:Nat))],some (mL s.1 s.2.2)]) [1,4,5,6,7,8,9] (hdI t an R) (fun s=>t.length-s.2.1) (none,0,[]) rfl ⟨rfl,rfl,hR⟩ ?_
 clear hR h4 k1
 rintro ⟨_ | ⟨me,ta,st,re⟩,b,l⟩ hI
 ·obtain ⟨i1,i2,hR⟩:=hI
  simp only at i1 i2
  subst i1 i2
  have x1:=c104 t 0 hl (Nat.zero_le _)
  cases hln:lineR t 0 with
  | none =>
   obtain ⟨j,j1,j2⟩:=lineD_none hln
   rw [j2] at x1
   rw [hln] at hR
   subst hR
   clear hln j2
   refine Z ?_
   refine call0 x1 ?_
   exact fz
  | some q =>
   obtain ⟨s,c⟩:=q
   obtain ⟨g1,g2,g3⟩:=lineR_le hln
   rw [lineD_some hln] at x1
   rw [hln] at hR
   simp only at hR
   have g4:s.length≤9223372036854775807:=by omega
   clear hln
   by_cases g5:300<s.length
   ·rw [if_pos (Or.inl g5)] at hR
    have g6:(300:Int)<s.length:=by omega
    subst hR
    clear g2 g5
    refine Z ?_
    refine call0 x1 ?_
    exact fz
   have g6:¬ (300:Int)<s.length:=by omega
   by_cases g7:1500<c
   ·rw [if_pos (Or.inr g7)] at hR
    have g8:(1500:Int)<c:=by omega
    subst hR
    clear g2 g5 g7
    refine Z ?_
    refine call0 x1 ?_
    exact fz
   have g8:¬ (1500:Int)<c:=by omega
   rw [if_neg (by omega)] at hR
   obtain ⟨me,ta,st,re,ok,x2,hok⟩:=c160B s (by omega) an
   rcases hok with ⟨rfl,ho⟩ | ⟨rfl,ho⟩
   ·rw [ho] at hR
    have hmu:t.length-c<t.length:=by omega
    clear g2 g5 g7 ho
    refine Z ?_
    refine call0 x1 ?_
    refine call0 x2 ?_
    exact ⟨(some (me,ta,st,re),c,[]),rfl,⟨g3,21,by decide,rfl,hR⟩,by simp only; omega⟩
   ·rw [ho] at hR
    subst hR
    clear g2 g5 g7 ho
    refine Z ?_
    refine call0 x1 ?_
    refine call0 x2 ?_
    exact fz
 ·obtain ⟨i1,n,i0,i2,hR⟩:=hI
  simp only at i1 i2 hR
  have x1:=c104 t b hl i1
  by_cases hl0:l=[]
  ·subst hl0
   obtain rfl:n=21:=by simpa using i2
   unfold hdR at hR
   cases hln:lineR t b with
   | none =>
    obtain ⟨j,j1,j2⟩:=lineD_none hln
    rw [j2] at x1
    rw [hln] at hR
    have hR:Except.error 400=R:=hR
    subst hR
    clear hln j2
    refine Z ?_
    refine call0 x1 ?_
    exact fz
   | some q =>
    obtain ⟨s,c⟩:=q
    obtain ⟨g1,g2,g3⟩:=lineR_le hln
    rw [lineD_some hln] at x1
    rw [hln] at hR
    simp only at hR
    have g4:s.length≤9223372036854775807:=by omega
    clear hln
    by_cases g5:300<s.length
    ·rw [if_pos (Or.inl g5)] at hR
     have hR:Except.error 431=R:=hR
     have g6:(300:Int)<s.length:=by omega
     subst hR
     clear g2 g5
     refine Z ?_
     refine call0 x1 ?_
     exact fz
    have g6:¬ (300:Int)<s.length:=by omega
    by_cases g7:1500<c
    ·rw [if_pos (Or.inr g7)] at hR
     have hR:Except.error 431=R:=hR
     have g8:(1500:Int)<c:=by omega
     subst hR
     clear g2 g5 g7
     refine Z ?_
     refine call0 x1 ?_
     exact fz
    have g8:¬ (1500:Int)<c:=by omega
    rw [if_neg (by omega)] at hR
    by_cases g9:s=[]
    ·rw [if_pos g9] at hR
     subst g9
     have hR:Except.ok (me,ta,st,re,c,[])=R:=hR
     subst hR
     rw [headD_nil]
     clear g2 g5 g7
     refine Z ?_
     refine call0 x1 ?_
     refine draw_new gs110_0 mixedOk (by kernel_rfl) ?_
     refine Z ?_
     exact fz
    rw [if_neg g9] at hR
    have g10:(s==[])=false:=beq_eq_false_iff_ne.2 g9
    rw [if_neg (by simp)] at hR
    have x2:=c159 s (by omega)
    cases hf:fieldR s with
    | none =>
     rw [hf,fieldD_none] at x2
     rw [hf] at hR
     have hR:Except.error 400=R:=hR
     subst hR
     clear g2 g5 g7 g9 hf
     refine Z ?_
     refine call0 x1 ?_
     refine call0 x2 ?_
     exact fz
    | some p =>
     rw [hf,fieldD_some] at x2
     rw [hf] at hR
     clear g5 g7 g9 hf
     refine Z ?_
     refine call0 x1 ?_
     refine call0 x2 ?_
     exact ⟨(some (me,ta,st,re),c,[]++[p]),by rfl,⟨g3,20,by decide,by simp; try omega,hR⟩,by simp only; omega⟩
  ·have hsd:sd 105 (rowsF l) = .own 105 (rowsF l):=sd_own (rowsF_ne hl0)
   have hb2:l.length≤9223372036854775807:=by omega
   obtain ⟨n,rfl⟩:∃ m,n=m+1:=⟨n-1,by omega⟩
   unfold hdR at hR
   cases hln:lineR t b with
   | none =>
    obtain ⟨j,j1,j2⟩:=lineD_none hln
    rw [j2] at x1
    rw [hln] at hR
    have hR:Except.error 400=R:=hR
    subst hR
    clear hln j2
    refine Z ?_
    refine call0 x1 ?_
    exact fz
   | some q =>
    obtain ⟨s,c⟩:=q
    obtain ⟨g1,g2,g3⟩:=lineR_le hln
    rw [lineD_some hln] at x1
    rw [hln] at hR
    simp only at hR
    have g4:s.length≤9223372036854775807:=by omega
    clear hln
    by_cases g5:300<s.length
    ·rw [if_pos (Or.inl g5)] at hR
     have hR:Except.error 431=R:=hR
     have g6:(300:Int)<s.length:=by omega
     subst hR
     clear g2 g5
     refine Z ?_
     refine call0 x1 ?_
     exact fz
    have g6:¬ (300:Int)<s.length:=by omega
    by_cases g7:1500<c
    ·rw [if_pos (Or.inr g7)] at hR
     have hR:Except.error 431=R:=hR
     have g8:(1500:Int)<c:=by omega
     subst hR
     clear g2 g5 g7
     refine Z ?_
     refine call0 x1 ?_
     exact fz
    have g8:¬ (1500:Int)<c:=by omega
    rw [if_neg (by omega)] at hR
    by_cases g9:s=[]
    ·rw [if_pos g9] at hR
     subst g9
     have hR:Except.ok (me,ta,st,re,c,l)=R:=hR
     subst hR
     rw [headD_own hl0]
     clear g2 g5 g7
     refine Z ?_
     refine call0 x1 ?_
     refine dz ⟨true,8,5⟩ gs110_0 ?_
     refine Z ?_
     exact fz
    rw [if_neg g9] at hR
    have g10:(s==[])=false:=beq_eq_false_iff_ne.2 g9
    by_cases g11:l.length=20
    ·rw [if_pos g11] at hR
     have hR:Except.error 431=R:=hR
     have g12:((l.length:Int)==20)=true:=by rw [g11]; rfl
     subst hR
     clear g2 g5 g7 g9 g11
     refine Z ?_
     refine call0 x1 ?_
     exact fz
    rw [if_neg g11] at hR
    have g12:((l.length:Int)==20)=false:=beq_eq_false_iff_ne.2 (by omega)
    have hb4:(l.length+1)*32≤140737488355328:=by omega
    have x2:=c159 s (by omega)
    cases hf:fieldR s with
    | none =>
     rw [hf,fieldD_none] at x2
     rw [hf] at hR
     have hR:Except.error 400=R:=hR
     subst hR
     clear g2 g5 g7 g9 hf
     refine Z ?_
     refine call0 x1 ?_
     refine call0 x2 ?_
     exact fz
    | some p =>
     rw [hf,fieldD_some] at x2
     rw [hf] at hR
     clear g5 g7 g9 hf
     refine Z ?_
     refine call0 x1 ?_
     refine call0 x2 ?_
     exact ⟨(some (me,ta,st,re),c,l++[p]),by simp only [mL,sdF_snoc]; rfl,⟨g3,n,by omega,by simp; try omega,hR⟩,by simp only; omega⟩
theorem c166:Q2 166 (.v (vS t)) (.v (vB an)) (headD (headR t an)):=by
 have hL:t.length≤9223372036854775807:=by omega
 generalize hR:headR t an=R
 unfold headR at hR
 by_cases h4:4000<t.length
 ·rw [if_pos h4] at hR
  have k1:(4000:Int)<t.length:=by omega
  subst hR
  refine sb 2 [.ce 4 25,.tm 5,.tm 6] func166 ?_
  exact fz
 rw [if_neg h4] at hR
 have k1:¬ (4000:Int)<t.length:=by omega
 refine sb 2 [.ce 4 25,.tm 5,.tm 6] func166 ?_
 refine loopZ (fun s:Option (List UInt8 × List UInt8 × Nat × List UInt8) × Nat × List Fld=>pC 80 [.dead,.v (vB an),.dead,.dead,.cref 4 0,.v (vI 0),.v (vI 0),.cref 7 0,.cref 8 0,.v (vB s.1.isNone)] [none,none,none,none,some (mL none []),none,none,some (mL s.1 s.2.2),some [.v (vS t),.v (vI (s.2.1:Nat))]]) [1,4,5,6,7,8,9] (hdI t an R) (fun s=>t.length-s.2.1) (none,0,[]) rfl ⟨rfl,rfl,hR⟩ ?_
 clear hR h4 k1
 rintro ⟨_ | ⟨me,ta,st,re⟩,b,l⟩ hI
 ·obtain ⟨i1,i2,hR⟩:=hI
  simp only at i1 i2
  subst i1 i2
  have x1:=c207 t 0 hl (Nat.zero_le _)
  cases hln:lineR t 0 with
  | none =>
   obtain ⟨j,j1,j2⟩:=lineD_none hln
   rw [j2] at x1
   rw [hln] at hR
   subst hR
   clear hln j2
   refine Z ?_
   refine call0 x1 ?_
   exact fz
  | some q =>
   obtain ⟨s,c⟩:=q
   obtain ⟨g1,g2,g3⟩:=lineR_le hln
   rw [lineD_some hln] at x1
   rw [hln] at hR
   simp only at hR
   have g4:s.length≤9223372036854775807:=by omega
   clear hln
   by_cases g5:300<s.length
   ·rw [if_pos (Or.inl g5)] at hR
    have g6:(300:Int)<s.length:=by omega
    subst hR
    clear g2 g5
    refine Z ?_
    refine call0 x1 ?_
    exact fz
   have g6:¬ (300:Int)<s.length:=by omega
   by_cases g7:1500<c
   ·rw [if_pos (Or.inr g7)] at hR
    have g8:(1500:Int)<c:=by omega
    subst hR
    clear g2 g5 g7
    refine Z ?_
    refine call0 x1 ?_
    exact fz
   have g8:¬ (1500:Int)<c:=by omega
   rw [if_neg (by omega)] at hR
   cases an
   ·obtain ⟨me,ta,st,re,ok,x2,hok⟩:=c209B s (by omega)
    rcases hok with ⟨rfl,ho⟩ | ⟨rfl,ho⟩
    ·rw [ho] at hR
     have hmu:t.length-c<t.length:=by omega
     clear g2 g5 g7 ho
     refine Z ?_
     refine call0 x1 ?_
     refine call0 x2 ?_
     exact ⟨(some (me,ta,st,re),c,[]),rfl,⟨g3,21,by decide,rfl,hR⟩,by simp only; omega⟩
    ·rw [ho] at hR
     subst hR
     clear g2 g5 g7 ho
     refine Z ?_
     refine call0 x1 ?_
     refine call0 x2 ?_
     exact fz
   ·obtain ⟨me,ta,st,re,ok,x2,hok⟩:=c208B s (by omega)
    rcases hok with ⟨rfl,ho⟩ | ⟨rfl,ho⟩
    ·rw [ho] at hR
     have hmu:t.length-c<t.length:=by omega
     clear g2 g5 g7 ho
     refine Z ?_
     refine call0 x1 ?_
     refine call0 x2 ?_
     exact ⟨(some (me,ta,st,re),c,[]),rfl,⟨g3,21,by decide,rfl,hR⟩,by simp only; omega⟩
    ·rw [ho] at hR
     subst hR
     clear g2 g5 g7 ho
     refine Z ?_
     refine call0 x1 ?_
     refine call0 x2 ?_
     exact fz
 ·obtain ⟨i1,n,i0,i2,hR⟩:=hI
  simp only at i1 i2 hR
  have x1:=c207 t b hl i1
  by_cases hl0:l=[]
  ·subst hl0
   obtain rfl:n=21:=by simpa using i2
   unfold hdR at hR
   cases hln:lineR t b with
   | none =>
    obtain ⟨j,j1,j2⟩:=lineD_none hln
    rw [j2] at x1
    rw [hln] at hR
    have hR:Except.error 400=R:=hR
    subst hR
    clear hln j2
    refine Z ?_
    refine call0 x1 ?_
    exact fz
   | some q =>
    obtain ⟨s,c⟩:=q
    obtain ⟨g1,g2,g3⟩:=lineR_le hln
    rw [lineD_some hln] at x1
    rw [hln] at hR
    simp only at hR
    have g4:s.length≤9223372036854775807:=by omega
    clear hln
    by_cases g5:300<s.length
    ·rw [if_pos (Or.inl g5)] at hR
     have hR:Except.error 431=R:=hR
     have g6:(300:Int)<s.length:=by omega
     subst hR
     clear g2 g5
     refine Z ?_
     refine call0 x1 ?_
     exact fz
    have g6:¬ (300:Int)<s.length:=by omega
    by_cases g7:1500<c
    ·rw [if_pos (Or.inr g7)] at hR
     have hR:Except.error 431=R:=hR
     have g8:(1500:Int)<c:=by omega
     subst hR
     clear g2 g5 g7
     refine Z ?_
     refine call0 x1 ?_
     exact fz
    have g8:¬ (1500:Int)<c:=by omega
    rw [if_neg (by omega)] at hR
    by_cases g9:s=[]
    ·rw [if_pos g9] at hR
     subst g9
     have hR:Except.ok (me,ta,st,re,c,[])=R:=hR
     subst hR
     rw [headD_nil]
     clear g2 g5 g7
     refine Z ?_
     refine call0 x1 ?_
     refine draw_new gs166_0 mixedOk (by kernel_rfl) ?_
     refine Z ?_
     exact fz
    rw [if_neg g9] at hR
    have g10:(s==[])=false:=beq_eq_false_iff_ne.2 g9
    rw [if_neg (by simp)] at hR
    have x2:=c210 s (by omega)
    cases hf:fieldR s with
    | none =>
     rw [hf,fieldD_none] at x2
     rw [hf] at hR
     have hR:Except.error 400=R:=hR
     subst hR
     clear g2 g5 g7 g9 hf
     refine Z ?_
     refine call0 x1 ?_
     refine call0 x2 ?_
     exact fz
    | some p =>
     rw [hf,fieldD_some] at x2
     rw [hf] at hR
     clear g5 g7 g9 hf
     refine Z ?_
     refine call0 x1 ?_
     refine call0 x2 ?_
     exact ⟨(some (me,ta,st,re),c,[]++[p]),by rfl,⟨g3,20,by decide,by simp; try omega,hR⟩,by simp only; omega⟩
  ·have hsd:sd 105 (rowsF l) = .own 105 (rowsF l):=sd_own (rowsF_ne hl0)
   have hb2:l.length≤9223372036854775807:=by omega
   obtain ⟨n,rfl⟩:∃ m,n=m+1:=⟨n-1,by omega⟩
   unfold hdR at hR
   cases hln:lineR t b with
   | none =>
    obtain ⟨j,j1,j2⟩:=lineD_none hln
    rw [j2] at x1
    rw [hln] at hR
    have hR:Except.error 400=R:=hR
    subst hR
    clear hln j2
    refine Z ?_
    refine call0 x1 ?_
    exact fz
   | some q =>
    obtain ⟨s,c⟩:=q
    obtain ⟨g1,g2,g3⟩:=lineR_le hln
    rw [lineD_some hln] at x1
    rw [hln] at hR
    simp only at hR
    have g4:s.length≤9223372036854775807:=by omega
    clear hln
    by_cases g5:300<s.length
    ·rw [if_pos (Or.inl g5)] at hR
     have hR:Except.error 431=R:=hR
     have g6:(300:Int)<s.length:=by omega
     subst hR
     clear g2 g5
     refine Z ?_
     refine call0 x1 ?_
     exact fz
    have g6:¬ (300:Int)<s.length:=by omega
    by_cases g7:1500<c
    ·rw [if_pos (Or.inr g7)] at hR
     have hR:Except.error 431=R:=hR
     have g8:(1500:Int)<c:=by omega
     subst hR
     clear g2 g5 g7
     refine Z ?_
     refine call0 x1 ?_
     exact fz
    have g8:¬ (1500:Int)<c:=by omega
    rw [if_neg (by omega)] at hR
    by_cases g9:s=[]
    ·rw [if_pos g9] at hR
     subst g9
     have hR:Except.ok (me,ta,st,re,c,l)=R:=hR
     subst hR
     rw [headD_own hl0]
     clear g2 g5 g7
     refine Z ?_
     refine call0 x1 ?_
     refine dz ⟨true,7,5⟩ gs166_0 ?_
     refine Z ?_
     exact fz
    rw [if_neg g9] at hR
    have g10:(s==[])=false:=beq_eq_false_iff_ne.2 g9
    by_cases g11:l.length=20
    ·rw [if_pos g11] at hR
     have hR:Except.error 431=R:=hR
     have g12:((l.length:Int)==20)=true:=by rw [g11]; rfl
     subst hR
     clear g2 g5 g7 g9 g11
     refine Z ?_
     refine call0 x1 ?_
     exact fz
    rw [if_neg g11] at hR
    have g12:((l.length:Int)==20)=false:=beq_eq_false_iff_ne.2 (by omega)
    have hb4:(l.length+1)*32≤140737488355328:=by omega
    have x2:=c210 s (by omega)
    cases hf:fieldR s with
    | none =>
     rw [hf,fieldD_none] at x2
     rw [hf] at hR
     have hR:Except.error 400=R:=hR
     subst hR
     clear g2 g5 g7 g9 hf
     refine Z ?_
     refine call0 x1 ?_
     refine call0 x2 ?_
     exact fz
    | some p =>
     rw [hf,fieldD_some] at x2
     rw [hf] at hR
     clear g5 g7 g9 hf
     refine Z ?_
     refine call0 x1 ?_
     refine call0 x2 ?_
     exact ⟨(some (me,ta,st,re),c,l++[p]),by simp only [mL,sdF_snoc]; rfl,⟨g3,n,by omega,by simp; try omega,hR⟩,by simp only; omega⟩
end
theorem takeD_yes {t:List UInt8} {a n:Nat} (h:a+n≤t.length):takeD t a n = .tup [.v (vS ((t.drop a).take n)),curD t (a+n),.v (vB true)]:=if_pos h
theorem takeD_no {t:List UInt8} {a n:Nat} (h:¬ a+n≤t.length):takeD t a n = .tup [.v (vS []),.agg [.v (vS []),.v (vI 0)],.v (vB false)]:=if_neg h
theorem hexD_none {l:List UInt8} (h:hexR l=none):hexD l = .tup [.v (vI 0),.v (vB false)]:=by unfold hexD; rw [h]; rfl
theorem hexD_some {l:List UInt8} {n:Nat} (h:hexR l=some n):hexD l = .tup [.v (vI (n:Nat)),.v (vB true)]:=by unfold hexD; rw [h]; rfl
def chR (t:List UInt8) (a:Nat) (bo:List UInt8):Nat × List UInt8 :=
 match lineR t a with
 | none=>(400,[])
 | some (l,c) =>
  if 300<l.length then (400,[]) else
  match hexR (upto 59 l) with
  | none=>(400,[])
  | some n =>
   if 600<bo.length+n then (413,[]) else
   if n=0 then (if trailR t 21 c=true then (0,bo) else (400,[])) else
   if h:a<c∧c+n+2≤t.length∧(t.drop (c+n)).take 2=[13,10] then chR t (c+n+2) (bo++(t.drop c).take n) else (400,[])
termination_by t.length-a
decreasing_by omega
def chD (p:Nat × List UInt8):D := .tup [.v (vS p.2),.v (vI (p.1:Nat))]
section
variable (t:List UInt8) (hl:t.length≤1048576)
include hl
theorem c43:Q1 43 (.v (vS t)) (chD (chR t 0 [])):=by
 have hL:t.length≤9223372036854775807:=by omega
 generalize hR:chR t 0 []=R
 refine sb 1 [.tm 2,.tm 3] func43 ?_
 refine loopZ (fun s:Nat × List UInt8=>pC 92 [.dead,.dead,.v (vS []),.v (vI 0),.cref 4 0,.v (vS s.2)] [none,none,none,none,some [.v (vS t),.v (vI (s.1:Nat))]]) [2,3,4,5] (fun s=>s.1≤t.length∧s.2.length≤600∧chR t s.1 s.2=R) (fun s=>t.length-s.1) (0,[]) rfl ⟨Nat.zero_le _,Nat.zero_le _,hR⟩ ?_
 rintro ⟨b,bo⟩ ⟨h1,h2,h4⟩
 simp only at h1 h2 h4
 clear hR
 have x1:=c104 t b hl h1
 unfold chR at h4
 cases hln:lineR t b with
 | none =>
  obtain ⟨j,j1,j2⟩:=lineD_none hln
  rw [j2] at x1
  rw [hln] at h4
  subst h4
  clear hln j2
  refine Z ?_
  refine call0 x1 ?_
  exact fz
 | some q =>
  obtain ⟨l,c⟩:=q
  obtain ⟨g1,g2,g3⟩:=lineR_le hln
  rw [lineD_some hln] at x1
  rw [hln] at h4
  have g4:l.length≤9223372036854775807:=by omega
  clear hln
  by_cases g5:300<l.length
  ·have g6:(300:Int)<l.length:=by omega
   simp only [if_pos g5] at h4
   subst h4
   clear g2
   refine Z ?_
   refine call0 x1 ?_
   exact fz
  ·have g6:¬ (300:Int)<l.length:=by omega
   simp only [if_neg g5] at h4
   have u1:=upto_le 59 l
   have x2:=c105 l 59 (by omega)
   have x3:=c106 (upto 59 l) (by omega)
   cases hx:hexR (upto 59 l) with
   | none =>
    rw [hexD_none hx] at x3
    rw [hx] at h4
    subst h4
    clear g2 g5 hx
    refine Z ?_
    refine call0 x1 ?_
    refine call0 x2 ?_
    refine call0 x3 ?_
    exact fz
   | some n =>
    have hn:=hexR_le hx
    rw [hexD_some hx] at x3
    rw [hx] at h4
    simp only at h4
    clear hx
    have w1:IntKind.i64.wrap ((bo.length:Int)+n)=((bo.length+n:Nat):Int):=by rw [wrapI (by omega)]; omega
    have b2:bo.length≤9223372036854775807:=by omega
    by_cases k1:600<bo.length+n
    ·rw [if_pos k1] at h4
     have k2:(600:Int)<((bo.length+n:Nat):Int):=by omega
     subst h4
     clear g2 g5 k1
     refine Z ?_
     refine call0 x1 ?_
     refine call0 x2 ?_
     refine call0 x3 ?_
     exact fz
    ·rw [if_neg k1] at h4
     have k2:¬ (600:Int)<((bo.length+n:Nat):Int):=by omega
     by_cases k3:n=0
     ·rw [if_pos k3] at h4
      have k4:((n:Int)==0)=true:=beq_iff_eq.2 (by omega)
      have x4:=c107 t c hl g3
      cases ht:trailR t 21 c with
      | false =>
       rw [ht] at x4 h4
       simp only [Bool.false_eq_true,if_false] at h4
       subst h4
       clear g2 g5 k1 k3 ht
       refine Z ?_
       refine call0 x1 ?_
       refine call0 x2 ?_
       refine call0 x3 ?_
       refine call0 x4 ?_
       exact fz
      | true =>
       rw [ht] at x4 h4
       simp only [if_true] at h4
       subst h4
       clear g2 g5 k1 k3 ht
       refine Z ?_
       refine call0 x1 ?_
       refine call0 x2 ?_
       refine call0 x3 ?_
       refine call0 x4 ?_
       exact fz
     ·rw [if_neg k3] at h4
      have k4:((n:Int)==0)=false:=beq_eq_false_iff_ne.2 (by omega)
      have x4:=c108 t c n hl g3 hn
      by_cases k5:c+n≤t.length
      ·rw [takeD_yes k5] at x4
       have x5:Q2 108 (curD t (c+n)) (.v (vI 2)) (takeD t (c+n) 2):=c108 t (c+n) 2 hl k5 (by decide)
       by_cases k6:c+n+2≤t.length
       ·rw [takeD_yes k6] at x5
        by_cases k7:(t.drop (c+n)).take 2=[13,10]
        ·rw [dif_pos ⟨by omega,k6,k7⟩] at h4
         rw [k7] at x5
         have g7:((t.drop c).take n).length=n:=by rw [List.length_take,List.length_drop]; omega
         have k8:bo.length+((t.drop c).take n).length≤9223372036854775807:=by omega
         have hle:(bo++(t.drop c).take n).length≤600:=by rw [List.length_append,g7]; omega
         clear g5 k1 k3 k5 k7 g7
         refine Z ?_
         refine call0 x1 ?_
         refine call0 x2 ?_
         refine call0 x3 ?_
         refine call0 x4 ?_
         refine call0 x5 ?_
         exact ⟨(c+n+2,bo++(t.drop c).take n),rfl,⟨k6,hle,h4⟩,by simp only; omega⟩
        ·rw [dif_neg fun h=>k7 h.2.2] at h4
         have k8:((t.drop (c+n)).take 2==[13,10])=false:=beq_eq_false_iff_ne.2 k7
         subst h4
         clear g2 g5 k1 k3 k5 k7
         refine Z ?_
         refine call0 x1 ?_
         refine call0 x2 ?_
         refine call0 x3 ?_
         refine call0 x4 ?_
         refine call0 x5 ?_
         exact fz
       ·rw [takeD_no k6] at x5
        rw [dif_neg fun h=>k6 h.2.1] at h4
        subst h4
        clear g2 g5 k1 k3 k5 k6
        refine Z ?_
        refine call0 x1 ?_
        refine call0 x2 ?_
        refine call0 x3 ?_
        refine call0 x4 ?_
        refine call0 x5 ?_
        exact fz
      ·rw [takeD_no k5] at x4
       rw [dif_neg fun h=>k5 (by omega)] at h4
       have x5:Q2 108 (curD [] 0) (.v (vI 2)) (.tup [.v (vS []),.agg [.v (vS []),.v (vI 0)],.v (vB false)]):=c108 [] 0 2 (by simp) (by simp) (by decide)
       subst h4
       clear g2 g5 k1 k3 k5
       refine Z ?_
       refine call0 x1 ?_
       refine call0 x2 ?_
       refine call0 x3 ?_
       refine call0 x4 ?_
       refine call0 x5 ?_
       exact fz
theorem c213:Q1 213 (.v (vS t)) (chD (chR t 0 [])):=by
 have hL:t.length≤9223372036854775807:=by omega
 generalize hR:chR t 0 []=R
 refine sb 1 [.tm 2,.tm 3] func213 ?_
 refine loopZ (fun s:Nat × List UInt8=>pC 74 [.dead,.dead,.v (vS []),.v (vI 0),.cref 4 0,.v (vS s.2)] [none,none,none,none,some [.v (vS t),.v (vI (s.1:Nat))]]) [2,3,4,5] (fun s=>s.1≤t.length∧s.2.length≤600∧chR t s.1 s.2=R) (fun s=>t.length-s.1) (0,[]) rfl ⟨Nat.zero_le _,Nat.zero_le _,hR⟩ ?_
 rintro ⟨b,bo⟩ ⟨h1,h2,h4⟩
 simp only at h1 h2 h4
 clear hR
 have x1:=c207 t b hl h1
 unfold chR at h4
 cases hln:lineR t b with
 | none =>
  obtain ⟨j,j1,j2⟩:=lineD_none hln
  rw [j2] at x1
  rw [hln] at h4
  subst h4
  clear hln j2
  refine Z ?_
  refine call0 x1 ?_
  exact fz
 | some q =>
  obtain ⟨l,c⟩:=q
  obtain ⟨g1,g2,g3⟩:=lineR_le hln
  rw [lineD_some hln] at x1
  rw [hln] at h4
  have g4:l.length≤9223372036854775807:=by omega
  clear hln
  by_cases g5:300<l.length
  ·have g6:(300:Int)<l.length:=by omega
   simp only [if_pos g5] at h4
   subst h4
   clear g2
   refine Z ?_
   refine call0 x1 ?_
   exact fz
  ·have g6:¬ (300:Int)<l.length:=by omega
   simp only [if_neg g5] at h4
   have u1:=upto_le 59 l
   have x2:=c128 l 59 (by omega)
   have x3:=c217z (upto 59 l) (by omega)
   cases hx:hexR (upto 59 l) with
   | none =>
    rw [hexD_none hx] at x3
    rw [hx] at h4
    subst h4
    clear g2 g5 hx
    refine Z ?_
    refine call0 x1 ?_
    refine call0 x2 ?_
    refine call0 x3 ?_
    exact fz
   | some n =>
    have hn:=hexR_le hx
    rw [hexD_some hx] at x3
    rw [hx] at h4
    simp only at h4
    clear hx
    have w1:IntKind.i64.wrap (600-(bo.length:Int))=600-(bo.length:Int):=wrapI (by omega)
    have b2:bo.length≤9223372036854775807:=by omega
    by_cases k1:600<bo.length+n
    ·rw [if_pos k1] at h4
     have k2:600-(bo.length:Int)<(n:Int):=by omega
     subst h4
     clear g2 g5 k1
     refine Z ?_
     refine call0 x1 ?_
     refine call0 x2 ?_
     refine call0 x3 ?_
     exact fz
    ·rw [if_neg k1] at h4
     have k2:¬ 600-(bo.length:Int)<(n:Int):=by omega
     by_cases k3:n=0
     ·rw [if_pos k3] at h4
      have k4:((n:Int)==0)=true:=beq_iff_eq.2 (by omega)
      have x4:=c244 t c hl g3
      cases ht:trailR t 21 c with
      | false =>
       rw [ht] at x4 h4
       simp only [Bool.false_eq_true,if_false] at h4
       subst h4
       clear g2 g5 k1 k3 ht
       refine Z ?_
       refine call0 x1 ?_
       refine call0 x2 ?_
       refine call0 x3 ?_
       refine call0 x4 ?_
       exact fz
      | true =>
       rw [ht] at x4 h4
       simp only [if_true] at h4
       subst h4
       clear g2 g5 k1 k3 ht
       refine Z ?_
       refine call0 x1 ?_
       refine call0 x2 ?_
       refine call0 x3 ?_
       refine call0 x4 ?_
       exact fz
     ·rw [if_neg k3] at h4
      have k4:((n:Int)==0)=false:=beq_eq_false_iff_ne.2 (by omega)
      have x4:=c245 t c n hl g3 hn
      by_cases k5:c+n≤t.length
      ·rw [takeD_yes k5] at x4
       have x5:Q2 245 (curD t (c+n)) (.v (vI 2)) (takeD t (c+n) 2):=c245 t (c+n) 2 hl k5 (by decide)
       by_cases k6:c+n+2≤t.length
       ·rw [takeD_yes k6] at x5
        by_cases k7:(t.drop (c+n)).take 2=[13,10]
        ·rw [dif_pos ⟨by omega,k6,k7⟩] at h4
         rw [k7] at x5
         have g7:((t.drop c).take n).length=n:=by rw [List.length_take,List.length_drop]; omega
         have k8:bo.length+((t.drop c).take n).length≤9223372036854775807:=by omega
         have hle:(bo++(t.drop c).take n).length≤600:=by rw [List.length_append,g7]; omega
         clear g5 k1 k3 k5 k7 g7
         refine Z ?_
         refine call0 x1 ?_
         refine call0 x2 ?_
         refine call0 x3 ?_
         refine call0 x4 ?_
         refine call0 x5 ?_
         exact ⟨(c+n+2,bo++(t.drop c).take n),rfl,⟨k6,hle,h4⟩,by simp only; omega⟩
        ·rw [dif_neg fun h=>k7 h.2.2] at h4
         have k8:((t.drop (c+n)).take 2==[13,10])=false:=beq_eq_false_iff_ne.2 k7
         subst h4
         clear g2 g5 k1 k3 k5 k7
         refine Z ?_
         refine call0 x1 ?_
         refine call0 x2 ?_
         refine call0 x3 ?_
         refine call0 x4 ?_
         refine call0 x5 ?_
         exact fz
       ·rw [takeD_no k6] at x5
        rw [dif_neg fun h=>k6 h.2.1] at h4
        subst h4
        clear g2 g5 k1 k3 k5 k6
        refine Z ?_
        refine call0 x1 ?_
        refine call0 x2 ?_
        refine call0 x3 ?_
        refine call0 x4 ?_
        refine call0 x5 ?_
        exact fz
      ·rw [takeD_no k5] at x4
       rw [dif_neg fun h=>k5 (by omega)] at h4
       subst h4
       clear g2 g5 k1 k3 k5
       refine Z ?_
       refine call0 x1 ?_
       refine call0 x2 ?_
       refine call0 x3 ?_
       refine call0 x4 ?_
       exact fz
end
attribute [local go_sem] rowsS_length
def chuN:List UInt8:=[99,104,117,110,107,101,100]
def chuB (ws:List (List UInt8)):Bool:=match ws with | [w]=>foldB w==chuN | _=>false
def framR (l:List Fld) (an ba:Bool):Nat × Nat :=
 if fieldsB l=false then (4,0) else
 if hasF teN l=true then (if hasF clN l=true then (4,0) else if chuB (wordsB teN l)=true then (if ba=true then (0,0) else (2,0)) else (4,0))
 else if hasF clN l=true then (match lenR (wordsB clN l) with | none=>(4,0) | some n=>if ba=true then (0,0) else (1,n))
 else if ba=true then (0,0) else if an=true then (3,0) else (0,0)
def framD (p:Nat × Nat):D := .tup [.v (vI (p.1:Nat)),.v (vI (p.2:Nat))]
section
variable (l:List Fld) (hl:Small l) (an ba:Bool)
include hl
theorem c111n (h:fieldsB l=false):Q3 111 (.imm 105 (rowsF l)) (.v (vB an)) (.v (vB ba)) (framD (4,0)):=by
 have x1:=c84 l hl
 rw [h] at x1
 refine sb 3 [.tm 6,.tm 7] func111 ?_
 refine call0 x1 ?_
 exact fz
theorem c167n (h:fieldsB l=false):Q3 167 (.imm 105 (rowsF l)) (.v (vB an)) (.v (vB ba)) (framD (4,0)):=by
 have x1:=c38 l hl
 rw [h] at x1
 refine sb 3 [.tm 6,.tm 7] func167 ?_
 refine call0 x1 ?_
 exact fz
theorem c111:Q3 111 (.imm 105 (rowsF l)) (.v (vB an)) (.v (vB ba)) (framD (framR l an ba)):=by
 unfold framR
 by_cases h:fieldsB l=false
 ·rw [if_pos h]; exact c111n l hl an ba h
 rw [if_neg h]
 have h:fieldsB l=true:=by simpa using h
 have x1:=c84 l hl
 have x2:Q2 86 (.imm 105 (rowsF l)) (.v (vS teN)) (.v (vB (hasF teN l))):=c86 l hl teN (by decide) h
 have x3:Q2 86 (.imm 105 (rowsF l)) (.v (vS clN)) (.v (vB (hasF clN l))):=c86 l hl clN (by decide) h
 have x4:=c161 l hl teN (by decide) h
 have x5:=c162 l hl h
 have hw:=words_le (name:=teN) h
 rw [h] at x1
 generalize wordsB teN l=W at x4 hw ⊢
 generalize lenR (wordsB clN l)=N at x5 ⊢
 generalize (if wordsB clN l=[] then (-1:Int) else 0)=v0 at x5
 cases ht:hasF teN l with
 | true =>
  rw [ht] at x2
  rw [if_pos rfl]
  cases hc:hasF clN l with
  | true =>
   rw [hc] at x3
   rw [if_pos rfl]
   clear hw
   by_cases h0:W=[]
   ·subst h0
    rw [sd_none] at x4
    refine sb 3 [.tm 6,.tm 7] func111 ?_
    refine call0 x1 ?_
    refine call0 x2 ?_
    refine call0 x3 ?_
    refine call0 x4 ?_
    exact fz
   ·rw [sd_own (rowsS_ne h0)] at x4
    clear h0
    refine sb 3 [.tm 6,.tm 7] func111 ?_
    refine call0 x1 ?_
    refine call0 x2 ?_
    refine call0 x3 ?_
    refine call0 x4 ?_
    exact fz
  | false =>
   rw [hc] at x3
   rw [if_neg (by simp)]
   by_cases h0:W=[]
   ·subst h0
    rw [sd_none] at x4
    clear hw
    refine sb 3 [.tm 6,.tm 7] func111 ?_
    refine call0 x1 ?_
    refine call0 x2 ?_
    refine call0 x3 ?_
    refine call0 x4 ?_
    exact fz
   ·rw [sd_own (rowsS_ne h0)] at x4
    have hL:W.length≤9223372036854775807:=by omega
    have hpos:0<W.length:=List.length_pos_iff.2 h0
    have e1:=rowsS_getD hpos
    have g4:(0:Int)<(W.length:Int):=by omega
    have g1:=hw.2 _ (mem_get hpos)
    have x6:=c115 (W.getD 0 []) (by omega)
    by_cases h1:W.length=1
    ·have g2:((W.length:Int) != 1)=false:=by rw [h1]; rfl
     have hch:chuB W=(foldB (W.getD 0 [])==chuN):=by
      match W,h1 with
      | [w],_=>rfl
     rw [hch]
     generalize foldB (W.getD 0 [])=F at x6 ⊢
     clear hch hw h0 h1
     by_cases hF:F=chuN
     ·have hF2:(F==[99,104,117,110,107,101,100])=true:=beq_iff_eq.2 hF
      rw [if_pos (beq_iff_eq.2 hF)]
      clear hF
      cases ba
      ·refine sb 3 [.tm 6,.tm 7] func111 ?_
       refine call0 x1 ?_
       refine call0 x2 ?_
       refine call0 x3 ?_
       refine call0 x4 ?_
       refine call0 x6 ?_
       exact fz
      ·refine sb 3 [.tm 6,.tm 7] func111 ?_
       refine call0 x1 ?_
       refine call0 x2 ?_
       refine call0 x3 ?_
       refine call0 x4 ?_
       refine call0 x6 ?_
       exact fz
     ·have hF2:(F==[99,104,117,110,107,101,100])=false:=beq_eq_false_iff_ne.2 hF
      rw [if_neg (by intro e; exact hF (beq_iff_eq.1 e))]
      clear hF
      refine sb 3 [.tm 6,.tm 7] func111 ?_
      refine call0 x1 ?_
      refine call0 x2 ?_
      refine call0 x3 ?_
      refine call0 x4 ?_
      refine call0 x6 ?_
      exact fz
    ·have g2:((W.length:Int) != 1)=true:=by rw [bne_iff_ne]; omega
     have hch:chuB W=false:=by
      match W,h1 with
      | [],_=>rfl
      | [w],h1=>exact absurd rfl h1
      | _::_::_,_=>rfl
     rw [hch,if_neg (by simp)]
     clear hch hw h0 h1
     refine sb 3 [.tm 6,.tm 7] func111 ?_
     refine call0 x1 ?_
     refine call0 x2 ?_
     refine call0 x3 ?_
     refine call0 x4 ?_
     exact fz
 | false =>
  rw [ht] at x2
  rw [if_neg (by simp)]
  clear x4 hw
  cases hc:hasF clN l with
  | true =>
   rw [hc] at x3
   rw [if_pos rfl]
   cases N with
   | none =>
    simp only [lenD] at x5
    refine sb 3 [.tm 6,.tm 7] func111 ?_
    refine call0 x1 ?_
    refine call0 x2 ?_
    refine call0 x3 ?_
    refine call0 x5 ?_
    exact fz
   | some n =>
    simp only [lenD] at x5
    cases ba
    ·refine sb 3 [.tm 6,.tm 7] func111 ?_
     refine call0 x1 ?_
     refine call0 x2 ?_
     refine call0 x3 ?_
     refine call0 x5 ?_
     exact fz
    ·refine sb 3 [.tm 6,.tm 7] func111 ?_
     refine call0 x1 ?_
     refine call0 x2 ?_
     refine call0 x3 ?_
     refine call0 x5 ?_
     exact fz
  | false =>
   rw [hc] at x3
   rw [if_neg (by simp)]
   cases ba
   ·cases an
    ·refine sb 3 [.tm 6,.tm 7] func111 ?_
     refine call0 x1 ?_
     refine call0 x2 ?_
     refine call0 x3 ?_
     exact fz
    ·refine sb 3 [.tm 6,.tm 7] func111 ?_
     refine call0 x1 ?_
     refine call0 x2 ?_
     refine call0 x3 ?_
     exact fz
   ·refine sb 3 [.tm 6,.tm 7] func111 ?_
    refine call0 x1 ?_
    refine call0 x2 ?_
    refine call0 x3 ?_
    exact fz
theorem c167:Q3 167 (.imm 105 (rowsF l)) (.v (vB an)) (.v (vB ba)) (framD (framR l an ba)):=by
 unfold framR
 by_cases h:fieldsB l=false
 ·rw [if_pos h]; exact c167n l hl an ba h
 rw [if_neg h]
 have h:fieldsB l=true:=by simpa using h
 have x1:=c38 l hl
 have x2:=c211 l hl h teN (by decide)
 have x3:=c211 l hl h clN (by decide)
 have x4:=c212 l hl teN (by decide) h
 have x5:=c212 l hl clN (by decide) h
 have hw:=words_le (name:=teN) h
 have hv:=words_le (name:=clN) h
 rw [h] at x1
 generalize wordsB teN l=W at x4 hw ⊢
 generalize wordsB clN l=V at x5 hv ⊢
 generalize (valsB teN l).getD 0 []=y1 at x2
 generalize (valsB clN l).getD 0 []=y2 at x3
 cases ht:hasF teN l with
 | true =>
  rw [ht] at x2
  rw [if_pos rfl]
  cases hc:hasF clN l with
  | true =>
   rw [hc] at x3
   rw [if_pos rfl]
   clear hw hv x5
   by_cases h0:W=[]
   ·subst h0
    rw [sd_none] at x4
    refine sb 3 [.tm 6,.tm 7] func167 ?_
    refine call0 x1 ?_
    refine call0 x2 ?_
    refine call0 x3 ?_
    refine call0 x4 ?_
    exact fz
   ·rw [sd_own (rowsS_ne h0)] at x4
    clear h0
    refine sb 3 [.tm 6,.tm 7] func167 ?_
    refine call0 x1 ?_
    refine call0 x2 ?_
    refine call0 x3 ?_
    refine call0 x4 ?_
    exact fz
  | false =>
   rw [hc] at x3
   rw [if_neg (by simp)]
   clear hv x5
   by_cases h0:W=[]
   ·subst h0
    rw [sd_none] at x4
    clear hw
    refine sb 3 [.tm 6,.tm 7] func167 ?_
    refine call0 x1 ?_
    refine call0 x2 ?_
    refine call0 x3 ?_
    refine call0 x4 ?_
    exact fz
   ·rw [sd_own (rowsS_ne h0)] at x4
    have hL:W.length≤9223372036854775807:=by omega
    have hpos:0<W.length:=List.length_pos_iff.2 h0
    have e1:=rowsS_getD hpos
    have g4:(0:Int)<(W.length:Int):=by omega
    have g1:=hw.2 _ (mem_get hpos)
    have x6:=c97 (W.getD 0 []) (by omega)
    by_cases h1:W.length=1
    ·have g2:((W.length:Int) != 1)=false:=by rw [h1]; rfl
     have hch:chuB W=(foldB (W.getD 0 [])==chuN):=by
      match W,h1 with
      | [w],_=>rfl
     rw [hch]
     generalize foldB (W.getD 0 [])=F at x6 ⊢
     clear hch hw h0 h1
     by_cases hF:F=chuN
     ·have hF2:(F==[99,104,117,110,107,101,100])=true:=beq_iff_eq.2 hF
      rw [if_pos (beq_iff_eq.2 hF)]
      clear hF
      cases ba
      ·refine sb 3 [.tm 6,.tm 7] func167 ?_
       refine call0 x1 ?_
       refine call0 x2 ?_
       refine call0 x3 ?_
       refine call0 x4 ?_
       refine call0 x6 ?_
       exact fz
      ·refine sb 3 [.tm 6,.tm 7] func167 ?_
       refine call0 x1 ?_
       refine call0 x2 ?_
       refine call0 x3 ?_
       refine call0 x4 ?_
       refine call0 x6 ?_
       exact fz
     ·have hF2:(F==[99,104,117,110,107,101,100])=false:=beq_eq_false_iff_ne.2 hF
      rw [if_neg (by intro e; exact hF (beq_iff_eq.1 e))]
      clear hF
      refine sb 3 [.tm 6,.tm 7] func167 ?_
      refine call0 x1 ?_
      refine call0 x2 ?_
      refine call0 x3 ?_
      refine call0 x4 ?_
      refine call0 x6 ?_
      exact fz
    ·have g2:((W.length:Int) != 1)=true:=by rw [bne_iff_ne]; omega
     have hch:chuB W=false:=by
      match W,h1 with
      | [],_=>rfl
      | [w],h1=>exact absurd rfl h1
      | _::_::_,_=>rfl
     rw [hch,if_neg (by simp)]
     clear hch hw h0 h1
     refine sb 3 [.tm 6,.tm 7] func167 ?_
     refine call0 x1 ?_
     refine call0 x2 ?_
     refine call0 x3 ?_
     refine call0 x4 ?_
     exact fz
 | false =>
  rw [ht] at x2
  rw [if_neg (by simp)]
  clear x4 hw
  cases hc:hasF clN l with
  | true =>
   rw [hc] at x3
   rw [if_pos rfl]
   by_cases h0:V=[]
   ·subst h0
    rw [sd_none] at x5
    rw [show lenR []=none from rfl]
    refine sb 3 [.tm 6,.tm 7] func167 ?_
    refine call0 x1 ?_
    refine call0 x2 ?_
    refine call0 x3 ?_
    refine call0 x5 ?_
    exact fz
   ·rw [sd_own (rowsS_ne h0)] at x5
    have hL:V.length≤9223372036854775807:=by omega
    have hpos:0<V.length:=List.length_pos_iff.2 h0
    have g0:((V.length:Int)==0)=false:=beq_eq_false_iff_ne.2 (by omega)
    refine sb 3 [.tm 6,.tm 7] func167 ?_
    refine call0 x1 ?_
    refine call0 x2 ?_
    refine call0 x3 ?_
    refine call0 x5 ?_
    refine loopZ (fun s:Nat × Nat=>pE 88 [.dead,.v (vB an),.v (vB ba),.dead,.dead,.dead,.v (vI 0),.v (vI 0),.dead,.v (vB false),.dead,.v (vB true),.dead,.v (vI (s.2:Nat)),.own 9 (rowsS V),.v (vI (s.1:Nat))]) [1,2,6,7,9,11,13,14,15] (fun s=>lenI V s.1 s.2∧s.2≤999999999999999) (fun s=>V.length-s.1) (0,0) rfl ⟨⟨by simp,by simp⟩,by simp⟩ ?_
    rintro ⟨i,n⟩ ⟨hi,hn⟩
    simp only at hi hn
    by_cases hcc:i<V.length
    ·have w1:=wrapN hcc hL
     have e1:=rowsS_getD hcc
     have g1:=hv.2 _ (mem_get hcc)
     have x6:=c129 (V.getD i []) (by omega)
     cases hr:readD (V.getD i []) with
     | none =>
      rw [decD_none hr] at x6
      rw [lenI_fail hi hcc (.inl hr)]
      clear hi hr hv
      refine Z ?_
      refine call0 x6 ?_
      exact fz
     | some m =>
      rw [decD_some hr] at x6
      have hm:m≤999999999999999:=(readD_iff.1 hr).1
      by_cases hi0:i=0
      ·have hnx:=lenI_next hi hcc hr fun h=>absurd h (by omega)
       have g2:¬ (0:Int)<(i:Int):=by omega
       clear hi hr hv hi0
       refine Z ?_
       refine call0 x6 ?_
       exact ⟨(i+1,m),rfl,⟨hnx,hm⟩,by simp only; omega⟩
      ·have g2:(0:Int)<(i:Int):=by omega
       by_cases hmn:m=n
       ·have hnx:=lenI_next hi hcc hr fun _=>hmn
        subst hmn
        clear hi hr hv hi0
        refine Z ?_
        refine call0 x6 ?_
        exact ⟨(i+1,m),rfl,⟨hnx,hm⟩,by simp only; omega⟩
       ·have g3:(((m:Nat):Int) != (n:Int))=true:=by rw [bne_iff_ne]; omega
        rw [lenI_fail hi hcc (.inr ⟨by omega,m,hr,hmn⟩)]
        clear hi hr hv hi0
        refine Z ?_
        refine call0 x6 ?_
        exact fz
    ·have he:i=V.length:=by have:=hi.1; omega
     rw [lenI_end hi he h0]
     clear hi hv he
     cases ba
     ·refine Z ?_
      exact fz
     ·refine Z ?_
      exact fz
  | false =>
   rw [hc] at x3
   rw [if_neg (by simp)]
   clear x5 hv
   cases ba
   ·cases an
    ·refine sb 3 [.tm 6,.tm 7] func167 ?_
     refine call0 x1 ?_
     refine call0 x2 ?_
     refine call0 x3 ?_
     exact fz
    ·refine sb 3 [.tm 6,.tm 7] func167 ?_
     refine call0 x1 ?_
     refine call0 x2 ?_
     refine call0 x3 ?_
     exact fz
   ·refine sb 3 [.tm 6,.tm 7] func167 ?_
    refine call0 x1 ?_
    refine call0 x2 ?_
    refine call0 x3 ?_
    exact fz
end
theorem fieldR_ok {s:List UInt8} {f:Fld} (h:fieldR s=some f):fieldB f=true:=by
 unfold fieldR at h
 split at h
 ·rename_i h1
  injection h with h
  subst h
  simp only [Bool.and_eq_true] at h1
  exact h1.2
 ·cases h
theorem hdR_ok {t:List UInt8}:∀ (n a:Nat) (l:List Fld) (c:Nat) (l':List Fld),hdR t n a l = .ok (c,l')→l.length+n=21→(∀ p,p∈l→fieldB p=true)→c≤t.length∧l'.length≤20∧∀ p,p∈l'→fieldB p=true:=by
 intro n
 induction n with
 | zero=>intro a l c l' h; cases h
 | succ n ih =>
  intro a l c l' h hn hl
  unfold hdR at h
  cases hln:lineR t a with
  | none=>rw [hln] at h; cases h
  | some q =>
   obtain ⟨s,b⟩:=q
   rw [hln] at h
   simp only at h
   split at h
   ·cases h
   ·split at h
    ·injection h with h
     injection h with h1 h2
     subst h1 h2
     exact ⟨(lineR_le hln).2.2,by omega,hl⟩
    ·split at h
     ·cases h
     ·cases hf:fieldR s with
      | none=>rw [hf] at h; cases h
      | some f =>
       rw [hf] at h
       refine ih b _ c l' h (by simp; omega) fun p hp => ?_
       rcases List.mem_append.1 hp with hp | hp
       ·exact hl p hp
       ·rw [List.mem_singleton.1 hp]; exact fieldR_ok hf
theorem small_of {l:List Fld} (h:fieldsB l=true):Small l:=by
 unfold fieldsB at h
 simp only [Bool.and_eq_true,decide_eq_true_eq] at h
 refine ⟨by omega,fun p hp => ?_⟩
 have:=fieldB_le (List.all_eq_true.1 h.2 p hp)
 omega
theorem firstR_le {an:Bool} {s me ta re:List UInt8} {st:Nat} (h:firstR an s=some (me,ta,st,re)):me.length≤20∧ta.length≤200∧re.length≤40:=by
 unfold firstR at h
 split at h
 ·cases hs:stR s with
  | none=>rw [hs] at h; cases h
  | some p =>
   rw [hs] at h
   injection h with h
   injection h with h1 h
   injection h with h2 h
   injection h with h3 h4
   have:=((stR_some s).1 (show stR s=some (p.1,p.2) from hs))
   have h5:=this.1.2.2.2.2.2
   unfold reasonB at h5
   simp only [Bool.and_eq_true,decide_eq_true_eq] at h5
   rw [←h1,←h2,←h4,this.2.2]
   exact ⟨by simp,by simp,h5.1⟩
 ·cases hs:rqR s with
  | none=>rw [hs] at h; cases h
  | some p =>
   rw [hs] at h
   injection h with h
   injection h with h1 h
   injection h with h2 h
   injection h with h3 h4
   obtain ⟨_,h5,h6⟩:=rq_some (show rqR s=some (p.1,p.2) from hs)
   rw [←h1,←h2,←h4]
   unfold methodB at h5
   unfold targetB inB at h6
   simp only [Bool.and_eq_true,decide_eq_true_eq] at h5 h6
   exact ⟨h5.2,by omega,by simp⟩
theorem headR_ok {t:List UInt8} {an:Bool} {me ta re:List UInt8} {st c:Nat} {l:List Fld} (h:headR t an = .ok (me,ta,st,re,c,l)):c≤t.length∧fieldsB l=true∧me.length≤20∧ta.length≤200∧re.length≤40:=by
 unfold headR at h
 split at h
 ·cases h
 ·cases hln:lineR t 0 with
  | none=>rw [hln] at h; cases h
  | some q =>
   obtain ⟨s,b⟩:=q
   rw [hln] at h
   simp only at h
   split at h
   ·cases h
   ·cases hf:firstR an s with
    | none=>rw [hf] at h; cases h
    | some p =>
     obtain ⟨me',ta',st',re'⟩:=p
     rw [hf] at h
     simp only at h
     cases hh:hdR t 21 b [] with
     | error k=>rw [hh] at h; cases h
     | ok r =>
      rw [hh] at h
      injection h with h
      injection h with h1 h
      injection h with h2 h
      injection h with h3 h
      injection h with h4 h
      injection h with h5 h6
      subst h1 h2 h3 h4 h5 h6
      obtain ⟨k1,k2,k3⟩:=hdR_ok 21 b [] r.1 r.2 hh rfl fun p hp=>by cases hp
      have k4:=firstR_le hf
      refine ⟨k1,?_,k4.1,k4.2.1,k4.2.2⟩
      unfold fieldsB
      rw [decide_eq_true k2,Bool.true_and]
      exact List.all_eq_true.2 k3
theorem chR_len (t:List UInt8):∀ (n a:Nat) (bo:List UInt8),t.length-a<n→bo.length≤600→(chR t a bo).2.length≤600:=by
 intro n
 induction n with
 | zero=>intro a bo h; omega
 | succ n ih =>
  intro a bo h hb
  unfold chR
  split
  ·exact Nat.zero_le _
  ·split
   ·exact Nat.zero_le _
   ·split
    ·exact Nat.zero_le _
    ·split
     ·exact Nat.zero_le _
     ·split
      ·split
       ·exact hb
       ·exact Nat.zero_le _
      ·split
       ·rename_i hn _ hc
        refine ih _ _ (by omega) ?_
        rw [List.length_append,List.length_take]
        omega
       ·exact Nat.zero_le _
def bodyR (rest:List UInt8) (k n:Nat):Nat × List UInt8:=match k with
 | 0=>if rest=[] then (0,[]) else (400,[])
 | 1=>if 600<n then (413,[]) else if rest.length=n then (0,rest) else (400,[])
 | 2=>chR rest 0 []
 | 3=>if 600<rest.length then (413,[]) else (0,rest)
 | _=>(400,[])
theorem bodyR_len (rest:List UInt8) (k n:Nat):(bodyR rest k n).2.length≤600:=by
 unfold bodyR
 split
 ·split<;>exact Nat.zero_le _
 ·split
  ·exact Nat.zero_le _
  ·split
   ·simp only; omega
   ·exact Nat.zero_le _
 ·exact chR_len rest _ 0 [] (Nat.lt_succ_self _) (Nat.zero_le _)
 ·split
  ·exact Nat.zero_le _
  ·simp only; omega
 ·exact Nat.zero_le _
def keepL (l:List Fld):List Fld:=l.filter fun p => !frB p
theorem keepL_ok {l:List Fld} (h:fieldsB l=true):fieldsB (keepL l)=true:=by
 unfold fieldsB at h ⊢
 simp only [Bool.and_eq_true,decide_eq_true_eq] at h ⊢
 refine ⟨Nat.le_trans (List.length_filter_le _ _) h.1,List.all_eq_true.2 fun p hp=>List.all_eq_true.1 h.2 p ((List.mem_filter.1 hp).1)⟩
theorem wo_ok {l:List Fld} (n:List UInt8) (h:fieldsB l=true):fieldsB (withoutB n l)=true:=by
 unfold fieldsB at h ⊢
 simp only [Bool.and_eq_true,decide_eq_true_eq] at h ⊢
 exact ⟨Nat.le_trans (List.length_filter_le _ _) h.1,List.all_eq_true.2 fun p hp=>List.all_eq_true.1 h.2 p ((List.mem_filter.1 hp).1)⟩
theorem keep_wo (l:List Fld):withoutB trN (withoutB teN (withoutB clN l))=keepL l:=by
 unfold withoutB keepL
 rw [List.filter_filter,List.filter_filter]
 congr 1
 funext p
 have e1:hitB clN p=(foldB p.1==clN):=rfl
 have e2:hitB teN p=(foldB p.1==teN):=rfl
 have e3:hitB trN p=(foldB p.1==trN):=rfl
 rw [e1,e2,e3]
 unfold frB
 cases foldB p.1==clN<;>cases foldB p.1==teN<;>cases foldB p.1==trN<;>rfl
def frP (n:List UInt8):Bool := !frN.contains (foldB n)
theorem keepL_F (l:List Fld):keepF frP l=keepL l:=by
 unfold keepF keepL
 congr 1
 funext p
 unfold frP frB frN
 simp only [List.contains_cons,List.contains_nil,Bool.or_false]
 cases foldB p.1==clN<;>cases foldB p.1==teN<;>cases foldB p.1==trN<;>rfl
abbrev MR:=Except Nat (List UInt8 × List UInt8 × Nat × List UInt8 × Bool × List Fld × List UInt8)
def readR (t:List UInt8) (an hd:Bool):MR:=match headR t an with
 | .error k => .error k
 | .ok (me,ta,st,re,a,l) =>
  let ba:=an&&(hd || bareB (st:Nat))
  let b:=bodyR (t.drop a) (framR l an ba).1 (framR l an ba).2
  if b.1=0 then (if msgB me ta (st:Nat) re ba (keepL l) b.2=true then .ok (me,ta,st,re,ba,keepL l,b.2) else .error 431) else .error b.1
def readE:MR→D
 | .error k => .tup [mZ,.v (vI (k:Nat))]
 | .ok (me,ta,st,re,ba,l,bo) => .tup [mD me ta (st:Nat) re ba (sd 105 (rowsF l)) bo,.v (vI 0)]
section
variable (s:List UInt8) (hs:s.length≤1048576) (n:Nat)
include hs
theorem c168a (h:s=[]):Q3 168 (.v (vS s)) (.v (vI 0)) (.v (vI (n:Nat))) (chD (0,[])):=by
 have hL:s.length≤9223372036854775807:=by omega
 subst h
 refine sb 3 [.tm 6,.tm 7] func168 ?_
 exact fz
theorem c168b (h:¬ s=[]):Q3 168 (.v (vS s)) (.v (vI 0)) (.v (vI (n:Nat))) (chD (400,[])):=by
 have hL:s.length≤9223372036854775807:=by omega
 have h1:(s==[])=false:=beq_eq_false_iff_ne.2 h
 clear h
 refine sb 3 [.tm 6,.tm 7] func168 ?_
 exact fz
theorem c168c (h:600<n):Q3 168 (.v (vS s)) (.v (vI 1)) (.v (vI (n:Nat))) (chD (413,[])):=by
 have hL:s.length≤9223372036854775807:=by omega
 have h1:(600:Int)<n:=by omega
 clear h
 refine sb 3 [.tm 6,.tm 7] func168 ?_
 exact fz
theorem c168d (h:¬ 600<n) (h2:s.length=n):Q3 168 (.v (vS s)) (.v (vI 1)) (.v (vI (n:Nat))) (chD (0,s)):=by
 have hL:s.length≤9223372036854775807:=by omega
 have _h9:=hs
 have h1:¬ (600:Int)<n:=by omega
 subst h2
 clear h
 refine sb 3 [.tm 6,.tm 7] func168 ?_
 exact fz
theorem c168e (h:¬ 600<n) (h2:¬ s.length=n):Q3 168 (.v (vS s)) (.v (vI 1)) (.v (vI (n:Nat))) (chD (400,[])):=by
 have hL:s.length≤9223372036854775807:=by omega
 have h1:¬ (600:Int)<n:=by omega
 have h3:((s.length:Int) != n)=true:=by rw [bne_iff_ne]; omega
 clear h h2
 refine sb 3 [.tm 6,.tm 7] func168 ?_
 exact fz
theorem c168f  : Q3 168 (.v (vS s)) (.v (vI 2)) (.v (vI (n:Nat))) (chD (chR s 0 [])):=by
 have hL:s.length≤9223372036854775807:=by omega
 have x1:=c213 s hs
 generalize chR s 0 []=C at x1 ⊢
 obtain ⟨c,bo⟩:=C
 simp only [chD] at x1
 refine sb 3 [.tm 6,.tm 7] func168 ?_
 refine call0 x1 ?_
 exact fz
theorem c168g (h:600<s.length):Q3 168 (.v (vS s)) (.v (vI 3)) (.v (vI (n:Nat))) (chD (413,[])):=by
 have hL:s.length≤9223372036854775807:=by omega
 have h1:(600:Int)<s.length:=by omega
 clear h
 refine sb 3 [.tm 6,.tm 7] func168 ?_
 exact fz
theorem c168h (h:¬ 600<s.length):Q3 168 (.v (vS s)) (.v (vI 3)) (.v (vI (n:Nat))) (chD (0,s)):=by
 have hL:s.length≤9223372036854775807:=by omega
 have h1:¬ (600:Int)<s.length:=by omega
 clear h
 refine sb 3 [.tm 6,.tm 7] func168 ?_
 exact fz
theorem c168i  : Q3 168 (.v (vS s)) (.v (vI 4)) (.v (vI (n:Nat))) (chD (400,[])):=by
 have hL:s.length≤9223372036854775807:=by omega
 refine sb 3 [.tm 6,.tm 7] func168 ?_
 exact fz
end
theorem c168 (s:List UInt8) (hs:s.length≤1048576) (k n:Nat) (hk:k≤4):Q3 168 (.v (vS s)) (.v (vI (k:Nat))) (.v (vI (n:Nat))) (chD (bodyR s k n)):=by
 match k,hk with
 | 0,_ =>
  by_cases h:s=[]
  ·rw [show bodyR s 0 n=(0,[]) from if_pos h]; exact c168a s hs n h
  ·rw [show bodyR s 0 n=(400,[]) from if_neg h]; exact c168b s hs n h
 | 1,_ =>
  unfold bodyR
  by_cases h:600<n
  ·simp only [if_pos h]; exact c168c s hs n h
  ·simp only [if_neg h]
   by_cases h2:s.length=n
   ·simp only [if_pos h2]; exact c168d s hs n h h2
   ·simp only [if_neg h2]; exact c168e s hs n h h2
 | 2,_=>exact c168f s hs n
 | 3,_ =>
  by_cases h:600<s.length
  ·rw [show bodyR s 3 n=(413,[]) from if_pos h]; exact c168g s hs n h
  ·rw [show bodyR s 3 n=(0,s) from if_neg h]; exact c168h s hs n h
 | 4,_=>exact c168i s hs n
theorem c113 (n:List UInt8) (hn:n.length≤9223372036854775807):Q1 113 (.v (vS n)) (.v (vB (frP n))):=by
 have x1:=c85
 have x2:=c115 n hn
 have x3:=c114 frN (foldB n) (by decide)
 refine sb 1 [.tm 2] func113 ?_
 refine call0 x1 ?_
 refine call0 x2 ?_
 refine call0 x3 ?_
 exact fz
attribute [local go_sem] rowsF_length sdF_nil
theorem c112 (l:List Fld) (hl:Small l) (h:fieldsB l=true):Q2 112 (.imm 105 (rowsF l)) (.clo 113 []) (sd 105 (rowsF (keepL l))):=by
 have x1:=c84 l hl
 rw [h] at x1
 have hL:l.length≤9223372036854775807:=hl.1
 have h20:=fields_len h
 rw [←keepL_F]
 refine sb 2 [.tm 4] func112 ?_
 refine call0 x1 ?_
 refine loopZ (fun i:Nat=>pE 27 [.imm 105 (rowsF l),.clo 113 [],.dead,.dead,.nil,sd 105 (rowsF (keepF frP (l.take i))),.dead,.dead,.dead,.dead,.dead,.imm 105 (rowsF l),.v (vI l.length),.v (vI i)]) [0,1,4,5,11,12,13] (fun i=>i≤l.length) (fun i=>l.length-i) 0 rfl (Nat.zero_le _) ?_
 intro i hi
 have hle:=keepF_le frP l i
 rw [rowsF_length] at hle
 by_cases hc:i<l.length
 ·have w1:=wrapN hc hL
  have e1:=rowsF_getD hc
  have hsm:=hl.at hc
  have x2:=c113 (l.getD i ([],[])).1 hsm.1
  have khit:=keepF_hit (p:=frP) hc
  have kmiss:=keepF_miss (p:=frP) hc
  cases hb:frP (l.getD i ([],[])).1 with
  | false =>
   rw [hb] at x2
   have kmiss:=kmiss hb
   by_cases h0:keepF frP (l.take i)=[]
   ·rw [h0] at kmiss ⊢
    clear khit hb h0
    refine Z ?_
    refine call0 x2 ?_
    exact ⟨i+1,by rw [kmiss]; rfl,hc,by omega⟩
   ·have hsd:=sd_own (e:=105) (rowsF_ne h0)
    clear khit hb h0
    refine X2 hsd e1 ?_
    refine Z ?_
    refine call0 x2 ?_
    exact ⟨i+1,by rw [kmiss,hsd]; rfl,hc,by omega⟩
  | true =>
   rw [hb] at x2
   have khit:=khit hb
   have esd:∀ k:List Fld,sd 105 (rowsF (k++[l.getD i ([],[])])) = .own 105 (rowsF k++[[.v (vS (l.getD i ([],[])).1),.v (vS (l.getD i ([],[])).2)]]):=fun k=>by
    rw [show rowsF (k++[l.getD i ([],[])])=rowsF k++[[.v (vS (l.getD i ([],[])).1),.v (vS (l.getD i ([],[])).2)]] by simp [rowsF,rowF]]
    exact sd_own (by simp)
   by_cases h0:keepF frP (l.take i)=[]
   ·rw [h0] at khit ⊢
    clear kmiss hb h0
    refine Z ?_
    refine call0 x2 ?_
    exact ⟨i+1,by rw [khit,esd]; rfl,hc,by omega⟩
   ·have hsd:=sd_own (e:=105) (rowsF_ne h0)
    have hb4:((keepF frP (l.take i)).length+1)*32≤140737488355328:=by omega
    clear kmiss hb h0
    refine X2 hsd e1 ?_
    refine Z ?_
    refine call0 x2 ?_
    exact ⟨i+1,by rw [khit,esd]; rfl,hc,by omega⟩
 ·have he:l.take i=l:=List.take_of_length_le (by omega)
  rw [he]
  by_cases h0:keepF frP l=[]
  ·rw [h0]
   clear he
   refine Z ?_
   exact fz
  ·have hsd:=sd_own (e:=105) (rowsF_ne h0)
   rw [hsd]
   clear he h0
   refine Z ?_
   exact fz
end Go.Proofs.YtbdfdfhamlmodaaGreatDoor.Fw
namespace Go.Proofs.YtbdfdfhamlmodaaGreatDoor.Fw
open Go
theorem pOps_app {P:Program} {cfg:Cfg} (hop:OpOk P cfg) {w0:World} {L:Nat→Nat→Prop} {ops:Array Oper} {Q:Go.Exit→Act→World→Prop} {K:Env→Prop} {rest:List Oper} :
  ∀ (l:List Oper) (C:Ctx),Rel w0 L C→C.P=P→pOps P cfg ops.toList l C.E K→(∀ C',Rel w0 L C'→C'.P=P→(∀ t,t<cfg.np→C'.loc t=C.loc t)→KeepA cfg C C'→K C'.E→wpList P ops Q rest C'.a C'.w)→wpList P ops Q (l++rest) C.a C.w
 | [],C,R,hP,h,hQ=>hQ C R hP (fun _ _=>rfl) (KeepA.refl cfg C) h
 | o::os,C,R,hP,h,hQ=>by
  subst hP
  simp only [pOps] at h
  rw [List.cons_append]
  unfold wpList
  unfold opG at h
  cases hkp:kept cfg o.dst with
  | true=>rw [hkp] at h; exact h.elim
  | false =>
  rw [hkp] at h
  simp only [Bool.false_eq_true,if_false] at h
  have hkd:∀ t,cfg.keep t=true→o.dst≠some t:=by
   intro t ht hd
   unfold kept at hkp
   rw [hd] at hkp
   simp only at hkp
   rw [ht] at hkp; cases hkp
  have hn:Nxt w0 L cfg.np C (fun E'=>pOps C.P cfg ops.toList os E' K) (fun a' w'=>(∃ v,a'.tmps=(C.a.put o.dst v).tmps)→wpList C.P ops Q (os++rest) a' w'):=by
   intro C' R' hPM hl' hK' hv
   obtain ⟨v,hv⟩:=hv
   injection hPM with hP' hM'
   have hk1:KeepA cfg C C':=⟨fun t ht=>by rw [hv]; exact put_keep (hkd t ht),hM'⟩
   exact pOps_app hop os C' R' hP' hK' fun C2 R2 hP2 hl2 hk2 hK2=>hQ C2 R2 hP2 (fun t ht=>(hl2 t ht).trans (hl' t ht)) (hk1.trans hk2) hK2
  split at h
  ·rename_i hg
   rw [if_pos (wanted_none hg)]
   exact .inl (wp_dst (hop w0 L C R rfl _ _ hn Q o h))
  ·rename_i j want hg
   split at h
   ·rename_i t ht
    simp only [Rdr.wp] at h
    split at h
    ·rename_i b hb
     have hy:yielded ops C.a.tmps j=some b:=by
      have hsl:C.E.sl[t]? = some (.v (.bool b)):=by
       rw [gDg] at hb
       cases hx:C.E.sl[t]? with
       | none=>rw [hx] at hb; simp at hb
       | some y=>rw [hx] at hb; simp at hb; rw [hb]
      have hs:=R.slot t _ hsl
      have hlt:t<C.a.tmps.size:=by rw [R.tmps]; exact (gSm hsl).1
      have hv:C.a.tmps.getD t undef = .bool b:=by
       generalize C.a.tmps.getD t undef=v at hs
       cases hs with
       | comp _ _ _ hc=>cases hc with | leaf _ _ a b c=>cases c with | v _ _=>rfl
      have ht':(ops[j]?).bind (·.dst)=some t:=by rw [←ht,Array.getElem?_toList]
      unfold yielded
      rw [ht']
      simp only [Option.bind_some]
      rw [Array.getElem?_eq_getElem hlt]
      have:C.a.tmps[t] = .bool b:=by rw [←hv]; simp [Array.getD,hlt]
      rw [this]
     split at h
     ·rename_i hw
      rw [if_pos (by simp [Region.wanted,hg,hy,hw])]
      exact .inl (wp_dst (hop w0 L C R rfl _ _ hn Q o h))
     ·rename_i hw
      rw [if_neg (by simp [Region.wanted,hg,hy,hw])]
      exact wrS_done R hn (.refl _) h (VRel.undef _) ⟨_,rfl⟩
    ·rename_i hb
     have hsl:C.E.sl[t]? = some (.tup []):=by
      rw [gDg] at hb
      cases hx:C.E.sl[t]? with
      | none=>rw [hx] at hb; simp at hb
      | some y=>rw [hx] at hb; simp at hb; rw [hb]
     have hs:=R.slot t _ hsl
     have hlt:t<C.a.tmps.size:=by rw [R.tmps]; exact (gSm hsl).1
     have hv:∀ b,C.a.tmps.getD t Go.undef ≠ .bool b:=by
      intro b hb
      rw [hb] at hs
      cases hs with
      | comp _ _ ht _=>simp [D.isTup] at ht
     have ht':(ops[j]?).bind (·.dst)=some t:=by rw [←ht,Array.getElem?_toList]
     have hy:yielded ops C.a.tmps j=none:=by
      unfold yielded
      rw [ht']
      simp only [Option.bind_some]
      rw [Array.getElem?_eq_getElem hlt]
      have e:C.a.tmps[t]=C.a.tmps.getD t Go.undef:=by simp [Array.getD,hlt]
      rw [e]
      split
      ·rename_i b he
       injection he with he
       exact absurd he (hv b)
      ·rfl
     rw [if_neg (by simp [Region.wanted,hg,hy])]
     exact wrS_done R hn (.refl _) h (VRel.undef _) ⟨_,rfl⟩
    ·exact h.elim
   ·exact h.elim
theorem pLast_go {P:Program} {cfg:Cfg} (hop:OpOk P cfg) {w0:World} {L:Nat→Nat→Prop} {ops:Array Oper} {Q:Go.Exit→Act→World→Prop} {K:Env→Prop} {n:Nat} {fs:List (List Nat)} (hok:drawOk ops.toList n fs=true) (hn1:n+1=ops.size) :
  ∀ (fuel:Nat) (l:List Nat) (k:Nat) (listed:Array Bool) (C:Ctx),Rel w0 L C→C.P=P →
   l.Pairwise (· < ·)→(∀ i,i∈l→i<n)→n≤k→k≤ops.size→(l≠[]→k=n)→fuel=l.length+(ops.size-k) →
   (∀ i,i<ops.size→(listed.getD i true=false↔(i∈l∨k≤i))∧(listed.getD i false=true↔¬ (i∈l∨k≤i))) →
   listed.size=ops.size →
   (∀ j o,ops[j]? = some o→listed.getD j false=true→∀ h,h∈befs o→listed.getD h false=true) →
   SeqH P cfg ops.toList fs l C.E K→k=n →
   (∀ C',Rel w0 L C'→C'.P=P→(∀ t,t<cfg.np→C'.loc t=C.loc t)→KeepA cfg C C'→K C'.E→wpOp P ops Q n (Q .normal) C'.a C'.w)→wpAny P .any ops Q fuel listed C.a C.w:=by
 simp only [drawOk,Bool.and_eq_true,decide_eq_true_eq,List.all_eq_true,List.mem_range] at hok
 obtain ⟨⟨⟨⟨⟨⟨k1,k2⟩,k0⟩,k3⟩,k4⟩,k5⟩,k6⟩:=hok
 have hlent:∀ (a i:Nat) (fa fi:List Nat),fs[a]? = some fa→fs[i]? = some fi→lentOk fa fi=true:=by
  intro a i fa fi ha hi
  refine List.all_eq_true.2 fun x hx => ?_
  have:=k0 fa (List.mem_of_getElem? ha) x hx
  simp [this]
 have hsz:ops.toList.length=ops.size:=by simp
 have bef_lt:∀ i o j,ops[i]? = some o→j∈befs o→j<i:=by
  intro i o j ho hj
  have hi:i<ops.toList.length:=by rw [hsz]; exact (Array.getElem?_eq_some_iff.1 ho).1
  have:=k3 i hi
  rw [show ops.toList[i]? = some o by rw [Array.getElem?_toList]; exact ho] at this
  have this:((befs o).all fun j=>decide (j<i))=true:=this
  rw [List.all_eq_true] at this
  simpa using this j hj
 have indep:∀ i j oi fi t,i<n→j<n→j≠i→ops[i]? = some oi→fs[i]? = some fi→j ∉ befs oi→dstAt ops.toList j=some t→fi.contains t=true:=by
  intro i j oi fi t hi hj hne ho hf hb hd
  have:=k4 i hi
  rw [show ops.toList[i]? = some oi by rw [Array.getElem?_toList]; exact ho,hf] at this
  have this:((List.range n).all fun j=>decide (j=i) || (befs oi).contains j || match dstAt ops.toList j with | some t=>fi.contains t | none=>false)=true:=this
  rw [List.all_eq_true] at this
  have:=this j (List.mem_range.2 hj)
  simpa [hne,hb,hd] using this
 intro fuel
 induction fuel with
 | zero =>
  intro l k listed C R hP hsort hln hnk hks hkn hfu hli hlsz hdn hS hkn2 hQ
  exfalso
  omega
 | succ fuel ih =>
  intro l k listed C R hP hsort hln hnk hks hkn hfu hli hlsz hdn hS hkn2 hQ
  have step:∀ (i:Nat) (o:Oper) (K':Env→Prop),ops[i]? = some o→i<ops.size→(opG cfg ops.toList o).wp C.E (Done P K' C.E) →
    (∀ C',Rel w0 L C'→C'.P=P→(∀ t,t<cfg.np→C'.loc t=C.loc t)→KeepA cfg C C'→K' C'.E→wpAny P .any ops Q fuel (listed.setIfInBounds i true) C'.a C'.w)→wpOp P ops Q i (wpAny P .any ops Q fuel (listed.setIfInBounds i true)) C.a C.w:=by
   intro i o K' ho hi h hnx
   unfold wpOp
   rw [ho]
   exact opG_sound hop R hP h hnx
  have setT:∀ i j,i<ops.size→(listed.setIfInBounds i true).getD j true=if j=i then true else listed.getD j true:=by
   intro i j hi
   rw [Array.getD_eq_getD_getElem?,Array.getD_eq_getD_getElem?]
   by_cases h:j=i
   ·subst h; rw [Array.getElem?_setIfInBounds_self_of_lt (by rw [hlsz]; exact hi)]; simp
   ·rw [Array.getElem?_setIfInBounds_ne (fun e=>h e.symm),if_neg h]
  have setF:∀ i j,i<ops.size→(listed.setIfInBounds i true).getD j false=if j=i then true else listed.getD j false:=by
   intro i j hi
   rw [Array.getD_eq_getD_getElem?,Array.getD_eq_getD_getElem?]
   by_cases h:j=i
   ·subst h; rw [Array.getElem?_setIfInBounds_self_of_lt (by rw [hlsz]; exact hi)]; simp
   ·rw [Array.getElem?_setIfInBounds_ne (fun e=>h e.symm),if_neg h]
  have down:∀ i o,ops[i]? = some o→i<ops.size→(∀ j,j∈befs o→listed.getD j false=true)→∀ j o',ops[j]? = some o'→(listed.setIfInBounds i true).getD j false=true→∀ h,h∈befs o'→(listed.setIfInBounds i true).getD h false=true:=by
   intro i o ho hi hb j o' ho' hj h hh
   rw [setF i j hi] at hj
   rw [setF i h hi]
   by_cases hji:j=i
   ·subst hji
    rw [ho] at ho'; injection ho' with ho'; subst ho'
    split
    ·rfl
    ·exact hb h hh
   ·rw [if_neg hji] at hj
    split
    ·rfl
    ·exact hdn j o' ho' hj h hh
  refine ⟨fun hre => ?_,fun i hi => ?_⟩
  ·-- something is ready
   exfalso
   have:∃ i,i<ops.size∧(i∈l∨k≤i)∧∀ j,j<i→¬ (j∈l∨k≤j):=by
    have hex:∃ i,i<ops.size∧(i∈l∨k≤i):=by
     cases l with
     | nil=>exact ⟨k,by simp at hfu; omega,.inr (Nat.le_refl _)⟩
     | cons x xs=>exact ⟨x,by have:=hln x List.mem_cons_self; omega,.inl List.mem_cons_self⟩
    obtain ⟨i,hi⟩:=hex
    induction i using Nat.strongRecOn with
    | _ i ihi =>
     by_cases h:∃ j,j<i∧(j∈l∨k≤j)
     ·obtain ⟨j,h1,h2⟩:=h
      exact ihi j h1 ⟨by omega,h2⟩
     ·exact ⟨i,hi.1,hi.2,fun j hj hh=>h ⟨j,hj,hh⟩⟩
   obtain ⟨i,hi,hmem,hmin⟩:=this
   have:i∈Region.ready .any ops listed:=by
    refine ready_spec.2 ⟨ops[i],Array.getElem?_eq_getElem hi,(hli i hi).1.2 hmem,fun j hj => ?_⟩
    have hlt:=bef_lt i _ j (Array.getElem?_eq_getElem hi) hj
    exact (hli j (by omega)).2.2 (hmin j hlt)
   rw [hre] at this
   simp at this
  ·obtain ⟨o,ho,hu,hb⟩:=ready_spec.1 hi
   have his:i<ops.size:=(Array.getElem?_eq_some_iff.1 ho).1
   rcases (hli i his).1.1 hu with hil | hik
   ·-- one of the head
    have hin:=hln i hil
    have hkn':k=n:=hkn (by intro h; rw [h] at hil; simp at hil)
    subst hkn'
    obtain ⟨l1,l2,rfl⟩:=List.append_of_mem hil
    have hpw:=List.pairwise_append.1 hsort
    have hlt1:∀ a,a∈l1→a<i:=fun a ha=>hpw.2.2 a ha i List.mem_cons_self
    have hlt2:∀ a,a∈l2→i<a:=fun a ha=>(List.pairwise_cons.1 hpw.2.1).1 a ha
    obtain ⟨o',fb,t,d,c,e1,e2,e3,e4⟩:=seqH_front l1 C.E (by
     intro a ha oa oi fa fi ta ti g1 g2 g3 g4 g5 g6
     have hai:=hlt1 a ha
     have han:a<k:=by omega
     have g1':ops[a]? = some oa:=by rw [←Array.getElem?_toList]; exact g1
     have g2':ops[i]? = some oi:=by rw [←Array.getElem?_toList]; exact g2
     rw [ho] at g2'; injection g2' with g2'; subst g2'
     have hna:a ∉ befs o:=by
      intro h
      have:=hb a h
      exact (hli a (by omega)).2.1 this (.inl (by simp [ha]))
     have hni:i ∉ befs oa:=by
      intro h
      have:=bef_lt a oa i g1' h
      omega
     exact ⟨indep i a o fi ta hin han (by omega) ho g4 hna (by simp [dstAt,g1,g5]),indep a i oa fa ti han hin (by omega) g1' g3 hni (by simp [dstAt,g2,g6]),hlent a i fa fi g3 g4,hlent i a fi fa g4 g3⟩) hS
    have e1':ops[i]? = some o':=by rw [←Array.getElem?_toList]; exact e1
    rw [ho] at e1'; injection e1' with e1'; subst e1'
    have hnd:(l1++i::l2).Nodup:=hsort.imp (fun h=>Nat.ne_of_lt h)
    refine step i o (fun E=>SeqH P cfg ops.toList fs (l1++l2) E K) ho his (e3.2.2.2 C.E ⟨rfl,fun _ _=>⟨rfl,fun _=>rfl⟩⟩ R.tight _ e4) ?_
    intro C' R' hP' hl' hk' hK'
    refine ih (l1++l2) k _ C' R' hP' ?_ ?_ hnk hks (fun _=>rfl) ?_ ?_ (by simpa using hlsz) (down i o ho his hb) hK' rfl ?_
    ·exact hsort.sublist (by simp)
    ·intro j hj; exact hln j (by simp at hj ⊢; rcases hj with h | h<;>simp [h])
    ·simp at hfu ⊢; omega
    ·intro j hj
     rw [setT i j his,setF i j his]
     have hli':=hli j hj
     have hmem:∀ x,x≠i→(x∈l1++i::l2↔x∈l1++l2):=by intro x hx; simp [hx]
     by_cases hji:j=i
     ·subst hji
      have hnin:j ∉ l1++l2:=by
       intro h
       rcases List.mem_append.1 h with h | h
       ·have:=hlt1 j h; omega
       ·have:=hlt2 j h; omega
      rw [if_pos rfl,if_pos rfl]
      refine ⟨⟨fun h=>(by cases h),fun h => ?_⟩,⟨fun _ h => ?_,fun _=>rfl⟩⟩
      ·rcases h with h | h
       ·exact absurd h hnin
       ·omega
      ·rcases h with h | h
       ·exact hnin h
       ·omega
     ·rw [if_neg hji,if_neg hji]
      rw [hli'.1,hli'.2,hmem j hji]
      exact ⟨Iff.rfl,Iff.rfl⟩
    ·intro C2 R2 hP2 hl2 hk2 hK2
     exact hQ C2 R2 hP2 (fun t ht=>(hl2 t ht).trans (hl' t ht)) (hk'.trans hk2) hK2
   ·-- one of the tail: the first, and the head is done
    have hun:∀ j,j∈befs o→¬ (j∈l∨k≤j):=fun j hj h=>by
     have hlt:=bef_lt i o j ho hj
     exact (hli j (by omega)).2.1 (hb j hj) h
    have hik':i=k:=by
     by_cases h:i=k
     ·exact h
     ·exfalso
      have:=k6 i (by rw [hsz]; exact his)
      rw [show ops.toList[i]? = some o by rw [Array.getElem?_toList]; exact ho] at this
      have h2:i-1∈befs o:=by
       rcases Bool.or_eq_true _ _▸this with h | h
       ·have:=of_decide_eq_true h; omega
       ·simpa using h
      exact hun _ h2 (.inr (by omega))
    subst hik'
    have hl0:l=[]:=by
     cases hl:l with
     | nil=>rfl
     | cons x xs =>
      exfalso
      have hkn':=hkn (by rw [hl]; simp)
      subst hkn'
      rcases (by simpa using k5:i=ops.size∨_) with h | h
      ·omega
      ·-- from each of the head a road leads on
       have road:∀ m h,i-h=m→h∈l→False:=by
        intro m
        induction m using Nat.strongRecOn with
        | _ m ihm =>
         intro h0 hm hh
         have hlt:=hln h0 hh
         have:=h h0 hlt
         obtain ⟨j,hj,hj2⟩:=this
         cases hoj:ops[j]? with
         | none=>rw [hoj] at hj2; simp at hj2
         | some oj =>
          rw [hoj] at hj2
          have hj2:h0∈befs oj:=by simpa using hj2
          have hlt2:=bef_lt j oj h0 hoj hj2
          by_cases hji:j=i
          ·subst hji
           rw [ho] at hoj; injection hoj with hoj; subst hoj
           exact hun h0 hj2 (.inl hh)
          ·have hjs:j<ops.size:=(Array.getElem?_eq_some_iff.1 hoj).1
           have hjl:j∈l:=by
            by_cases hlj:listed.getD j false=true
            ·have:=hdn j oj hoj hlj h0 hj2
             exact absurd (.inl hh) ((hli h0 (by omega)).2.1 this)
            ·have:j∈l∨i≤j:=by
              by_cases hc:j∈l∨i≤j
              ·exact hc
              ·exact absurd ((hli j hjs).2.2 hc) hlj
             rcases this with h | h
             ·exact h
             ·omega
           exact ihm (i-j) (by omega) j rfl hjl
       exact road _ x rfl (by rw [hl]; simp)
    subst hl0
    subst hkn2
    refine wpOp_mono ?_ (hQ C R hP (fun _ _=>rfl) (KeepA.refl cfg C) hS)
    intro a' w' hq
    have hf0:fuel=0:=by simp at hfu; omega
    subst hf0
    refine ⟨?_,hq⟩
    rw [List.eq_nil_iff_forall_not_mem]
    intro j hj
    obtain ⟨oj,h1,h2,_⟩:=ready_spec.1 hj
    have hjs:j<ops.size:=(Array.getElem?_eq_some_iff.1 h1).1
    rw [setT i j his] at h2
    by_cases hji:j=i
    ·rw [if_pos hji] at h2; cases h2
    ·rw [if_neg hji] at h2
     rcases (hli j hjs).1.1 h2 with h | h
     ·simp at h
     ·omega
theorem region_last {P:Program} {cfg:Cfg} (hop:OpOk P cfg) {w0:World} {L:Nat→Nat→Prop} {id:Nat} {ops:Array Oper} {Q:Go.Exit→Act→World→Prop} {K:Env→Prop} {C:Ctx} {l:List Oper} {o:Oper} (ho:ops.toList=l++[o]) (hg:o.guard=none) (R:Rel w0 L C) (hP:C.P=P)
  (h:pOps P cfg ops.toList l C.E K) (hQ:∀ C',Rel w0 L C'→C'.P=P→(∀ t,t<cfg.np→C'.loc t=C.loc t)→KeepA cfg C C'→K C'.E→o.wp P C'.a C'.w (Q .normal) Q):(Code.region id ops false).wp P Q C.a C.w:=by
 refine wp_region_list ?_
 rw [ho]
 refine pOps_app hop l C R hP h fun C' R' hP' hl' hk' hK => ?_
 unfold wpList
 rw [if_pos (wanted_none hg)]
 exact .inl (Oper.wp_mono (fun _ _ h=>h) (hQ C' R' hP' hl' hk' hK))
theorem draw_last {P:Program} {cfg:Cfg} (hop:OpOk P cfg) {w0:World} {L:Nat→Nat→Prop} {id:Nat} {ops:Array Oper} {Q:Go.Exit→Act→World→Prop} {K:Env→Prop} {C:Ctx} (hm:P.follows .mixedOrders=true) (n:Nat) (fs:List (List Nat)) (hok:drawOk ops.toList n fs=true) (hn1:n+1=ops.size) {o:Oper} (ho:ops[n]? = some o) (hg:o.guard=none) (R:Rel w0 L C) (hP:C.P=P)
  (h:pHead P cfg ops.toList ((ops.toList.take n).zip fs) C.E K) (hQ:∀ C',Rel w0 L C'→C'.P=P→(∀ t,t<cfg.np→C'.loc t=C.loc t)→KeepA cfg C C'→K C'.E→o.wp P C'.a C'.w (Q .normal) Q):(Code.region id ops true).wp P Q C.a C.w:=by
 have hok':=hok
 simp only [drawOk,Bool.and_eq_true,decide_eq_true_eq,List.all_eq_true,List.mem_range] at hok'
 obtain ⟨⟨⟨⟨⟨⟨k1,k2⟩,k0⟩,k3⟩,k4⟩,k5⟩,k6⟩:=hok'
 have hsz:ops.toList.length=ops.size:=by simp
 have R1:=R.drew (w':={ C.w with drawn:=C.w.drawn+1 }) ⟨rfl,rfl,rfl,Nat.le_refl _,fun _ _=>rfl⟩
 have hzl:((ops.toList.take n).zip fs).length=n:=by simp; omega
 have hseq:=seqH_of (fs:=fs) ((ops.toList.take n).zip fs) 0 C.E (by
  intro i x hx
  rw [Nat.zero_add]
  obtain ⟨h1,h2⟩:=List.getElem?_zip_eq_some.1 hx
  refine ⟨?_,h2⟩
  have hi:i<n:=by
   have:=(gSm hx).1
   omega
  rw [List.getElem?_take_of_lt hi] at h1
  exact h1) h
 rw [hzl] at hseq
 refine wp_region_any hm ?_
 refine pLast_go hop hok hn1 ops.size (List.range' 0 n) n _ { C with w:={ C.w with drawn:=C.w.drawn+1 } } R1 hP ?_ ?_ (Nat.le_refl _) (by omega) (fun _=>rfl) (by simp; omega) ?_ (by simp) ?_ hseq rfl ?_
 ·exact List.pairwise_lt_range'
 ·intro i hi; rw [List.mem_range'_1] at hi; omega
 ·intro i hi
  have e1:(Array.replicate ops.size false).getD i true=false:=by simp [Array.getD,hi]
  have e2:(Array.replicate ops.size false).getD i false=false:=by simp [Array.getD,hi]
  rw [e1,e2,List.mem_range'_1]
  refine ⟨⟨fun _=>by omega,fun _=>rfl⟩,⟨fun h=>(by cases h),fun h=>absurd (by omega) h⟩⟩
 ·intro j o ho hj
  have hjs:j<ops.size:=(Array.getElem?_eq_some_iff.1 ho).1
  have e2:(Array.replicate ops.size false).getD j false=false:=by simp [Array.getD,hjs]
  rw [e2] at hj; cases hj
 ·intro C' R' hP' hl' hk' hK'
  unfold wpOp
  rw [ho]
  simp only
  rw [if_pos (wanted_none hg)]
  exact .inl (hQ C' R' hP' hl' hk' hK')
def noLw:Nat→Nat→Prop:=fun _ _=>False
structure PV (P:Program) (wb:World) (b:Nat) (d:D) (v:Value):Prop where
 leafy:d.leafy=true
 one:one v=true
 rel:∀ C:Ctx,C.P=P→(∀ k,k<b→C.w.heap[k]? = wb.heap[k]?)→(∀ x,x<b→C.Rd x)→∀ p,LRel C p d v
theorem PV.v {P:Program} {wb:World} {b:Nat} {x:Value} (h:scal x=true) (h1:Go.Proofs.YtbdfdfhamlmodaaGreatDoor.Fw.one x=true):PV P wb b (.v x) x:=⟨rfl,h1,fun _ _ _ _ _ => .v _ _ h⟩
theorem PV.imm {P:Program} {wb:World} {b:Nat} {e:TypeId} {xs:List (List T)} {v:Value} (h:RdT P wb (· < b) (.sl e xs) v):PV P wb b (.imm e xs) v:=by
 refine ⟨rfl,by cases h<;>rfl,fun C hP hw hS p => .imm _ _ _ _ ?_⟩
 subst hP
 exact h.mono fun k hk _=>⟨hS k hk,hw k hk⟩
theorem PV.rptr {P:Program} {wb:World} {b bm om:Nat} {ds:List D} {cs:Array Value} {ce:TypeId} {fr:Nat × Nat} (X:Nat→Value) (h1:wb.heap[bm]? = some (.cells cs ce fr)) (h2:bm<b)
  (h3:∀ (i:Nat) (d:D),ds[i]? = some d→cs[om+i]? = some (X i)∧d.pure=true∧PV P wb b d (X i)):PV P wb b (.rptr ds) (.pointer (some ⟨bm,om,none⟩)) :=
 ⟨rfl,rfl,fun C hP hw hS p => .rptr _ _ _ _ cs ce fr X ((hw bm h2).trans h1) (hS bm h2) (fun i d hd=>⟨(h3 i d hd).1,(h3 i d hd).2.2.one⟩) (fun i d hd=>(h3 i d hd).2.1) fun i d hd=>(h3 i d hd).2.2.rel C hP hw hS p⟩
def Known (P:Program) (wb:World) (b:Nat) (a:Act) (sl:List D):Prop:=∀ (t:Nat) (d:D),sl[t]? = some d→d = .dead∨PV P wb b d (a.tmps.getD t undef)
structure BSt (T e:TypeId) (wb:World) (b:Nat) (a:Act) (w:World) (n:Nat) (l:List UInt8):Prop where
 sz:a.tmps.size=n
 df:a.defers=[]
 os:w.os=wb.os
 tape:w.tape=wb.tape
 output:w.output=wb.output
 low:∀ k,k<b→w.heap[k]? = wb.heap[k]?
 hb:b<w.heap.size
 bld:Lib.IsBuilder T e b b (Lib.byteCells l) w
theorem mk_rel {P:Program} {wb:World} {b:Nat} {a:Act} {w:World} {sl:List D} (hsz:a.tmps.size=sl.length) (hdf:a.defers=[]) (hlow:∀ k,k<b→w.heap[k]? = wb.heap[k]?) (hg:Glob P w noLw) (hk:Known P wb b a sl) :
  Rel w noLw ⟨P,⟨sl,List.replicate sl.length none⟩,a,w,fun _ _=>False,fun _=>(0,0),fun _=>True⟩:=by
 have hlive:∀ t ds,¬ Ctx.live ⟨P,⟨sl,List.replicate sl.length none⟩,a,w,fun _ _=>False,fun _=>(0,0),fun _=>True⟩ t ds:=by
  intro t ds h
  have h:(List.replicate sl.length (none:Option (List D)))[t]? = some (some ds):=h
  rw [List.getElem?_replicate] at h
  split at h<;>simp at h
 have hrd:∀ x,Ctx.Rd ⟨P,⟨sl,List.replicate sl.length none⟩,a,w,fun _ _=>False,fun _=>(0,0),fun _=>True⟩ x:=by
  intro x
  refine ⟨?_,trivial⟩
  rintro (⟨p,h⟩ | ⟨t,ds,h,_⟩)
  ·exact h
  ·exact hlive t ds h
 refine ⟨hsz,hdf,?_,fun t ds h=>absurd h (hlive t ds),fun _ _ _ h=>h.elim,fun t ds _ _ h=>absurd h (hlive t ds),fun t ds _ h=>absurd h (hlive t ds),fun _ _ h=>h.elim,fun _ _ h=>h.elim,fun t ds h=>absurd h (hlive t ds),?_,fun _ _=>trivial,fun _ _ h=>h.elim,hg⟩
 ·intro t d hd
  rcases hk t d hd with rfl | h
  ·exact .comp _ _ rfl (.dead _ _)
  ·have hl:=h.leafy
   refine .comp _ _ (by cases d<;>first | rfl | simp [D.leafy] at hl) (.leaf _ _ _ h.leafy h.one (h.rel _ rfl hlow (fun x _=>hrd x) _))
 ·exact ⟨rfl,rfl,rfl,Nat.le_refl _,fun _ _ _=>rfl,fun bb cs e fr h=>⟨cs,h,rfl,fun _ _=>rfl⟩⟩
theorem isBuilder_same {T e:TypeId} {b:Nat} {bs:List Value} {w w':World} (h:Lib.IsBuilder T e b b bs w) (hw:∀ k,k<w.heap.size→w'.heap[k]? = w.heap[k]?):Lib.IsBuilder T e b b bs w':=by
 have go:∀ p,Lib.BuilderAt T e b b p bs w→Lib.BuilderAt T e b b p bs w':=by
  rintro p ⟨h1,v,h2,h3,h4⟩
  refine ⟨h1,v,(hw b (Array.getElem?_eq_some_iff.1 h2).1).trans h2,⟨h3.1,?_⟩,h4⟩
  rcases h3.2 with h | ⟨g,cap,cur,a1,a2,a3,a4⟩
  ·exact .inl h
  ·exact .inr ⟨g,cap,cur,a1,a2,(hw g (Array.getElem?_eq_some_iff.1 a3).1).trans a3,a4⟩
 exact h.elim (fun x => .inl (go _ x)) (fun x => .inr (go _ x))
theorem BSt.after {T e:TypeId} {wb:World} {b:Nat} {a:Act} {w:World} {n:Nat} {l:List UInt8} (S:BSt T e wb b a w n l) {C:Ctx} (R:Rel w noLw C) (hn:C.E.sl.length=n):BSt T e wb b C.a C.w n l:=by
 have hk:∀ k,k<w.heap.size→C.w.heap[k]? = w.heap[k]? := fun k hk=>R.frame.kept k hk fun _ h=>h
 refine ⟨R.tmps.trans hn,R.defers,R.frame.os.trans S.os,R.frame.tape.trans S.tape,R.frame.output.trans S.output,fun k h=>(hk k (Nat.lt_trans h S.hb)).trans (S.low k h),Nat.lt_of_lt_of_le S.hb R.frame.size,isBuilder_same S.bld hk⟩
theorem BSt.rel {P:Program} {T e:TypeId} {wb:World} {b:Nat} {a:Act} {w:World} {n:Nat} {l:List UInt8} (S:BSt T e wb b a w n l) {sl:List D} (hsl:sl.length=n) (hg:Glob P w noLw) (hk:Known P wb b a sl) :
  Rel w noLw ⟨P,⟨sl,List.replicate n none⟩,a,w,fun _ _=>False,fun _=>(0,0),fun _=>True⟩:=by
 subst hsl
 exact mk_rel S.sz S.df S.low hg hk
theorem slot_v {w0:World} {L:Nat→Nat→Prop} {C:Ctx} (R:Rel w0 L C) {t:Nat} {x:Value} (h:C.E.sl.getD t .dead = .v x):C.a.tmps.getD t undef=x:=by
 have hs:C.E.sl[t]? = some (.v x):=by
  rw [gDg] at h
  cases hx:C.E.sl[t]? with
  | none=>rw [hx] at h; simp at h
  | some y=>rw [hx] at h; simp at h; rw [h]
 have:=R.slot t _ hs
 generalize C.a.tmps.getD t undef=v at this
 cases this with
 | comp _ _ _ hc=>cases hc with | leaf _ _ a b c=>cases c with | v _ _=>rfl
theorem glob_low {P:Program} {w0 w:World} {L:Nat→Nat→Prop} (h:Glob P w0 L) (hw:∀ k,k<w0.heap.size→w.heap[k]? = w0.heap[k]?) (hs:w0.heap.size≤w.heap.size):Glob P w noLw:=by
 obtain ⟨B,h1,h2,h3⟩:=h
 exact ⟨B,Nat.le_trans h1 hs,fun _ _ h=>h.elim,fun w' hw'=>h3 w' fun k hk=>(hw' k hk).trans (hw k (Nat.lt_of_lt_of_le hk h1))⟩
theorem args_call {a:Act} {w:World} {P:Program} {o:Oper} {c:Call} {f:FuncId} {x y:Operand} {next:Act→World→Prop} {Q:Go.Exit→Act→World→Prop} (ho:o.op = .call c) (hc:c.callee = .value (.func f)) (ha:c.args = #[x,y]) {R:Ending→World→Prop}
  (hent:∀ args w,(callFunc f args).run P w = .ok (.enter f args) w) (h:Calls P f #[a.eval x,a.eval y] w R) (hR:∀ e w',R e w'→∃ v,e = .returned v∧next (a.put o.dst v) w'):o.wp P a w next Q:=by
 unfold Oper.wp
 rw [call_run ho hc (show a.eval (.func f) = .func (.func f) #[] #[] from rfl),ha]
 have e:(#[x,y]:Array Operand).map a.eval ++ #[] = #[a.eval x,a.eval y]:=by simp
 rw [e,hent,Oper.upon_enter]
 refine h.mono fun e w' he => ?_
 obtain ⟨v,rfl,hn⟩:=hR e w' he
 exact hn
theorem args_call1 {a:Act} {w:World} {P:Program} {o:Oper} {c:Call} {f:FuncId} {x:Operand} {next:Act→World→Prop} {Q:Go.Exit→Act→World→Prop} (ho:o.op = .call c) (hc:c.callee = .value (.func f)) (ha:c.args = #[x]) {R:Ending→World→Prop}
  (hent:∀ args w,(callFunc f args).run P w = .ok (.enter f args) w) (h:Calls P f #[a.eval x] w R) (hR:∀ e w',R e w'→∃ v,e = .returned v∧next (a.put o.dst v) w'):o.wp P a w next Q:=by
 unfold Oper.wp
 rw [call_run ho hc (show a.eval (.func f) = .func (.func f) #[] #[] from rfl),ha]
 have e:(#[x]:Array Operand).map a.eval ++ #[] = #[a.eval x]:=by simp
 rw [e,hent,Oper.upon_enter]
 refine h.mono fun e w' he => ?_
 obtain ⟨v,rfl,hn⟩:=hR e w' he
 exact hn
theorem put_size {a:Act} {t:Tmp} {v:Value}:(a.put (some t) v).tmps.size=a.tmps.size:=by simp [Act.put]
open Go.Shelf in
theorem bst_write {P:Program} {ρ:Ren} (hL:Go.Proofs.Lays.n166 P ρ) (hX:Go.Proofs.Builder.Extra P ρ) (hent:∀ args w,(callFunc (ρ.f 166) args).run P w = .ok (.enter (ρ.f 166) args) w) {wb:World} {b:Nat} {a:Act} {w:World} {n:Nat} {l s:List UInt8} (S:BSt (ρ.t 72) (ρ.t 5) wb b a w n l) {o:Oper} {c:Call} {x y:Operand} {t:Tmp} (hd:o.dst=some t)
  (ho:o.op = .call c) (hc:c.callee = .value (.func (ρ.f 166))) (ha:c.args = #[x,y]) (hx:a.eval x = .pointer (some ⟨b,0,none⟩)) (hy:a.eval y=vS s) (hlen:l.length+s.length≤140737488355328) {next:Act→World→Prop} {Q:Go.Exit→Act→World→Prop}
  (h:∀ v w',BSt (ρ.t 72) (ρ.t 5) wb b (a.put (some t) v) w' n (l++s)→next (a.put (some t) v) w'):o.wp P a w next Q:=by
 have hw:=Go.Proofs.Any.Builder_WriteString hL hX b b (Lib.byteCells l) (ofL s) w S.bld (by rw [Lib.byteCells_length]; exact hlen) (Nat.le_of_lt S.hb)
 refine args_call ho hc ha hent (by rw [hx,hy]; exact hw) ?_
 rintro e w' ⟨rfl,h1,h2⟩
 refine ⟨_,rfl,?_⟩
 rw [hd]
 refine h _ _ ⟨put_size.trans S.sz,S.df,h2.os.trans S.os,h2.tape.trans S.tape,h2.output.trans S.output,fun k hk=>(h2.block k hk).trans (S.low k hk),Nat.lt_of_lt_of_le S.hb h2.size,.inr ?_⟩
 have e:Lib.byteCells l++Lib.strCells (ofL s)=Lib.byteCells (l++s):=by simp [Lib.byteCells,Lib.strCells,ofL]
 rw [e] at h1
 exact h1
open Go.Shelf in
theorem bst_string {P:Program} {ρ:Ren} (hL:Go.Proofs.Lays.n169 P ρ) (hX:Go.Proofs.Builder.Extra P ρ) (hent:∀ args w,(callFunc (ρ.f 169) args).run P w = .ok (.enter (ρ.f 169) args) w) {wb:World} {b:Nat} {a:Act} {w:World} {n:Nat} {l:List UInt8} (S:BSt (ρ.t 72) (ρ.t 5) wb b a w n l) {o:Oper} {c:Call} {x:Operand} {t:Tmp} (hd:o.dst=some t)
  (ho:o.op = .call c) (hc:c.callee = .value (.func (ρ.f 169))) (ha:c.args = #[x]) (hx:a.eval x = .pointer (some ⟨b,0,none⟩)) {next:Act→World→Prop} {Q:Go.Exit→Act→World→Prop}
  (h:∀ w',RowKit.Below b w w'→next (a.put (some t) (vS l)) w'):o.wp P a w next Q:=by
 have hw:=Go.Proofs.Any.Builder_String_any hL hX b b l w S.bld (Nat.le_of_lt S.hb)
 refine args_call1 ho hc ha hent (by rw [hx]; exact hw) ?_
 rintro e w' ⟨rfl,h2⟩
 refine ⟨_,rfl,?_⟩
 rw [hd]
 exact h _ h2
theorem alloc_wp {P:Program} {o:Oper} {a:Act} {w:World} {e:TypeId} {z:Value} {next:Act→World→Prop} {Q:Go.Exit→Act→World→Prop} (ho:o.op = .alloc e) (hz:∀ w,(zeroValue e).run P w = .ok z w)
  (h:next (a.put o.dst (.pointer (some ⟨w.heap.size,0,none⟩))) (w.alloc (.cells z.cells e))):o.wp P a w next Q:=by
 unfold Oper.wp
 have hx:(execOp a.eval o).run P w = .ok (.value (.pointer (some ⟨w.heap.size,0,none⟩))) (w.alloc (.cells z.cells e)):=by
  simp only [execOp,ho,Instr.alloc,bind_pure_comp,Sem.run_bind,Sem.run_map,hz,Result.andThen_ok,newVar,newRow,run_newObj]
  rfl
 rw [hx]
 exact h
theorem wp_of {P:Program} {cfg:Cfg} (hop:OpOk P cfg) {w0:World} {L:Nat→Nat→Prop} {E:Env} {a:Act} {w:World} {F:Lf→Nat→Prop} {loc:Nat→Nat × Nat} {M:Nat→Prop} (R:Rel w0 L ⟨P,E,a,w,F,loc,M⟩) {c:Code} {Q:Go.Exit→Act→World→Prop} (Qp:Go.Exit→Env→Prop)
  (h:pwp P cfg c E Qp) (hQ:∀ x C,Rel w0 L C→C.P=P→(∀ t,cfg.keep t=true→C.a.tmps.getD t undef=a.tmps.getD t undef)→Qp x C.E→Q x C.a C.w):c.wp P Q a w :=
 pwp_sound hop c ⟨P,E,a,w,F,loc,M⟩ Q Qp R rfl h fun x C R' hP _ hk hq=>hQ x C R' hP hk.1 hq
theorem pv_cell {w0:World} {L:Nat→Nat→Prop} {C:Ctx} (R:Rel w0 L C) {t:Nat} {ds:List D} (hl:C.live t ds) (hp:∀ d,d∈ds→(∃ x,d = .v x)∨∃ e xs,d = .imm e xs) :
  ∃ X:Nat→Value,(∀ (i:Nat) (d:D),ds[i]? = some d→PV C.P C.w C.w.heap.size d (X i)∧scal (X i)=true) ∧
   ∀ ds':List D,ds'.length=ds.length→(∀ (i:Nat) (d:D),ds'[i]? = some d→d.pure=true∧PV C.P C.w C.w.heap.size d (X i))→PV C.P C.w C.w.heap.size (.rptr ds') (.pointer (some ⟨(C.loc t).1,(C.loc t).2+0,none⟩)):=by
 obtain ⟨cs,e,fr,h1,h2,h3,h4⟩:=(R.cell t ds hl).out
 have hb:(C.loc t).1<C.w.heap.size:=(Array.getElem?_eq_some_iff.1 h1).1
 refine ⟨fun i=>cs.getD ((C.loc t).2+i) undef,?_,?_⟩
 ·intro i d hd
  obtain ⟨b1,b2,b3⟩:=h4 i d hd
  show PV C.P C.w C.w.heap.size d (cs.getD ((C.loc t).2+i) undef)∧scal (cs.getD ((C.loc t).2+i) undef)=true
  generalize cs.getD ((C.loc t).2+i) undef=v at b2 b3 ⊢
  rcases hp d (List.mem_of_getElem? hd) with ⟨x,rfl⟩ | ⟨e',xs,rfl⟩
  ·cases b3 with
   | v _ h=>exact ⟨.v h b2,h⟩
  ·cases b3 with
   | imm _ _ _ h =>
    refine ⟨.imm (h.mono fun k hk hlt=>⟨hlt,rfl⟩),?_⟩
    cases h<;>rfl
 ·intro ds' hlen hds
  refine .rptr (fun i=>cs.getD ((C.loc t).2+i) undef) (cs:=cs) (ce:=e) (fr:=fr) h1 hb fun i d hd => ?_
  have hi:i<ds.length:=by rw [←hlen]; exact (gSm hd).1
  have hlt:(C.loc t).2+i<cs.size:=by omega
  refine ⟨?_,(hds i d hd).1,(hds i d hd).2⟩
  show cs[(C.loc t).2+0+i]? = some (cs.getD ((C.loc t).2+i) undef)
  rw [Nat.add_zero,Array.getElem?_eq_getElem hlt]
  simp [Array.getD,hlt]
section
variable {P:Program} {cfg:Cfg} {T e:TypeId} {wb:World} {b:Nat} {n:Nat} {l:List UInt8}
theorem BSt.run (hop:OpOk P cfg) {a:Act} {w:World} (S:BSt T e wb b a w n l) {sl:List D} (hsl:sl.length=n) (hg:Glob P w noLw) (hk:Known P wb b a sl) {c:Code} {Q:Go.Exit→Act→World→Prop} (Qp:Go.Exit→Env→Prop)
  (h:pwp P cfg c ⟨sl,List.replicate n none⟩ Qp) (hlen:∀ e E,Qp e E→E.sl.length=n)
  (hQ:∀ x C,Rel w noLw C→C.P=P→BSt T e wb b C.a C.w n l→(∀ t,cfg.keep t=true→C.a.tmps.getD t undef=a.tmps.getD t undef)→Qp x C.E→Q x C.a C.w):c.wp P Q a w:=by
 refine pwp_sound hop c _ Q Qp (S.rel hsl hg hk) rfl h fun e C R hP _ hka hq => ?_
 exact hQ e C R hP (S.after R (hlen e _ hq)) hka.1 hq
variable {ρ:Go.Shelf.Ren}
theorem BSt.write_in (hop:OpOk P cfg) (hL:Go.Proofs.Lays.n166 P ρ) (hX:Go.Proofs.Builder.Extra P ρ) (hent:∀ args w,(callFunc (ρ.f 166) args).run P w = .ok (.enter (ρ.f 166) args) w) {a:Act} {w:World} (S:BSt (ρ.t 72) (ρ.t 5) wb b a w n l) {C:Ctx} (R:Rel w noLw C) (hP:C.P=P)
  {id:Nat} {ops:Array Oper} {Q:Go.Exit→Act→World→Prop} (m:Nat) (hm:m+1=ops.size) {o:Oper} (ho:ops[m]? = some o) (hgd:o.guard=none) {t:Tmp} (hd:o.dst=some t) {c:Call} (hoo:o.op = .call c) (hc:c.callee = .value (.func (ρ.f 166))) {k y:Tmp} (ha:c.args = #[.tmp k,.tmp y])
  (hkk:cfg.keep k=true) (hv:C.a.tmps.getD k undef = .pointer (some ⟨b,0,none⟩)) {s:List UInt8} (hlen:l.length+s.length≤140737488355328)
  (h:pOps P cfg ops.toList (ops.toList.take m) C.E fun E=>E.sl.length=n∧E.sl.getD y .dead = .v (vS s))
  (hQ:∀ a' w',BSt (ρ.t 72) (ρ.t 5) wb b a' w' n (l++s)→(∀ u,cfg.keep u=true→u≠t→a'.tmps.getD u undef=C.a.tmps.getD u undef)→Q .normal a' w'):(Code.region id ops false).wp P Q C.a C.w:=by
 have hls:ops.toList=ops.toList.take m++[o]:=by
  have h1:ops.toList[m]? = some o:=by rw [Array.getElem?_toList]; exact ho
  have h2:=List.take_append_drop m ops.toList
  rw [List.drop_eq_getElem_cons (by simp; omega),List.drop_of_length_le (by simp; omega)] at h2
  rw [gEg (by simp; omega)] at h1
  injection h1 with h1
  rw [←h1]
  exact h2.symm
 refine region_last hop (l:=ops.toList.take m) hls hgd R hP h fun C' R' hP' _ hka hK => ?_
 have S':=S.after R' hK.1
 have hv':C'.a.tmps.getD k undef = .pointer (some ⟨b,0,none⟩):=(hka.1 k hkk).trans hv
 refine bst_write hL hX hent S' hd hoo hc ha hv' (slot_v R' hK.2) hlen fun v w' S2 => ?_
 exact hQ _ _ S2 fun u hu hne=>(put_keep (fun e=>hne (by injection e with e; exact e.symm))).trans (hka.1 u hu)
theorem BSt.write (hop:OpOk P cfg) (hL:Go.Proofs.Lays.n166 P ρ) (hX:Go.Proofs.Builder.Extra P ρ) (hent:∀ args w,(callFunc (ρ.f 166) args).run P w = .ok (.enter (ρ.f 166) args) w) {a:Act} {w:World} (S:BSt (ρ.t 72) (ρ.t 5) wb b a w n l) {sl:List D} (hsl:sl.length=n) (hg:Glob P w noLw) (hk:Known P wb b a sl)
  {id:Nat} {ops:Array Oper} {Q:Go.Exit→Act→World→Prop} (m:Nat) (hm:m+1=ops.size) {o:Oper} (ho:ops[m]? = some o) (hgd:o.guard=none) {t:Tmp} (hd:o.dst=some t) {c:Call} (hoo:o.op = .call c) (hc:c.callee = .value (.func (ρ.f 166))) {k y:Tmp} (ha:c.args = #[.tmp k,.tmp y])
  (hkk:cfg.keep k=true) (hv:a.tmps.getD k undef = .pointer (some ⟨b,0,none⟩)) {s:List UInt8} (hlen:l.length+s.length≤140737488355328)
  (h:pOps P cfg ops.toList (ops.toList.take m) ⟨sl,List.replicate n none⟩ fun E=>E.sl.length=n∧E.sl.getD y .dead = .v (vS s))
  (hQ:∀ a' w',BSt (ρ.t 72) (ρ.t 5) wb b a' w' n (l++s)→(∀ u,cfg.keep u=true→u≠t→a'.tmps.getD u undef=a.tmps.getD u undef)→Q .normal a' w'):(Code.region id ops false).wp P Q a w :=
 BSt.write_in hop hL hX hent S (S.rel hsl hg hk) rfl m hm ho hgd hd hoo hc ha hkk hv hlen h hQ
theorem BSt.write_draw (hop:OpOk P cfg) (hL:Go.Proofs.Lays.n166 P ρ) (hX:Go.Proofs.Builder.Extra P ρ) (hent:∀ args w,(callFunc (ρ.f 166) args).run P w = .ok (.enter (ρ.f 166) args) w) {a:Act} {w:World} (S:BSt (ρ.t 72) (ρ.t 5) wb b a w n l) {sl:List D} (hsl:sl.length=n) (hg:Glob P w noLw) (hk:Known P wb b a sl)
  {id:Nat} {ops:Array Oper} {Q:Go.Exit→Act→World→Prop} (hmx:P.follows .mixedOrders=true) (m:Nat) (fs:List (List Nat)) (hok:drawOk ops.toList m fs=true) (hm:m+1=ops.size) {o:Oper} (ho:ops[m]? = some o) (hgd:o.guard=none) {t:Tmp} (hd:o.dst=some t) {c:Call} (hoo:o.op = .call c) (hc:c.callee = .value (.func (ρ.f 166))) {k y:Tmp} (ha:c.args = #[.tmp k,.tmp y])
  (hkk:cfg.keep k=true) (hv:a.tmps.getD k undef = .pointer (some ⟨b,0,none⟩)) {s:List UInt8} (hlen:l.length+s.length≤140737488355328)
  (h:pHead P cfg ops.toList ((ops.toList.take m).zip fs) ⟨sl,List.replicate n none⟩ fun E=>E.sl.length=n∧E.sl.getD y .dead = .v (vS s))
  (hQ:∀ a' w',BSt (ρ.t 72) (ρ.t 5) wb b a' w' n (l++s)→(∀ u,cfg.keep u=true→u≠t→a'.tmps.getD u undef=a.tmps.getD u undef)→Q .normal a' w'):(Code.region id ops true).wp P Q a w:=by
 have R:=S.rel hsl hg hk
 refine draw_last hop (C:=⟨P,⟨sl,List.replicate n none⟩,a,w,fun _ _=>False,fun _=>(0,0),fun _=>True⟩) hmx m fs hok hm ho hgd R rfl h fun C' R' hP' _ hka hK => ?_
 have S':=S.after R' hK.1
 have hv':C'.a.tmps.getD k undef = .pointer (some ⟨b,0,none⟩):=(hka.1 k hkk).trans hv
 refine bst_write hL hX hent S' hd hoo hc ha hv' (slot_v R' hK.2) hlen fun v w' S2 => ?_
 exact hQ _ _ S2 fun u hu hne=>(put_keep (fun e=>hne (by injection e with e; exact e.symm))).trans (hka.1 u hu)
end
theorem knownF_nil {P:Program} {wb:World} {b:Nat} {a:Act} {k:Nat}:∀ (i:Nat) (d:D),([]:List D)[i]? = some d→d = .dead∨PV P wb b d (a.tmps.getD (k+i) undef):=fun i d h=>by simp at h
theorem knownF_rep {P:Program} {wb:World} {b:Nat} {a:Act} {k m:Nat}:∀ (i:Nat) (d:D),(List.replicate m D.dead)[i]? = some d→d = .dead∨PV P wb b d (a.tmps.getD (k+i) undef):=fun i d h=>by
 rw [List.getElem?_replicate] at h
 split at h
 ·injection h with h; exact .inl h.symm
 ·cases h
theorem knownF_cons {P:Program} {wb:World} {b:Nat} {a:Act} {k:Nat} {d:D} {ds:List D} (h:d = .dead∨PV P wb b d (a.tmps.getD k undef)) (h2:∀ (i:Nat) (x:D),ds[i]? = some x→x = .dead∨PV P wb b x (a.tmps.getD (k+1+i) undef)) :
  ∀ (i:Nat) (x:D),(d::ds)[i]? = some x→x = .dead∨PV P wb b x (a.tmps.getD (k+i) undef):=by
 intro i x hx
 cases i with
 | zero=>injection hx with hx; rw [←hx]; exact h
 | succ i =>
  have:=h2 i x hx
  rw [show k+1+i=k+(i+1) by omega] at this
  exact this
theorem known_of {P:Program} {wb:World} {b:Nat} {a:Act} {ds:List D} (h:∀ (i:Nat) (x:D),ds[i]? = some x→x = .dead∨PV P wb b x (a.tmps.getD (0+i) undef)):Known P wb b a ds:=fun t d hd=>by
 have:=h t d hd
 rwa [Nat.zero_add] at this
theorem BSt.run2 {P:Program} {cfg cfg2:Cfg} {T e:TypeId} {wb:World} {b:Nat} {n:Nat} {l:List UInt8} (hop:OpOk P cfg) (hop2:OpOk P cfg2) {a:Act} {w:World} (S:BSt T e wb b a w n l) {sl1 sl2:List D} (hsl1:sl1.length=n) (hsl2:sl2.length=n) (hg:∀ {a w},BSt T e wb b a w n l→Glob P w noLw) (hk:Known P wb b a sl1)
  {id:Nat} {ops:Array Oper} {Q:Go.Exit→Act→World→Prop} (m:Nat) (K1 K2:Env→Prop) (h1:pOps P cfg ops.toList (ops.toList.take m) ⟨sl1,List.replicate n none⟩ K1) (hl1:∀ E,K1 E→E.sl.length=n) (hl2:∀ E,K2 E→E.sl.length=n)
  (mid:∀ w0 C,Rel w0 noLw C→(∀ t,cfg.keep t=true→C.a.tmps.getD t undef=a.tmps.getD t undef)→K1 C.E→Known P wb b C.a sl2)
  (h2:pOps P cfg2 ops.toList (ops.toList.drop m) ⟨sl2,List.replicate n none⟩ K2)
  (hQ:∀ w0 C a1,Rel w0 noLw C→BSt T e wb b C.a C.w n l→(∀ t,cfg.keep t=true→cfg2.keep t=true→C.a.tmps.getD t undef=a.tmps.getD t undef)→(∃ w1 C1,Rel w1 noLw C1∧C1.a=a1∧K1 C1.E)→(∀ t,cfg2.keep t=true→C.a.tmps.getD t undef=a1.tmps.getD t undef)→K2 C.E→Q .normal C.a C.w):(Code.region id ops false).wp P Q a w:=by
 refine wp_region_list ?_
 have hls:ops.toList=ops.toList.take m++ops.toList.drop m:=(List.take_append_drop m _).symm
 rw [hls]
 refine pOps_app hop (C:=⟨P,⟨sl1,List.replicate n none⟩,a,w,fun _ _=>False,fun _=>(0,0),fun _=>True⟩) _ (S.rel hsl1 (hg S) hk) rfl h1 fun C R hP _ hka hK => ?_
 have S1:=S.after R (hl1 _ hK)
 refine pOps_sound hop2 (C:=⟨P,⟨sl2,List.replicate n none⟩,C.a,C.w,fun _ _=>False,fun _=>(0,0),fun _=>True⟩) _ (S1.rel hsl2 (hg S1) (mid _ C R hka.1 hK)) rfl h2 fun C2 R2 hP2 _ hka2 hK2 => ?_
 exact hQ _ C2 C.a R2 (S1.after R2 (hl2 _ hK2)) (fun t ht ht2=>(hka2.1 t ht2).trans (hka.1 t ht)) ⟨_,C,R,rfl,hK⟩ hka2.1 hK2
open Go.Shelf in
theorem BSt.string {P:Program} {cfg:Cfg} {ρ:Ren} {wb:World} {b:Nat} {n:Nat} {l:List UInt8} (hop:OpOk P cfg) (hL:Go.Proofs.Lays.n169 P ρ) (hX:Go.Proofs.Builder.Extra P ρ) (hent:∀ args w,(callFunc (ρ.f 169) args).run P w = .ok (.enter (ρ.f 169) args) w) {a:Act} {w:World} (S:BSt (ρ.t 72) (ρ.t 5) wb b a w n l) (hg:∀ w2:World,(∀ k,k<b→w2.heap[k]? = wb.heap[k]?)→b≤w2.heap.size→Glob P w2 noLw)
  {id:Nat} {ops:Array Oper} {Q:Go.Exit→Act→World→Prop} {o:Oper} (ho:ops[0]? = some o) (hgd:o.guard=none) {t:Tmp} (hd:o.dst=some t) {c:Call} (hoo:o.op = .call c) (hc:c.callee = .value (.func (ρ.f 169))) {k:Tmp} (ha:c.args = #[.tmp k]) (hv:a.tmps.getD k undef = .pointer (some ⟨b,0,none⟩))
  {sl:List D} (hsl:sl.length=n) (hk:∀ a':Act,a'.tmps.getD t undef=vS l→Known P wb b a' sl) (ht:t<n) (K:Env→Prop) (h:pOps P cfg ops.toList (ops.toList.drop 1) ⟨sl,List.replicate n none⟩ K)
  (hQ:∀ w0 C,Rel w0 noLw C→C.w.os=wb.os→C.w.tape=wb.tape→C.w.output=wb.output→(∀ k,k<b→C.w.heap[k]? = wb.heap[k]?)→b≤C.w.heap.size→K C.E→Q .normal C.a C.w):(Code.region id ops false).wp P Q a w:=by
 refine wp_region_list ?_
 have hls:ops.toList=o::ops.toList.drop 1:=by
  have h1:ops.toList[0]? = some o:=by rw [Array.getElem?_toList]; exact ho
  cases hx:ops.toList with
  | nil=>rw [hx] at h1; simp at h1
  | cons x xs=>rw [hx] at h1; simp at h1; rw [h1]; rfl
 rw [hls]
 unfold wpList
 rw [if_pos (wanted_none hgd)]
 refine .inl (bst_string hL hX hent S hd hoo hc ha hv fun w' hb => ?_)
 have hlow:∀ k,k<b→w'.heap[k]? = wb.heap[k]? := fun k hk=>(hb.block k hk).trans (S.low k hk)
 have hbs:b≤w'.heap.size:=Nat.le_trans (Nat.le_of_lt S.hb) hb.size
 have hget:(a.put (some t) (vS l)).tmps.getD t undef=vS l:=by
  have:=S.sz
  simp [Act.put,Array.getD,this,ht]
 have R:Rel w' noLw ⟨P,⟨sl,List.replicate n none⟩,a.put (some t) (vS l),w',fun _ _=>False,fun _=>(0,0),fun _=>True⟩:=by
  have R:=mk_rel (P:=P) (a:=a.put (some t) (vS l)) (sl:=sl) ((put_size.trans S.sz).trans hsl.symm) S.df hlow (hg w' hlow hbs) (hk _ hget)
  rw [hsl] at R
  exact R
 refine pOps_sound hop (C:=⟨P,⟨sl,List.replicate n none⟩,a.put (some t) (vS l),w',fun _ _=>False,fun _=>(0,0),fun _=>True⟩) _ R rfl h fun C R2 hP _ hka hK => ?_
 exact hQ _ C R2 (R2.frame.os.trans (hb.os.trans S.os)) (R2.frame.tape.trans (hb.tape.trans S.tape)) (R2.frame.output.trans (hb.output.trans S.output)) (fun k hk=>(R2.frame.kept k (Nat.lt_of_lt_of_le hk hbs) fun _ h=>h).trans (hlow k hk)) (Nat.le_trans hbs R2.frame.size) hK
theorem slot_cref {w0:World} {L:Nat→Nat→Prop} {C:Ctx} (R:Rel w0 L C) {t c k:Nat} (h:C.E.sl.getD t .dead = .cref c k):C.a.tmps.getD t undef = .pointer (some ⟨(C.loc c).1,(C.loc c).2+k,none⟩):=by
 have hs:C.E.sl[t]? = some (.cref c k):=by
  rw [gDg] at h
  cases hx:C.E.sl[t]? with
  | none=>rw [hx] at h; simp at h
  | some y=>rw [hx] at h; simp at h; rw [h]
 have:=R.slot t _ hs
 generalize C.a.tmps.getD t undef=v at this
 cases this with
 | comp _ _ _ hc=>cases hc with | leaf _ _ a b c=>cases c with | cref _ _ _ _=>rfl
theorem region_one {P:Program} {id:Nat} {ops:Array Oper} {Q:Go.Exit→Act→World→Prop} {a:Act} {w:World} {o:Oper} (h1:ops.toList=[o]) (hg:o.guard=none) (h:o.wp P a w (Q .normal) Q):(Code.region id ops false).wp P Q a w:=by
 refine wp_region_list ?_
 rw [h1]
 unfold wpList
 rw [if_pos (wanted_none hg)]
 exact .inl h
theorem Rel.base {P:Program} {w:World} {L:Nat→Nat→Prop} {sl:List D} {a:Act} {F:Lf→Nat→Prop} {loc:Nat→Nat × Nat} {M:Nat→Prop} {n:Nat} (R:Rel w L ⟨P,⟨sl,List.replicate n none⟩,a,w,F,loc,M⟩) (hno:∀ t,(sl.getD t .dead).anyOwn=false) :
  Rel w noLw ⟨P,⟨sl,List.replicate n none⟩,a,w,fun _ _=>False,loc,M⟩:=by
 have hce:∀ (t:Nat) (ds:List D),¬ (List.replicate n (none:Option (List D)))[t]? = some (some ds):=by
  intro t ds h
  rw [List.getElem?_replicate] at h
  split at h<;>simp at h
 have hleaf:∀ p e xs,(⟨sl,List.replicate n none⟩:Env).leaf p ≠ .own e xs:=by
  rintro ⟨c,t,k⟩ e xs h
  cases c with
  | false=>exact notOwn_inS (C:=⟨P,⟨sl,List.replicate n none⟩,a,w,F,loc,M⟩) (hno t) ⟨false,t,k⟩ e xs h ⟨rfl,rfl⟩
  | true =>
   have h:(((List.replicate n (none:Option (List D))).getD t none).getD []).getD k .dead = .own e xs:=h
   rw [gDg (l:=List.replicate n none),List.getElem?_replicate] at h
   split at h<;>simp at h
 have R1:=R.reF (fun _ _=>False) (fun p e xs h=>absurd h (hleaf p e xs)) (fun _ _ h=>h.elim) (fun _ _ _ h=>h.elim)
 obtain ⟨B,g1,g2,g3⟩:=R1.glob
 exact ⟨R1.tmps,R1.defers,R1.slot,R1.cell,R1.disj,R1.cdisj,R1.fcd,R1.fbound,fun _ _ h=>h.elim,fun t ds h=>absurd h (hce t ds),⟨rfl,rfl,rfl,Nat.le_refl _,fun _ _ _=>rfl,fun bb cs e fr h=>⟨cs,h,rfl,fun _ _=>rfl⟩⟩,R1.mnew,fun _ _ h=>h.elim,⟨B,g1,fun _ _ h=>h.elim,g3⟩⟩
theorem bst_new {T e:TypeId} {a:Act} {w:World} {n t:Nat} (hsz:a.tmps.size=n) (hdf:a.defers=[]) {v:Value}:BSt T e w w.heap.size (a.put (some t) v) (w.alloc (.cells (Value.agg #[.pointer none,.slice none 0 0]).cells T)) n []:=by
 have h1:(w.alloc (.cells (Value.agg #[.pointer none,.slice none 0 0]).cells T)).heap[w.heap.size]? = some (.cells #[.pointer none,.slice none 0 0] T (0,0)):=heap_alloc_new w _
 exact ⟨put_size.trans hsz,hdf,rfl,rfl,rfl,fun k hk=>heap_alloc_old w _ hk,(Array.getElem?_eq_some_iff.1 h1).1,.inl ⟨Nat.le_refl _,.slice none 0 0,h1,⟨rfl,.inl ⟨rfl,rfl⟩⟩,by simp [Value.ownBlock]⟩⟩
theorem Sem.forget {P:Program} {f:FuncId} {Ein Eout:Env} (h:Sem P f Ein Eout) (g:Nat→Bool):Sem P f Ein (Eout.forget g):=by
 intro w a F loc M R
 have:=h w a F loc M R
 rcases this with ⟨h1,h2⟩ | ⟨v,w',h1,F',loc',h2,h3⟩
 ·refine .inl ⟨h1,h2.mono fun e w' ⟨v,he,F',loc',h2,h3⟩=>⟨v,he,F',loc',h2,h3.forget g⟩⟩
 ·exact .inr ⟨v,w',h1,F',loc',h2,h3.forget g⟩
end Go.Proofs.YtbdfdfhamlmodaaGreatDoor.Fw
namespace Go.Proofs.YtbdfdfhamlmodaaGreatDoor.Fw
open Go
open Go.Proofs.Tryz
set_option maxRecDepth 100000
set_option maxHeartbeats 1000000
attribute [local congr] c_bnd c_slot c_cell c_all c_len c_chk c_asm c_opdR c_wp c_pwp c_pOps c_Done c_nx c_blk c_fin c_coeLeaf c_coeLeaves c_argR c_argsR c_partsR c_ite c_wpF c_OutF c_pHead c_pDraw
def kcfg (ks:List Nat):Cfg:=⟨1,fun t=>ks.contains t,tb,pts,md⟩
theorem lays166:Go.Proofs.Lays.n166 Go.Proofs.Tryz.prog join_lays156_ren:={ join_lays156 with }
theorem lays169:Go.Proofs.Lays.n169 Go.Proofs.Tryz.prog join_lays156_ren:={ join_lays156 with }
theorem ent74:∀ args w,(callFunc (join_lays156_ren.f 166) args).run prog w = .ok (.enter (join_lays156_ren.f 166) args) w:=enter_of func92 rfl rfl
theorem ent77:∀ args w,(callFunc (join_lays156_ren.f 169) args).run prog w = .ok (.enter (join_lays156_ren.f 169) args) w:=enter_of func95 rfl rfl
def I3 (b:Nat) (pM:Value) (a:Act):Prop:=a.tmps.getD 1 undef=pM∧a.tmps.getD 2 undef=vS []∧a.tmps.getD 3 undef = .pointer (some ⟨b,0,none⟩)
theorem I3.keep {b:Nat} {pM:Value} {a a':Act} (h:I3 b pM a) (e1:a'.tmps.getD 1 undef=a.tmps.getD 1 undef) (e2:a'.tmps.getD 2 undef=a.tmps.getD 2 undef) (e3:a'.tmps.getD 3 undef=a.tmps.getD 3 undef):I3 b pM a':=by
 unfold I3
 rw [e1,e2,e3]
 exact h
theorem I3.k1 {w1:World} {b:Nat} {pM:Value} {d:D} {a:Act} (h:I3 b pM a) (hd:PV prog w1 b d pM):PV prog w1 b d (a.tmps.getD 1 undef):=by
 rw [h.1]
 exact hd
theorem I3.k2 {w1:World} {b:Nat} {pM:Value} {a:Act} (h:I3 b pM a):PV prog w1 b (.v (vS [])) (a.tmps.getD 2 undef):=by
 rw [h.2.1]
 exact .v rfl rfl
theorem I3.k3 {w1:World} {b:Nat} {pM:Value} {a:Act} (h:I3 b pM a):PV prog w1 b (.v (.pointer (some ⟨b,0,none⟩))) (a.tmps.getD 3 undef):=by
 rw [h.2.2]
 exact .v rfl rfl
theorem pv_eq {w1:World} {b:Nat} {v x:Value} (h:v=x) (h1:scal x=true) (h2:one x=true):PV prog w1 b (.v x) v:=by
 rw [h]
 exact .v h1 h2
theorem c37:H44:=by
 intro me ta st re ba l bo hl hf h1 h2 h3 h4 h5
 have hs:l.length≤9223372036854775807:=hl.1
 have h59:bo.length≤9223372036854775807:=by omega
 have hn20:=fields_len hf
 have d1:=decDigits_len st
 have d2:=decDigits_len bo.length
 have hfst:=first_le h1 h2 h3 h4
 have hH:=head_len (ba:=ba) hf h1 h2 h3 h4 h5
 have hw:=Sem.forget (sem_calls (Ein:=⟨[.agg [.v (vS me),.v (vS ta),.v (vI (st:Nat)),.v (vS re),.v (vB ba),.imm 105 (rowsF l),.v (vS bo)]],[none]⟩) (r:=vS (headT me ta st re ba l bo)) (enter_of func37 rfl rfl) rfl (by simp only [scal,decide_eq_true_eq]; exact hH) rfl ?_) (fun t=>decide (t=0))
 ·exact hw
 intro w a F loc M R
 have hsz:a.tmps.size=1:=R.tmps
 refine calls_of_wp func37 rfl ?_
 rw [hsz]
 have hR0:∀ t,(([.agg [.v (vS me),.v (vS ta),.v (vI (st:Nat)),.v (vS re),.v (vB ba),.imm 105 (rowsF l),.v (vS bo)]]:List D).getD t .dead).anyOwn=false:=by
  intro t
  cases t with
  | zero=>rfl
  | succ t=>simp [D.anyOwn,D.comps,D.leaves1,D.isOwn]
 have Rb:=Rel.base (n:=1) R hR0
 have R1:=Rb.pad (f37.ntmps-1)
 refine wp_seq ?_
 refine wp_of (op_ok (cfg:=kcfg []) tbOk) R1 (fun x E=>x = .normal∧E.sl.length=67∧E.sl.getD 1 .dead = .cref 1 0∧E.sl.getD 2 .dead = .v (vS [])∧E.ce.getD 1 none=some [.v (vS me),.v (vS ta),.v (vI (st:Nat)),.v (vS re),.v (vB ba),.imm 105 (rowsF l),.v (vS bo)]) ?_ ?_
 ·simp only [go_sem,Nat.reduceLeDiff,Nat.reduceAdd,Nat.reduceSub,f37,kcfg]
 rintro x ⟨P',E,a1,w1,F1,loc1,M1⟩ R2 hP - ⟨rfl,hq1,hq2,hq3,hq4⟩
 have hP:P'=prog:=hP
 subst hP
 have hl1:Ctx.live ⟨prog,E,a1,w1,F1,loc1,M1⟩ 1 [.v (vS me),.v (vS ta),.v (vI (st:Nat)),.v (vS re),.v (vB ba),.imm 105 (rowsF l),.v (vS bo)]:=by
  show E.ce[1]? = _
  have hq4:E.ce.getD 1 none=_:=hq4
  rw [gDg] at hq4
  cases hx:E.ce[1]? with
  | none=>rw [hx] at hq4; cases hq4
  | some y=>rw [hx] at hq4; exact congrArg some hq4
 obtain ⟨X,hX1,hX2⟩:=pv_cell R2 hl1 (by
  intro d hd
  simp only [List.mem_cons,List.not_mem_nil,or_false] at hd
  rcases hd with rfl | rfl | rfl | rfl | rfl | rfl | rfl
  ·exact .inl ⟨_,rfl⟩
  ·exact .inl ⟨_,rfl⟩
  ·exact .inl ⟨_,rfl⟩
  ·exact .inl ⟨_,rfl⟩
  ·exact .inl ⟨_,rfl⟩
  ·exact .inr ⟨_,_,rfl⟩
  ·exact .inl ⟨_,rfl⟩)
 have p1:a1.tmps.getD 1 undef = .pointer (some ⟨(loc1 1).1,(loc1 1).2+0,none⟩):=slot_cref R2 hq2
 have p2:a1.tmps.getD 2 undef=vS []:=slot_v R2 hq3
 have hsz1:a1.tmps.size=67:=R2.tmps.trans hq1
 have hdf1:a1.defers=[]:=R2.defers
 have hfr:∀ k,k<w.heap.size→w1.heap[k]? = w.heap[k]? := fun k hk=>R2.frame.kept k hk fun _ h=>h
 have hsw:w.heap.size≤w1.heap.size:=R2.frame.size
 have hX2:∀ ds':List D,ds'.length=7→(∀ (i:Nat) (d:D),ds'[i]? = some d→d.pure=true∧PV prog w1 w1.heap.size d (X i))→PV prog w1 w1.heap.size (.rptr ds') (.pointer (some ⟨(loc1 1).1,(loc1 1).2+0,none⟩)):=hX2
 have hX1:∀ (i:Nat) (d:D),([.v (vS me),.v (vS ta),.v (vI (st:Nat)),.v (vS re),.v (vB ba),.imm 105 (rowsF l),.v (vS bo)]:List D)[i]? = some d→PV prog w1 w1.heap.size d (X i)∧scal (X i)=true:=hX1
 generalize (Value.pointer (some ⟨(loc1 1).1,(loc1 1).2+0,none⟩))=pM at p1 hX2
 have gl:∀ w2:World,(∀ k,k<w1.heap.size→w2.heap[k]? = w1.heap[k]?)→w1.heap.size≤w2.heap.size→Glob prog w2 noLw:=fun w2 h1 h2=>glob_low Rb.glob (fun k hk=>(h1 k (Nat.lt_of_lt_of_le hk hsw)).trans (hfr k hk)) (Nat.le_trans hsw h2)
 have hos:w1.os=w.os∧w1.tape=w.tape∧w1.output=w.output:=⟨R2.frame.os,R2.frame.tape,R2.frame.output⟩
 clear R2 hl1 hq1 hq2 hq3 hq4 R1 Rb hR0
 refine wp_seq ?_
 refine region_one rfl rfl ?_
 refine alloc_wp rfl zeroValue115 ?_
 have S1:BSt 115 5 w1 w1.heap.size (a1.put (some 3) (.pointer (some ⟨w1.heap.size,0,none⟩))) (w1.alloc (.cells (Value.agg #[.pointer none,.slice none 0 0]).cells 115)) 67 []:=bst_new hsz1 hdf1
 have q1:(a1.put (some 3) (.pointer (some ⟨w1.heap.size,0,none⟩))).tmps.getD 1 undef=pM:=(put_keep (by decide)).trans p1
 have q2:(a1.put (some 3) (.pointer (some ⟨w1.heap.size,0,none⟩))).tmps.getD 2 undef=vS []:=(put_keep (by decide)).trans p2
 have q3:(a1.put (some 3) (.pointer (some ⟨w1.heap.size,0,none⟩))).tmps.getD 3 undef = .pointer (some ⟨w1.heap.size,0,none⟩):=by
  simp [Act.put,Array.getD,hsz1]
 refine (?_:Code.wp _ _ _ (a1.put (some 3) (.pointer (some ⟨w1.heap.size,0,none⟩))) (w1.alloc (.cells (Value.agg #[.pointer none,.slice none 0 0]).cells 115)))
 generalize (a1.put (some 3) (.pointer (some ⟨w1.heap.size,0,none⟩)))=a2 at S1 q1 q2 q3 ⊢
 generalize (w1.alloc (.cells (Value.agg #[.pointer none,.slice none 0 0]).cells 115))=w2 at S1 ⊢
 clear p1 p2 hsz1 hdf1
 have gS:∀ {a' w' l'},BSt 115 5 w1 w1.heap.size a' w' 67 l'→Glob prog w' noLw:=fun S=>gl _ S.low (Nat.le_of_lt S.hb)
 have hds:PV prog w1 w1.heap.size (.rptr [.v (vS me),.v (vS ta),.v (vI (st:Nat)),.v (vS re),.v (vB ba),.imm 105 (rowsF l),.v (vS bo)]) pM:=hX2 _ rfl fun i d hd=>⟨by
  have:=List.mem_of_getElem? hd
  simp only [List.mem_cons,List.not_mem_nil,or_false] at this
  rcases this with rfl | rfl | rfl | rfl | rfl | rfl | rfl<;>rfl,(hX1 i d hd).1⟩
 have i3:I3 w1.heap.size pM a2:=⟨q1,q2,q3⟩
 clear q1 q2 q3
 have hseg:=firstT me ta st re
 refine wp_seq (Code.wp_mono (Q:=fun x a w=>x = .normal∧BSt 115 5 w1 w1.heap.size a w 67 (firstT me ta st re)∧I3 w1.heap.size pM a) ?_ ?_)
 ·rintro x a3 w3 ⟨rfl,S3,i3⟩
  generalize hG:firstT me ta st re=Fx at S3 hfst
  refine wp_seq (Code.wp_mono (Q:=fun x a w=>x = .normal∧BSt 115 5 w1 w1.heap.size a w 67 (Fx++fieldsT l)∧I3 w1.heap.size pM a) ?_ ?_)
  ·rintro x a4 w4 ⟨rfl,S4,i4⟩
   have t1:=fieldsT_take_le hf l.length
   rw [List.take_of_length_le (Nat.le_refl _)] at t1
   have d4:(Lib.itoa (bo.length:Int)).length≤bo.length+1:=by rw [itoa_nat]; exact d2
   refine wp_seq (Code.wp_mono (Q:=fun x a w=>x = .normal∧BSt 115 5 w1 w1.heap.size a w 67 (Fx++fieldsT l++lastT me ba bo)∧I3 w1.heap.size pM a) ?_ ?_)
   ·rintro x a5 w5 ⟨rfl,S5,i5⟩
    have hHe:headT me ta st re ba l bo=Fx++fieldsT l++lastT me ba bo++[13,10]:=by unfold headT; rw [hG]; rfl
    rw [hHe] at hH ⊢
    generalize Fx++fieldsT l++lastT me ba bo=L at S5 hH ⊢
    have hL9:L.length≤9223372036854775805:=by simp only [List.length_append,List.length_cons,List.length_nil] at hH; omega
    have hL8:L.length+2≤9223372036854775807:=by omega
    refine wp_seq ?_
    refine BSt.string (op_ok (cfg:=kcfg []) tbOk) lays169 join_Builder_Extra_156 ent77 S5 gl rfl rfl rfl rfl rfl rfl i5.2.2 (sl:=[.dead,.dead,.dead,.dead,.dead,.dead,.dead,.dead,.dead,.dead,.dead,.dead,.dead,.dead,.dead,.dead,.dead,.dead,.dead,.dead,.dead,.dead,.dead,.dead,.dead,.dead,.dead,.dead,.dead,.dead,.dead,.dead,.dead,.dead,.dead,.dead,.dead,.dead,.dead,.dead,.dead,.dead,.dead,.dead,.dead,.dead,.dead,.dead,.dead,.dead,.dead,.dead,.dead,.dead,.dead,.dead,.dead,.dead,.dead,.dead,.dead,.dead,.dead,.dead,.dead,.v (vS L),.dead]) rfl (fun a' ha'=>known_of (by
     have k65:PV prog w1 w1.heap.size (.v (vS L)) (a'.tmps.getD 65 undef):=pv_eq ha' (by simp only [scal,decide_eq_true_eq]; show L.length≤_; omega) rfl
     repeat' (first | exact knownF_rep | exact knownF_nil | refine knownF_cons (.inl rfl) ?_ | refine knownF_cons (.inr (by assumption)) ?_))) (by decide) (fun E=>E.sl.length=67∧E.sl.getD 2 .dead = .v (vS (L++[13,10]))) ?_ ?_
    ·dsimp only [List.drop,List.toList_toArray]
     simp only [go_sem,Nat.reduceLeDiff,Nat.reduceAdd,Nat.reduceBNe,kcfg,hL8]
    intro w0 C R5 o1 o2 o3 low hsz5 hK
    have hv2:=slot_v R5 hK.2
    have hdf:=R5.defers
    refine wp_ret ?_
    refine ⟨hdf,C.a.tmps.getD 2 undef,?_,?_,?_⟩
    ·simp [results,f37]
    ·rw [hv2]
    ·exact ⟨o1.trans hos.1,o2.trans hos.2.1,o3.trans hos.2.2,Nat.le_trans hsw hsz5,fun k hk=>(low k (Nat.lt_of_lt_of_le hk hsw)).trans (hfr k hk)⟩
   refine wp_seq ?_
   refine BSt.run (op_ok (cfg:=kcfg [1,2,3]) tbOk) S4 (sl:=([.dead,.rptr [.v (vS me),.v (vS ta),.v (vI (st:Nat)),.v (vS re),.v (vB ba),.imm 105 (rowsF l),.v (vS bo)],.v (vS []),.v (.pointer (some ⟨w1.heap.size,0,none⟩))]++List.replicate 63 .dead)) rfl (gS S4) (known_of (by
    have k1:=i4.k1 hds
    have k2:=i4.k2 (w1:=w1)
    have k3:=i4.k3 (w1:=w1)
    repeat' (first | exact knownF_rep | exact knownF_nil | refine knownF_cons (.inl rfl) ?_ | refine knownF_cons (.inr (by assumption)) ?_))) (fun x E=>x = .normal∧E.sl.length=67∧E.sl.getD 57 .dead = .v (vB ((!(me==[]) && !(bo==[])) || ((me==[]) && !ba)))) ?_ (fun _ _ h=>h.2.1) ?_
   ·cases hm:me==[]<;>cases hb:bo==[]<;>cases ba<;>simp only [go_sem,Nat.reduceLeDiff,Nat.reduceAdd,Nat.reduceBEq,reduceCtorEq,kcfg,hm,hb]
   rintro x ⟨P',E,a5,w5,F5,loc5,M5⟩ R5 hP S5 hk5 ⟨rfl,hz,hq⟩
   have S5:BSt 115 5 w1 w1.heap.size a5 w5 67 (Fx++fieldsT l):=S5
   have i5:I3 w1.heap.size pM a5:=i4.keep (hk5 1 rfl) (hk5 2 rfl) (hk5 3 rfl)
   have hv57:a5.eval (.tmp 57) = .bool ((!(me==[]) && !(bo==[])) || ((me==[]) && !ba)):=slot_v R5 hq
   clear R5 hk5 hq hz
   refine wp_cond hv57 ?_
   cases hcv:((!(me==[]) && !(bo==[])) || ((me==[]) && !ba))
   ·have hlt:lastT me ba bo=[]:=by unfold lastT; rw [if_neg (by rw [hcv]; simp)]
    rw [hlt,List.append_nil]
    exact wp_skip ⟨rfl,S5,i5⟩
   ·have hlt:lastT me ba bo=67::111::110::116::101::110::116::45::76::101::110::103::116::104::58::32::(Lib.itoa bo.length++[13,10]):=by unfold lastT; rw [if_pos hcv]; rfl
    rw [hlt]
    refine BSt.write (op_ok (cfg:=kcfg [1,2,3]) tbOk) lays166 join_Builder_Extra_156 ent74 S5 (sl:=([.dead,.rptr [.v (vS me),.v (vS ta),.v (vI (st:Nat)),.v (vS re),.v (vB ba),.imm 105 (rowsF l),.v (vS bo)],.v (vS []),.v (.pointer (some ⟨w1.heap.size,0,none⟩))]++List.replicate 63 .dead)) rfl (gS S5) (known_of (by
     have k1:=i5.k1 hds
     have k2:=i5.k2 (w1:=w1)
     have k3:=i5.k3 (w1:=w1)
     repeat' (first | exact knownF_rep | exact knownF_nil | refine knownF_cons (.inl rfl) ?_ | refine knownF_cons (.inr (by assumption)) ?_))) 6 rfl rfl rfl rfl rfl rfl rfl rfl i5.2.2 (y:=63) (s:=67::111::110::116::101::110::116::45::76::101::110::103::116::104::58::32::(Lib.itoa bo.length++[13,10])) (by simp only [List.length_append,List.length_cons,List.length_nil]; omega) ?_ ?_
    ·dsimp only [List.take_succ_cons,List.take_zero,List.toList_toArray]
     simp only [go_sem,Nat.reduceLeDiff,Nat.reduceAdd,Nat.reduceBEq,kcfg,h59]
     refine cf (c93 bo.length (by omega) (by omega) (by omega)) ?_
     simp only [go_sem,Nat.reduceLeDiff,Nat.reduceAdd]
     repeat' with_reducible refine And.intro (by (try simp only [List.length_append,List.length_cons,List.length_nil]); omega) ?_
     try ((try simp only [List.length_append,List.length_cons,List.length_nil]); omega)
    intro a6 w6 S6 hk6
    exact ⟨rfl,S6,i5.keep (hk6 1 rfl (by decide)) (hk6 2 rfl (by decide)) (hk6 3 rfl (by decide))⟩
  have hX5:=hX1 5 _ rfl
  have hds5:PV prog w1 w1.heap.size (.rptr [.v (vS me),.v (vS ta),.v (vI (st:Nat)),.v (vS re),.v (vB ba),.v (X 5),.v (vS bo)]) pM:=hX2 _ rfl fun i d hd=>by
   have hi:i<7:=(gSm hd).1
   by_cases h5:i=5
   ·subst h5
    injection hd with hd
    rw [←hd]
    exact ⟨rfl,.v hX5.2 hX5.1.one⟩
   ·have hd2:([.v (vS me),.v (vS ta),.v (vI (st:Nat)),.v (vS re),.v (vB ba),.imm 105 (rowsF l),.v (vS bo)]:List D)[i]? = some d:=by
     have:i=0∨i=1∨i=2∨i=3∨i=4∨i=6:=by omega
     rcases this with rfl | rfl | rfl | rfl | rfl | rfl<;>exact hd
    refine ⟨?_,(hX1 i d hd2).1⟩
    have:=List.mem_of_getElem? hd
    simp only [List.mem_cons,List.not_mem_nil,or_false] at this
    rcases this with rfl | rfl | rfl | rfl | rfl | rfl | rfl<;>rfl
  refine wp_seq ?_
  refine BSt.run2 (op_ok (cfg:=kcfg [1,2,3]) tbOk) (op_ok (cfg:=kcfg [1,2,3,29]) tbOk) S3 (sl1:=([.dead,.rptr [.v (vS me),.v (vS ta),.v (vI (st:Nat)),.v (vS re),.v (vB ba),.v (X 5),.v (vS bo)],.v (vS []),.v (.pointer (some ⟨w1.heap.size,0,none⟩))]++List.replicate 63 .dead)) (sl2:=[.dead,.rptr [.v (vS me),.v (vS ta),.v (vI (st:Nat)),.v (vS re),.v (vB ba),.imm 105 (rowsF l),.v (vS bo)],.v (vS []),.v (.pointer (some ⟨w1.heap.size,0,none⟩)),.dead,.dead,.dead,.dead,.dead,.dead,.dead,.dead,.dead,.dead,.dead,.dead,.dead,.dead,.dead,.dead,.dead,.dead,.dead,.dead,.dead,.dead,.dead,.dead,.dead,.imm 105 (rowsF l),.dead,.dead,.dead,.dead,.dead,.dead,.dead,.dead,.dead,.dead,.dead,.dead,.dead,.dead,.dead,.dead,.dead,.dead,.dead,.dead,.dead,.dead,.dead,.dead,.dead,.dead,.dead,.dead,.dead,.dead,.dead,.dead,.dead,.dead,.dead,.dead,.dead]) rfl rfl gS (known_of (by
   have k1:=i3.k1 hds5
   have k2:=i3.k2 (w1:=w1)
   have k3:=i3.k3 (w1:=w1)
   repeat' (first | exact knownF_rep | exact knownF_nil | refine knownF_cons (.inl rfl) ?_ | refine knownF_cons (.inr (by assumption)) ?_))) 2 (fun E=>E.sl.length=67∧E.sl.getD 29 .dead = .v (X 5)) (fun E=>E.sl.length=67∧E.sl.getD 30 .dead = .v (vI l.length)∧E.sl.getD 31 .dead = .v (vI 0)) ?_ (fun _ h=>h.1) (fun _ h=>h.1) ?_ ?_ ?_
  ·dsimp only [List.take_succ_cons,List.take_zero,List.toList_toArray]
   simp only [go_sem,Nat.reduceLeDiff,Nat.reduceAdd,Nat.reduceBEq,kcfg]
  ·intro w0 C R5 hk5 hK
   have i5:I3 w1.heap.size pM C.a:=i3.keep (hk5 1 rfl) (hk5 2 rfl) (hk5 3 rfl)
   refine known_of (by
    have k1:=i5.k1 hds
    have k2:=i5.k2 (w1:=w1)
    have k3:=i5.k3 (w1:=w1)
    have k29:PV prog w1 w1.heap.size (.imm 105 (rowsF l)) (C.a.tmps.getD 29 undef):=by rw [slot_v R5 hK.2]; exact hX5.1
    repeat' (first | exact knownF_rep | exact knownF_nil | refine knownF_cons (.inl rfl) ?_ | refine knownF_cons (.inr (by assumption)) ?_))
  ·dsimp only [List.drop,List.toList_toArray]
   simp only [go_sem,Nat.reduceAdd,Nat.reduceBEq,kcfg,rowsF_length,hs]
  rintro w0 C a5 R5 S5 hk5 ⟨w5,C5,R6,rfl,hK5⟩ hk6 ⟨hz,hq1,hq2⟩
  have i5:I3 w1.heap.size pM C.a:=i3.keep (hk5 1 rfl rfl) (hk5 2 rfl rfl) (hk5 3 rfl rfl)
  have v29:C.a.tmps.getD 29 undef=X 5:=(hk6 29 rfl).trans (slot_v R6 hK5.2)
  have v30:=slot_v R5 hq1
  have v31:=slot_v R5 hq2
  refine (?_:Code.wp _ _ _ C.a C.w)
  generalize C.a=aL at S5 i5 v29 v30 v31 ⊢
  generalize C.w=wL at S5 ⊢
  clear R5 hk5 R6 hK5 hk6 hz hq1 hq2
  refine wp_block ?_
  refine wp_loop_rounds (l.length+1) ?_
  obtain ⟨i,hlt,hi,S6,v31b⟩:∃ i:Nat,l.length-i<l.length+1∧i≤l.length∧BSt 115 5 w1 w1.heap.size aL wL 67 (Fx++fieldsT (l.take i))∧aL.tmps.getD 31 undef=vI i:=⟨0,by omega,by omega,by simpa [fieldsT] using S5,v31⟩
  clear S5 v31
  generalize l.length+1=N at hlt ⊢
  induction N generalizing aL wL i with
  | zero=>omega
  | succ N ih =>
   have hfl:=fieldsT_take_le hf i
   rw [rounds_succ]
   have k29:PV prog w1 w1.heap.size (.imm 105 (rowsF l)) (aL.tmps.getD 29 undef):=by rw [v29]; exact hX5.1
   have k30:PV prog w1 w1.heap.size (.v (vI l.length)) (aL.tmps.getD 30 undef):=pv_eq v30 rfl rfl
   have k31:PV prog w1 w1.heap.size (.v (vI i)) (aL.tmps.getD 31 undef):=pv_eq v31b rfl rfl
   refine wp_seq ?_
   refine BSt.run (op_ok (cfg:=kcfg [1,2,3,29,30,31]) tbOk) S6 (sl:=[.dead,.rptr [.v (vS me),.v (vS ta),.v (vI (st:Nat)),.v (vS re),.v (vB ba),.imm 105 (rowsF l),.v (vS bo)],.v (vS []),.v (.pointer (some ⟨w1.heap.size,0,none⟩)),.dead,.dead,.dead,.dead,.dead,.dead,.dead,.dead,.dead,.dead,.dead,.dead,.dead,.dead,.dead,.dead,.dead,.dead,.dead,.dead,.dead,.dead,.dead,.dead,.dead,.imm 105 (rowsF l),.v (vI l.length),.v (vI i),.dead,.dead,.dead,.dead,.dead,.dead,.dead,.dead,.dead,.dead,.dead,.dead,.dead,.dead,.dead,.dead,.dead,.dead,.dead,.dead,.dead,.dead,.dead,.dead,.dead,.dead,.dead,.dead,.dead,.dead,.dead,.dead,.dead,.dead,.dead]) rfl (gS S6) (known_of (by
    have k1:=i5.k1 hds
    have k2:=i5.k2 (w1:=w1)
    have k3:=i5.k3 (w1:=w1)
    repeat' (first | exact knownF_rep | exact knownF_nil | refine knownF_cons (.inl rfl) ?_ | refine knownF_cons (.inr (by assumption)) ?_))) (fun x E=>x = .normal∧E.sl.length=67∧E.sl.getD 32 .dead = .v (vB (decide (i<l.length)))) ?_ (fun _ _ h=>h.2.1) ?_
   ·simp only [go_sem,Nat.reduceAdd,Nat.reduceBEq,kcfg]
   rintro x ⟨P',E,a6,w6,F6,loc6,M6⟩ R6 hP S7 hk7 ⟨rfl,hz,hq⟩
   have S7:BSt 115 5 w1 w1.heap.size a6 w6 67 (Fx++fieldsT (l.take i)):=S7
   have i7:I3 w1.heap.size pM a6:=i5.keep (hk7 1 rfl) (hk7 2 rfl) (hk7 3 rfl)
   have u29:a6.tmps.getD 29 undef=X 5:=(hk7 29 rfl).trans v29
   have u30:a6.tmps.getD 30 undef=vI l.length:=(hk7 30 rfl).trans v30
   have u31:a6.tmps.getD 31 undef=vI i:=(hk7 31 rfl).trans v31b
   have hv32:a6.eval (.tmp 32) = .bool (decide (i<l.length)):=slot_v R6 hq
   clear R6 hk7 hq hz k29 k30 k31 S6 i5 v29 v30 v31b
   refine wp_seq ?_
   by_cases hc:i<l.length
   ·rw [decide_eq_true hc] at hv32
    refine wp_cond hv32 ?_
    refine wp_skip ?_
    have hw:=wrapN hc hs
    have g1:=rowsF_getD hc
    have g2:=fieldsB_at hf hc
    have g3:=fieldB_le g2
    have g4:=fieldT_len (l.getD i ([],[]))
    have hci:((i:Int)<(l.length:Int)):=by omega
    refine wp_seq ?_
    refine wp_block ?_
    refine wp_seq ?_
    have R7:=S7.rel (sl:=[.dead,.rptr [.v (vS me),.v (vS ta),.v (vI (st:Nat)),.v (vS re),.v (vB ba),.imm 105 (rowsF l),.v (vS bo)],.v (vS []),.v (.pointer (some ⟨w1.heap.size,0,none⟩)),.dead,.dead,.dead,.dead,.dead,.dead,.dead,.dead,.dead,.dead,.dead,.dead,.dead,.dead,.dead,.dead,.dead,.dead,.dead,.dead,.dead,.dead,.dead,.dead,.dead,.imm 105 (rowsF l),.v (vI l.length),.v (vI i),.dead,.dead,.dead,.dead,.dead,.dead,.dead,.dead,.dead,.dead,.dead,.dead,.dead,.dead,.dead,.dead,.dead,.dead,.dead,.dead,.dead,.dead,.dead,.dead,.dead,.dead,.dead,.dead,.dead,.dead,.dead,.dead,.dead,.dead,.dead]) rfl (gS S7) (known_of (by
     have k1:=i7.k1 hds
     have k2:=i7.k2 (w1:=w1)
     have k3:=i7.k3 (w1:=w1)
     have k29:PV prog w1 w1.heap.size (.imm 105 (rowsF l)) (a6.tmps.getD 29 undef):=by rw [u29]; exact hX5.1
     have k30:PV prog w1 w1.heap.size (.v (vI l.length)) (a6.tmps.getD 30 undef):=pv_eq u30 rfl rfl
     have k31:PV prog w1 w1.heap.size (.v (vI i)) (a6.tmps.getD 31 undef):=pv_eq u31 rfl rfl
     repeat' (first | exact knownF_rep | exact knownF_nil | refine knownF_cons (.inl rfl) ?_ | refine knownF_cons (.inr (by assumption)) ?_)))
    refine wp_of (op_ok (cfg:=kcfg [1,2,3,29,30,31]) tbOk) R7 (fun x E=>x = .normal∧E.sl.length=67∧E.forget (fun t => !([3,5]:List Nat).contains t)=((pC 67 [.dead,.dead,.dead,.v (.pointer (some ⟨w1.heap.size,0,none⟩)),.dead,.cref 5 0] [none,none,none,none,none,some [.v (vS (l.getD i ([],[])).1),.v (vS (l.getD i ([],[])).2)]]):Env)) ?_ ?_
    ·simp only [go_sem,Nat.reduceLeDiff,Nat.reduceLT,Nat.reduceAdd,Nat.reduceBEq,kcfg,rowsF_length,hci,g1]
     first | rfl | exact ⟨rfl,rfl,rfl⟩
    rintro x C R8 hP hk8 ⟨rfl,hz,hE5⟩
    have S8:=S7.after R8 hz
    have i8:I3 w1.heap.size pM C.a:=i7.keep (hk8 1 rfl) (hk8 2 rfl) (hk8 3 rfl)
    have y29:C.a.tmps.getD 29 undef=X 5:=(hk8 29 rfl).trans u29
    have y30:C.a.tmps.getD 30 undef=vI l.length:=(hk8 30 rfl).trans u30
    have y31:C.a.tmps.getD 31 undef=vI i:=(hk8 31 rfl).trans u31
    have R9:=R8.forget (fun t => !([3,5]:List Nat).contains t)
    rw [hE5] at R9
    refine (?_:Code.wp _ _ _ ({ C with E:=((pC 67 [.dead,.dead,.dead,.v (.pointer (some ⟨w1.heap.size,0,none⟩)),.dead,.cref 5 0] [none,none,none,none,none,some [.v (vS (l.getD i ([],[])).1),.v (vS (l.getD i ([],[])).2)]]):Env) }:Ctx).a ({ C with E:=((pC 67 [.dead,.dead,.dead,.v (.pointer (some ⟨w1.heap.size,0,none⟩)),.dead,.cref 5 0] [none,none,none,none,none,some [.v (vS (l.getD i ([],[])).1),.v (vS (l.getD i ([],[])).2)]]):Env) }:Ctx).w)
    refine BSt.write_in (op_ok (cfg:=kcfg [1,2,3,29,30,31]) tbOk) lays166 join_Builder_Extra_156 ent74 S7 R9 hP 3 rfl rfl rfl rfl rfl rfl rfl rfl i8.2.2 (y:=37) (s:=fieldT (l.getD i ([],[]))++[13,10]) (by simp only [List.length_append,List.length_cons,List.length_nil,g4]; omega) ?_ ?_
    ·dsimp only [List.take_succ_cons,List.take_zero,List.toList_toArray]
     simp only [go_sem,Nat.reduceAdd,Nat.reduceBEq,kcfg]
     refine cf (c94 _ _ (by omega) (by omega)) ?_
     simp only [go_sem,Nat.reduceLeDiff,Nat.reduceAdd]
     repeat' with_reducible refine And.intro (by (try simp only [List.length_append,List.length_cons,List.length_nil,g4]); omega) ?_
     try ((try simp only [g4]); omega)
    intro a7 w7 S9 hk9
    have i9:I3 w1.heap.size pM a7:=i8.keep (hk9 1 rfl (by decide)) (hk9 2 rfl (by decide)) (hk9 3 rfl (by decide))
    have z29:a7.tmps.getD 29 undef=X 5:=(hk9 29 rfl (by decide)).trans y29
    have z30:a7.tmps.getD 30 undef=vI l.length:=(hk9 30 rfl (by decide)).trans y30
    have z31:a7.tmps.getD 31 undef=vI i:=(hk9 31 rfl (by decide)).trans y31
    have hsn:Fx++fieldsT (l.take i)++(fieldT (l.getD i ([],[]))++[13,10])=Fx++fieldsT (l.take (i+1)):=by
     rw [fieldsT_snoc hc,List.append_assoc]; rfl
    rw [hsn] at S9
    clear R7 R8 R9 hk8 hk9 S8
    refine BSt.run (op_ok (cfg:=kcfg [1,2,3,29,30]) tbOk) S9 (sl:=[.dead,.rptr [.v (vS me),.v (vS ta),.v (vI (st:Nat)),.v (vS re),.v (vB ba),.imm 105 (rowsF l),.v (vS bo)],.v (vS []),.v (.pointer (some ⟨w1.heap.size,0,none⟩)),.dead,.dead,.dead,.dead,.dead,.dead,.dead,.dead,.dead,.dead,.dead,.dead,.dead,.dead,.dead,.dead,.dead,.dead,.dead,.dead,.dead,.dead,.dead,.dead,.dead,.imm 105 (rowsF l),.v (vI l.length),.v (vI i),.dead,.dead,.dead,.dead,.dead,.dead,.dead,.dead,.dead,.dead,.dead,.dead,.dead,.dead,.dead,.dead,.dead,.dead,.dead,.dead,.dead,.dead,.dead,.dead,.dead,.dead,.dead,.dead,.dead,.dead,.dead,.dead,.dead,.dead,.dead]) rfl (gS S9) (known_of (by
     have k1:=i9.k1 hds
     have k2:=i9.k2 (w1:=w1)
     have k3:=i9.k3 (w1:=w1)
     have k29:PV prog w1 w1.heap.size (.imm 105 (rowsF l)) (a7.tmps.getD 29 undef):=by rw [z29]; exact hX5.1
     have k30:PV prog w1 w1.heap.size (.v (vI l.length)) (a7.tmps.getD 30 undef):=pv_eq z30 rfl rfl
     have k31:PV prog w1 w1.heap.size (.v (vI i)) (a7.tmps.getD 31 undef):=pv_eq z31 rfl rfl
     repeat' (first | exact knownF_rep | exact knownF_nil | refine knownF_cons (.inl rfl) ?_ | refine knownF_cons (.inr (by assumption)) ?_))) (fun x E=>x = .normal∧E.sl.length=67∧E.sl.getD 31 .dead = .v (vI (i+1:Nat))) ?_ (fun _ _ h=>h.2.1) ?_
    ·simp only [go_sem,Nat.reduceAdd,Nat.reduceBEq,kcfg,hw]
    rintro x ⟨P',E,a8,w8,F8,loc8,M8⟩ R10 hP S10 hk10 ⟨rfl,hz,hq⟩
    exact ih a8 (i9.keep (hk10 1 rfl) (hk10 2 rfl) (hk10 3 rfl)) ((hk10 29 rfl).trans z29) ((hk10 30 rfl).trans z30) w8 (i+1) hc S10 (slot_v R10 hq) (by omega)
   ·rw [decide_eq_false hc] at hv32
    refine wp_cond hv32 ?_
    refine wp_exit ?_
    have he:i=l.length:=by omega
    subst he
    rw [List.take_of_length_le (Nat.le_refl _)] at S7
    exact ⟨rfl,S7,i7⟩
 refine wp_seq ?_
 refine BSt.run (op_ok (cfg:=kcfg [1,2,3]) tbOk) S1 (sl:=([.dead,.rptr [.v (vS me),.v (vS ta),.v (vI (st:Nat)),.v (vS re),.v (vB ba),.imm 105 (rowsF l),.v (vS bo)],.v (vS []),.v (.pointer (some ⟨w1.heap.size,0,none⟩))]++List.replicate 63 .dead)) rfl (gS S1) (known_of (by
  have k1:=i3.k1 hds
  have k2:=i3.k2 (w1:=w1)
  have k3:=i3.k3 (w1:=w1)
  repeat' (first | exact knownF_rep | exact knownF_nil | refine knownF_cons (.inl rfl) ?_ | refine knownF_cons (.inr (by assumption)) ?_))) (fun x E=>x = .normal∧E.sl.length=67∧E.sl.getD 8 .dead = .v (vB (!(me==[])))) ?_ (fun _ _ h=>h.2.1) ?_
 ·simp only [go_sem,Nat.reduceLeDiff,Nat.reduceAdd,Nat.reduceBEq,kcfg]
 rintro x ⟨P',E,a3,w3,F3,loc3,M3⟩ R3 hP S3 hk3 ⟨rfl,hz,hq⟩
 have S3:BSt 115 5 w1 w1.heap.size a3 w3 67 []:=S3
 have i3:I3 w1.heap.size pM a3:=i3.keep (hk3 1 rfl) (hk3 2 rfl) (hk3 3 rfl)
 have hv8:a3.eval (.tmp 8) = .bool (!(me==[])):=slot_v R3 hq
 clear R3 hk3 hq hz
 have K3:Known prog w1 w1.heap.size a3 ([.dead,.rptr [.v (vS me),.v (vS ta),.v (vI (st:Nat)),.v (vS re),.v (vB ba),.imm 105 (rowsF l),.v (vS bo)],.v (vS []),.v (.pointer (some ⟨w1.heap.size,0,none⟩))]++List.replicate 63 .dead):=known_of (by
  have k1:=i3.k1 hds
  have k2:=i3.k2 (w1:=w1)
  have k3:=i3.k3 (w1:=w1)
  repeat' (first | exact knownF_rep | exact knownF_nil | refine knownF_cons (.inl rfl) ?_ | refine knownF_cons (.inr (by assumption)) ?_))
 refine wp_cond hv8 ?_
 cases hm:me==[]
 ·have hF:firstT me ta st re=me++[32]++ta++[32,72,84,84,80,47,49,46,49]++[13,10]:=by
   unfold firstT; rw [hm]; rfl
  rw [hF]
  refine BSt.write (op_ok (cfg:=kcfg [1,2,3]) tbOk) lays166 join_Builder_Extra_156 ent74 S3 (sl:=([.dead,.rptr [.v (vS me),.v (vS ta),.v (vI (st:Nat)),.v (vS re),.v (vB ba),.imm 105 (rowsF l),.v (vS bo)],.v (vS []),.v (.pointer (some ⟨w1.heap.size,0,none⟩))]++List.replicate 63 .dead)) rfl (gS S3) K3 8 rfl rfl rfl rfl rfl rfl rfl rfl i3.2.2 (y:=16) (s:=me++[32]++ta++[32,72,84,84,80,47,49,46,49]++[13,10]) (by simp; omega) ?_ ?_
  ·dsimp only [List.take_succ_cons,List.take_zero,List.toList_toArray]
   simp only [go_sem,Nat.reduceLeDiff,Nat.reduceAdd,Nat.reduceBEq,kcfg]
   repeat' with_reducible refine And.intro (by (try simp only [List.length_append,List.length_cons,List.length_nil]); omega) ?_
   try ((try simp only [List.length_append,List.length_cons,List.length_nil]); omega)
  intro a4 w4 S4 hk4
  exact ⟨rfl,S4,i3.keep (hk4 1 rfl (by decide)) (hk4 2 rfl (by decide)) (hk4 3 rfl (by decide))⟩
 ·have hm1:me=[]:=by simpa using hm
  have hF:firstT me ta st re=72::84::84::80::47::49::46::49::32::(Lib.itoa st++[32]++re++[13,10]):=by
   unfold firstT; rw [hm]; simp [httpA,crlf]
  rw [hF]
  have d3:(Lib.itoa (st:Int)).length≤st+1:=by rw [itoa_nat]; exact d1
  refine BSt.write_draw (op_ok (cfg:=kcfg [1,2,3]) tbOk) lays166 join_Builder_Extra_156 ent74 S3 (sl:=([.dead,.rptr [.v (vS me),.v (vS ta),.v (vI (st:Nat)),.v (vS re),.v (vB ba),.imm 105 (rowsF l),.v (vS bo)],.v (vS []),.v (.pointer (some ⟨w1.heap.size,0,none⟩))]++List.replicate 63 .dead)) rfl (gS S3) K3 mixedOk 9 [[19,20,21,22,23,24,25,26],[20,21,22,23,24,25,26],[18,21,22,23,24,25,26],[18,19,22,23,24,25,26],[18,19,20,23,24,25,26],[18,19,20,21,22,24,25,26],[18,19,20,21,22,25,26],[18,19,20,21,23,26],[18,19,20,21,22,23,24]] rfl rfl rfl rfl rfl rfl rfl rfl rfl i3.2.2 (y:=26) (s:=72::84::84::80::47::49::46::49::32::(Lib.itoa st++[32]++re++[13,10])) (by simp; omega) ?_ ?_
  ·simp only [go_sem,Nat.reduceLeDiff,Nat.reduceAdd,Nat.reduceBEq,kcfg]
   refine df (c93 st (by omega) (by omega) (by omega)) ?_
   simp only [go_sem,Nat.reduceLeDiff,Nat.reduceAdd,Nat.reduceBEq]
   repeat' with_reducible refine And.intro (by (try simp only [List.length_append,List.length_cons,List.length_nil]); omega) ?_
   try ((try simp only [List.length_append,List.length_cons,List.length_nil]); omega)
  intro a4 w4 S4 hk4
  exact ⟨rfl,S4,i3.keep (hk4 1 rfl (by decide)) (hk4 2 rfl (by decide)) (hk4 3 rfl (by decide))⟩
end Go.Proofs.YtbdfdfhamlmodaaGreatDoor.Fw
namespace Go.Proofs.YtbdfdfhamlmodaaGreatDoor.Fw
open Go
open Go.Proofs.Tryz
set_option maxRecDepth 100000
set_option maxHeartbeats 4000000
attribute [local congr] c_bnd c_slot c_cell c_all c_len c_chk c_asm c_opdR c_wp c_pwp c_pOps c_Done c_nx c_blk c_fin c_coeLeaf c_coeLeaves c_argR c_argsR c_partsR c_ite c_wpF c_OutF c_pHead c_pHeadN c_pDraw
section
variable (l:List Fld)
theorem fD_mv {p:Lf}:mvLeaf p (fD l)=fD l:=by cases l<;>rfl
theorem fD_as {t:Nat}:asMove t (fD l)=fD l:=by cases l<;>rfl
theorem fD_own:D.isOwn (fD l)=false:=by cases l<;>rfl
theorem fD_oi:D.ownish (fD l)=false:=by cases l<;>rfl
theorem fD_mp {g:Nat→D→D}:D.mapP g (fD l)=g 0 (fD l):=by cases l<;>rfl
theorem fD_lf {g:Lf→D→D} {p:Lf}:lf1 g p (fD l)=g p (fD l):=by cases l<;>rfl
theorem fD_rb {q p:Lf}:reB q p (fD l)=fD l:=by cases l<;>rfl
theorem fD_wb {r:Lf}:wbG [] r (fD l)=fD l:=by cases l<;>rfl
theorem fD_bn {α:Type} {k:D→Rdr α}:bnd (fD l) k=k (fD l):=id rfl
theorem fD_ar {tb:Tab} {acc:CallAcc} {k:CallAcc→Rdr Stp} (h:tb.kd 23=some (.slice 105)):argR tb 23 0 (fD l) acc k=k (acc.push (.imm 105 (rowsF l)) [] []):=by
 cases l
 ·show argR tb 23 0 .nil acc k=_; rw [ar_nil,h]; rfl
 ·rfl
end
theorem fD_res {me ta re bo:List UInt8} {st:Int} {ba:Bool} {l:List Fld} {a b:Value}:D.anyL (fun d => !d.resLeaf) (.tup [mD me ta st re ba (fD l) bo,.v a,.v b])=false:=by cases l<;>rfl
theorem callf {P:Program} {K:Env→Prop} {E:Env} {f:FuncId} {a0 a1 d0 d1 r:D} {ce cl:List (Option (List D))} {t:Nat} {q:Prop} (h:Sem P f ⟨[a0,a1],ce⟩ ⟨[d0,d1,r],cl⟩) (h3:r.anyL (fun d => !d.resLeaf)=false) (x:q)
  (e:K (E.app [.ca [] [] [],.rw t r])=q:=by simp only [go_sem,Nat.reduceLeDiff,Nat.reduceLT,Nat.reduceAdd,Nat.reduceSub,Nat.reduceMul,Nat.reduceBEq,Nat.reduceBNe,Nat.reduceEqDiff,reduceCtorEq,reduceIte,Int.reduceLT,Int.reduceLE,Int.reduceAdd,Int.reduceSub,Int.reduceNeg,Int.reduceEq,Int.reduceBEq,Int.reduceBNe,Int.reduceToNat,Nat.reduceDiv,Nat.reduceMod, *]; rfl):Done P K E (.call f ⟨[a0,a1],ce⟩ (retW ⟨[a0,a1],ce,[],[],[],[]⟩ (some t))):=by
 cases h4:r.anyL D.isImm
 ·exact ev_call h (retW0 rfl rfl h3 h4) (e▸x)
 ·exact ev_call (ws:=[.fz [],.ca [] [] [],.rw t r]) h (retWi rfl rfl h3 h4) (by have e2:K (E.app [.fz [],.ca [] [] [],.rw t r])=q:=e; exact e2▸x)
attribute [local go_sem ↓ high] fD_mv fD_as fD_own fD_oi fD_mp fD_lf fD_rb fD_bn fD_ar fD_wb
attribute [local go_sem] sdF_nil rowsF_length
theorem headR_code {t:List UInt8} {an:Bool} {k:Nat} (h:headR t an = .error k):k≠0:=by
 have hd:∀ (n a:Nat) (l:List Fld) (k:Nat),hdR t n a l = .error k→k≠0:=by
  intro n
  induction n with
  | zero=>intro a l k h; injection h with h; omega
  | succ n ih =>
   intro a l k h
   unfold hdR at h
   repeat' split at h
   all_goals first | exact ih _ _ _ h | (injection h with h; omega) | cases h
 unfold headR at h
 repeat' split at h
 all_goals first
  | (injection h with h; omega)
  | cases h
  | (rename_i me ta st re _; cases hh:hdR t 21 _ [] with | error j=>(rw [hh] at h; injection h with h; subst h; exact hd _ _ _ _ hh) | ok r=>(rw [hh] at h; cases h))
theorem fram_le (l:List Fld) (an ba:Bool):(framR l an ba).1≤4:=by
 unfold framR
 repeat' split
 all_goals (simp only; omega)
def AB (an hd:Bool) (st:Int) (ba:Bool):Prop:=(an=false∧ba=false)∨(an=true∧hd=true∧ba=true)∨(an=true∧hd=false∧ba=bareB st)
theorem AB_of (an hd:Bool) (st:Int):AB an hd st (an&&(hd || bareB st)):=by
 cases an
 ·exact .inl ⟨rfl,rfl⟩
 ·cases hd
  ·exact .inr (.inr ⟨rfl,rfl,by simp⟩)
  ·exact .inr (.inl ⟨rfl,rfl,rfl⟩)
section
variable (t:List UInt8) (hl:t.length≤1048576) (an hd:Bool)
include hl
theorem c45e (k:Nat) (hk:k≠0) (h:headR t an = .error k):Q3 45 (.v (vS t)) (.v (vB an)) (.v (vB hd)) (readE (.error k)):=by
 have x1:=c110 t an hl
 rw [h] at x1
 simp only [headD] at x1
 have h1:((k:Int) != 0)=true:=by rw [bne_iff_ne]; omega
 clear h hk
 refine sb 3 [.ce 6 25,.tm 7] func45 ?_
 refine call0 x1 ?_
 exact fz
variable (me ta re:List UInt8) (st a:Nat) (l:List Fld) (ba:Bool) (k n:Nat) (h:headR t an = .ok (me,ta,st,re,a,l)) (hab:AB an hd st ba) (hfr:framR l an ba=(k,n))
include h hab hfr
theorem c45a (hk:k=4):Q3 45 (.v (vS t)) (.v (vB an)) (.v (vB hd)) (readE (.error 400)):=by
 have hL:t.length≤9223372036854775807:=by omega
 obtain ⟨ha,hfl,b1,b2,b3⟩:=headR_ok h
 have hsm:=small_of hfl
 have x1:=c110 t an hl
 rw [h] at x1
 simp only [headD] at x1
 have x2:=c91 st
 have x3:=c111 l hsm an ba
 rw [hfr] at x3
 simp only [framD] at x3
 have hr:(t.drop a).length≤9223372036854775807:=by rw [List.length_drop]; omega
 have t1:(t.drop a).take (t.length-a)=t.drop a:=take_rest
 subst hk
 clear h hfr
 rcases hab with ⟨rfl,rfl⟩ | ⟨rfl,rfl,rfl⟩ | ⟨rfl,rfl,rfl⟩
 all_goals refine sb 3 [.ce 6 25,.tm 7] func45 ?_
 all_goals refine callf x1 fD_res ?_
 rotate_left 2
 refine call0 x2 ?_
 rotate_left 1
 all_goals refine call0 x3 ?_
 all_goals exact fz
theorem c45b (hk:k=0) (h0:¬ t.drop a=[]):Q3 45 (.v (vS t)) (.v (vB an)) (.v (vB hd)) (readE (.error 400)):=by
 have hL:t.length≤9223372036854775807:=by omega
 obtain ⟨ha,hfl,b1,b2,b3⟩:=headR_ok h
 have hsm:=small_of hfl
 have x1:=c110 t an hl
 rw [h] at x1
 simp only [headD] at x1
 have x2:=c91 st
 have x3:=c111 l hsm an ba
 rw [hfr] at x3
 simp only [framD] at x3
 have hr:(t.drop a).length≤9223372036854775807:=by rw [List.length_drop]; omega
 have t1:(t.drop a).take (t.length-a)=t.drop a:=take_rest
 subst hk
 have h1:(t.drop a==[])=false:=beq_eq_false_iff_ne.2 h0
 clear h0
 clear h hfr
 rcases hab with ⟨rfl,rfl⟩ | ⟨rfl,rfl,rfl⟩ | ⟨rfl,rfl,rfl⟩
 all_goals refine sb 3 [.ce 6 25,.tm 7] func45 ?_
 all_goals refine callf x1 fD_res ?_
 rotate_left 2
 refine call0 x2 ?_
 rotate_left 1
 all_goals refine call0 x3 ?_
 all_goals exact fz
theorem c45c (hk:k=1) (h0:600<n):Q3 45 (.v (vS t)) (.v (vB an)) (.v (vB hd)) (readE (.error 413)):=by
 have hL:t.length≤9223372036854775807:=by omega
 obtain ⟨ha,hfl,b1,b2,b3⟩:=headR_ok h
 have hsm:=small_of hfl
 have x1:=c110 t an hl
 rw [h] at x1
 simp only [headD] at x1
 have x2:=c91 st
 have x3:=c111 l hsm an ba
 rw [hfr] at x3
 simp only [framD] at x3
 have hr:(t.drop a).length≤9223372036854775807:=by rw [List.length_drop]; omega
 have t1:(t.drop a).take (t.length-a)=t.drop a:=take_rest
 subst hk
 have h1:(600:Int)<n:=by omega
 clear h0
 clear h hfr
 rcases hab with ⟨rfl,rfl⟩ | ⟨rfl,rfl,rfl⟩ | ⟨rfl,rfl,rfl⟩
 all_goals refine sb 3 [.ce 6 25,.tm 7] func45 ?_
 all_goals refine callf x1 fD_res ?_
 rotate_left 2
 refine call0 x2 ?_
 rotate_left 1
 all_goals refine call0 x3 ?_
 all_goals exact fz
theorem c45d (hk:k=1) (h0:¬ 600<n) (h2:¬ (t.drop a).length=n):Q3 45 (.v (vS t)) (.v (vB an)) (.v (vB hd)) (readE (.error 400)):=by
 have hL:t.length≤9223372036854775807:=by omega
 obtain ⟨ha,hfl,b1,b2,b3⟩:=headR_ok h
 have hsm:=small_of hfl
 have x1:=c110 t an hl
 rw [h] at x1
 simp only [headD] at x1
 have x2:=c91 st
 have x3:=c111 l hsm an ba
 rw [hfr] at x3
 simp only [framD] at x3
 have hr:(t.drop a).length≤9223372036854775807:=by rw [List.length_drop]; omega
 have t1:(t.drop a).take (t.length-a)=t.drop a:=take_rest
 subst hk
 have h1:¬ (600:Int)<n:=by omega
 have h3:(((t.drop a).length:Int) != n)=true:=by rw [bne_iff_ne]; omega
 clear h0 h2
 clear h hfr
 rcases hab with ⟨rfl,rfl⟩ | ⟨rfl,rfl,rfl⟩ | ⟨rfl,rfl,rfl⟩
 all_goals refine sb 3 [.ce 6 25,.tm 7] func45 ?_
 all_goals refine callf x1 fD_res ?_
 rotate_left 2
 refine call0 x2 ?_
 rotate_left 1
 all_goals refine call0 x3 ?_
 all_goals exact fz
theorem c45f (hk:k=2) (h0:(chR (t.drop a) 0 []).1≠0):Q3 45 (.v (vS t)) (.v (vB an)) (.v (vB hd)) (readE (.error (chR (t.drop a) 0 []).1)):=by
 have hL:t.length≤9223372036854775807:=by omega
 obtain ⟨ha,hfl,b1,b2,b3⟩:=headR_ok h
 have hsm:=small_of hfl
 have x1:=c110 t an hl
 rw [h] at x1
 simp only [headD] at x1
 have x2:=c91 st
 have x3:=c111 l hsm an ba
 rw [hfr] at x3
 simp only [framD] at x3
 have hr:(t.drop a).length≤9223372036854775807:=by rw [List.length_drop]; omega
 have t1:(t.drop a).take (t.length-a)=t.drop a:=take_rest
 subst hk
 have x4:=c43 (t.drop a) (by rw [List.length_drop]; omega)
 generalize chR (t.drop a) 0 []=C at x4 h0 ⊢
 obtain ⟨c,bo⟩:=C
 simp only [chD] at x4
 have h1:((c:Int) != 0)=true:=by rw [bne_iff_ne]; simp only at h0; omega
 clear h0
 clear h hfr
 rcases hab with ⟨rfl,rfl⟩ | ⟨rfl,rfl,rfl⟩ | ⟨rfl,rfl,rfl⟩
 all_goals refine sb 3 [.ce 6 25,.tm 7] func45 ?_
 all_goals refine callf x1 fD_res ?_
 rotate_left 2
 refine call0 x2 ?_
 rotate_left 1
 all_goals refine call0 x3 ?_
 all_goals refine call0 x4 ?_
 all_goals exact fz
theorem c45g (hk:k=3) (h0:600<(t.drop a).length):Q3 45 (.v (vS t)) (.v (vB an)) (.v (vB hd)) (readE (.error 413)):=by
 have hL:t.length≤9223372036854775807:=by omega
 obtain ⟨ha,hfl,b1,b2,b3⟩:=headR_ok h
 have hsm:=small_of hfl
 have x1:=c110 t an hl
 rw [h] at x1
 simp only [headD] at x1
 have x2:=c91 st
 have x3:=c111 l hsm an ba
 rw [hfr] at x3
 simp only [framD] at x3
 have hr:(t.drop a).length≤9223372036854775807:=by rw [List.length_drop]; omega
 have t1:(t.drop a).take (t.length-a)=t.drop a:=take_rest
 subst hk
 have h1:(600:Int)<(t.drop a).length:=by omega
 clear h0
 clear h hfr
 rcases hab with ⟨rfl,rfl⟩ | ⟨rfl,rfl,rfl⟩ | ⟨rfl,rfl,rfl⟩
 all_goals refine sb 3 [.ce 6 25,.tm 7] func45 ?_
 all_goals refine callf x1 fD_res ?_
 rotate_left 2
 refine call0 x2 ?_
 rotate_left 1
 all_goals refine call0 x3 ?_
 all_goals exact fz
end
attribute [local go_sem ↓ high] fD_mv fD_as fD_own fD_oi fD_mp fD_lf fD_rb fD_bn fD_ar fD_wb
attribute [local go_sem] sdF_nil rowsF_length
section
variable (t:List UInt8) (hl:t.length≤1048576) (an hd:Bool)
include hl
variable (me ta re:List UInt8) (st a:Nat) (l:List Fld) (ba:Bool) (k n:Nat) (h:headR t an = .ok (me,ta,st,re,a,l)) (hab:AB an hd st ba) (hfr:framR l an ba=(k,n))
include h hab hfr
theorem c45pn (hk:k=0) (h0:t.drop a=[]) (hn:keepL l=[]):Q3 45 (.v (vS t)) (.v (vB an)) (.v (vB hd)) (if msgB me ta (st:Nat) re ba (keepL l) []=true then readE (.ok (me,ta,st,re,ba,keepL l,[])) else readE (.error 431)):=by
 have hL:t.length≤9223372036854775807:=by omega
 obtain ⟨ha,hfl,b1,b2,b3⟩:=headR_ok h
 have hsm:=small_of hfl
 have x1:=c110 t an hl
 rw [h] at x1
 simp only [headD] at x1
 have x2:=c91 st
 have x3:=c111 l hsm an ba
 rw [hfr] at x3
 simp only [framD] at x3
 have hr:(t.drop a).length≤9223372036854775807:=by rw [List.length_drop]; omega
 have t1:(t.drop a).take (t.length-a)=t.drop a:=take_rest
 subst hk
 have h1:(t.drop a==[])=true:=beq_iff_eq.2 h0
 rw [h0] at t1
 have hk9:fieldsB (keepL l)=true:=keepL_ok hfl
 have x6:=c112 l hsm hfl
 have x7:=c36 c37 me ta st re ba (keepL l) [] (by omega) (by omega) (by omega) (by first | omega | (simp; done)) (small_of hk9)
 rw [hn] at x6 x7 ⊢
 generalize hmb:msgB me ta (st:Nat) re ba [] []=mb at x7 ⊢
 have hok:readE (.ok (me,ta,st,re,ba,[],[])) = .tup [mD me ta (st:Nat) re ba .nil [],.v (vI 0)]:=rfl
 rw [hok]
 clear hok hmb hn hk9 hsm hfl
 clear h hfr
 rcases hab with ⟨rfl,rfl⟩ | ⟨rfl,rfl,rfl⟩ | ⟨rfl,rfl,rfl⟩
 all_goals refine sb 3 [.ce 6 25,.tm 7] func45 ?_
 all_goals refine callf x1 fD_res ?_
 rotate_left 2
 refine call0 x2 ?_
 rotate_left 1
 all_goals refine call0 x3 ?_
 all_goals refine call0 x6 ?_
 all_goals cases mb
 all_goals refine call0 x7 ?_
 all_goals exact fz
theorem c45po (hk:k=0) (h0:t.drop a=[]) (hn:keepL l≠[]):Q3 45 (.v (vS t)) (.v (vB an)) (.v (vB hd)) (if msgB me ta (st:Nat) re ba (keepL l) []=true then readE (.ok (me,ta,st,re,ba,keepL l,[])) else readE (.error 431)):=by
 have hL:t.length≤9223372036854775807:=by omega
 obtain ⟨ha,hfl,b1,b2,b3⟩:=headR_ok h
 have hsm:=small_of hfl
 have x1:=c110 t an hl
 rw [h] at x1
 simp only [headD] at x1
 have x2:=c91 st
 have x3:=c111 l hsm an ba
 rw [hfr] at x3
 simp only [framD] at x3
 have hr:(t.drop a).length≤9223372036854775807:=by rw [List.length_drop]; omega
 have t1:(t.drop a).take (t.length-a)=t.drop a:=take_rest
 subst hk
 have h1:(t.drop a==[])=true:=beq_iff_eq.2 h0
 rw [h0] at t1
 have hk9:fieldsB (keepL l)=true:=keepL_ok hfl
 have x6:=c112 l hsm hfl
 have x7:=c36 c37 me ta st re ba (keepL l) [] (by omega) (by omega) (by omega) (by first | omega | (simp; done)) (small_of hk9)
 have hsd:=sd_own (e:=105) (rowsF_ne hn)
 rw [hsd] at x6
 generalize hmb:msgB me ta (st:Nat) re ba (keepL l) []=mb at x7 ⊢
 have hok:readE (.ok (me,ta,st,re,ba,keepL l,[])) = .tup [mD me ta (st:Nat) re ba (.own 105 (rowsF (keepL l))) [],.v (vI 0)]:=by show D.tup [mD me ta (st:Nat) re ba (sd 105 (rowsF (keepL l))) [],.v (vI 0)]=_; rw [hsd]
 generalize rowsF (keepL l)=KL at x6 x7 hok
 clear hsd
 rw [hok]
 clear hok hmb hn hk9 hsm hfl
 clear h hfr
 rcases hab with ⟨rfl,rfl⟩ | ⟨rfl,rfl,rfl⟩ | ⟨rfl,rfl,rfl⟩
 all_goals refine sb 3 [.ce 6 25,.tm 7] func45 ?_
 all_goals refine callf x1 fD_res ?_
 rotate_left 2
 refine call0 x2 ?_
 rotate_left 1
 all_goals refine call0 x3 ?_
 all_goals refine call0 x6 ?_
 all_goals cases mb
 all_goals refine call0 x7 ?_
 all_goals exact fz
theorem c45qn (hk:k=1) (h0:¬ 600<n) (h2:(t.drop a).length=n) (hn:keepL l=[]):Q3 45 (.v (vS t)) (.v (vB an)) (.v (vB hd)) (if msgB me ta (st:Nat) re ba (keepL l) (t.drop a)=true then readE (.ok (me,ta,st,re,ba,keepL l,(t.drop a))) else readE (.error 431)):=by
 have hL:t.length≤9223372036854775807:=by omega
 obtain ⟨ha,hfl,b1,b2,b3⟩:=headR_ok h
 have hsm:=small_of hfl
 have x1:=c110 t an hl
 rw [h] at x1
 simp only [headD] at x1
 have x2:=c91 st
 have x3:=c111 l hsm an ba
 rw [hfr] at x3
 simp only [framD] at x3
 have hr:(t.drop a).length≤9223372036854775807:=by rw [List.length_drop]; omega
 have t1:(t.drop a).take (t.length-a)=t.drop a:=take_rest
 subst hk
 have h1:¬ (600:Int)<n:=by omega
 have h3:(((t.drop a).length:Int) != n)=false:=by rw [h2]; simp
 clear h0 h2
 have hk9:fieldsB (keepL l)=true:=keepL_ok hfl
 have x6:=c112 l hsm hfl
 have x7:=c36 c37 me ta st re ba (keepL l) (t.drop a) (by omega) (by omega) (by omega) (by first | omega | (simp; done)) (small_of hk9)
 rw [hn] at x6 x7 ⊢
 generalize hmb:msgB me ta (st:Nat) re ba [] (t.drop a)=mb at x7 ⊢
 have hok:readE (.ok (me,ta,st,re,ba,[],(t.drop a))) = .tup [mD me ta (st:Nat) re ba .nil (t.drop a),.v (vI 0)]:=rfl
 rw [hok]
 clear hok hmb hn hk9 hsm hfl
 clear h hfr
 rcases hab with ⟨rfl,rfl⟩ | ⟨rfl,rfl,rfl⟩ | ⟨rfl,rfl,rfl⟩
 all_goals refine sb 3 [.ce 6 25,.tm 7] func45 ?_
 all_goals refine callf x1 fD_res ?_
 rotate_left 2
 refine call0 x2 ?_
 rotate_left 1
 all_goals refine call0 x3 ?_
 all_goals refine call0 x6 ?_
 all_goals cases mb
 all_goals refine call0 x7 ?_
 all_goals exact fz
theorem c45qo (hk:k=1) (h0:¬ 600<n) (h2:(t.drop a).length=n) (hn:keepL l≠[]):Q3 45 (.v (vS t)) (.v (vB an)) (.v (vB hd)) (if msgB me ta (st:Nat) re ba (keepL l) (t.drop a)=true then readE (.ok (me,ta,st,re,ba,keepL l,(t.drop a))) else readE (.error 431)):=by
 have hL:t.length≤9223372036854775807:=by omega
 obtain ⟨ha,hfl,b1,b2,b3⟩:=headR_ok h
 have hsm:=small_of hfl
 have x1:=c110 t an hl
 rw [h] at x1
 simp only [headD] at x1
 have x2:=c91 st
 have x3:=c111 l hsm an ba
 rw [hfr] at x3
 simp only [framD] at x3
 have hr:(t.drop a).length≤9223372036854775807:=by rw [List.length_drop]; omega
 have t1:(t.drop a).take (t.length-a)=t.drop a:=take_rest
 subst hk
 have h1:¬ (600:Int)<n:=by omega
 have h3:(((t.drop a).length:Int) != n)=false:=by rw [h2]; simp
 clear h0 h2
 have hk9:fieldsB (keepL l)=true:=keepL_ok hfl
 have x6:=c112 l hsm hfl
 have x7:=c36 c37 me ta st re ba (keepL l) (t.drop a) (by omega) (by omega) (by omega) (by first | omega | (simp; done)) (small_of hk9)
 have hsd:=sd_own (e:=105) (rowsF_ne hn)
 rw [hsd] at x6
 generalize hmb:msgB me ta (st:Nat) re ba (keepL l) (t.drop a)=mb at x7 ⊢
 have hok:readE (.ok (me,ta,st,re,ba,keepL l,(t.drop a))) = .tup [mD me ta (st:Nat) re ba (.own 105 (rowsF (keepL l))) (t.drop a),.v (vI 0)]:=by show D.tup [mD me ta (st:Nat) re ba (sd 105 (rowsF (keepL l))) (t.drop a),.v (vI 0)]=_; rw [hsd]
 generalize rowsF (keepL l)=KL at x6 x7 hok
 clear hsd
 rw [hok]
 clear hok hmb hn hk9 hsm hfl
 clear h hfr
 rcases hab with ⟨rfl,rfl⟩ | ⟨rfl,rfl,rfl⟩ | ⟨rfl,rfl,rfl⟩
 all_goals refine sb 3 [.ce 6 25,.tm 7] func45 ?_
 all_goals refine callf x1 fD_res ?_
 rotate_left 2
 refine call0 x2 ?_
 rotate_left 1
 all_goals refine call0 x3 ?_
 all_goals refine call0 x6 ?_
 all_goals cases mb
 all_goals refine call0 x7 ?_
 all_goals exact fz
theorem c45rn (hk:k=2) (h0:(chR (t.drop a) 0 []).1=0) (hn:keepL l=[]):Q3 45 (.v (vS t)) (.v (vB an)) (.v (vB hd)) (if msgB me ta (st:Nat) re ba (keepL l) (chR (t.drop a) 0 []).2=true then readE (.ok (me,ta,st,re,ba,keepL l,(chR (t.drop a) 0 []).2)) else readE (.error 431)):=by
 have hL:t.length≤9223372036854775807:=by omega
 obtain ⟨ha,hfl,b1,b2,b3⟩:=headR_ok h
 have hsm:=small_of hfl
 have x1:=c110 t an hl
 rw [h] at x1
 simp only [headD] at x1
 have x2:=c91 st
 have x3:=c111 l hsm an ba
 rw [hfr] at x3
 simp only [framD] at x3
 have hr:(t.drop a).length≤9223372036854775807:=by rw [List.length_drop]; omega
 have t1:(t.drop a).take (t.length-a)=t.drop a:=take_rest
 subst hk
 have x4:=c43 (t.drop a) (by rw [List.length_drop]; omega)
 have hb9:=chR_len (t.drop a) _ 0 [] (Nat.lt_succ_self _) (Nat.zero_le _)
 generalize chR (t.drop a) 0 []=C at x4 h0 hb9 ⊢
 obtain ⟨c,bo⟩:=C
 simp only at h0 hb9
 subst h0
 simp only [chD] at x4
 dsimp only
 have hk9:fieldsB (keepL l)=true:=keepL_ok hfl
 have x6:=c112 l hsm hfl
 have x7:=c36 c37 me ta st re ba (keepL l) bo (by omega) (by omega) (by omega) (by omega) (small_of hk9)
 rw [hn] at x6 x7 ⊢
 generalize hmb:msgB me ta (st:Nat) re ba [] bo=mb at x7 ⊢
 have hok:readE (.ok (me,ta,st,re,ba,[],bo)) = .tup [mD me ta (st:Nat) re ba .nil bo,.v (vI 0)]:=rfl
 rw [hok]
 clear hok hmb hn hk9 hsm hfl
 clear h hfr
 rcases hab with ⟨rfl,rfl⟩ | ⟨rfl,rfl,rfl⟩ | ⟨rfl,rfl,rfl⟩
 all_goals refine sb 3 [.ce 6 25,.tm 7] func45 ?_
 all_goals refine callf x1 fD_res ?_
 rotate_left 2
 refine call0 x2 ?_
 rotate_left 1
 all_goals refine call0 x3 ?_
 all_goals refine call0 x4 ?_
 all_goals refine call0 x6 ?_
 all_goals cases mb
 all_goals refine call0 x7 ?_
 all_goals exact fz
theorem c45ro (hk:k=2) (h0:(chR (t.drop a) 0 []).1=0) (hn:keepL l≠[]):Q3 45 (.v (vS t)) (.v (vB an)) (.v (vB hd)) (if msgB me ta (st:Nat) re ba (keepL l) (chR (t.drop a) 0 []).2=true then readE (.ok (me,ta,st,re,ba,keepL l,(chR (t.drop a) 0 []).2)) else readE (.error 431)):=by
 have hL:t.length≤9223372036854775807:=by omega
 obtain ⟨ha,hfl,b1,b2,b3⟩:=headR_ok h
 have hsm:=small_of hfl
 have x1:=c110 t an hl
 rw [h] at x1
 simp only [headD] at x1
 have x2:=c91 st
 have x3:=c111 l hsm an ba
 rw [hfr] at x3
 simp only [framD] at x3
 have hr:(t.drop a).length≤9223372036854775807:=by rw [List.length_drop]; omega
 have t1:(t.drop a).take (t.length-a)=t.drop a:=take_rest
 subst hk
 have x4:=c43 (t.drop a) (by rw [List.length_drop]; omega)
 have hb9:=chR_len (t.drop a) _ 0 [] (Nat.lt_succ_self _) (Nat.zero_le _)
 generalize chR (t.drop a) 0 []=C at x4 h0 hb9 ⊢
 obtain ⟨c,bo⟩:=C
 simp only at h0 hb9
 subst h0
 simp only [chD] at x4
 dsimp only
 have hk9:fieldsB (keepL l)=true:=keepL_ok hfl
 have x6:=c112 l hsm hfl
 have x7:=c36 c37 me ta st re ba (keepL l) bo (by omega) (by omega) (by omega) (by omega) (small_of hk9)
 have hsd:=sd_own (e:=105) (rowsF_ne hn)
 rw [hsd] at x6
 generalize hmb:msgB me ta (st:Nat) re ba (keepL l) bo=mb at x7 ⊢
 have hok:readE (.ok (me,ta,st,re,ba,keepL l,bo)) = .tup [mD me ta (st:Nat) re ba (.own 105 (rowsF (keepL l))) bo,.v (vI 0)]:=by show D.tup [mD me ta (st:Nat) re ba (sd 105 (rowsF (keepL l))) bo,.v (vI 0)]=_; rw [hsd]
 generalize rowsF (keepL l)=KL at x6 x7 hok
 clear hsd
 rw [hok]
 clear hok hmb hn hk9 hsm hfl
 clear h hfr
 rcases hab with ⟨rfl,rfl⟩ | ⟨rfl,rfl,rfl⟩ | ⟨rfl,rfl,rfl⟩
 all_goals refine sb 3 [.ce 6 25,.tm 7] func45 ?_
 all_goals refine callf x1 fD_res ?_
 rotate_left 2
 refine call0 x2 ?_
 rotate_left 1
 all_goals refine call0 x3 ?_
 all_goals refine call0 x4 ?_
 all_goals refine call0 x6 ?_
 all_goals cases mb
 all_goals refine call0 x7 ?_
 all_goals exact fz
theorem c45sn (hk:k=3) (h0:¬ 600<(t.drop a).length) (hn:keepL l=[]):Q3 45 (.v (vS t)) (.v (vB an)) (.v (vB hd)) (if msgB me ta (st:Nat) re ba (keepL l) (t.drop a)=true then readE (.ok (me,ta,st,re,ba,keepL l,(t.drop a))) else readE (.error 431)):=by
 have hL:t.length≤9223372036854775807:=by omega
 obtain ⟨ha,hfl,b1,b2,b3⟩:=headR_ok h
 have hsm:=small_of hfl
 have x1:=c110 t an hl
 rw [h] at x1
 simp only [headD] at x1
 have x2:=c91 st
 have x3:=c111 l hsm an ba
 rw [hfr] at x3
 simp only [framD] at x3
 have hr:(t.drop a).length≤9223372036854775807:=by rw [List.length_drop]; omega
 have t1:(t.drop a).take (t.length-a)=t.drop a:=take_rest
 subst hk
 have h1:¬ (600:Int)<(t.drop a).length:=by omega
 clear h0
 have hk9:fieldsB (keepL l)=true:=keepL_ok hfl
 have x6:=c112 l hsm hfl
 have x7:=c36 c37 me ta st re ba (keepL l) (t.drop a) (by omega) (by omega) (by omega) (by first | omega | (simp; done)) (small_of hk9)
 rw [hn] at x6 x7 ⊢
 generalize hmb:msgB me ta (st:Nat) re ba [] (t.drop a)=mb at x7 ⊢
 have hok:readE (.ok (me,ta,st,re,ba,[],(t.drop a))) = .tup [mD me ta (st:Nat) re ba .nil (t.drop a),.v (vI 0)]:=rfl
 rw [hok]
 clear hok hmb hn hk9 hsm hfl
 clear h hfr
 rcases hab with ⟨rfl,rfl⟩ | ⟨rfl,rfl,rfl⟩ | ⟨rfl,rfl,rfl⟩
 all_goals refine sb 3 [.ce 6 25,.tm 7] func45 ?_
 all_goals refine callf x1 fD_res ?_
 rotate_left 2
 refine call0 x2 ?_
 rotate_left 1
 all_goals refine call0 x3 ?_
 all_goals refine call0 x6 ?_
 all_goals cases mb
 all_goals refine call0 x7 ?_
 all_goals exact fz
theorem c45so (hk:k=3) (h0:¬ 600<(t.drop a).length) (hn:keepL l≠[]):Q3 45 (.v (vS t)) (.v (vB an)) (.v (vB hd)) (if msgB me ta (st:Nat) re ba (keepL l) (t.drop a)=true then readE (.ok (me,ta,st,re,ba,keepL l,(t.drop a))) else readE (.error 431)):=by
 have hL:t.length≤9223372036854775807:=by omega
 obtain ⟨ha,hfl,b1,b2,b3⟩:=headR_ok h
 have hsm:=small_of hfl
 have x1:=c110 t an hl
 rw [h] at x1
 simp only [headD] at x1
 have x2:=c91 st
 have x3:=c111 l hsm an ba
 rw [hfr] at x3
 simp only [framD] at x3
 have hr:(t.drop a).length≤9223372036854775807:=by rw [List.length_drop]; omega
 have t1:(t.drop a).take (t.length-a)=t.drop a:=take_rest
 subst hk
 have h1:¬ (600:Int)<(t.drop a).length:=by omega
 clear h0
 have hk9:fieldsB (keepL l)=true:=keepL_ok hfl
 have x6:=c112 l hsm hfl
 have x7:=c36 c37 me ta st re ba (keepL l) (t.drop a) (by omega) (by omega) (by omega) (by first | omega | (simp; done)) (small_of hk9)
 have hsd:=sd_own (e:=105) (rowsF_ne hn)
 rw [hsd] at x6
 generalize hmb:msgB me ta (st:Nat) re ba (keepL l) (t.drop a)=mb at x7 ⊢
 have hok:readE (.ok (me,ta,st,re,ba,keepL l,(t.drop a))) = .tup [mD me ta (st:Nat) re ba (.own 105 (rowsF (keepL l))) (t.drop a),.v (vI 0)]:=by show D.tup [mD me ta (st:Nat) re ba (sd 105 (rowsF (keepL l))) (t.drop a),.v (vI 0)]=_; rw [hsd]
 generalize rowsF (keepL l)=KL at x6 x7 hok
 clear hsd
 rw [hok]
 clear hok hmb hn hk9 hsm hfl
 clear h hfr
 rcases hab with ⟨rfl,rfl⟩ | ⟨rfl,rfl,rfl⟩ | ⟨rfl,rfl,rfl⟩
 all_goals refine sb 3 [.ce 6 25,.tm 7] func45 ?_
 all_goals refine callf x1 fD_res ?_
 rotate_left 2
 refine call0 x2 ?_
 rotate_left 1
 all_goals refine call0 x3 ?_
 all_goals refine call0 x6 ?_
 all_goals cases mb
 all_goals refine call0 x7 ?_
 all_goals exact fz
end
theorem c45 (t:List UInt8) (hl:t.length≤1048576) (an hd:Bool):Q3 45 (.v (vS t)) (.v (vB an)) (.v (vB hd)) (readE (readR t an hd)):=by
 unfold readR
 cases h:headR t an with
 | error k=>exact c45e t hl an hd k (headR_code h) h
 | ok x =>
  obtain ⟨me,ta,st,re,a,l⟩:=x
  simp only
  have hab:=AB_of an hd (st:Nat)
  generalize (an&&(hd || bareB (st:Nat)))=ba at hab ⊢
  cases hfr:framR l an ba with
  | mk k n =>
  simp only
  have hk:=fram_le l an ba
  rw [hfr] at hk
  simp only at hk
  have go:∀ bo:List UInt8,(Q3 45 (.v (vS t)) (.v (vB an)) (.v (vB hd)) (if msgB me ta (st:Nat) re ba (keepL l) bo=true then readE (.ok (me,ta,st,re,ba,keepL l,bo)) else readE (.error 431)))→Q3 45 (.v (vS t)) (.v (vB an)) (.v (vB hd)) (readE (if msgB me ta (st:Nat) re ba (keepL l) bo=true then .ok (me,ta,st,re,ba,keepL l,bo) else .error 431)):=fun bo x=>by
   rw [←apply_ite readE] at x
   exact x
  unfold bodyR
  match k,hk with
  | 0,_ =>
   by_cases h0:t.drop a=[]
   ·simp only [if_pos h0,if_true]
    by_cases hn:keepL l=[]
    ·exact go _ (c45pn t hl an hd me ta re st a l ba 0 n h hab hfr rfl h0 hn)
    ·exact go _ (c45po t hl an hd me ta re st a l ba 0 n h hab hfr rfl h0 hn)
   ·simp only [if_neg h0]
    exact c45b t hl an hd me ta re st a l ba 0 n h hab hfr rfl h0
  | 1,_ =>
   by_cases h0:600<n
   ·simp only [if_pos h0]
    exact c45c t hl an hd me ta re st a l ba 1 n h hab hfr rfl h0
   ·simp only [if_neg h0]
    by_cases h2:(t.drop a).length=n
    ·simp only [if_pos h2,if_true]
     by_cases hn:keepL l=[]
     ·exact go _ (c45qn t hl an hd me ta re st a l ba 1 n h hab hfr rfl h0 h2 hn)
     ·exact go _ (c45qo t hl an hd me ta re st a l ba 1 n h hab hfr rfl h0 h2 hn)
    ·simp only [if_neg h2]
     exact c45d t hl an hd me ta re st a l ba 1 n h hab hfr rfl h0 h2
  | 2,_ =>
   by_cases h0:(chR (t.drop a) 0 []).1=0
   ·simp only [if_pos h0]
    by_cases hn:keepL l=[]
    ·exact go _ (c45rn t hl an hd me ta re st a l ba 2 n h hab hfr rfl h0 hn)
    ·exact go _ (c45ro t hl an hd me ta re st a l ba 2 n h hab hfr rfl h0 hn)
   ·simp only [if_neg h0]
    exact c45f t hl an hd me ta re st a l ba 2 n h hab hfr rfl h0
  | 3,_ =>
   by_cases h0:600<(t.drop a).length
   ·simp only [if_pos h0]
    exact c45g t hl an hd me ta re st a l ba 3 n h hab hfr rfl h0
   ·simp only [if_neg h0,if_true]
    by_cases hn:keepL l=[]
    ·exact go _ (c45sn t hl an hd me ta re st a l ba 3 n h hab hfr rfl h0 hn)
    ·exact go _ (c45so t hl an hd me ta re st a l ba 3 n h hab hfr rfl h0 hn)
  | 4,_=>exact c45a t hl an hd me ta re st a l ba 4 n h hab hfr rfl
attribute [local go_sem ↓ high] fD_mv fD_as fD_own fD_oi fD_mp fD_lf fD_rb fD_bn fD_ar fD_wb
attribute [local go_sem] sdF_nil rowsF_length
section
variable (t:List UInt8) (hl:t.length≤1048576) (an hd:Bool)
include hl
theorem c121e (k:Nat) (hk:k≠0) (h:headR t an = .error k):Q3 121 (.v (vS t)) (.v (vB an)) (.v (vB hd)) (readE (.error k)):=by
 have x1:=c166 t an hl
 rw [h] at x1
 simp only [headD] at x1
 have h1:((k:Int) != 0)=true:=by rw [bne_iff_ne]; omega
 clear h hk
 refine sb 3 [.ce 6 25,.tm 7] func121 ?_
 refine call0 x1 ?_
 exact fz
variable (me ta re:List UInt8) (st a:Nat) (l:List Fld) (ba:Bool) (k n:Nat) (h:headR t an = .ok (me,ta,st,re,a,l)) (hab:AB an hd st ba) (hfr:framR l an ba=(k,n))
include h hab hfr
theorem c121a (hk4:k≤4) (h0:(bodyR (t.drop a) k n).1≠0):Q3 121 (.v (vS t)) (.v (vB an)) (.v (vB hd)) (readE (.error (bodyR (t.drop a) k n).1)):=by
 have hL:t.length≤9223372036854775807:=by omega
 obtain ⟨ha,hfl,b1,b2,b3⟩:=headR_ok h
 have hsm:=small_of hfl
 have x1:=c166 t an hl
 rw [h] at x1
 simp only [headD] at x1
 have x2:=c101 st
 have x3:=c167 l hsm an ba
 rw [hfr] at x3
 simp only [framD] at x3
 have hr:(t.drop a).length≤9223372036854775807:=by rw [List.length_drop]; omega
 have t1:(t.drop a).take (t.length-a)=t.drop a:=take_rest
 have x4:=c168 (t.drop a) (by rw [List.length_drop]; omega) k n hk4
 generalize bodyR (t.drop a) k n=C at x4 h0 ⊢
 obtain ⟨c,bo⟩:=C
 simp only [chD] at x4
 have h1:((c:Int) != 0)=true:=by rw [bne_iff_ne]; simp only at h0; omega
 clear h0
 clear h hfr
 rcases hab with ⟨rfl,rfl⟩ | ⟨rfl,rfl,rfl⟩ | ⟨rfl,rfl,rfl⟩
 all_goals refine sb 3 [.ce 6 25,.tm 7] func121 ?_
 all_goals refine callf x1 fD_res ?_
 rotate_left 2
 refine call0 x2 ?_
 rotate_left 1
 all_goals refine call0 x3 ?_
 all_goals refine call0 x4 ?_
 all_goals exact fz
theorem c121m (hk4:k≤4) (h0:(bodyR (t.drop a) k n).1=0) (n1:withoutB clN l=[]):Q3 121 (.v (vS t)) (.v (vB an)) (.v (vB hd)) (if msgB me ta (st:Nat) re ba (withoutB trN (withoutB teN (withoutB clN l))) (bodyR (t.drop a) k n).2=true then readE (.ok (me,ta,st,re,ba,withoutB trN (withoutB teN (withoutB clN l)),(bodyR (t.drop a) k n).2)) else readE (.error 431)):=by
 have hL:t.length≤9223372036854775807:=by omega
 obtain ⟨ha,hfl,b1,b2,b3⟩:=headR_ok h
 have hsm:=small_of hfl
 have x1:=c166 t an hl
 rw [h] at x1
 simp only [headD] at x1
 have x2:=c101 st
 have x3:=c167 l hsm an ba
 rw [hfr] at x3
 simp only [framD] at x3
 have hr:(t.drop a).length≤9223372036854775807:=by rw [List.length_drop]; omega
 have t1:(t.drop a).take (t.length-a)=t.drop a:=take_rest
 have x4:=c168 (t.drop a) (by rw [List.length_drop]; omega) k n hk4
 have hb9:=bodyR_len (t.drop a) k n
 generalize bodyR (t.drop a) k n=C at x4 h0 hb9 ⊢
 obtain ⟨c,bo⟩:=C
 simp only at h0 hb9
 subst h0
 simp only [chD] at x4
 have k1:=wo_ok clN hfl
 have k2:=wo_ok teN k1
 have k3:=wo_ok trN k2
 have x5:=c169 l hsm clN (by decide) hfl
 have x6:=c169 _ (small_of k1) teN (by decide) k1
 have x7:=c169 _ (small_of k2) trN (by decide) k2
 have x8:=c11 me ta st re ba (withoutB trN (withoutB teN (withoutB clN l))) bo (by omega) (by omega) (by omega) (by omega) (small_of k3)
 rw [n1] at x5 x6 x7 x8 ⊢
 rw [show withoutB teN []=[] from rfl] at x6 x7 x8 ⊢
 rw [show withoutB trN []=[] from rfl] at x7 x8 ⊢
 generalize hmb:msgB me ta (st:Nat) re ba ([]) bo=mb at x8 ⊢
 have hok:readE (.ok (me,ta,st,re,ba,[],bo)) = .tup [mD me ta (st:Nat) re ba .nil bo,.v (vI 0)]:=rfl
 rw [hok]
 clear hok hmb hsm hfl k1 k2 k3
 clear h hfr
 rcases hab with ⟨rfl,rfl⟩ | ⟨rfl,rfl,rfl⟩ | ⟨rfl,rfl,rfl⟩
 all_goals refine sb 3 [.ce 6 25,.tm 7] func121 ?_
 all_goals refine callf x1 fD_res ?_
 rotate_left 2
 refine call0 x2 ?_
 rotate_left 1
 all_goals refine call0 x3 ?_
 all_goals refine call0 x4 ?_
 all_goals refine call0 x5 ?_
 all_goals refine call0 x6 ?_
 all_goals refine call0 x7 ?_
 all_goals cases mb
 all_goals refine call0 x8 ?_
 all_goals exact fz
theorem c121n (hk4:k≤4) (h0:(bodyR (t.drop a) k n).1=0) (n1:withoutB clN l≠[]) (n2:withoutB teN (withoutB clN l)=[]):Q3 121 (.v (vS t)) (.v (vB an)) (.v (vB hd)) (if msgB me ta (st:Nat) re ba (withoutB trN (withoutB teN (withoutB clN l))) (bodyR (t.drop a) k n).2=true then readE (.ok (me,ta,st,re,ba,withoutB trN (withoutB teN (withoutB clN l)),(bodyR (t.drop a) k n).2)) else readE (.error 431)):=by
 have hL:t.length≤9223372036854775807:=by omega
 obtain ⟨ha,hfl,b1,b2,b3⟩:=headR_ok h
 have hsm:=small_of hfl
 have x1:=c166 t an hl
 rw [h] at x1
 simp only [headD] at x1
 have x2:=c101 st
 have x3:=c167 l hsm an ba
 rw [hfr] at x3
 simp only [framD] at x3
 have hr:(t.drop a).length≤9223372036854775807:=by rw [List.length_drop]; omega
 have t1:(t.drop a).take (t.length-a)=t.drop a:=take_rest
 have x4:=c168 (t.drop a) (by rw [List.length_drop]; omega) k n hk4
 have hb9:=bodyR_len (t.drop a) k n
 generalize bodyR (t.drop a) k n=C at x4 h0 hb9 ⊢
 obtain ⟨c,bo⟩:=C
 simp only at h0 hb9
 subst h0
 simp only [chD] at x4
 have k1:=wo_ok clN hfl
 have k2:=wo_ok teN k1
 have k3:=wo_ok trN k2
 have x5:=c169 l hsm clN (by decide) hfl
 have x6:=c169 _ (small_of k1) teN (by decide) k1
 have x7:=c169 _ (small_of k2) trN (by decide) k2
 have x8:=c11 me ta st re ba (withoutB trN (withoutB teN (withoutB clN l))) bo (by omega) (by omega) (by omega) (by omega) (small_of k3)
 rw [n2] at x6 x7 x8 ⊢
 rw [show withoutB trN []=[] from rfl] at x7 x8 ⊢
 rw [sd_own (rowsF_ne n1)] at x5
 generalize hmb:msgB me ta (st:Nat) re ba ([]) bo=mb at x8 ⊢
 have hok:readE (.ok (me,ta,st,re,ba,[],bo)) = .tup [mD me ta (st:Nat) re ba .nil bo,.v (vI 0)]:=rfl
 generalize rowsF (withoutB clN l)=K1 at x5 x6
 rw [hok]
 clear hok hmb hsm hfl k1 k2 k3 n1
 clear h hfr
 rcases hab with ⟨rfl,rfl⟩ | ⟨rfl,rfl,rfl⟩ | ⟨rfl,rfl,rfl⟩
 all_goals refine sb 3 [.ce 6 25,.tm 7] func121 ?_
 all_goals refine callf x1 fD_res ?_
 rotate_left 2
 refine call0 x2 ?_
 rotate_left 1
 all_goals refine call0 x3 ?_
 all_goals refine call0 x4 ?_
 all_goals refine call0 x5 ?_
 all_goals refine call0 x6 ?_
 all_goals refine call0 x7 ?_
 all_goals cases mb
 all_goals refine call0 x8 ?_
 all_goals exact fz
theorem c121o (hk4:k≤4) (h0:(bodyR (t.drop a) k n).1=0) (n1:withoutB clN l≠[]) (n2:withoutB teN (withoutB clN l)≠[]) (n3:withoutB trN (withoutB teN (withoutB clN l))=[]):Q3 121 (.v (vS t)) (.v (vB an)) (.v (vB hd)) (if msgB me ta (st:Nat) re ba (withoutB trN (withoutB teN (withoutB clN l))) (bodyR (t.drop a) k n).2=true then readE (.ok (me,ta,st,re,ba,withoutB trN (withoutB teN (withoutB clN l)),(bodyR (t.drop a) k n).2)) else readE (.error 431)):=by
 have hL:t.length≤9223372036854775807:=by omega
 obtain ⟨ha,hfl,b1,b2,b3⟩:=headR_ok h
 have hsm:=small_of hfl
 have x1:=c166 t an hl
 rw [h] at x1
 simp only [headD] at x1
 have x2:=c101 st
 have x3:=c167 l hsm an ba
 rw [hfr] at x3
 simp only [framD] at x3
 have hr:(t.drop a).length≤9223372036854775807:=by rw [List.length_drop]; omega
 have t1:(t.drop a).take (t.length-a)=t.drop a:=take_rest
 have x4:=c168 (t.drop a) (by rw [List.length_drop]; omega) k n hk4
 have hb9:=bodyR_len (t.drop a) k n
 generalize bodyR (t.drop a) k n=C at x4 h0 hb9 ⊢
 obtain ⟨c,bo⟩:=C
 simp only at h0 hb9
 subst h0
 simp only [chD] at x4
 have k1:=wo_ok clN hfl
 have k2:=wo_ok teN k1
 have k3:=wo_ok trN k2
 have x5:=c169 l hsm clN (by decide) hfl
 have x6:=c169 _ (small_of k1) teN (by decide) k1
 have x7:=c169 _ (small_of k2) trN (by decide) k2
 have x8:=c11 me ta st re ba (withoutB trN (withoutB teN (withoutB clN l))) bo (by omega) (by omega) (by omega) (by omega) (small_of k3)
 rw [n3] at x7 x8 ⊢
 rw [sd_own (rowsF_ne n1)] at x5
 rw [sd_own (rowsF_ne n2)] at x6
 generalize hmb:msgB me ta (st:Nat) re ba ([]) bo=mb at x8 ⊢
 have hok:readE (.ok (me,ta,st,re,ba,[],bo)) = .tup [mD me ta (st:Nat) re ba .nil bo,.v (vI 0)]:=rfl
 generalize rowsF (withoutB teN (withoutB clN l))=K2 at x6 x7
 generalize rowsF (withoutB clN l)=K1 at x5 x6
 rw [hok]
 clear hok hmb hsm hfl k1 k2 k3 n1 n2
 clear h hfr
 rcases hab with ⟨rfl,rfl⟩ | ⟨rfl,rfl,rfl⟩ | ⟨rfl,rfl,rfl⟩
 all_goals refine sb 3 [.ce 6 25,.tm 7] func121 ?_
 all_goals refine callf x1 fD_res ?_
 rotate_left 2
 refine call0 x2 ?_
 rotate_left 1
 all_goals refine call0 x3 ?_
 all_goals refine call0 x4 ?_
 all_goals refine call0 x5 ?_
 all_goals refine call0 x6 ?_
 all_goals refine call0 x7 ?_
 all_goals cases mb
 all_goals refine call0 x8 ?_
 all_goals exact fz
theorem c121p (hk4:k≤4) (h0:(bodyR (t.drop a) k n).1=0) (n1:withoutB clN l≠[]) (n2:withoutB teN (withoutB clN l)≠[]) (n3:withoutB trN (withoutB teN (withoutB clN l))≠[]):Q3 121 (.v (vS t)) (.v (vB an)) (.v (vB hd)) (if msgB me ta (st:Nat) re ba (withoutB trN (withoutB teN (withoutB clN l))) (bodyR (t.drop a) k n).2=true then readE (.ok (me,ta,st,re,ba,withoutB trN (withoutB teN (withoutB clN l)),(bodyR (t.drop a) k n).2)) else readE (.error 431)):=by
 have hL:t.length≤9223372036854775807:=by omega
 obtain ⟨ha,hfl,b1,b2,b3⟩:=headR_ok h
 have hsm:=small_of hfl
 have x1:=c166 t an hl
 rw [h] at x1
 simp only [headD] at x1
 have x2:=c101 st
 have x3:=c167 l hsm an ba
 rw [hfr] at x3
 simp only [framD] at x3
 have hr:(t.drop a).length≤9223372036854775807:=by rw [List.length_drop]; omega
 have t1:(t.drop a).take (t.length-a)=t.drop a:=take_rest
 have x4:=c168 (t.drop a) (by rw [List.length_drop]; omega) k n hk4
 have hb9:=bodyR_len (t.drop a) k n
 generalize bodyR (t.drop a) k n=C at x4 h0 hb9 ⊢
 obtain ⟨c,bo⟩:=C
 simp only at h0 hb9
 subst h0
 simp only [chD] at x4
 have k1:=wo_ok clN hfl
 have k2:=wo_ok teN k1
 have k3:=wo_ok trN k2
 have x5:=c169 l hsm clN (by decide) hfl
 have x6:=c169 _ (small_of k1) teN (by decide) k1
 have x7:=c169 _ (small_of k2) trN (by decide) k2
 have x8:=c11 me ta st re ba (withoutB trN (withoutB teN (withoutB clN l))) bo (by omega) (by omega) (by omega) (by omega) (small_of k3)
 rw [sd_own (rowsF_ne n1)] at x5
 rw [sd_own (rowsF_ne n2)] at x6
 have hsd:=sd_own (e:=105) (rowsF_ne n3)
 rw [hsd] at x7
 generalize hmb:msgB me ta (st:Nat) re ba (withoutB trN (withoutB teN (withoutB clN l))) bo=mb at x8 ⊢
 have hok:readE (.ok (me,ta,st,re,ba,withoutB trN (withoutB teN (withoutB clN l)),bo)) = .tup [mD me ta (st:Nat) re ba (.own 105 (rowsF (withoutB trN (withoutB teN (withoutB clN l))))) bo,.v (vI 0)]:=by show D.tup [mD me ta (st:Nat) re ba (sd 105 (rowsF (withoutB trN (withoutB teN (withoutB clN l))))) bo,.v (vI 0)]=_; rw [hsd]
 generalize rowsF (withoutB trN (withoutB teN (withoutB clN l)))=KL at x7 x8 hok
 clear hsd
 generalize rowsF (withoutB teN (withoutB clN l))=K2 at x6 x7
 generalize rowsF (withoutB clN l)=K1 at x5 x6
 rw [hok]
 clear hok hmb hsm hfl k1 k2 k3 n1 n2 n3
 clear h hfr
 rcases hab with ⟨rfl,rfl⟩ | ⟨rfl,rfl,rfl⟩ | ⟨rfl,rfl,rfl⟩
 all_goals refine sb 3 [.ce 6 25,.tm 7] func121 ?_
 all_goals refine callf x1 fD_res ?_
 rotate_left 2
 refine call0 x2 ?_
 rotate_left 1
 all_goals refine call0 x3 ?_
 all_goals refine call0 x4 ?_
 all_goals refine call0 x5 ?_
 all_goals refine call0 x6 ?_
 all_goals refine call0 x7 ?_
 all_goals cases mb
 all_goals refine call0 x8 ?_
 all_goals exact fz
end
theorem c121 (t:List UInt8) (hl:t.length≤1048576) (an hd:Bool):Q3 121 (.v (vS t)) (.v (vB an)) (.v (vB hd)) (readE (readR t an hd)):=by
 unfold readR
 cases h:headR t an with
 | error k=>exact c121e t hl an hd k (headR_code h) h
 | ok x =>
  obtain ⟨me,ta,st,re,a,l⟩:=x
  simp only
  have hab:=AB_of an hd (st:Nat)
  generalize (an&&(hd || bareB (st:Nat)))=ba at hab ⊢
  cases hfr:framR l an ba with
  | mk k n =>
  simp only
  have hk:=fram_le l an ba
  rw [hfr] at hk
  simp only at hk
  by_cases h0:(bodyR (t.drop a) k n).1=0
  ·rw [if_pos h0,←keep_wo]
   rw [apply_ite readE]
   by_cases n1:withoutB clN l=[]
   ·exact c121m t hl an hd me ta re st a l ba k n h hab hfr hk h0 n1
   ·by_cases n2:withoutB teN (withoutB clN l)=[]
    ·exact c121n t hl an hd me ta re st a l ba k n h hab hfr hk h0 n1 n2
    ·by_cases n3:withoutB trN (withoutB teN (withoutB clN l))=[]
     ·exact c121o t hl an hd me ta re st a l ba k n h hab hfr hk h0 n1 n2 n3
     ·exact c121p t hl an hd me ta re st a l ba k n h hab hfr hk h0 n1 n2 n3
  ·rw [if_neg h0]
   exact c121a t hl an hd me ta re st a l ba k n h hab hfr hk h0
def gs10_0:List (Option (List Nat)):=[some [8,9],some [8,9],some [6,7],some [6,7],none,none]
attribute [go_sem] gs10_0
def gs59_0:List (Option (List Nat)):=[some [8,9],some [8,9],some [6,7],some [6,7],none,none]
attribute [go_sem] gs59_0
attribute [local go_sem ↓ high] fD_mv fD_as fD_own fD_oi fD_mp fD_lf fD_rb fD_bn fD_ar fD_wb
attribute [local go_sem] sdF_nil rowsF_length
theorem fD_cl {α:Type} {l:List Fld} {k:D→List Lf→Rdr α}:coeLeaf 105 (fD l) k=k (.imm 105 (rowsF l)) []:=by cases l<;>rfl
attribute [local go_sem ↓ high] fD_cl
theorem fzi {cfg:Cfg} {ts:List RV} {E E0:Env} {r:D} {x:Go.Exit} (q:Lf) (hq:E.frz q=some E0:=by simp only [go_sem,Env.frz,frzB,reduceIte,reduceCtorEq,Nat.reduceEqDiff]; rfl) (he:x = .normal∨x = .ret:=by first | exact .inr rfl | exact .inl rfl) (hk:cfg.keep=fun _=>false:=by rfl) (hce:E0.ce.take cfg.np=List.replicate cfg.np none:=by rfl) (hok:shutOk cfg ts E0=true:=by rfl) (hr:shutR E0 ts=r:=by rfl) :
  Fin cfg ts ⟨List.replicate cfg.np .dead++[r],List.replicate cfg.np none⟩ x E:=by
 refine ⟨he,E0,.inr (.inr (.inr (.inl ⟨q,hq⟩))),hok,?_⟩
 unfold shut
 rw [hr,map_const_range cfg.np (shutP cfg.keep E0) .dead fun i _=>shutP_none hk,map_const_range cfg.np (fun i=>E0.ce.getD i none) none]
 intro i hi
 have:(E0.ce.take cfg.np)[i]? = some none:=by rw [hce,List.getElem?_replicate,if_pos hi]
 rw [List.getElem?_take_of_lt hi] at this
 rw [gDg,this]; rfl
def reqD:MR→D
 | .error k => .tup [mZ,.v (vI (k:Nat))]
 | .ok (me,ta,st,re,ba,l,bo) => .tup [mD me ta (st:Nat) re ba (fD l) bo,.v (vI 0)]
def wmT (me ta:List UInt8) (st:Int) (re:List UInt8) (ba:Bool) (l:List Fld) (bo:List UInt8):List UInt8:=if msgB me ta st re ba l bo=true then headT me ta st re ba l bo++bo else []
def canR (s:List UInt8):Option (List UInt8):=(readU s).map fun a=>urlT a.ho a.p a.pa a.q a.b
def canD:Option (List UInt8)→D
 | none => .tup [.v (vS []),.v (vB false)]
 | some u => .tup [.v (vS u),.v (vB true)]
theorem resU_none':resU none = .tup [zeroU,.v (vB false)]:=rfl
theorem resU_some' {a:Adr}:resU (some a) = .tup [urlD a.ho a.p a.pa a.q a.b,.v (vB true)]:=rfl
theorem ru_in {s:List UInt8} {a:Adr} (hs:s.length≤1048576) (h:readU s=some a):a.ho.length≤200∧a.p≤999999999999999∧a.pa.length≤100001∧a.q.length≤200∧urlB a.ho a.p a.pa a.q a.b=true:=by
 unfold readU at h
 split at h
 ·rename_i h0
  have hl:s.length≤200:=by
   unfold headB at h0
   simp only [Bool.and_eq_true,decide_eq_true_eq] at h0
   exact h0.1.1.1.1
  have hd:(s.drop 7).length≤200:=by rw [List.length_drop]; omega
  generalize s.drop 7=r at h hd
  split at h
  ·cases h
  ·rename_i p hp
   split at h
   ·rename_i hu
    injection h with h
    subst h
    refine ⟨?_,?_,path_len r,Nat.le_trans (query_le r) hd,hu⟩
    ·have h1:=upto_le 58 (authB r)
     have h2:=auth_le r
     simp only [hostR,foldB,List.length_map]; omega
    ·unfold portR at hp
     split at hp
     ·exact readD_le hp
     ·injection hp with hp; subst hp; exact (by decide:80≤999999999999999)
   ·cases h
 ·cases h
theorem msg_in {me ta re bo:List UInt8} {st:Int} {ba:Bool} {l:List Fld} (h:msgB me ta st re ba l bo=true):fieldsB l=true∧me.length≤20∧ta.length≤200∧re.length≤40∧(0≤st∧st≤999)∧bo.length≤600:=by
 unfold msgB at h
 simp only [Bool.and_eq_true,decide_eq_true_eq] at h
 obtain ⟨⟨⟨⟨⟨h1,_⟩,_⟩,h2⟩,h3⟩,_⟩:=h
 refine ⟨h1,?_⟩
 by_cases hm:me=[]
 ·subst hm
  rw [if_pos (by rfl)] at h3
  unfold answerB statusB inB reasonB at h3
  simp only [Bool.and_eq_true,decide_eq_true_eq,beq_iff_eq] at h3
  obtain ⟨⟨⟨⟨h4,h5⟩,h6⟩,_⟩,_⟩:=h3
  subst h4
  exact ⟨by simp,by simp,h6.1,⟨by omega,by omega⟩,h2⟩
 ·rw [if_neg (by simpa using hm)] at h3
  unfold requestB methodB targetB inB at h3
  simp only [Bool.and_eq_true,decide_eq_true_eq,beq_iff_eq] at h3
  obtain ⟨⟨⟨⟨h4,h5⟩,h6⟩,h7⟩,_⟩:=h3
  subst h6 h7
  exact ⟨h4.2,by omega,by simp,⟨by decide,by decide⟩,h2⟩
section
variable (s:List UInt8) (hs:s.length≤1048576)
include hs
theorem c13:Q1 13 (.v (vS s)) (reqD (readR s false false)):=by
 have x1:=c45 s hs false false
 cases hr:readR s false false with
 | error k =>
  rw [hr] at x1
  simp only [readE] at x1
  clear hr
  refine sb 1 [.ce 2 25,.tm 3] func13 ?_
  refine call0 x1 ?_
  exact fz
 | ok x =>
  obtain ⟨me,ta,st,re,ba,l,bo⟩:=x
  rw [hr] at x1
  simp only [readE] at x1
  clear hr
  by_cases h0:l=[]
  ·subst h0
   rw [sdF_nil] at x1
   refine sb 1 [.ce 2 25,.tm 3] func13 ?_
   refine call0 x1 ?_
   exact fz
  ·rw [sd_own (rowsF_ne h0)] at x1
   have hD:reqD (.ok (me,ta,st,re,ba,l,bo)) = .tup [mD me ta (st:Nat) re ba (.imm 105 (rowsF l)) bo,.v (vI 0)]:=by
    show D.tup [mD me ta (st:Nat) re ba (fD l) bo,.v (vI 0)]=_
    rw [fD_ne h0]
   rw [hD]
   clear h0 hD
   refine sb 1 [.ce 2 25,.tm 3] func13 ?_
   refine call0 x1 ?_
   exact fzi ⟨true,2,5⟩
theorem c58:Q1 58 (.v (vS s)) (reqD (readR s false false)):=by
 have x1:=c121 s hs false false
 cases hr:readR s false false with
 | error k =>
  rw [hr] at x1
  simp only [readE] at x1
  clear hr
  refine sb 1 [.ce 2 25,.tm 3] func58 ?_
  refine call0 x1 ?_
  exact fz
 | ok x =>
  obtain ⟨me,ta,st,re,ba,l,bo⟩:=x
  rw [hr] at x1
  simp only [readE] at x1
  clear hr
  by_cases h0:l=[]
  ·subst h0
   rw [sdF_nil] at x1
   refine sb 1 [.ce 2 25,.tm 3] func58 ?_
   refine call0 x1 ?_
   exact fz
  ·rw [sd_own (rowsF_ne h0)] at x1
   have hD:reqD (.ok (me,ta,st,re,ba,l,bo)) = .tup [mD me ta (st:Nat) re ba (.imm 105 (rowsF l)) bo,.v (vI 0)]:=by
    show D.tup [mD me ta (st:Nat) re ba (fD l) bo,.v (vI 0)]=_
    rw [fD_ne h0]
   rw [hD]
   clear h0 hD
   refine sb 1 [.ce 2 25,.tm 3] func58 ?_
   refine call0 x1 ?_
   exact fzi ⟨true,2,5⟩
theorem c15 (hd:Bool):Q2 15 (.v (vS s)) (.v (vB hd)) (reqD (readR s true hd)):=by
 have x1:=c45 s hs true hd
 cases hr:readR s true hd with
 | error k =>
  rw [hr] at x1
  simp only [readE] at x1
  clear hr
  refine sb 2 [.ce 4 25,.tm 5] func15 ?_
  refine call0 x1 ?_
  exact fz
 | ok x =>
  obtain ⟨me,ta,st,re,ba,l,bo⟩:=x
  rw [hr] at x1
  simp only [readE] at x1
  clear hr
  by_cases h0:l=[]
  ·subst h0
   rw [sdF_nil] at x1
   refine sb 2 [.ce 4 25,.tm 5] func15 ?_
   refine call0 x1 ?_
   exact fz
  ·rw [sd_own (rowsF_ne h0)] at x1
   have hD:reqD (.ok (me,ta,st,re,ba,l,bo)) = .tup [mD me ta (st:Nat) re ba (.imm 105 (rowsF l)) bo,.v (vI 0)]:=by
    show D.tup [mD me ta (st:Nat) re ba (fD l) bo,.v (vI 0)]=_
    rw [fD_ne h0]
   rw [hD]
   clear h0 hD
   refine sb 2 [.ce 4 25,.tm 5] func15 ?_
   refine call0 x1 ?_
   exact fzi ⟨true,4,5⟩
theorem c171 (hd:Bool):Q2 171 (.v (vS s)) (.v (vB hd)) (reqD (readR s true hd)):=by
 have x1:=c121 s hs true hd
 cases hr:readR s true hd with
 | error k =>
  rw [hr] at x1
  simp only [readE] at x1
  clear hr
  refine sb 2 [.ce 4 25,.tm 5] func171 ?_
  refine call0 x1 ?_
  exact fz
 | ok x =>
  obtain ⟨me,ta,st,re,ba,l,bo⟩:=x
  rw [hr] at x1
  simp only [readE] at x1
  clear hr
  by_cases h0:l=[]
  ·subst h0
   rw [sdF_nil] at x1
   refine sb 2 [.ce 4 25,.tm 5] func171 ?_
   refine call0 x1 ?_
   exact fz
  ·rw [sd_own (rowsF_ne h0)] at x1
   have hD:reqD (.ok (me,ta,st,re,ba,l,bo)) = .tup [mD me ta (st:Nat) re ba (.imm 105 (rowsF l)) bo,.v (vI 0)]:=by
    show D.tup [mD me ta (st:Nat) re ba (fD l) bo,.v (vI 0)]=_
    rw [fD_ne h0]
   rw [hD]
   clear h0 hD
   refine sb 2 [.ce 4 25,.tm 5] func171 ?_
   refine call0 x1 ?_
   exact fzi ⟨true,4,5⟩
theorem c66:Q1 66 (.v (vS s)) (canD (canR s)):=by
 have x1:=c71 s hs
 unfold canR
 cases hr:readU s with
 | none =>
  rw [hr,resU_none'] at x1
  clear hr
  refine sb 1 [.tm 2,.tm 3] func66 ?_
  refine call0 x1 ?_
  exact fz
 | some a =>
  obtain ⟨b1,b2,b3,b4,b5⟩:=ru_in hs hr
  rw [hr,resU_some'] at x1
  have x2:=c126 a.ho a.p a.pa a.q a.b (by omega) b2 (by omega) (by omega)
  clear hr b5
  refine sb 1 [.tm 2,.tm 3] func66 ?_
  refine call0 x1 ?_
  refine call0 x2 ?_
  exact fz
theorem c61:Q1 61 (.v (vS s)) (canD (canR s)):=by
 have x1:=c69 s hs
 unfold canR
 cases hr:readU s with
 | none =>
  rw [hr,resU_none'] at x1
  clear hr
  refine sb 1 [.tm 2,.tm 3] func61 ?_
  refine call0 x1 ?_
  exact fz
 | some a =>
  obtain ⟨b1,b2,b3,b4,b5⟩:=ru_in hs hr
  rw [hr,resU_some'] at x1
  have x2:=c123 a.ho a.p a.pa a.q a.b (by omega) b2 (by omega) (by omega) b5
  clear hr b5
  refine sb 1 [.tm 2,.tm 3] func61 ?_
  refine call0 x1 ?_
  refine call0 x2 ?_
  exact fz
end
theorem msg_head {me ta re bo:List UInt8} {st:Int} {ba:Bool} {l:List Fld} (h:msgB me ta st re ba l bo=true):(headT me ta st re ba l bo).length≤1500:=by
 unfold msgB at h
 simp only [Bool.and_eq_true,decide_eq_true_eq] at h
 have:=h.2
 omega
theorem c10 (me ta:List UInt8) (st:Int) (re:List UInt8) (ba:Bool) (l:List Fld) (bo:List UInt8) (h1:me.length≤1048576) (h2:ta.length≤1048576) (h3:re.length≤1048576) (h4:bo.length≤1048576) (hl:Small l):Q1 10 (mD me ta st re ba (.imm 105 (rowsF l)) bo) (.v (vS (wmT me ta st re ba l bo))):=by
 have x1:=c36 c37 me ta st re ba l bo (by omega) (by omega) (by omega) (by omega) hl
 unfold wmT
 cases hm:msgB me ta st re ba l bo with
 | false =>
  rw [hm] at x1
  rw [if_neg (by simp)]
  clear hm
  refine sb 1 [.tm 2] func10 ?_
  refine call0 x1 ?_
  exact fz
 | true =>
  rw [hm] at x1
  rw [if_pos rfl]
  obtain ⟨g1,g2,g3,g4,g5,g6⟩:=msg_in hm
  obtain ⟨n,rfl⟩:∃ n:Nat,st=n:=⟨st.toNat,by omega⟩
  have x2:=c37 me ta n re ba l bo hl g1 g2 g3 g4 (by omega) g6
  have g7:(headT me ta (n:Nat) re ba l bo).length+bo.length≤9223372036854775807:=by
   have:=msg_head hm
   omega
  clear hm g1
  refine sb 1 [.tm 2] func10 ?_
  refine call0 x1 ?_
  refine draw_new gs10_0 mixedOk (by kernel_rfl) ?_
  refine Z ?_
  refine drawn0 x2 ?_
  refine Z ?_
  exact fz
theorem c59 (me ta:List UInt8) (st:Int) (re:List UInt8) (ba:Bool) (l:List Fld) (bo:List UInt8) (h1:me.length≤1048576) (h2:ta.length≤1048576) (h3:re.length≤1048576) (h4:bo.length≤1048576) (hl:Small l):Q1 59 (mD me ta st re ba (.imm 105 (rowsF l)) bo) (.v (vS (wmT me ta st re ba l bo))):=by
 have x1:=c11 me ta st re ba l bo (by omega) (by omega) (by omega) (by omega) hl
 unfold wmT
 cases hm:msgB me ta st re ba l bo with
 | false =>
  rw [hm] at x1
  rw [if_neg (by simp)]
  clear hm
  refine sb 1 [.tm 2] func59 ?_
  refine call0 x1 ?_
  exact fz
 | true =>
  rw [hm] at x1
  rw [if_pos rfl]
  obtain ⟨g1,g2,g3,g4,g5,g6⟩:=msg_in hm
  obtain ⟨n,rfl⟩:∃ n:Nat,st=n:=⟨st.toNat,by omega⟩
  have x2:=c42 me ta n re ba l bo hl g1 g2 g3 g4 (by omega) g6
  have g7:(headT me ta (n:Nat) re ba l bo).length+bo.length≤9223372036854775807:=by
   have:=msg_head hm
   omega
  clear hm g1
  refine sb 1 [.tm 2] func59 ?_
  refine call0 x1 ?_
  refine draw_new gs59_0 mixedOk (by kernel_rfl) ?_
  refine Z ?_
  refine drawn0 x2 ?_
  refine Z ?_
  exact fz
end Go.Proofs.YtbdfdfhamlmodaaGreatDoor.Fw
namespace Go.Proofs.YtbdfdfhamlmodaaGreatDoor.Fw
open Go
set_option maxRecDepth 100000
theorem tw_stop {p:UInt8→Bool}:∀ {F r:List UInt8},(∀ b,b∈F→p b=true)→(F++r).takeWhile p=F++r.takeWhile p
 | [],_,_=>rfl
 | b::F,r,h=>by
  rw [List.cons_append,List.takeWhile_cons,h b List.mem_cons_self,if_pos rfl,tw_stop fun x hx=>h x (List.mem_cons_of_mem _ hx)]
  rfl
theorem lineR_at {t F r:List UInt8} {a:Nat} (h:t.drop a=F++13::10::r) (hF:∀ b,b∈F→lnB b=true):lineR t a=some (F,a+F.length+2):=by
 have h1:lnT (t.drop a)=F:=by
  rw [h,lnT,tw_stop hF]
  show F++(13::10::r).takeWhile lnB=F
  rw [List.takeWhile_cons]
  simp [lnB]
 have h2:lnC (t.drop a)=0:=by
  unfold lnC
  rw [h1,h]
  have e0:¬ F.length=(F++13::10::r).length:=by simp
  have e1:(F++13::10::r).getD F.length 0=13:=by rw [gDg,List.getElem?_append_right (Nat.le_refl _),Nat.sub_self]; rfl
  have e2:¬ F.length+1=(F++13::10::r).length:=by simp
  have e3:(F++13::10::r).getD (F.length+1) 0=10:=by rw [gDg,List.getElem?_append_right (by omega),Nat.add_sub_cancel_left]; rfl
  rw [if_neg e0,if_pos e1,if_neg e2,if_pos e3]
 unfold lineR
 rw [if_pos h2,h1]
theorem tokN {b:UInt8} (h:isTok b.toNat=true):b≠58∧b≠32∧lnB b=true:=by
 refine ⟨?_,?_,?_⟩
 ·rintro rfl; revert h; decide
 ·rintro rfl; revert h; decide
 ·unfold lnB
  rw [Bool.and_eq_true]
  constructor
  ·by_cases e:b=13
   ·subst e; revert h; decide
   ·simp [e]
  ·by_cases e:b=10
   ·subst e; revert h; decide
   ·simp [e]
theorem plain_no {b:UInt8} (h:plainB b.toNat=true):lnB b=true:=by
 unfold lnB
 rw [Bool.and_eq_true]
 constructor
 ·by_cases e:b=13
  ·subst e; revert h; decide
  ·simp [e]
 ·by_cases e:b=10
  ·subst e; revert h; decide
  ·simp [e]
theorem visN {b:UInt8} (h:visB b.toNat=true):b≠32∧lnB b=true:=by
 refine ⟨?_,?_⟩
 ·rintro rfl; revert h; decide
 ·unfold lnB
  rw [Bool.and_eq_true]
  constructor
  ·by_cases e:b=13
   ·subst e; revert h; decide
   ·simp [e]
  ·by_cases e:b=10
   ·subst e; revert h; decide
   ·simp [e]
theorem field_parts {p:Fld} (h:fieldB p=true):(∀ b,b∈p.1→isTok b.toNat=true)∧p.1.length≤40∧p.2.length≤190∧(∀ b,b∈p.2→plainB b.toNat=true)∧trimB p.2=p.2:=by
 unfold fieldB tokenI at h
 simp only [Bool.and_eq_true,List.all_eq_true,decide_eq_true_eq,beq_iff_eq] at h
 exact ⟨h.1.1.1.1.2,h.1.1.1.2,h.1.1.2,h.1.2,h.2⟩
theorem fieldT_eq (p:Fld):fieldT p=p.1++58::32::p.2:=by unfold fieldT; simp
theorem fieldR_T {p:Fld} (h:fieldB p=true):fieldR (fieldT p)=some p:=by
 obtain ⟨h1,h2,h3,h4,h5⟩:=field_parts h
 have hn:∀ b,b∈p.1→b≠58:=fun b hb=>(tokN (h1 b hb)).1
 have e1:(fieldT p).contains 58=true:=by rw [fieldT_eq]; simp
 have e2:upto 58 (fieldT p)=p.1:=by rw [fieldT_eq]; exact upto_hit 58 _ _ hn
 have e3:behind 58 (fieldT p)=32::p.2:=by
  rw [behind_drop,e2,fieldT_eq]
  rw [show p.1++58::32::p.2=(p.1++[58])++(32::p.2) by simp]
  exact List.drop_left' (by simp)
 have e4:trimB (32::p.2)=p.2:=by
  have:trimB (32::p.2)=trimB p.2:=rfl
  rw [this,h5]
 unfold fieldR
 rw [e1,e2,e3,e4]
 show (if (true&&fieldB (p.1,p.2))=true then some (p.1,p.2) else none)=some p
 rw [show fieldB (p.1,p.2)=true from h]
 rfl
theorem fieldT_ln {p:Fld} (h:fieldB p=true):∀ b,b∈fieldT p→lnB b=true:=by
 obtain ⟨h1,h2,h3,h4,h5⟩:=field_parts h
 intro b hb
 rw [fieldT_eq] at hb
 rcases List.mem_append.1 hb with hb | hb
 ·exact (tokN (h1 b hb)).2.2
 ·rcases List.mem_cons.1 hb with rfl | hb
  ·decide
  ·rcases List.mem_cons.1 hb with rfl | hb
   ·decide
   ·exact plain_no (h4 b hb)
theorem fieldT_le {p:Fld} (h:fieldB p=true):(fieldT p).length≤232∧fieldT p≠[]:=by
 obtain ⟨h1,h2,h3,h4,h5⟩:=field_parts h
 rw [fieldT_eq]
 refine ⟨by simp; omega,by simp⟩
theorem fieldsT_cons (p:Fld) (l:List Fld):fieldsT (p::l)=fieldT p++crlf++fieldsT l:=by simp [fieldsT]
theorem fieldsT_app (l m:List Fld):fieldsT (l++m)=fieldsT l++fieldsT m:=by simp [fieldsT]
theorem hdR_at {t rest:List UInt8}:∀ {fs:List Fld} {n a:Nat} {acc:List Fld},t.drop a=fieldsT fs++(crlf++rest)→(∀ p,p∈fs→fieldB p=true)→fs.length<n→acc.length+fs.length≤20→a+(fieldsT fs).length+2≤1500 →
  hdR t n a acc = .ok (a+(fieldsT fs).length+2,acc++fs)
 | [],n,a,acc,h,_,hn,_,hb=>by
  cases n with
  | zero=>simp at hn
  | succ n =>
   have hl:lineR t a=some ([],a+0+2):=lineR_at (F:=[]) h (fun b hb=>by cases hb)
   rw [hdR,hl]
   have hb:a+0+2≤1500:=hb
   simp only
   rw [if_neg (by simp; omega),if_pos trivial,List.append_nil]; rfl
 | p::fs,n,a,acc,h,hf,hn,hc,hb=>by
  cases n with
  | zero=>simp at hn
  | succ n =>
   have hp:=hf p List.mem_cons_self
   obtain ⟨l1,l2⟩:=fieldT_le hp
   rw [fieldsT_cons] at h hb
   have h1:t.drop a=fieldT p++13::10::(fieldsT fs++(crlf++rest)):=by rw [h]; simp [crlf]
   have hl:=lineR_at h1 (fieldT_ln hp)
   simp only [List.length_append,crlf,List.length_cons,List.length_nil] at hb hn hc
   have h2:t.drop (a+(fieldT p).length+2)=fieldsT fs++(crlf++rest):=by
    rw [show a+(fieldT p).length+2=a+((fieldT p).length+2) by omega,←List.drop_drop,h1]
    rw [show fieldT p++13::10::(fieldsT fs++(crlf++rest))=(fieldT p++[13,10])++(fieldsT fs++(crlf++rest)) by simp]
    exact List.drop_left' (by simp)
   have ih:=hdR_at (fs:=fs) (n:=n) (a:=a+(fieldT p).length+2) (acc:=acc++[p]) h2 (fun q hq=>hf q (List.mem_cons_of_mem _ hq)) (by omega) (by simp; omega) (by omega)
   rw [hdR,hl]
   simp only
   rw [if_neg (by omega),if_neg l2,if_neg (by omega),fieldR_T hp]
   simp only
   rw [ih,fieldsT_cons]
   simp only [List.length_append,crlf,List.length_cons,List.length_nil,List.append_assoc,List.singleton_append]
   congr 2
   omega
def clW:List UInt8:=[67,111,110,116,101,110,116,45,76,101,110,103,116,104]
def clF (n:Nat):Fld:=(clW,Lib.decDigits n)
theorem clH_eq:clH=clW++[58,32]:=by decide
theorem dig_sp {b:UInt8} (h:48≤b.toNat∧b.toNat≤57):spc b=false∧plainB b.toNat=true∧b≠34∧b≠44∧b≠92:=by
 refine ⟨?_,?_,?_,?_,?_⟩
 ·unfold spc spB
  rw [Bool.or_eq_false_iff,beq_eq_false_iff_ne,beq_eq_false_iff_ne]
  omega
 ·unfold plainB
  rw [Bool.or_eq_true,Bool.and_eq_true,decide_eq_true_eq]
  right
  refine ⟨by omega,?_⟩
  rw [Bool.not_eq_true',beq_eq_false_iff_ne]
  omega
 ·rintro rfl; exact absurd h (by decide)
 ·rintro rfl; exact absurd h (by decide)
 ·rintro rfl; exact absurd h (by decide)
theorem dw_none {p:UInt8→Bool} {l:List UInt8} (h:∀ b,b∈l→p b=false):l.dropWhile p=l:=by
 cases l with
 | nil=>rfl
 | cons b l=>rw [List.dropWhile_cons,h b List.mem_cons_self]; rfl
theorem trim_none {l:List UInt8} (h:∀ b,b∈l→spc b=false):trimB l=l:=by
 unfold trimB trimR
 rw [dw_none h,dw_none (fun b hb=>h b (by simpa using hb)),List.reverse_reverse]
theorem clF_ok {n:Nat} (h:n≤999999999999999):fieldB (clF n)=true:=by
 have hd:=digs_all n
 unfold fieldB clF
 have e1:tokenI clW=true:=by decide
 have e2:trimB (Lib.decDigits n)=Lib.decDigits n:=trim_none fun b hb=>(dig_sp (hd b hb)).1
 have e3:(Lib.decDigits n).all (fun b=>plainB b.toNat)=true:=List.all_eq_true.2 fun b hb=>(dig_sp (hd b hb)).2.1
 have e4:=dec_len15 h
 simp only [e1,e2,e3,beq_self_eq_true,Bool.true_and,Bool.and_true,Bool.and_eq_true,decide_eq_true_eq]
 exact ⟨by decide,by omega⟩
theorem elGo_one {s:List UInt8} (h:∀ b,b∈s→b≠34∧b≠44):∀ (k i:Nat),s.length-i=k→elGo s 0 false i []=addE [] (trimB s)
 | 0,i,hk=>by rw [elGo_end (by omega),List.drop_zero]
 | k+1,i,hk=>by
  have hi:i<s.length:=by omega
  have hm:s.getD i 0∈s:=by rw [gDg,gEg hi]; exact List.getElem_mem hi
  obtain ⟨h1,h2⟩:=h _ hm
  rw [elGo_n hi h1 (by simp) (by simp only [not_and]; exact fun _=>h2)]
  exact elGo_one h k (i+1) (by omega)
theorem el_digs (n:Nat):elB (Lib.decDigits n)=[Lib.decDigits n]:=by
 have hd:=digs_all n
 unfold elB
 rw [elGo_one (fun b hb=>⟨(dig_sp (hd b hb)).2.2.1,(dig_sp (hd b hb)).2.2.2.1⟩) _ 0 rfl,trim_none fun b hb=>(dig_sp (hd b hb)).1]
 unfold addE
 have:(Lib.decDigits n==[])=false:=by rw [beq_eq_false_iff_ne]; exact dec_ne n
 rw [this]; rfl
def clOn (me:List UInt8) (ba:Bool) (bo:List UInt8):Bool:=(!(me==[]) && !(bo==[])) || ((me==[]) && !ba)
def cls (me:List UInt8) (ba:Bool) (bo:List UInt8):List Fld:=if clOn me ba bo=true then [clF bo.length] else []
theorem lastT_eq (me:List UInt8) (ba:Bool) (bo:List UInt8):lastT me ba bo=fieldsT (cls me ba bo):=by
 unfold lastT cls
 show (if clOn me ba bo=true then _ else _)=_
 split
 ·rw [itoa_nat,clH_eq]
  unfold fieldsT clF
  simp [fieldT]
 ·rfl
theorem not_hit {l:List Fld} (h:l.any frB=false):∀ p,p∈l→(foldB p.1==clN)=false∧(foldB p.1==teN)=false∧frB p=false:=by
 intro p hp
 have:=List.any_eq_false.1 h p hp
 have hf:frB p=false:=by simpa using this
 have h2:=hf
 unfold frB at h2
 rw [Bool.or_eq_false_iff,Bool.or_eq_false_iff] at h2
 exact ⟨h2.1.1,h2.1.2,hf⟩
theorem vals_no {n:List UInt8} {l:List Fld} (h:∀ p,p∈l→hitB n p=false):valsB n l=[]:=by
 unfold valsB
 rw [List.filter_eq_nil_iff.2 fun p hp=>by rw [h p hp]; exact Bool.false_ne_true]
 rfl
theorem fold_cl:foldB clN=clN:=by decide
theorem fold_te:foldB teN=teN:=by decide
theorem fold_clW:foldB clW=clN:=by decide
theorem vals_app (n:List UInt8) (l m:List Fld):valsB n (l++m)=valsB n l++valsB n m:=by
 unfold valsB; rw [List.filter_append,List.map_append]
section
variable {l:List Fld} (hl:l.any frB=false)
include hl
theorem vals_te (n:Nat) (b:Bool):valsB teN (l++if b=true then [clF n] else [])=[]:=by
 rw [vals_app,vals_no fun p hp=>by unfold hitB; rw [fold_te]; exact (not_hit hl p hp).2.1]
 cases b
 ·rfl
 ·have:hitB teN (clF n)=false:=by
   show (foldB clW==foldB teN)=false
   rw [fold_clW,fold_te]; decide
  rw [if_pos rfl]
  unfold valsB
  simp [this]
theorem vals_cl1 (n:Nat):valsB clN (l++[clF n])=[Lib.decDigits n]:=by
 rw [vals_app,vals_no fun p hp=>by unfold hitB; rw [fold_cl]; exact (not_hit hl p hp).1]
 unfold valsB hitB clF
 simp [fold_cl,fold_clW]
theorem vals_cl0:valsB clN l=[]:=vals_no fun p hp=>by unfold hitB; rw [fold_cl]; exact (not_hit hl p hp).1
theorem keep_l (n:Nat) (b:Bool):keepL (l++if b=true then [clF n] else [])=l:=by
 unfold keepL
 rw [List.filter_append,List.filter_eq_self.2 fun p hp=>by rw [(not_hit hl p hp).2.2]; rfl]
 cases b
 ·simp
 ·have:frB (clF n)=true:=by unfold frB clF; rw [fold_clW]; rfl
  simp [this]
theorem fram_cl (n:Nat) (hn:n≤999999999999999) (hf:fieldsB (l++[clF n])=true) (an ba:Bool):framR (l++[clF n]) an ba=if ba=true then (0,0) else (1,n):=by
 have h1:hasF teN (l++[clF n])=false:=by
  have:=vals_te hl n true
  rw [if_pos rfl] at this
  unfold hasF; rw [this]; rfl
 have h2:hasF clN (l++[clF n])=true:=by unfold hasF; rw [vals_cl1 hl]; rfl
 have h3:lenR (wordsB clN (l++[clF n]))=some n:=by
  unfold wordsB
  rw [vals_cl1 hl]
  have:joinB [Lib.decDigits n]=Lib.decDigits n:=by unfold joinB; simp [Lib.join,Lib.joinTail]
  rw [this,el_digs,lenR_iff]
  exact ⟨by simp,fun w hw=>by rw [List.mem_singleton.1 hw]; exact readD_iff.2 ⟨hn,rfl⟩⟩
 unfold framR
 rw [hf,h1,h2,h3]
 rfl
theorem fram_no (hf:fieldsB l=true) (an ba:Bool):framR l an ba=if ba=true then (0,0) else if an=true then (3,0) else (0,0):=by
 have h1:hasF teN l=false:=by
  have:=vals_te hl 0 false
  rw [if_neg Bool.false_ne_true,List.append_nil] at this
  unfold hasF; rw [this]; rfl
 have h2:hasF clN l=false:=by unfold hasF; rw [vals_cl0 hl]; rfl
 unfold framR
 rw [hf,h1,h2]
 rfl
end
theorem ln_all {l:List UInt8} (h:(l.all lnB)=true):∀ b,b∈l→lnB b=true:=List.all_eq_true.1 h
theorem first_rq {me ta:List UInt8} (hm:methodB me=true) (ht:targetB ta=true):firstR false (me++[32]++ta++httpZ)=some (me,ta,0,[])∧(∀ b,b∈me++[32]++ta++httpZ→lnB b=true)∧(me++[32]++ta++httpZ).length≤300:=by
 have hm':=hm
 have ht':=ht
 unfold methodB tokenI at hm'
 unfold targetB inB at ht'
 simp only [Bool.and_eq_true,List.all_eq_true,decide_eq_true_eq] at hm' ht'
 have e:me++[32]++ta++httpZ=me++32::(ta++32::httpV):=by simp [httpZ,httpV]
 refine ⟨?_,?_,?_⟩
 ·unfold firstR rqR
  rw [if_neg Bool.false_ne_true,e,spl_at 32 me _ fun b hb=>(tokN (hm'.1.2 b hb)).2.1,spl_at 32 ta _ fun b hb=>(visN (ht'.2 b hb)).1,spl_none 32 httpV (by decide)]
  simp only [hm,ht,beq_self_eq_true,Bool.and_self,if_true,Option.map_some]
 ·intro b hb
  rw [e] at hb
  rcases List.mem_append.1 hb with hb | hb
  ·exact (tokN (hm'.1.2 b hb)).2.2
  ·rcases List.mem_cons.1 hb with rfl | hb
   ·decide
   ·rcases List.mem_append.1 hb with hb | hb
    ·exact (visN (ht'.2 b hb)).2
    ·exact ln_all (l:=32::httpV) (by decide) b hb
 ·rw [e]
  have h1:me.length≤20:=hm'.2
  have h2:ta.length≤200:=by omega
  simp [httpV]; omega
theorem first_an {st:Nat} {re:List UInt8} (hs:statusB (st:Nat)=true) (hr:reasonB re=true):firstR true (httpA++Lib.itoa (st:Nat)++[32]++re)=some ([],[],st,re)∧(∀ b,b∈httpA++Lib.itoa (st:Nat)++[32]++re→lnB b=true)∧(httpA++Lib.itoa (st:Nat)++[32]++re).length≤300:=by
 have hs':=hs
 have hr':=hr
 unfold statusB inB at hs'
 unfold reasonB at hr'
 simp only [Bool.and_eq_true,List.all_eq_true,decide_eq_true_eq] at hs' hr'
 rw [itoa_nat]
 have hst:100*(st / 100)+10*(st / 10 % 10)+st % 10=st:=by omega
 have h3:=dec3 (st / 100) (st / 10 % 10) (st % 10) (by omega) (by omega) (by omega)
 rw [hst] at h3
 have hlen:(Lib.decDigits st).length=3:=by rw [h3]; rfl
 have hval:=valD_dec st
 have hall:=digs_all st
 generalize Lib.decDigits st=ds at h3 hlen hval hall
 match ds,hlen with
 | [a,b,c],_ =>
 have hd3:((httpA++[a,b,c]++[32]++re).drop 9).take 3=[a,b,c]:=rfl
 refine ⟨?_,?_,?_⟩
 ·unfold firstR stR
  rw [if_pos rfl,if_pos]
  ·have e1:st3 (httpA++[a,b,c]++[32]++re)=st:=by unfold st3; rw [hd3]; exact hval
   rw [e1]; rfl
  ·refine ⟨rfl,by simp [httpA],rfl,?_,?_,hr⟩
   ·unfold digs3
    rw [hd3,List.all_eq_true]
    intro x hx
    have:=hall x hx
    unfold isDigitB
    rw [Bool.and_eq_true,decide_eq_true_eq,decide_eq_true_eq]
    omega
   ·have e1:st3 (httpA++[a,b,c]++[32]++re)=st:=by unfold st3; rw [hd3]; exact hval
    rw [e1]; exact hs
 ·intro x hx
  rw [show httpA++[a,b,c]++[32]++re=httpA++([a,b,c]++(32::re)) by simp] at hx
  rcases List.mem_append.1 hx with hx | hx
  ·exact ln_all (l:=httpA) (by decide) x hx
  ·rcases List.mem_append.1 hx with hx | hx
   ·exact plain_no (dig_sp (hall x hx)).2.1
   ·rcases List.mem_cons.1 hx with rfl | hx
    ·decide
    ·exact plain_no (hr'.2 x hx)
 ·simp [httpA]; omega
theorem headR_at {F rest:List UInt8} {an:Bool} {L:List Fld} {me ta re:List UInt8} {st:Nat} (h1:firstR an F=some (me,ta,st,re)) (h2:∀ b,b∈F→lnB b=true) (h3:F.length≤300) (hf:∀ p,p∈L→fieldB p=true) (hn:L.length≤20)
  (hb:(F++crlf++fieldsT L++crlf).length≤1500) (hr:rest.length≤600):headR (F++crlf++fieldsT L++crlf++rest) an = .ok (me,ta,st,re,(F++crlf++fieldsT L++crlf).length,L):=by
 have hl:lineR (F++crlf++fieldsT L++crlf++rest) 0=some (F,0+F.length+2):=lineR_at (r:=fieldsT L++crlf++rest) (by simp [crlf]) h2
 have hd:(F++crlf++fieldsT L++crlf++rest).drop (0+F.length+2)=fieldsT L++(crlf++rest):=by
  rw [show F++crlf++fieldsT L++crlf++rest=(F++crlf)++(fieldsT L++(crlf++rest)) by simp]
  exact List.drop_left' (by simp [crlf])
 have hlen:(F++crlf++fieldsT L++crlf).length=0+F.length+2+(fieldsT L).length+2:=by simp [crlf]; omega
 have hh:=hdR_at (n:=21) (acc:=[]) hd hf (by omega) (by simpa using hn) (by omega)
 unfold headR
 rw [if_neg (by rw [List.length_append]; omega),hl]
 simp only
 rw [if_neg (by omega),h1]
 simp only
 rw [hh,hlen]; rfl
theorem round {me ta re bo:List UInt8} {st:Int} {ba:Bool} {l:List Fld} (h:msgB me ta st re ba l bo=true) :
  readR (wmT me ta st re ba l bo) (me==[]) ba = .ok (me,ta,st.toNat,re,ba,l,bo):=by
 have hm:=h
 unfold msgB at hm
 simp only [Bool.and_eq_true,Bool.not_eq_true',decide_eq_true_eq] at hm
 obtain ⟨⟨⟨⟨⟨hfs,h20⟩,hfr⟩,hbo⟩,hkind⟩,hhead⟩:=hm
 have hl20:=fields_len hfs
 have hl19:l.length≤19:=by
  have:¬ l.length=20:=by simpa using h20
  omega
 have hfa:∀ p,p∈l→fieldB p=true:=by
  unfold fieldsB at hfs
  rw [Bool.and_eq_true] at hfs
  exact List.all_eq_true.1 hfs.2
 have hn9:bo.length≤999999999999999:=by omega
 have hcl:cls me ba bo=if clOn me ba bo=true then [clF bo.length] else []:=rfl
 have hLa:∀ p,p∈l++cls me ba bo→fieldB p=true:=by
  intro p hp
  rcases List.mem_append.1 hp with hp | hp
  ·exact hfa p hp
  ·rw [hcl] at hp
   split at hp
   ·rw [List.mem_singleton.1 hp]; exact clF_ok hn9
   ·cases hp
 have hLn:(l++cls me ba bo).length≤20:=by
  rw [hcl]
  split<;>simp<;>omega
 have hLf:fieldsB (l++cls me ba bo)=true:=by
  unfold fieldsB
  rw [Bool.and_eq_true,decide_eq_true_eq]
  exact ⟨hLn,List.all_eq_true.2 hLa⟩
 have hkeep:keepL (l++cls me ba bo)=l:=by rw [hcl]; exact keep_l hfr _ _
 have hwm:wmT me ta st re ba l bo=headT me ta st re ba l bo++bo:=by unfold wmT; rw [if_pos h]
 have hhd:∀ F,firstT me ta st re=F++crlf→headT me ta st re ba l bo=F++crlf++fieldsT (l++cls me ba bo)++crlf:=by
  intro F hF
  unfold headT
  rw [hF,lastT_eq,fieldsT_app]; simp
 have main:∀ (F:List UInt8) (an:Bool) (sn:Nat),st=sn→firstT me ta st re=F++crlf→firstR an F=some (me,ta,sn,re)→(∀ b,b∈F→lnB b=true)→F.length≤300→(an&&(ba || bareB (sn:Nat)))=ba →
   bodyR bo (framR (l++cls me ba bo) an ba).1 (framR (l++cls me ba bo) an ba).2=(0,bo)→readR (wmT me ta st re ba l bo) an ba = .ok (me,ta,st.toNat,re,ba,l,bo):=by
  intro F an sn hst hF h1 h2 h3 hba hbody
  rw [hwm]
  have hh:=hhd F hF
  rw [hh] at hhead ⊢
  have hr:=headR_at (rest:=bo) h1 h2 h3 hLa hLn hhead hbo
  unfold readR
  rw [hr]
  simp only
  rw [hba,List.drop_left' rfl,hbody]
  simp only
  rw [if_pos trivial,hkeep,←hst,if_pos h,hst]
  rfl
 by_cases hme:me=[]
 ·subst hme
  have hk:answerB ta st re ba bo=true:=by simpa using hkind
  have hk':=hk
  unfold answerB at hk'
  simp only [Bool.and_eq_true,Bool.or_eq_true,Bool.not_eq_true',beq_iff_eq] at hk'
  obtain ⟨⟨⟨⟨hta,hst⟩,hre⟩,hbb⟩,hbare⟩:=hk'
  subst hta
  have hs0:=hst
  unfold statusB inB at hs0
  simp only [Bool.and_eq_true,decide_eq_true_eq] at hs0
  obtain ⟨sn,rfl⟩:∃ sn:Nat,st=sn:=⟨st.toNat,by omega⟩
  obtain ⟨f1,f2,f3⟩:=first_an hst hre
  refine main _ true sn rfl (by unfold firstT; rfl) f1 f2 f3 ?_ ?_
  ·cases ba
   ·rcases hbare with hb | hb
    ·cases hb
    ·rw [hb]; rfl
   ·rfl
  ·cases ba
   ·have hc:clOn [] false bo=true:=rfl
    have e:cls [] false bo=[clF bo.length]:=by unfold cls; rw [if_pos hc]
    rw [e] at hLf ⊢
    rw [fram_cl hfr _ hn9 hLf]
    show bodyR bo 1 bo.length=_
    unfold bodyR
    simp only
    rw [if_neg (by omega),if_pos trivial]
   ·have e:cls [] true bo=[]:=rfl
    rw [e,List.append_nil] at hLf ⊢
    rw [fram_no hfr hLf]
    have hb0:bo=[]:=by
     have:(true && !(bo==[]))=false:=hbb
     simpa using this
    subst hb0
    rfl
 ·have hme':(me==[])=false:=by rw [beq_eq_false_iff_ne]; exact hme
  rw [hme'] at hkind ⊢
  rw [if_neg Bool.false_ne_true] at hkind
  have hk':=hkind
  unfold requestB at hk'
  simp only [Bool.and_eq_true,Bool.not_eq_true',beq_iff_eq] at hk'
  obtain ⟨⟨⟨⟨hmb,htb⟩,hst⟩,hre⟩,hba⟩:=hk'
  subst hst; subst hre; subst hba
  obtain ⟨f1,f2,f3⟩:=first_rq hmb htb
  refine main _ false 0 rfl (by unfold firstT; rw [hme',if_neg Bool.false_ne_true]) f1 f2 f3 rfl ?_
  by_cases hb0:bo=[]
  ·subst hb0
   have e:cls me false []=[]:=by unfold cls clOn; rw [hme']; rfl
   rw [e,List.append_nil] at hLf ⊢
   rw [fram_no hfr hLf]
   rfl
  ·have hb':(bo==[])=false:=by rw [beq_eq_false_iff_ne]; exact hb0
   have e:cls me false bo=[clF bo.length]:=by unfold cls clOn; rw [hme',hb']; rfl
   rw [e] at hLf ⊢
   rw [fram_cl hfr _ hn9 hLf]
   show bodyR bo 1 bo.length=_
   unfold bodyR
   simp only
   rw [if_neg (by omega),if_pos trivial]
end Go.Proofs.YtbdfdfhamlmodaaGreatDoor.Fw
