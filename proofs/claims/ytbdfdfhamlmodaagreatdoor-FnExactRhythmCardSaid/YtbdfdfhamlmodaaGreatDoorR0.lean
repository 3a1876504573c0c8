/- Text of the proof: FsA. -/
import Derived.Shelf.Strings.IndexAnyAll
import Derived.Laws.RangeAny
import Derived.Lib.DecodeN
import Derived.Shelf.Small.Utf8
import Derived.Laws.Runes
import Derived.Deep.QuietTactic
import Derived.BigQuiet
import Derived.WalkMore
set_option linter.unusedSimpArgs false
set_option linter.unusedVariables false
namespace Go.Proofs
open Go.Shelf Go.RowKit Go.Lib
variable {P:Program} {ρ:Ren}
set_option linter.unusedVariables false
def crlfB:ByteArray:=⟨#[13,10]⟩
theorem next_at (wx:World) (b:Nat) (s:ByteArray) (pos:Nat) (ty:TypeId) (h:pos<s.size) (hb:wx.heap[b]? = some (.stringIter s pos)) :
  (Instr.next (.pointer (some ⟨b,0,none⟩)) true ty).run P wx = .ok (.tuple #[.bool true,.int .i64 pos,.int .i32 (Utf8.decode s pos).1]) { wx with heap:=wx.heap.setIfInBounds b (.stringIter s (pos+(Utf8.decode s pos).2)) }:=by
 simp only [Instr.next,getObj,setObj,Sem.run_bind,Sem.run,hb,Result.andThen,h,if_true]
 simp [goInt,Sem.run,hb]
theorem next_over (wx:World) (b:Nat) (s:ByteArray) (pos:Nat) (ty:TypeId) (h:¬ pos<s.size) (hb:wx.heap[b]? = some (.stringIter s pos)) :
  (Instr.next (.pointer (some ⟨b,0,none⟩)) true ty).run P wx = .ok (.tuple #[.bool false]) wx:=by
 simp [Instr.next,getObj,Sem.run,hb,h]
set_option maxHeartbeats 4000000 in
set_option maxRecDepth 1000000 in
theorem rune_bad (L:Lays.n152 P ρ) (w:World) :
  Calls P (ρ.f 152) #[.string crlfB,.int .i32 65533] w fun e w'=>e = .returned (.int .i64 (-1))∧Below w.heap.size w w':=by
 have t3:=L.t3; have a3:=L.a3; have z3:=L.z3; have v3:=L.v3
 have t4:=L.t4; have a4:=L.a4; have z4:=L.z4; have v4:=L.v4
 have t5:=L.t5; have a5:=L.a5; have z5:=L.z5; have v5:=L.v5
 have t9:=L.t9; have a9:=L.a9; have z9:=L.z9; have v9:=L.v9
 have t21:=L.t21; have a21:=L.a21; have z21:=L.z21; have v21:=L.v21
 go_enter L.f152,Body.n152_ntmps ρ
 go_wp2
 go_loopg [5,6] 2 (fun g _ _ wx=>∃ i:Nat,i+g=2∧wx=w.iter crlfB i)
 case atStart=>exact ⟨0,by omega,rfl⟩
 case round =>
  obtain ⟨i,hig,rfl⟩:=hrel
  cases gk with
  | zero =>
   obtain rfl:i=2:=by omega
   have hnx:=fun ty=>run_next_end (P:=P) w crlfB 2 ty (by decide)
   go_wp2
   go_ret
   exact ⟨rfl,(Below.refl _ _).alloc (Nat.le_refl _) _⟩
  | succ g =>
   have hi:i<crlfB.size:=by show i<2; omega
   have hb:(crlfB[i]'hi).toNat=13∨(crlfB[i]'hi).toNat=10:=by
    have:i=0∨i=1:=by omega
    rcases this with rfl | rfl
    ·exact .inl rfl
    ·exact .inr rfl
   have hx128:(crlfB[i]'hi).toNat<128:=by omega
   have hnx:=fun ty=>run_next_ascii (P:=P) w crlfB i ty hi hx128
   generalize (crlfB[i]'hi).toNat=b at hb hnx
   have hne:(((b:Nat):Int)==65533)=false:=beq_eq_false_iff_ne.2 (by omega)
   go_wp2
   go_roundg g
   case measure=>omega
   case rel=>exact ⟨i+1,by omega,rfl⟩
set_option maxHeartbeats 4000000 in
set_option maxRecDepth 1000000 in
theorem rune_high (L:Lays.n152 P ρ) (w:World) (r:Int) (h0:128≤r) (h1:r≤1114111) (h2:r<55296∨57343<r) (h3:r≠65533) :
  Calls P (ρ.f 152) #[.string crlfB,.int .i32 r] w fun e w'=>e = .returned (.int .i64 (-1))∧Below w.heap.size w w':=by
 have t3:=L.t3; have a3:=L.a3; have z3:=L.z3; have v3:=L.v3
 have t4:=L.t4; have a4:=L.a4; have z4:=L.z4; have v4:=L.v4
 have t5:=L.t5; have a5:=L.a5; have z5:=L.z5; have v5:=L.v5
 have t9:=L.t9; have a9:=L.a9; have z9:=L.z9; have v9:=L.v9
 have t21:=L.t21; have a21:=L.a21; have z21:=L.z21; have v21:=L.v21
 have k1:decide ((0:Int)≤r)=true:=decide_eq_true (by omega)
 have k2:decide (r<(128:Int))=false:=decide_eq_false (by omega)
 have k3:(r==(65533:Int))=false:=beq_eq_false_iff_ne.2 h3
 have e119:∀ args w,(callFunc (ρ.f 119) args).run P w = .ok (.enter (ρ.f 119) args) w:=enters_of L.f119 (by kernel_rfl) rfl
 have e137:∀ args w,(callFunc (ρ.f 137) args).run P w = .ok (.enter (ρ.f 137) args) w:=enters_of L.f137 (by kernel_rfl) rfl
 have hv:Lib.validRune r=true:=by
  unfold Lib.validRune; simp; omega
 obtain ⟨z1,z2,z3⟩:=encode_facts r (by rw [validRune_eq]; unfold Go.validRune; simp; omega) h0
 generalize hrs:Utf8.encode r=rs at z1 z2 z3
 by_cases hn:rs.size=2
 ·have y1:IntKind.i64.wrap (((rs.size:Nat):Int)-1)=1:=by rw [hn]; rfl
  have y2:1<rs.size:=by omega
  obtain ⟨c,hc⟩:∃ c:UInt8,rs[1]'y2=c:=⟨_,rfl⟩
  have hc1:128≤c.toNat:=by rw [←hc]; have:=z3 (by omega); simpa [hn] using this
  clear z3
  have hsz:crlfB.size=2:=rfl
  have w2:IntKind.i64.wrap 2=2:=rfl
  have h10:crlfB[1]'(by decide)=10:=rfl
  have hne:(((10:UInt8).toNat:Int) != ((c.toNat:Nat):Int))=true:=by
   rw [bne_iff_ne]
   have:((10:UInt8).toNat:Int)=10:=rfl
   omega
  go_enter L.f152,Body.n152_ntmps ρ
  go_wp2_with (go_at_fn (ρ.f 119); refine (Any.utf8_ValidRune { L with } _ _).mono ?_; rintro e w' ⟨rfl,hw⟩; rw [hw,hv])
  go_step3
  go_wp2
  go_loopg [9,10] 0 (fun g s9 s10 wx=>s9 = .int .i64 1∧s10 = .int .i64 0∧wx=w)
  case atStart=>exact ⟨rfl,rfl,rfl⟩
  case round =>
   obtain ⟨rfl,rfl,rfl⟩:=hrel
   go_wp2
   go_step3
   go_wp2
   refine wp_region_quiet_lit L.mixed (by kernel_rfl) ?_
   repeat (quiet_step (fail))
   refine wpQuiet_nil ?_
   intro _ hw'
   obtain ⟨nq,hw''⟩:=hw'
   subst hw''
   go_wp2
   refine wp_region_quiet_lit L.mixed (by kernel_rfl) ?_
   repeat (quiet_step (exact (Any.strings_IndexByte { L with } _ _ _).mono fun e w' h=>⟨h.1,_,h.2⟩))
   refine wpQuiet_nil ?_
   intro _ hw'
   obtain ⟨nq,hw''⟩:=hw'
   subst hw''
   go_wp2
   simp only [Exit.noGoto_ret,Exit.inBlock,Exit.then]
   go_ret
   exact ⟨rfl,rfl,rfl,rfl,Nat.le_refl _,fun _ _=>rfl⟩
 ·have y1:IntKind.i64.wrap (((rs.size:Nat):Int)-1)=((rs.size-1:Nat):Int):=by rw [IntKind.wrap_i64]; omega
  have y2:¬ (((rs.size-1:Nat):Int)<2):=by omega
  have hsz:crlfB.size=2:=rfl
  generalize rs.size-1=m at y1 y2 z3
  clear z3
  go_enter L.f152,Body.n152_ntmps ρ
  go_wp2_with (go_at_fn (ρ.f 119); refine (Any.utf8_ValidRune { L with } _ _).mono ?_; rintro e w' ⟨rfl,hw⟩; rw [hw,hv])
  go_step3
  go_wp2
  go_loopg [9] 0 (fun g s9 wx=>s9 = .int .i64 m∧wx=w)
  case atStart=>exact ⟨rfl,rfl⟩
  case round =>
   obtain ⟨rfl,rfl⟩:=hrel
   go_wp2
   simp only [Exit.noGoto_ret,Exit.inBlock,Exit.then]
   go_ret
   exact ⟨rfl,Below.refl _ _⟩
theorem ite_or {α:Type} {c:Prop} [Decidable c] {x y d:α} (h:(if c then x else y)=d):(c∧x=d)∨y=d:=by
 by_cases hc:c
 ·rw [if_pos hc] at h; exact .inl ⟨hc,h⟩
 ·rw [if_neg hc] at h; exact .inr h
theorem dec_facts (n b0 b1 b2 b3:Nat) (hn:1≤n) (h0:128≤b0) (d:Nat × Nat) (h:decodeN n b0 b1 b2 b3=d) :
  128≤d.1∧d.1≤1114111∧(d.1<55296∨57343<d.1)∧1≤d.2∧d.2≤n∧d.2≤4∧(1<d.2→128≤b1)∧(2<d.2→128≤b2)∧(3<d.2→128≤b3):=by
 have key:d=(65533,1)∨(d.2=2∧1<n∧b1 / 64=2∧128≤d.1∧d.1<55296)∨(d.2=3∧2<n∧b1 / 64=2∧b2 / 64=2∧2048≤d.1∧(d.1<55296∨(57344≤d.1∧d.1≤1114111)))∨(d.2=4∧3<n∧b1 / 64=2∧b2 / 64=2∧b3 / 64=2∧2048≤d.1∧(d.1<55296∨(57344≤d.1∧d.1≤1114111))):=by
  unfold decodeN at h
  rw [if_neg (by omega)] at h
  by_cases c1:b0 / 32=6∧(1<n∧b1 / 64=2)
  ·rw [if_pos c1] at h
   rcases ite_or h with ⟨c,h⟩ | h
   ·subst h; exact .inr (.inl ⟨rfl,c1.2.1,c1.2.2,by dsimp only; omega,by dsimp only; omega⟩)
   ·exact .inl h.symm
  rw [if_neg c1] at h
  by_cases c2:b0 / 16=14∧(1<n∧b1 / 64=2)∧(2<n∧b2 / 64=2)
  ·rw [if_pos c2] at h
   rcases ite_or h with ⟨c,h⟩ | h
   ·subst h; exact .inr (.inr (.inl ⟨rfl,c2.2.2.1,c2.2.1.2,c2.2.2.2,c.1,c.2⟩))
   ·exact .inl h.symm
  rw [if_neg c2] at h
  by_cases c3:b0 / 8=30∧(1<n∧b1 / 64=2)∧(2<n∧b2 / 64=2)∧(3<n∧b3 / 64=2)
  ·rw [if_pos c3] at h
   rcases ite_or h with ⟨c,h⟩ | h
   ·subst h; exact .inr (.inr (.inr ⟨rfl,c3.2.2.2.1,c3.2.1.2,c3.2.2.1.2,c3.2.2.2.2,Nat.le_trans (by decide) c.1,c.2⟩))
   ·exact .inl h.symm
  rw [if_neg c3] at h
  exact .inl h.symm
 clear h
 rcases key with k | k | k | k
 ·have k1:d.1=65533:=by rw [k]
  have k2:d.2=1:=by rw [k]
  clear k
  refine ⟨by omega,by omega,by omega,by omega,by omega,by omega,fun _=>by omega,fun _=>by omega,fun _=>by omega⟩
 all_goals refine ⟨by omega,by omega,by omega,by omega,by omega,by omega,fun _=>by omega,fun _=>by omega,fun _=>by omega⟩
theorem get_list (s:ByteArray) (i:Nat) (b:UInt8) (h:s.data.toList[i]? = some b):s.get! i=b:=by
 have hi:i<s.size:=by
  rw [size_eq]
  exact (List.getElem?_eq_some_iff.1 h).1
 have:=data_getElem? s i hi
 rw [h] at this
 injection this with e
 rw [e]
 show s.get! i=_
 simp [ByteArray.get!,getElem!_pos,hi]
 rfl
theorem no_high {s:ByteArray} {i:Nat} (hi:i<s.size) (ha:128≤(s[i]'hi).toNat) (hno:NoAny s.data.toList [13,10] i) :
  (128:Int)≤((Utf8.decode s i).1:Nat)∧(((Utf8.decode s i).1:Nat):Int)≤1114111∧((((Utf8.decode s i).1:Nat):Int)<55296∨(57343:Int)<((Utf8.decode s i).1:Nat))∧1≤(Utf8.decode s i).2∧i+(Utf8.decode s i).2≤s.size∧NoAny s.data.toList [13,10] (i+(Utf8.decode s i).2):=by
 have h0:128≤(s.get! i).toNat:=by rw [get_list s i _ (data_getElem? s i hi)]; exact ha
 have h:=dec_facts (s.size-i) (s.get! i).toNat (s.get! (i+1)).toNat (s.get! (i+2)).toNat (s.get! (i+3)).toNat (by omega) h0 _ (decode_at s i).symm
 obtain ⟨a1,a2,a3,a4,a5,a6,a7,a8,a9⟩:=h
 refine ⟨by omega,by omega,by omega,a4,by omega,fun j b hj hbj => ?_⟩
 by_cases hlt:j<i
 ·exact hno j b hlt hbj
 ·have hg:=get_list s j b hbj
  have h128:128≤b.toNat:=by
   rw [←hg]
   have hc:j=i∨j=i+1∨j=i+2∨j=i+3:=by omega
   rcases hc with rfl | rfl | rfl | rfl
   ·exact h0
   ·exact a7 (by omega)
   ·exact a8 (by omega)
   ·exact a9 (by omega)
  have e1:b≠13:=fun e=>by rw [e] at h128; exact absurd h128 (by decide)
  have e2:b≠10:=fun e=>by rw [e] at h128; exact absurd h128 (by decide)
  simp [e1,e2]
set_option maxHeartbeats 4000000 in
set_option maxRecDepth 1000000 in
theorem any_short (L:Lays.n153 P ρ) (s:ByteArray) (w:World) (h8:s.size≤8) :
  Calls P (ρ.f 153) #[.string s,.string crlfB] w fun e w'=>e = .returned (.int .i64 (indexAny s.data.toList [13,10]))∧Below w.heap.size w w':=by
 have hemp:crlfB.toList.isEmpty=false:=by rw [toList_data]; rfl
 have hsz:crlfB.size=2:=rfl
 have h8z:decide ((8:Int)<(s.size:Int))=false:=decide_eq_false (by omega)
 have t3:=L.t3; have a3:=L.a3; have z3:=L.z3; have v3:=L.v3
 have t4:=L.t4; have a4:=L.a4; have z4:=L.z4; have v4:=L.v4
 have t5:=L.t5; have a5:=L.a5; have z5:=L.z5; have v5:=L.v5
 have t9:=L.t9; have a9:=L.a9; have z9:=L.z9; have v9:=L.v9
 have t21:=L.t21; have a21:=L.a21; have z21:=L.z21; have v21:=L.v21
 have e152:∀ args w,(callFunc (ρ.f 152) args).run P w = .ok (.enter (ρ.f 152) args) w:=enters_of L.f152 (by kernel_rfl) rfl
 have e226:∀ args w,(callFunc (ρ.f 226) args).run P w = .ok (.enter (ρ.f 226) args) w:=enters_of L.f226 (by kernel_rfl) rfl
 go_enter L.f153,Body.n153_ntmps ρ
 go_wp2_with (go_at_fn (ρ.f 226); refine (Any.strings_shouldUseASCIISet { L with } _ _).mono ?_; rintro e w' ⟨rfl,hw⟩; rw [hw,h8z])
 go_loopg [9,10] s.size (fun g _ _ wx=>∃ i:Nat,i+g=s.size∧Below w.heap.size w wx∧wx.heap[w.heap.size]? = some (.stringIter s i)∧NoAny s.data.toList [13,10] i)
 case atStart=>exact ⟨0,by omega,(Below.refl _ _).alloc (Nat.le_refl _) _,World.iter_heap _ _ _,NoAny.zero _ _⟩
 case round =>
  obtain ⟨i,hig,hbe,hit,hno⟩:=hrel
  have HN:Aside (NoAny s.data.toList [13,10] i):=hno
  have HB:Aside (Below w.heap.size w wr):=hbe
  clear hno hbe
  cases gk with
  | zero =>
   obtain rfl:i=s.size:=by omega
   have hnx:=fun ty=>next_over (P:=P) wr w.heap.size s s.size ty (by omega) hit
   go_wp2
   go_ret
   exact ⟨by rw [indexAny_none (by rw [←size_eq]; exact HN.out)]; rfl,HB.out⟩
  | succ g =>
   have hi:i<s.size:=by omega
   have hnx:=fun ty=>next_at (P:=P) wr w.heap.size s i ty hi hit
   have hlt:w.heap.size<wr.heap.size:=by
    rw [Array.getElem?_eq_some_iff] at hit
    exact hit.1
   generalize hw2:({ wr with heap:=wr.heap.setIfInBounds w.heap.size (.stringIter s (i+(Utf8.decode s i).2)) }:World)=w2 at hnx
   have hB2:Below w.heap.size w w2∧w2.heap[w.heap.size]? = some (.stringIter s (i+(Utf8.decode s i).2))∧w2.heap.size=wr.heap.size:=by
    subst hw2
    refine ⟨HB.out.trans ⟨rfl,rfl,rfl,by simp,fun k hk => ?_⟩,?_,by simp⟩
    ·show (wr.heap.setIfInBounds _ _)[k]? = _
     rw [Array.getElem?_setIfInBounds_ne (by omega)]
    ·show (wr.heap.setIfInBounds _ _)[w.heap.size]? = _
     rw [Array.getElem?_setIfInBounds_self_of_lt hlt]
   have HB2:Aside (Below w.heap.size w w2∧w2.heap[w.heap.size]? = some (.stringIter s (i+(Utf8.decode s i).2))∧w2.heap.size=wr.heap.size):=hB2
   have HL:Aside (w.heap.size<wr.heap.size):=hlt
   clear hB2 hw2 hit hlt
   by_cases ha:(s[i]'hi).toNat<128
   ·rw [decode_ascii s i hi ha] at hnx HB2
    obtain ⟨x,hx⟩:∃ x:UInt8,s[i]'hi=x:=⟨_,rfl⟩
    have Hx:Aside (s.data.toList[i]? = some x):=by rw [←hx]; exact data_getElem? s i hi
    rw [hx] at hnx ha
    clear hx
    have hcon:=contains_iff_indexByte [13,10] x
    have hback:((x.toNat:Int)).toNat.toUInt8=x:=by simp
    have hc2:crlfB.data.toList=[13,10]:=rfl
    cases hin:([13,10]:List UInt8).contains x
    ·rw [hin] at hcon
     have hlt:¬ ((0:Int)≤indexByte [13,10] x):=of_decide_eq_false hcon.symm
     clear hcon
     go_wp2_with (go_at_fn (ρ.f 152); refine (Any.strings_IndexRune_ascii { L with } _ _ _ (by omega) (by omega)).mono ?_; rintro e w' ⟨rfl,hw⟩; rw [hw,hback,hc2])
     go_roundg g
     case measure=>omega
     case rel=>exact ⟨i+1,by omega,HB2.out.1,HB2.out.2.1,HN.out.succ Hx.out hin⟩
    ·rw [hin] at hcon
     have hge:(0:Int)≤indexByte [13,10] x:=of_decide_eq_true hcon.symm
     clear hcon
     go_wp2_with (go_at_fn (ρ.f 152); refine (Any.strings_IndexRune_ascii { L with } _ _ _ (by omega) (by omega)).mono ?_; rintro e w' ⟨rfl,hw⟩; rw [hw,hback,hc2])
     go_ret
     exact ⟨by rw [indexAny_hit HN.out Hx.out hin]; rfl,HB2.out.1⟩
   ·have hno:=no_high hi (by omega) HN.out
    generalize Utf8.decode s i=d at hno hnx HB2
    obtain ⟨r,n⟩:=d
    obtain ⟨b1,b2,b3,b4,b5,b6⟩:=hno
    have H6:Aside (NoAny s.data.toList [13,10] (i+n)):=b6
    clear b6
    have key:Calls P (ρ.f 152) #[.string crlfB,.int .i32 (r:Nat)] w2 fun e w'=>e = .returned (.int .i64 (-1))∧Below w2.heap.size w2 w':=by
     by_cases hr:((r:Nat):Int)=65533
     ·rw [hr]; exact rune_bad { L with } w2
     ·exact rune_high { L with } w2 r b1 b2 b3 hr
    go_wp2_with (go_at_fn (ρ.f 152); refine key.mono ?_; rintro e w' ⟨rfl,hw⟩)
    go_roundg (s.size-(i+n))
    case measure=>omega
    case rel =>
     obtain ⟨c1,c2,c3⟩:=HB2.out
     have hL:=HL.out
     exact ⟨i+n,by omega,c1.trans (hw.mono (by omega)),by rw [hw.block _ (by omega)]; exact c2,H6.out⟩
theorem any_crlf (L:Lays.n153 P ρ) (h116:(P.info? (ρ.t 116)).map (fun i=>(i.zero,i.size))=some (some (.agg (Array.replicate 256 (.bool false))),256)) (s:ByteArray) (w:World) (hs:s.size<4294967281) :
  Calls P (ρ.f 153) #[.string s,.string crlfB] w fun e w'=>e = .returned (.int .i64 (indexAny s.data.toList [13,10]))∧Below w.heap.size w w':=by
 by_cases h8:s.size≤8
 ·exact any_short L s w h8
 ·refine (Any.strings_IndexAny_long L (zero_of_info h116).1 (zero_of_info h116).2 s crlfB w (by decide) (by omega) hs (by decide) ?_).mono fun e w' ⟨h1,h2⟩=>⟨h1,?_⟩
  ·intro j b h
   match j,h with
   | 0,h=>injection h with h; subst h; decide
   | 1,h=>injection h with h; subst h; decide
   | n+2,h=>cases h
  ·rw [h2]
   exact ((Below.refl _ _).alloc (Nat.le_refl _) _).alloc (by simp) _
end Go.Proofs
