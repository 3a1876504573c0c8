/- Texts of the proof: FsA FeP FwA FwB FwC FwD FwE FwF FwG FwH FwI FwJ FwK FwL FwM FwN FwO FwP. -/
import Derived.Shelf.Strings.IndexAnyAll
import Derived.Laws.RangeAny
import Derived.Lib.DecodeN
import Derived.Shelf.Small.Utf8
import Derived.Laws.Runes
import Derived.Deep.QuietTactic
import Derived.BigQuiet
import Derived.WalkMore
import Derived.Lib.SplitLaws
import Derived.Lib.IndexBytes
import Derived.Lib.IndexAny
import Derived.LoopN
import Derived.Calls
import Derived.Below
import Derived.Lib.LaidTab
import Derived.Lib.ItoaNum
import Derived.Laws.World
import Derived.Tactics
import Derived.Deep.AppendSrc
import Derived.Laws.Tables
import Derived.Laws.Slices
import Derived.Laws.Strings
import Derived.Laws.BytesString
import Derived.Laws.Unary
import Derived.Laws.Concat
import Derived.Laws.StructEq
import Derived.Laws.Pointers
import Derived.Laws.Cover3
import Derived.Laws.Entries
import Derived.Laws.IdiomStrings
import Derived.Laws.Cells
import Derived.Laws.MakeOwn
set_option linter.unusedSimpArgs false
set_option linter.unusedVariables false
/- strings.IndexAny of "\r\n" over any bytes. -/
namespace Go.Proofs
open Go.Shelf Go.RowKit Go.Lib
variable {P:Program} {ρ:Ren}
def crlfB:ByteArray:=⟨#[13,10]⟩
theorem next_at (wx:World) (b:Nat) (s:ByteArray) (pos:Nat) (ty:TypeId) (h:pos<s.size) (hb:wx.heap[b]? = some (.stringIter s pos)) :
  (Instr.next (.pointer (some ⟨b,0,none⟩)) true ty).run P wx = .ok (.tuple #[.bool true,.int .i64 pos,.int .i32 (Utf8.decode s pos).1]) { wx with heap:=wx.heap.setIfInBounds b (.stringIter s (pos+(Utf8.decode s pos).2)) }:=by
 simp only [Instr.next,getObj,setObj,Sem.run_bind,Sem.run,hb,Result.andThen,h,if_true]
 simp [goInt,Sem.run,hb]
theorem next_over (wx:World) (b:Nat) (s:ByteArray) (pos:Nat) (ty:TypeId) (h:¬ pos<s.size) (hb:wx.heap[b]? = some (.stringIter s pos)) :
  (Instr.next (.pointer (some ⟨b,0,none⟩)) true ty).run P wx = .ok (.tuple #[.bool false]) wx:=by
 simp [Instr.next,getObj,Sem.run,hb,h]
set_option maxHeartbeats 4000000 in
set_option maxRecDepth 1000000 in
theorem rune_bad (L:Lays.n152 P ρ) (w:World) :
  Calls P (ρ.f 152) #[.string crlfB,.int .i32 65533] w fun e w'=>e = .returned (.int .i64 (-1))∧Below w.heap.size w w':=by
 have t3:=L.t3; have a3:=L.a3; have z3:=L.z3; have v3:=L.v3
 have t4:=L.t4; have a4:=L.a4; have z4:=L.z4; have v4:=L.v4
 have t5:=L.t5; have a5:=L.a5; have z5:=L.z5; have v5:=L.v5
 have t9:=L.t9; have a9:=L.a9; have z9:=L.z9; have v9:=L.v9
 have t21:=L.t21; have a21:=L.a21; have z21:=L.z21; have v21:=L.v21
 go_enter L.f152,Body.n152_ntmps ρ
 go_wp2
 go_loopg [5,6] 2 (fun g _ _ wx=>∃ i:Nat,i+g=2∧wx=w.iter crlfB i)
 case atStart=>exact ⟨0,by omega,rfl⟩
 case round =>
  obtain ⟨i,hig,rfl⟩:=hrel
  cases gk with
  | zero =>
   obtain rfl:i=2:=by omega
   have hnx:=fun ty=>run_next_end (P:=P) w crlfB 2 ty (by decide)
   go_wp2
   go_ret
   exact ⟨rfl,(Below.refl _ _).alloc (Nat.le_refl _) _⟩
  | succ g =>
   have hi:i<crlfB.size:=by show i<2; omega
   have hb:(crlfB[i]'hi).toNat=13∨(crlfB[i]'hi).toNat=10:=by
    have:i=0∨i=1:=by omega
    rcases this with rfl | rfl
    ·exact .inl rfl
    ·exact .inr rfl
   have hx128:(crlfB[i]'hi).toNat<128:=by omega
   have hnx:=fun ty=>run_next_ascii (P:=P) w crlfB i ty hi hx128
   generalize (crlfB[i]'hi).toNat=b at hb hnx
   have hne:(((b:Nat):Int)==65533)=false:=beq_eq_false_iff_ne.2 (by omega)
   go_wp2
   go_roundg g
   case measure=>omega
   case rel=>exact ⟨i+1,by omega,rfl⟩
set_option maxHeartbeats 4000000 in
set_option maxRecDepth 1000000 in
theorem rune_high (L:Lays.n152 P ρ) (w:World) (r:Int) (h0:128≤r) (h1:r≤1114111) (h2:r<55296∨57343<r) (h3:r≠65533) :
  Calls P (ρ.f 152) #[.string crlfB,.int .i32 r] w fun e w'=>e = .returned (.int .i64 (-1))∧Below w.heap.size w w':=by
 have t3:=L.t3; have a3:=L.a3; have z3:=L.z3; have v3:=L.v3
 have t4:=L.t4; have a4:=L.a4; have z4:=L.z4; have v4:=L.v4
 have t5:=L.t5; have a5:=L.a5; have z5:=L.z5; have v5:=L.v5
 have t9:=L.t9; have a9:=L.a9; have z9:=L.z9; have v9:=L.v9
 have t21:=L.t21; have a21:=L.a21; have z21:=L.z21; have v21:=L.v21
 have k1:decide ((0:Int)≤r)=true:=decide_eq_true (by omega)
 have k2:decide (r<(128:Int))=false:=decide_eq_false (by omega)
 have k3:(r==(65533:Int))=false:=beq_eq_false_iff_ne.2 h3
 have e119:∀ args w,(callFunc (ρ.f 119) args).run P w = .ok (.enter (ρ.f 119) args) w:=enters_of L.f119 (by kernel_rfl) rfl
 have e137:∀ args w,(callFunc (ρ.f 137) args).run P w = .ok (.enter (ρ.f 137) args) w:=enters_of L.f137 (by kernel_rfl) rfl
 have hv:Lib.validRune r=true:=by
  unfold Lib.validRune; simp; omega
 obtain ⟨z1,z2,z3⟩:=encode_facts r (by rw [validRune_eq]; unfold Go.validRune; simp; omega) h0
 generalize hrs:Utf8.encode r=rs at z1 z2 z3
 by_cases hn:rs.size=2
 ·have y1:IntKind.i64.wrap (((rs.size:Nat):Int)-1)=1:=by rw [hn]; rfl
  have y2:1<rs.size:=by omega
  obtain ⟨c,hc⟩:∃ c:UInt8,rs[1]'y2=c:=⟨_,rfl⟩
  have hc1:128≤c.toNat:=by rw [←hc]; have:=z3 (by omega); simpa [hn] using this
  clear z3
  have hsz:crlfB.size=2:=rfl
  have w2:IntKind.i64.wrap 2=2:=rfl
  have h10:crlfB[1]'(by decide)=10:=rfl
  have hne:(((10:UInt8).toNat:Int) != ((c.toNat:Nat):Int))=true:=by
   rw [bne_iff_ne]
   have:((10:UInt8).toNat:Int)=10:=rfl
   omega
  go_enter L.f152,Body.n152_ntmps ρ
  go_wp2_with (go_at_fn (ρ.f 119); refine (Any.utf8_ValidRune { L with } _ _).mono ?_; rintro e w' ⟨rfl,hw⟩; rw [hw,hv])
  go_step3
  go_wp2
  go_loopg [9,10] 0 (fun g s9 s10 wx=>s9 = .int .i64 1∧s10 = .int .i64 0∧wx=w)
  case atStart=>exact ⟨rfl,rfl,rfl⟩
  case round =>
   obtain ⟨rfl,rfl,rfl⟩:=hrel
   go_wp2
   go_step3
   go_wp2
   refine wp_region_quiet_lit L.mixed (by kernel_rfl) ?_
   repeat (quiet_step (fail))
   refine wpQuiet_nil ?_
   intro _ hw'
   obtain ⟨nq,hw''⟩:=hw'
   subst hw''
   go_wp2
   refine wp_region_quiet_lit L.mixed (by kernel_rfl) ?_
   repeat (quiet_step (exact (Any.strings_IndexByte { L with } _ _ _).mono fun e w' h=>⟨h.1,_,h.2⟩))
   refine wpQuiet_nil ?_
   intro _ hw'
   obtain ⟨nq,hw''⟩:=hw'
   subst hw''
   go_wp2
   simp only [Exit.noGoto_ret,Exit.inBlock,Exit.then]
   go_ret
   exact ⟨rfl,rfl,rfl,rfl,Nat.le_refl _,fun _ _=>rfl⟩
 ·have y1:IntKind.i64.wrap (((rs.size:Nat):Int)-1)=((rs.size-1:Nat):Int):=by rw [IntKind.wrap_i64]; omega
  have y2:¬ (((rs.size-1:Nat):Int)<2):=by omega
  have hsz:crlfB.size=2:=rfl
  generalize rs.size-1=m at y1 y2 z3
  clear z3
  go_enter L.f152,Body.n152_ntmps ρ
  go_wp2_with (go_at_fn (ρ.f 119); refine (Any.utf8_ValidRune { L with } _ _).mono ?_; rintro e w' ⟨rfl,hw⟩; rw [hw,hv])
  go_step3
  go_wp2
  go_loopg [9] 0 (fun g s9 wx=>s9 = .int .i64 m∧wx=w)
  case atStart=>exact ⟨rfl,rfl⟩
  case round =>
   obtain ⟨rfl,rfl⟩:=hrel
   go_wp2
   simp only [Exit.noGoto_ret,Exit.inBlock,Exit.then]
   go_ret
   exact ⟨rfl,Below.refl _ _⟩
theorem ite_or {α:Type} {c:Prop} [Decidable c] {x y d:α} (h:(if c then x else y)=d):(c∧x=d)∨y=d:=by
 by_cases hc:c
 ·rw [if_pos hc] at h; exact .inl ⟨hc,h⟩
 ·rw [if_neg hc] at h; exact .inr h
theorem dec_facts (n b0 b1 b2 b3:Nat) (hn:1≤n) (h0:128≤b0) (d:Nat × Nat) (h:decodeN n b0 b1 b2 b3=d) :
  128≤d.1∧d.1≤1114111∧(d.1<55296∨57343<d.1)∧1≤d.2∧d.2≤n∧d.2≤4∧(1<d.2→128≤b1)∧(2<d.2→128≤b2)∧(3<d.2→128≤b3):=by
 have key:d=(65533,1)∨(d.2=2∧1<n∧b1 / 64=2∧128≤d.1∧d.1<55296)∨(d.2=3∧2<n∧b1 / 64=2∧b2 / 64=2∧2048≤d.1∧(d.1<55296∨(57344≤d.1∧d.1≤1114111)))∨(d.2=4∧3<n∧b1 / 64=2∧b2 / 64=2∧b3 / 64=2∧2048≤d.1∧(d.1<55296∨(57344≤d.1∧d.1≤1114111))):=by
  unfold decodeN at h
  rw [if_neg (by omega)] at h
  by_cases c1:b0 / 32=6∧(1<n∧b1 / 64=2)
  ·rw [if_pos c1] at h
   rcases ite_or h with ⟨c,h⟩ | h
   ·subst h; exact .inr (.inl ⟨rfl,c1.2.1,c1.2.2,by dsimp only; omega,by dsimp only; omega⟩)
   ·exact .inl h.symm
  rw [if_neg c1] at h
  by_cases c2:b0 / 16=14∧(1<n∧b1 / 64=2)∧(2<n∧b2 / 64=2)
  ·rw [if_pos c2] at h
   rcases ite_or h with ⟨c,h⟩ | h
   ·subst h; exact .inr (.inr (.inl ⟨rfl,c2.2.2.1,c2.2.1.2,c2.2.2.2,c.1,c.2⟩))
   ·exact .inl h.symm
  rw [if_neg c2] at h
  by_cases c3:b0 / 8=30∧(1<n∧b1 / 64=2)∧(2<n∧b2 / 64=2)∧(3<n∧b3 / 64=2)
  ·rw [if_pos c3] at h
   rcases ite_or h with ⟨c,h⟩ | h
   ·subst h; exact .inr (.inr (.inr ⟨rfl,c3.2.2.2.1,c3.2.1.2,c3.2.2.1.2,c3.2.2.2.2,Nat.le_trans (by decide) c.1,c.2⟩))
   ·exact .inl h.symm
  rw [if_neg c3] at h
  exact .inl h.symm
 clear h
 rcases key with k | k | k | k
 ·have k1:d.1=65533:=by rw [k]
  have k2:d.2=1:=by rw [k]
  clear k
  refine ⟨by omega,by omega,by omega,by omega,by omega,by omega,fun _=>by omega,fun _=>by omega,fun _=>by omega⟩
 all_goals refine ⟨by omega,by omega,by omega,by omega,by omega,by omega,fun _=>by omega,fun _=>by omega,fun _=>by omega⟩
theorem get_list (s:ByteArray) (i:Nat) (b:UInt8) (h:s.data.toList[i]? = some b):s.get! i=b:=by
 have hi:i<s.size:=by
  rw [size_eq]
  exact (List.getElem?_eq_some_iff.1 h).1
 have:=data_getElem? s i hi
 rw [h] at this
 injection this with e
 rw [e]
 show s.get! i=_
 simp [ByteArray.get!,getElem!_pos,hi]
 rfl
theorem no_high {s:ByteArray} {i:Nat} (hi:i<s.size) (ha:128≤(s[i]'hi).toNat) (hno:NoAny s.data.toList [13,10] i) :
  (128:Int)≤((Utf8.decode s i).1:Nat)∧(((Utf8.decode s i).1:Nat):Int)≤1114111∧((((Utf8.decode s i).1:Nat):Int)<55296∨(57343:Int)<((Utf8.decode s i).1:Nat))∧1≤(Utf8.decode s i).2∧i+(Utf8.decode s i).2≤s.size∧NoAny s.data.toList [13,10] (i+(Utf8.decode s i).2):=by
 have h0:128≤(s.get! i).toNat:=by rw [get_list s i _ (data_getElem? s i hi)]; exact ha
 have h:=dec_facts (s.size-i) (s.get! i).toNat (s.get! (i+1)).toNat (s.get! (i+2)).toNat (s.get! (i+3)).toNat (by omega) h0 _ (decode_at s i).symm
 obtain ⟨a1,a2,a3,a4,a5,a6,a7,a8,a9⟩:=h
 refine ⟨by omega,by omega,by omega,a4,by omega,fun j b hj hbj => ?_⟩
 by_cases hlt:j<i
 ·exact hno j b hlt hbj
 ·have hg:=get_list s j b hbj
  have h128:128≤b.toNat:=by
   rw [←hg]
   have hc:j=i∨j=i+1∨j=i+2∨j=i+3:=by omega
   rcases hc with rfl | rfl | rfl | rfl
   ·exact h0
   ·exact a7 (by omega)
   ·exact a8 (by omega)
   ·exact a9 (by omega)
  have e1:b≠13:=fun e=>by rw [e] at h128; exact absurd h128 (by decide)
  have e2:b≠10:=fun e=>by rw [e] at h128; exact absurd h128 (by decide)
  simp [e1,e2]
set_option maxHeartbeats 4000000 in
set_option maxRecDepth 1000000 in
theorem any_short (L:Lays.n153 P ρ) (s:ByteArray) (w:World) (h8:s.size≤8) :
  Calls P (ρ.f 153) #[.string s,.string crlfB] w fun e w'=>e = .returned (.int .i64 (indexAny s.data.toList [13,10]))∧Below w.heap.size w w':=by
 have hemp:crlfB.toList.isEmpty=false:=by rw [toList_data]; rfl
 have hsz:crlfB.size=2:=rfl
 have h8z:decide ((8:Int)<(s.size:Int))=false:=decide_eq_false (by omega)
 have t3:=L.t3; have a3:=L.a3; have z3:=L.z3; have v3:=L.v3
 have t4:=L.t4; have a4:=L.a4; have z4:=L.z4; have v4:=L.v4
 have t5:=L.t5; have a5:=L.a5; have z5:=L.z5; have v5:=L.v5
 have t9:=L.t9; have a9:=L.a9; have z9:=L.z9; have v9:=L.v9
 have t21:=L.t21; have a21:=L.a21; have z21:=L.z21; have v21:=L.v21
 have e152:∀ args w,(callFunc (ρ.f 152) args).run P w = .ok (.enter (ρ.f 152) args) w:=enters_of L.f152 (by kernel_rfl) rfl
 have e226:∀ args w,(callFunc (ρ.f 226) args).run P w = .ok (.enter (ρ.f 226) args) w:=enters_of L.f226 (by kernel_rfl) rfl
 go_enter L.f153,Body.n153_ntmps ρ
 go_wp2_with (go_at_fn (ρ.f 226); refine (Any.strings_shouldUseASCIISet { L with } _ _).mono ?_; rintro e w' ⟨rfl,hw⟩; rw [hw,h8z])
 go_loopg [9,10] s.size (fun g _ _ wx=>∃ i:Nat,i+g=s.size∧Below w.heap.size w wx∧wx.heap[w.heap.size]? = some (.stringIter s i)∧NoAny s.data.toList [13,10] i)
 case atStart=>exact ⟨0,by omega,(Below.refl _ _).alloc (Nat.le_refl _) _,World.iter_heap _ _ _,NoAny.zero _ _⟩
 case round =>
  obtain ⟨i,hig,hbe,hit,hno⟩:=hrel
  have HN:Aside (NoAny s.data.toList [13,10] i):=hno
  have HB:Aside (Below w.heap.size w wr):=hbe
  clear hno hbe
  cases gk with
  | zero =>
   obtain rfl:i=s.size:=by omega
   have hnx:=fun ty=>next_over (P:=P) wr w.heap.size s s.size ty (by omega) hit
   go_wp2
   go_ret
   exact ⟨by rw [indexAny_none (by rw [←size_eq]; exact HN.out)]; rfl,HB.out⟩
  | succ g =>
   have hi:i<s.size:=by omega
   have hnx:=fun ty=>next_at (P:=P) wr w.heap.size s i ty hi hit
   have hlt:w.heap.size<wr.heap.size:=by
    rw [Array.getElem?_eq_some_iff] at hit
    exact hit.1
   generalize hw2:({ wr with heap:=wr.heap.setIfInBounds w.heap.size (.stringIter s (i+(Utf8.decode s i).2)) }:World)=w2 at hnx
   have hB2:Below w.heap.size w w2∧w2.heap[w.heap.size]? = some (.stringIter s (i+(Utf8.decode s i).2))∧w2.heap.size=wr.heap.size:=by
    subst hw2
    refine ⟨HB.out.trans ⟨rfl,rfl,rfl,by simp,fun k hk => ?_⟩,?_,by simp⟩
    ·show (wr.heap.setIfInBounds _ _)[k]? = _
     rw [Array.getElem?_setIfInBounds_ne (by omega)]
    ·show (wr.heap.setIfInBounds _ _)[w.heap.size]? = _
     rw [Array.getElem?_setIfInBounds_self_of_lt hlt]
   have HB2:Aside (Below w.heap.size w w2∧w2.heap[w.heap.size]? = some (.stringIter s (i+(Utf8.decode s i).2))∧w2.heap.size=wr.heap.size):=hB2
   have HL:Aside (w.heap.size<wr.heap.size):=hlt
   clear hB2 hw2 hit hlt
   by_cases ha:(s[i]'hi).toNat<128
   ·rw [decode_ascii s i hi ha] at hnx HB2
    obtain ⟨x,hx⟩:∃ x:UInt8,s[i]'hi=x:=⟨_,rfl⟩
    have Hx:Aside (s.data.toList[i]? = some x):=by rw [←hx]; exact data_getElem? s i hi
    rw [hx] at hnx ha
    clear hx
    have hcon:=contains_iff_indexByte [13,10] x
    have hback:((x.toNat:Int)).toNat.toUInt8=x:=by simp
    have hc2:crlfB.data.toList=[13,10]:=rfl
    cases hin:([13,10]:List UInt8).contains x
    ·rw [hin] at hcon
     have hlt:¬ ((0:Int)≤indexByte [13,10] x):=of_decide_eq_false hcon.symm
     clear hcon
     go_wp2_with (go_at_fn (ρ.f 152); refine (Any.strings_IndexRune_ascii { L with } _ _ _ (by omega) (by omega)).mono ?_; rintro e w' ⟨rfl,hw⟩; rw [hw,hback,hc2])
     go_roundg g
     case measure=>omega
     case rel=>exact ⟨i+1,by omega,HB2.out.1,HB2.out.2.1,HN.out.succ Hx.out hin⟩
    ·rw [hin] at hcon
     have hge:(0:Int)≤indexByte [13,10] x:=of_decide_eq_true hcon.symm
     clear hcon
     go_wp2_with (go_at_fn (ρ.f 152); refine (Any.strings_IndexRune_ascii { L with } _ _ _ (by omega) (by omega)).mono ?_; rintro e w' ⟨rfl,hw⟩; rw [hw,hback,hc2])
     go_ret
     exact ⟨by rw [indexAny_hit HN.out Hx.out hin]; rfl,HB2.out.1⟩
   ·have hno:=no_high hi (by omega) HN.out
    generalize Utf8.decode s i=d at hno hnx HB2
    obtain ⟨r,n⟩:=d
    obtain ⟨b1,b2,b3,b4,b5,b6⟩:=hno
    have H6:Aside (NoAny s.data.toList [13,10] (i+n)):=b6
    clear b6
    have key:Calls P (ρ.f 152) #[.string crlfB,.int .i32 (r:Nat)] w2 fun e w'=>e = .returned (.int .i64 (-1))∧Below w2.heap.size w2 w':=by
     by_cases hr:((r:Nat):Int)=65533
     ·rw [hr]; exact rune_bad { L with } w2
     ·exact rune_high { L with } w2 r b1 b2 b3 hr
    go_wp2_with (go_at_fn (ρ.f 152); refine key.mono ?_; rintro e w' ⟨rfl,hw⟩)
    go_roundg (s.size-(i+n))
    case measure=>omega
    case rel =>
     obtain ⟨c1,c2,c3⟩:=HB2.out
     have hL:=HL.out
     exact ⟨i+n,by omega,c1.trans (hw.mono (by omega)),by rw [hw.block _ (by omega)]; exact c2,H6.out⟩
theorem any_crlf (L:Lays.n153 P ρ) (h116:(P.info? (ρ.t 116)).map (fun i=>(i.zero,i.size))=some (some (.agg (Array.replicate 256 (.bool false))),256)) (s:ByteArray) (w:World) (hs:s.size<4294967281) :
  Calls P (ρ.f 153) #[.string s,.string crlfB] w fun e w'=>e = .returned (.int .i64 (indexAny s.data.toList [13,10]))∧Below w.heap.size w w':=by
 by_cases h8:s.size≤8
 ·exact any_short L s w h8
 ·refine (Any.strings_IndexAny_long L (zero_of_info h116).1 (zero_of_info h116).2 s crlfB w (by decide) (by omega) hs (by decide) ?_).mono fun e w' ⟨h1,h2⟩=>⟨h1,?_⟩
  ·intro j b h
   match j,h with
   | 0,h=>injection h with h; subst h; decide
   | 1,h=>injection h with h; subst h; decide
   | n+2,h=>cases h
  ·rw [h2]
   exact ((Below.refl _ _).alloc (Nat.le_refl _) _).alloc (by simp) _
end Go.Proofs
namespace Go.Proofs.YtbdfdfhamlmodaaGreatDoor.Fw
open Go
theorem gDg {α:Type _} {l:List α} {i:Nat} {a:α}:l.getD i a=l[i]?.getD a:=List.getD_eq_getElem?_getD
theorem gEg {α:Type _} {l:List α} {i:Nat} (h:i<l.length):l[i]? = some l[i]:=List.getElem?_eq_getElem h
theorem gSm {α:Type _} {l:List α} {i:Nat} {a:α} (h:l[i]? = some a):∃ h:i<l.length,l[i]=a:=List.getElem?_eq_some_iff.1 h
def spl (c:UInt8):List UInt8→List (List UInt8)
 | []=>[[]]
 | b::l=>if b=c then []::spl c l else (match spl c l with | []=>[[b]] | x::xs=>(b::x)::xs)
theorem spl_ne (c:UInt8):∀ s:List UInt8,spl c s≠[]
 | []=>by simp [spl]
 | b::l=>by
  unfold spl
  split
  ·simp
  ·cases h:spl c l with
   | nil=>exact absurd h (spl_ne c l)
   | cons x xs=>simp
theorem splitK_ne (c b:UInt8) (h:b≠c):∀ (k:Nat) (l:List UInt8),∃ x xs,Lib.splitK [c] 0 k l=x::xs∧Lib.splitK [c] 0 k (b::l)=(b::x)::xs
 | 0,l=>⟨l,[],rfl,rfl⟩
 | k+1,l=>by
  have hp:([c]:List UInt8).isPrefixOf (b::l)=false:=by simp [List.isPrefixOf,Ne.symm h]
  have hix:Lib.index (b::l) [c]=if Lib.index l [c]==-1 then -1 else Lib.index l [c]+1:=by rw [Lib.index,hp]; simp
  unfold Lib.splitK
  by_cases hm:Lib.index l [c]=-1
  ·have hm2:Lib.index (b::l) [c]=-1:=by rw [hix,if_pos (beq_iff_eq.2 hm)]
   rw [if_pos (beq_iff_eq.2 hm),if_pos (beq_iff_eq.2 hm2)]
   exact ⟨l,[],rfl,rfl⟩
  ·have hge:=Lib.index_ge l [c]
   obtain ⟨j,hj⟩:∃ j:Nat,Lib.index l [c]=j:=⟨(Lib.index l [c]).toNat,by omega⟩
   have hj2:Lib.index (b::l) [c]=((j+1:Nat):Int):=by rw [hix,if_neg (fun e=>hm (beq_iff_eq.1 e)),hj]; omega
   rw [if_neg (fun e=>hm (beq_iff_eq.1 e)),if_neg (fun e=>by have:=beq_iff_eq.1 e; omega),hj,hj2]
   exact ⟨_,_,rfl,by simp⟩
theorem splitK_eq (c:UInt8) (k:Nat) (l:List UInt8):Lib.splitK [c] 0 (k+1) (c::l)=[]::Lib.splitK [c] 0 k l:=by
 have hix:Lib.index (c::l) [c]=((0:Nat):Int):=by rw [Lib.index]; simp [List.isPrefixOf]
 rw [Lib.splitK,hix,if_neg (by simp)]
 simp
theorem spl_split (c:UInt8):∀ s:List UInt8,Lib.splitK [c] 0 (s.count c) s=spl c s
 | []=>rfl
 | b::l=>by
  unfold spl
  by_cases h:b=c
  ·subst h
   rw [if_pos rfl,List.count_cons_self,splitK_eq,spl_split b l]
  ·rw [if_neg h,List.count_cons_of_ne h]
   obtain ⟨x,xs,h1,h2⟩:=splitK_ne c b h (l.count c) l
   rw [h2,←spl_split c l,h1]
theorem spl_len (c:UInt8):∀ s:List UInt8,(spl c s).length=s.count c+1
 | []=>rfl
 | b::l=>by
  unfold spl
  by_cases h:b=c
  ·subst h
   rw [if_pos rfl,List.count_cons_self,List.length_cons,spl_len b l]
  ·rw [if_neg h,List.count_cons_of_ne h,←spl_len c l]
   cases hs:spl c l with
   | nil=>exact absurd hs (spl_ne c l)
   | cons x xs=>rfl
theorem spl_mem (c:UInt8):∀ s:List UInt8,∀ x,x∈spl c s→x.length≤s.length
 | [],x,hx=>by simp [spl] at hx; simp [hx]
 | b::l,x,hx=>by
  unfold spl at hx
  have ih:=spl_mem c l
  split at hx
  ·rcases List.mem_cons.1 hx with rfl | hx
   ·simp
   ·have:=ih x hx; simp; omega
  ·cases hs:spl c l with
   | nil=>exact absurd hs (spl_ne c l)
   | cons y ys =>
    rw [hs] at hx ih
    rcases List.mem_cons.1 hx with rfl | hx
    ·have:=ih y List.mem_cons_self; simp; omega
    ·have:=ih x (List.mem_cons_of_mem _ hx); simp; omega
def upto (c:UInt8) (s:List UInt8):List UInt8:=s.takeWhile fun b=>b != c
def behind (c:UInt8) (s:List UInt8):List UInt8:=(s.dropWhile fun b=>b != c).drop 1
theorem cut_one (c:UInt8):∀ s:List UInt8,Lib.cut s [c]=if s.contains c=true then (upto c s,behind c s,true) else (s,[],false)
 | []=>by simp [Lib.cut,Lib.index]
 | b::l=>by
  have ih:=cut_one c l
  by_cases h:b=c
  ·subst h
   have hix:Lib.index (b::l) [b]=((0:Nat):Int):=by rw [Lib.index]; simp [List.isPrefixOf]
   unfold Lib.cut
   rw [hix]
   simp [upto,behind]
  ·have hp:([c]:List UInt8).isPrefixOf (b::l)=false:=by simp [List.isPrefixOf,Ne.symm h]
   have hix:Lib.index (b::l) [c]=if Lib.index l [c]==-1 then -1 else Lib.index l [c]+1:=by rw [Lib.index,hp]; simp
   have hc:(b::l).contains c=l.contains c:=by simp [List.contains_cons,Ne.symm h]
   rw [hc]
   have hb:(b != c)=true:=by simpa using h
   have hu:upto c (b::l)=b::upto c l:=by simp [upto,List.takeWhile_cons,hb]
   have hd:behind c (b::l)=behind c l:=by simp [behind,List.dropWhile_cons,hb]
   rw [hu,hd]
   unfold Lib.cut at ih ⊢
   by_cases hm:Lib.index l [c]=-1
   ·have hm2:Lib.index (b::l) [c]=-1:=by rw [hix,if_pos (beq_iff_eq.2 hm)]
    rw [hm] at ih
    rw [hm2]
    rw [if_neg (by decide)] at ih ⊢
    split at ih
    ·have:=congrArg (fun x=>x.2.2) ih; simp at this
    ·rename_i hcc; rw [if_neg hcc]
   ·have hge:=Lib.index_ge l [c]
    obtain ⟨j,hj⟩:∃ j:Nat,Lib.index l [c]=j:=⟨(Lib.index l [c]).toNat,by omega⟩
    have hj2:Lib.index (b::l) [c]=((j+1:Nat):Int):=by rw [hix,if_neg (fun e=>hm (beq_iff_eq.1 e)),hj]; omega
    rw [hj] at ih
    rw [hj2]
    rw [if_pos (by omega)] at ih ⊢
    split at ih
    ·rename_i hcc
     rw [if_pos hcc]
     have h1:=congrArg (fun x=>x.1) ih
     have h2:=congrArg (fun x=>x.2.1) ih
     simp only [Int.toNat_natCast,List.length_singleton] at h1 h2 ⊢
     rw [←h1,←h2]
     simp
    ·have:=congrArg (fun x=>x.2.2) ih; simp at this
inductive T where
 | v (x:Value)
 | sl (e:TypeId) (xs:List (List T))
 deriving Inhabited
structure Lf where
 c:Bool
 t:Nat
 k:Nat
 deriving DecidableEq,Inhabited
inductive D where
 | dead
 | v (x:Value)
 | nil
 | own (e:TypeId) (xs:List (List T))
 | imm (e:TypeId) (xs:List (List T))
 | ali (p:Lf)
 | sub (p:Lf) (lo hi:Nat)
 | ela (p:Lf) (i j:Nat)
 | cref (t k:Nat)
 | eref (p:Lf) (i j:Nat)
 | rptr (ds:List D)
 | agg (ds:List D)
 | tup (ds:List D)
 | clo (f:FuncId) (ds:List D)
 deriving Inhabited
structure Env where
 sl:List D
 ce:List (Option (List D))
 deriving Inhabited
inductive K where
 | int (k:IntKind) | bool | str | ptr (e:TypeId) | slice (e:TypeId) | struct | map (k e:TypeId) | other
structure TI where
 k:K
 size:Nat
 bytes:Nat
 zero:List D
 fields:List Nat
 les:List TypeId
abbrev Tab:=TypeId→Option TI
def D.comps:D→List D | .tup ds=>ds | d=>[d]
def D.leaves1:D→List D | .agg ds=>ds | d=>[d]
def D.leafOf (d:D) (k:Nat):D:=((d.comps.getD (k / 64) .dead).leaves1).getD (k % 64) .dead
def Env.leaf (E:Env) (p:Lf):D :=
 if p.c then ((E.ce.getD p.t none).getD []).getD p.k .dead else (E.sl.getD p.t .dead).leafOf p.k
inductive Rdr (α:Type) where
 | ret (a:α)
 | fail
 | slot (t:Nat) (k:D→Rdr α)
 | cell (t:Nat) (k:Option (List D)→Rdr α)
 | all (k:Env→Rdr α)
 | len (k:Nat→Rdr α)
 | chk (p:Prop) (k:Rdr α)
 | asm (p:Prop) (k:Rdr α)
def Rdr.wp {α:Type} (E:Env):Rdr α→(α→Prop)→Prop
 | .ret a,Q=>Q a
 | .fail,_=>False
 | .slot t k,Q=>(k (E.sl.getD t .dead)).wp E Q
 | .cell t k,Q=>(k (E.ce.getD t none)).wp E Q
 | .all k,Q=>(k E).wp E Q
 | .len k,Q=>(k E.ce.length).wp E Q
 | .chk p k,Q=>p∧k.wp E Q
 | .asm p k,Q=>p→k.wp E Q
def mvLeaf (p:Lf):D→D
 | .own _ _ => .ali p
 | d=>d
def mvList (c:Bool) (t:Nat):Nat→List D→List D
 | _,[]=>[]
 | k,d::ds=>mvLeaf ⟨c,t,k⟩ d::mvList c t (k+1) ds
def mvComp (t k:Nat):D→D
 | .agg ds => .agg (mvList false t k ds)
 | d=>mvLeaf ⟨false,t,k⟩ d
def asMove (t:Nat) (d:D):D:=mvComp t 0 d
def scal:Value→Bool
 | .string s=>decide (s.size≤9223372036854775807)
 | .agg _ | .tuple _=>false
 | _=>true
def constLeaf:Value→D
 | .slice none 0 0 => .nil
 | x=>if scal x then .v x else .dead
def one:Value→Bool | .agg _ | .tuple _=>false | _=>true
def constD:Value→D
 | .agg cs=>if cs.toList.all one&&decide (cs.toList.length≤64) then .agg (cs.toList.map constLeaf) else .dead
 | x=>constLeaf x
def opdR {α:Type} (x:Operand) (k:D→Rdr α):Rdr α :=
 match x with
 | .tmp t => .slot t fun d=>k (asMove t d)
 | .const v=>k (constD v)
 | .func f=>k (.clo f [])
 | .global _ => .fail
def leafR {α:Type} (p:Lf) (k:D→Rdr α):Rdr α :=
 if p.c then .cell p.t fun ds=>k ((ds.getD []).getD p.k .dead) else .slot p.t fun d=>k (d.leafOf p.k)
def T.get (xs:List (List T)) (i j:Nat):T:=(xs.getD i []).getD j (.v (.tuple #[]))
def rowsR {α:Type} (d:D) (k:TypeId→List (List T)→Rdr α):Rdr α :=
 match d with
 | .own e xs=>k e xs
 | .imm e xs=>k e xs
 | .ali p=>leafR p fun | .own e xs=>k e xs | _ => .fail
 | .sub p lo hi=>leafR p fun | .own e xs=>k e ((xs.drop lo).take (hi-lo)) | _ => .fail
 | .ela p i j=>leafR p fun | .own _ xs=>(match T.get xs i j with | .sl e ys=>k e ys | _ => .fail) | _ => .fail
 | _ => .fail
def D.isOwn:D→Bool | .own _ _=>true | _=>false
def D.anyOwn (d:D):Bool:=d.comps.any fun c=>c.leaves1.any D.isOwn
def D.ownish:D→Bool | .own _ _ | .ali _ | .sub _ _ _ | .ela _ _ _=>true | _=>false
def D.anyOwnish (d:D):Bool:=d.comps.any fun c=>c.leaves1.any D.ownish
def D.base:D→Option Lf
 | .ali p | .sub p _ _ | .ela p _ _ | .eref p _ _=>some p
 | _=>none
def D.re (g:Lf→Lf):D→D
 | .ali p => .ali (g p)
 | .sub p lo hi => .sub (g p) lo hi
 | .ela p i j => .ela (g p) i j
 | .eref p i j => .eref (g p) i j
 | d=>d
def D.crefs:D→List Nat
 | .cref t _=>[t]
 | .clo _ ds=>ds.filterMap fun d=>match d with | .cref t _=>some t | _=>none
 | _=>[]
def killB (b:Lf→Bool):D→D
 | .ali p=>if b p then .dead else .ali p
 | .sub p lo hi=>if b p then .dead else .sub p lo hi
 | .ela p i j=>if b p then .dead else .ela p i j
 | .eref p i j=>if b p then .dead else .eref p i j
 | d=>d
def reB (q p:Lf):D→D:=D.re fun r=>if r=q then p else r
def lf1 (g:Lf→D→D) (p:Lf):D→D
 | .dead => .dead
 | d=>g p d
def mapLv (g:Nat→D→D):Nat→List D→List D
 | _,[]=>[]
 | k,d::ds=>g k d::mapLv g (k+1) ds
def D.mapP1 (g:Nat→D→D) (k:Nat):D→D
 | .agg ds => .agg (mapLv g k ds)
 | d=>g k d
def mapCs (g:Nat→D→D):Nat→List D→List D
 | _,[]=>[]
 | k,c::cs=>c.mapP1 g k::mapCs g (k+64) cs
def D.mapP (g:Nat→D→D):D→D
 | .tup cs => .tup (mapCs g 0 cs)
 | d=>d.mapP1 g 0
def mapSl (g:Lf→D→D):Nat→List D→List D
 | _,[]=>[]
 | t,d::ds=>d.mapP (fun k=>g ⟨false,t,k⟩)::mapSl g (t+1) ds
def mapCe (g:Lf→D→D):Nat→List (Option (List D))→List (Option (List D))
 | _,[]=>[]
 | t,c::cs=>c.map (mapLv (fun k=>g ⟨true,t,k⟩) 0)::mapCe g (t+1) cs
def Env.mapP (E:Env) (g:Lf→D→D):Env:={ sl:=mapSl (lf1 g) 0 E.sl,ce:=mapCe (lf1 g) 0 E.ce }
def Env.kill (E:Env) (b:Lf→Bool):Env:=E.mapP fun p d=>if b p then .dead else killB b d
def Env.killS (E:Env) (t:Nat):Env:=E.kill fun p => !p.c&&p.t==t
def Env.swap (E:Env) (q p:Lf):Option Env :=
 match E.leaf q with
 | .own e xs=>if q=p then none else some (E.mapP fun r d=>if r=q then .ali p else if r=p then .own e xs else reB q p d)
 | _=>none
def Env.cut (E:Env) (q p:Lf) (lo hi:Nat):Option Env :=
 match E.leaf q with
 | .own e xs=>if q=p then none else some (E.mapP fun r d=>if r=q then .dead else if r=p then .own e ((xs.drop lo).take (hi-lo)) else killB (fun r=>r==q) d)
 | _=>none
def frzB (q:Lf) (e:TypeId) (xs:List (List T)):D→D
 | .ali r=>if r=q then .imm e xs else .ali r
 | .sub r lo hi=>if r=q then .imm e ((xs.drop lo).take (hi-lo)) else .sub r lo hi
 | .ela r i j=>if r=q then (match T.get xs i j with | .sl e' ys => .imm e' ys | _ => .dead) else .ela r i j
 | .eref r i j=>if r=q then .dead else .eref r i j
 | d=>d
def Env.frz (E:Env) (q:Lf):Option Env :=
 match E.leaf q with
 | .own e xs=>some (E.mapP fun r d=>if r=q then .imm e xs else frzB q e xs d)
 | _=>none
def Env.setLeaf (E:Env) (q:Lf) (x:D):Env:=E.mapP fun r d=>if r=q then x else d
def cutLeaves (t:Nat):Nat→Nat→Env→Option Env
 | _,0,E=>some E
 | k,n+1,E=>match E.leaf ⟨false,t,k⟩ with
  | .sub q lo hi=>(match E.cut q ⟨false,t,k⟩ lo hi with | some E'=>cutLeaves t (k+1) n E' | none=>none)
  | .ela _ _ _=>none
  | _=>cutLeaves t (k+1) n E
def swapLeaves (c:Bool) (t:Nat):Nat→Nat→Env→Option Env
 | _,0,E=>some E
 | k,n+1,E=>match E.leaf ⟨c,t,k⟩ with
  | .ali q=>(match E.swap q ⟨c,t,k⟩ with | some E'=>swapLeaves c t (k+1) n E' | none=>none)
  | _=>swapLeaves c t (k+1) n E
def Env.killP (E:Env) (q:Lf):Env:=E.kill fun r=>r==q
def setRange {α:Type} (l:List α) (k:Nat):List α→List α
 | []=>l
 | x::xs=>setRange (l.set k x) (k+1) xs
inductive W where
 | s (t:Nat) (d:D)
 | c (t:Nat) (ds:Option (List D))
 | lf (p:Lf) (d:D)
 | all (E:Env)
 | kp (p:Lf)
 | ks (t:Nat) (d:D)
 | rw (t:Nat) (d:D)
 | ca (go:List Lf) (wb:List (Lf × TypeId × List (List T))) (wc:List (Nat × Nat × List D))
 | fz (ps:List Lf)
def Env.killC (E:Env) (c k n:Nat):Env:=E.kill fun p=>p.c&&p.t==c&&decide (k≤p.k)&&decide (p.k<k+n)
def Env.frzs (E:Env):List Lf→Env
 | []=>E
 | p::ps=>((E.frz p).getD E).frzs ps
def wbFind:List (Lf × TypeId × List (List T))→Lf→Option (TypeId × List (List T))
 | [],_=>none
 | (p,x)::l,q=>if p=q then some x else wbFind l q
def inWc:List (Nat × Nat × List D)→Lf→Bool
 | [],_=>false
 | (c,j,ls)::l,p=>(p.c&&p.t==c&&decide (j≤p.k)&&decide (p.k<j+ls.length)) || inWc l p
def wbG (wb:List (Lf × TypeId × List (List T))) (r:Lf) (d:D):D :=
 match wbFind wb r with
 | some (e,xs) => .own e xs
 | none=>match d with
  | .ela q i j=>if (wbFind wb q).isSome then .dead else .ela q i j
  | d=>d
def setCs (E:Env):List (Nat × Nat × List D)→Env
 | []=>E
 | (c,j,ls)::l=>setCs { E with ce:=E.ce.set c ((E.ce.getD c none).map fun ds=>setRange ds j ls) } l
def Env.called (E:Env) (go:List Lf) (wb:List (Lf × TypeId × List (List T))) (wc:List (Nat × Nat × List D)):Env :=
 setCs ((E.kill fun p=>inWc wc p || go.contains p).mapP (wbG wb)) wc
def Env.app1 (E:Env):W→Env
 | .s t d=>{ E with sl:=E.sl.set t d }
 | .c t ds=>{ E with ce:=E.ce.set t ds }
 | .lf p d=>E.setLeaf p d
 | .all E'=>E'
 | .kp p=>E.killP p
 | .ks t d=>{ (E.killS t) with sl:=(E.killS t).sl.set t (d.mapP fun _ x=>killB (fun p => !p.c&&p.t==t) x) }
 | .rw t d=>if (E.sl.getD t .dead).anyOwn then { (E.killS t) with sl:=(E.killS t).sl.set t d } else { E with sl:=E.sl.set t d }
 | .ca go wb wc=>E.called go wb wc
 | .fz ps=>E.frzs ps
def Env.app (E:Env):List W→Env
 | []=>E
 | x::ws=>(E.app1 x).app ws
inductive Stp where
 | done (ws:List W)
 | call (f:FuncId) (Ein:Env) (k:Env→Option (List W))
def wrS (dst:Option Tmp) (d:D):Rdr Stp :=
 match dst with
 | none => .ret (.done [])
 | some t => .slot t fun old =>
  .ret (.done [if old.anyOwn then .ks t d else .s t d])
def toL (b:ByteArray):List UInt8:=b.data.toList
def ofL (l:List UInt8):ByteArray:=⟨l.toArray⟩
theorem toL_ofL (l:List UInt8):toL (ofL l)=l:=rfl
theorem ofL_toL (b:ByteArray):ofL (toL b)=b:=rfl
theorem toL_length (b:ByteArray):(toL b).length=b.size:=rfl
theorem ofL_inj {a b:List UInt8}:ofL a=ofL b↔a=b:=⟨fun h=>congrArg toL h,fun h=>by rw [h]⟩
abbrev vS (l:List UInt8):Value := .string (ofL l)
abbrev vI (n:Int):Value := .int .i64 n
abbrev vB (b:Bool):Value := .bool b
abbrev vC (n:Int):Value := .int .u8 n
def mapE:TypeId:=4294967291
def mapV (l:List (List UInt8 × Value)):Value := .tuple (l.map fun p => .agg #[vS p.1,p.2]).toArray
def mapD:Value→Option (List (List UInt8 × Value))
 | .tuple vs=>vs.toList.mapM fun
  | .agg cs=>(match cs.toList with | [.string s,x]=>some (toL s,x) | _=>none)
  | _=>none
 | _=>none
theorem mapD_mapV (l:List (List UInt8 × Value)):mapD (mapV l)=some l:=by
 unfold mapD mapV
 simp only
 induction l with
 | nil=>rfl
 | cons p l ih =>
  simp only [List.map_cons,List.mapM_cons] at ih ⊢
  rw [ih]; rfl
def mapF:List (List UInt8 × Value)→List UInt8→Option Value
 | [],_=>none
 | p::l,s=>if p.1==s then some p.2 else mapF l s
def mapU:List (List UInt8 × Value)→List UInt8→Value→List (List UInt8 × Value)
 | [],s,x=>[(s,x)]
 | p::l,s,x=>if p.1==s then (p.1,x)::l else p::mapU l s x
def ltB:List UInt8→List UInt8→Bool:=Go.Op.bytesLess
def binI (op:BinOp) (a:IntKind) (m:Int) (b:IntKind) (n:Int) (k:Value→Rdr Stp):Rdr Stp :=
 match op with
 | .shl => .chk (0≤n) (k (.int a (a.wrap (m*2 ^ (min n.toNat a.bits)))))
 | .shr => .chk (0≤n) (k (.int a (m.fdiv (2 ^ (min n.toNat a.bits)))))
 | .add=>if a=b then k (.int a (a.wrap (m+n))) else .fail
 | .sub=>if a=b then k (.int a (a.wrap (m-n))) else .fail
 | .mul=>if a=b then k (.int a (a.wrap (m*n))) else .fail
 | .quo=>if a=b then .chk (n≠0) (k (.int a (a.wrap (m.tdiv n)))) else .fail
 | .rem=>if a=b then .chk (n≠0) (k (.int a (m.tmod n))) else .fail
 | .and=>if a=b then k (.int a (a.wrap ((BitVec.ofInt a.bits m &&& BitVec.ofInt a.bits n).toNat))) else .fail
 | .or=>if a=b then k (.int a (a.wrap ((BitVec.ofInt a.bits m ||| BitVec.ofInt a.bits n).toNat))) else .fail
 | .xor=>if a=b then k (.int a (a.wrap ((BitVec.ofInt a.bits m ^^^ BitVec.ofInt a.bits n).toNat))) else .fail
 | .andNot=>if a=b then k (.int a (a.wrap ((BitVec.ofInt a.bits m &&& ~~~BitVec.ofInt a.bits n).toNat))) else .fail
 | .eql=>if a=b then k (.bool (m==n)) else .fail
 | .neq=>if a=b then k (.bool (m != n)) else .fail
 | .lss=>if a=b then k (.bool (m<n)) else .fail
 | .leq=>if a=b then k (.bool (m≤n)) else .fail
 | .gtr=>if a=b then k (.bool (m > n)) else .fail
 | .geq=>if a=b then k (.bool (m≥n)) else .fail
def binS (op:BinOp) (s t:ByteArray) (k:Value→Rdr Stp):Rdr Stp :=
 match op with
 | .add => .chk ((toL s).length+(toL t).length≤9223372036854775807) (k (vS (toL s++toL t)))
 | .eql=>k (.bool (toL s==toL t))
 | .neq=>k (.bool (!(toL s==toL t)))
 | .lss=>k (.bool (ltB (toL s) (toL t)))
 | .leq=>k (.bool (ltB (toL s) (toL t) || toL s==toL t))
 | .gtr=>k (.bool (!(ltB (toL s) (toL t) || toL s==toL t)))
 | .geq=>k (.bool (!(ltB (toL s) (toL t))))
 | _ => .fail
def binB (tb:Tab) (op:BinOp) (ty:TypeId) (b c:Bool) (k:Value→Rdr Stp):Rdr Stp :=
 match tb ty with
 | some ⟨.bool,_,_,_,_,_⟩=>(match op with
  | .eql=>k (.bool (b==c))
  | .neq=>k (.bool (!(b==c)))
  | _ => .fail)
 | _ => .fail
def binR (tb:Tab) (op:BinOp) (ty:TypeId) (x y:Value) (k:Value→Rdr Stp):Rdr Stp :=
 match x,y with
 | .int a m,.int b n=>binI op a m b n k
 | .string s,.string t=>binS op s t k
 | .bool b,.bool c=>binB tb op ty b c k
 | _,_ => .fail
def unV (op:UnOp) (x:Value):Option Value :=
 match op,x with
 | .not,.bool b=>some (.bool !b)
 | .neg,.int k n=>some (.int k (k.wrap (0-n)))
 | .xor,.int k n=>some (.int k (k.wrap ((BitVec.ofInt k.bits (if k.signed then -1 else k.max) ^^^ BitVec.ofInt k.bits n).toNat)))
 | _,_=>none
def T.toD:T→D
 | .v x => .v x
 | .sl e xs => .imm e xs
def T.toE (p:Lf) (i j:Nat):T→D
 | .v x => .v x
 | .sl _ _ => .ela p i j
def toEs (p:Lf) (i:Nat):Nat→List T→List D
 | _,[]=>[]
 | j,t::ts=>t.toE p i j::toEs p i (j+1) ts
def D.toT (e:TypeId):D→Option T
 | .v x=>some (.v x)
 | .nil=>if e==0 then none else some (.sl e [])
 | _=>none
def toTs:List TypeId→List D→Option (List T)
 | e::es,d::ds=>match d.toT e,toTs es ds with | some t,some ts=>some (t::ts) | _,_=>none
 | [],[]=>some []
 | _,_=>none
def flatB (xs:List TypeId):Bool:=xs.all (· == 0)
def K.isStruct:K→Bool | .struct=>true | _=>false
def mkD (k:K) (ds:List D):D:=if k.isStruct then .agg ds else ds.getD 0 .dead
def bytesRows (l:List UInt8):List (List T):=l.map fun b=>[.v (.int .u8 b.toNat)]
def rowsBytes (xs:List (List T)):List UInt8:=xs.map fun r=>match r with | [.v (.int .u8 n)]=>UInt8.ofNat n.toNat | _=>0
def D.isTup:D→Bool | .tup _=>true | _=>false
structure Cfg where
 np:Nat
 keep:Nat→Bool
 tb:Tab
 pts:FuncId→List TypeId
 md:FuncId→Nat→Nat
def Tab.kd (tb:Tab) (t:TypeId):Option K:=(tb t).map (·.k)
def opMove (dst:Option Tmp) (x:Operand):Rdr Stp:=opdR x fun d=>if d.isTup then .fail else wrS dst d
def mvCs (t:Nat):Nat→List D→List D
 | _,[]=>[]
 | k,c::cs=>mvComp t k c::mvCs t (k+64) cs
def opMoveT (dst:Option Tmp) (x:Operand):Rdr Stp :=
 match x with
 | .tmp t => .slot t fun
  | .tup cs=>wrS dst (.tup (mvCs t 0 cs))
  | d=>wrS dst (asMove t d)
 | x=>opMove dst x
def assignOwn (dst s:Tmp) (n:Nat) (E:Env):Option Env :=
 match cutLeaves s 0 n E with
 | none=>none
 | some E1 =>
  let E2:=if (E1.sl.getD dst .dead).anyOwn then E1.killS dst else E1
  if (E2.sl.getD s .dead).isTup then none else swapLeaves false dst 0 n { E2 with sl:=E2.sl.set dst (asMove s (E2.sl.getD s .dead)) }
def opAssign (dst:Option Tmp) (x:Operand):Rdr Stp :=
 match x,dst with
 | .tmp s,some t => .slot s fun d =>
  if d.isTup then .fail
  else if d.anyOwnish&&s != t then .all fun E=>(match assignOwn t s d.leaves1.length E with | some E' => .ret (.done [.all E']) | none => .fail)
  else wrS dst (asMove s d)
 | x,dst=>opdR x fun d=>if d.isTup then .fail else wrS dst d
def opPick (dst:Option Tmp) (c a b:Operand):Rdr Stp :=
 opdR c fun
  | .v (.bool t)=>if t then opdR a fun d=>if d.isTup then .fail else wrS dst d else opdR b fun d=>if d.isTup then .fail else wrS dst d
  | _ => .fail
def newCell (np:Nat) (t:Nat) (ds:List D):Rdr Stp :=
 .cell t fun old => .slot t fun d => .len fun n =>
  match old with
  | none=>if d.anyOwn || decide (t<np) || decide (n≤t) then .fail else
   if ds.any D.ownish then .all fun E =>
    (match swapLeaves true t 0 ds.length { sl:=E.sl.set t (.cref t 0),ce:=E.ce.set t (some ds) } with | some E' => .ret (.done [.all E']) | none => .fail)
   else .ret (.done [.c t (some ds),.s t (.cref t 0)])
  | some _ => .fail
def opAlloc (np:Nat) (tb:Tab) (dst:Option Tmp) (e:TypeId):Rdr Stp :=
 match dst,tb e with
 | some t,some i=>newCell np t i.zero
 | _,_ => .fail
def D.pure:D→Bool | .v _ | .nil | .imm _ _=>true | _=>false
def D.capt:D→Bool | .v _ | .nil | .imm _ _ | .cref _ _ | .rptr _=>true | _=>false
def D.plainish:D→Bool | .sub _ _ _ | .ela _ _ _ | .own _ _ | .tup _ | .agg _ | .dead=>false | _=>true
def opBox (np:Nat) (tb:Tab) (dst:Option Tmp) (e:TypeId) (x:Operand):Rdr Stp :=
 match dst,tb e with
 | some t,some i=>opdR x fun d =>
  match d with
  | .agg ds=>if i.k.isStruct&&ds.all D.plainish&&ds.length==i.size then newCell np t ds else .fail
  | d=>if !i.k.isStruct&&d.plainish then newCell np t [d] else .fail
 | _,_ => .fail
def D.isDead:D→Bool | .dead=>true | _=>false
def partsR (zero:List D):List (Nat × Nat × Operand)→(List D→Rdr Stp)→Rdr Stp
 | [],k=>k zero
 | (off,n,x)::ps,k=>opdR x fun d =>
  if d.isTup || d.isDead || d.leaves1.length != n || decide (zero.length<off+n) then .fail else partsR (setRange zero off d.leaves1) ps k
def places (i:TI) (sz:Nat→Nat):List (Nat × Operand)→Option (List (Nat × Nat × Operand))
 | []=>some []
 | (f,x)::ps=>match i.fields[f]?,places i sz ps with
  | some off,some r=>some ((off,sz f,x)::r)
  | _,_=>none
def TI.fsize (i:TI) (f:Nat):Nat:=(i.fields.getD (f+1) i.size)-i.fields.getD f 0
def opBuild (tb:Tab) (dst:Option Tmp) (t:TypeId) (parts:List (Nat × Operand)):Rdr Stp :=
 match tb t with
 | some i=>if i.k.isStruct then (match places i i.fsize parts with
  | some ps=>partsR i.zero ps fun ds=>wrS dst (.agg ds)
  | none => .fail) else .fail
 | none => .fail
def chunk (s n:Nat) (l:List D):List (List D):=(List.range n).map fun i=>(l.drop (i*s)).take s
def rowsOf (les:List TypeId):List (List D)→Option (List (List T))
 | []=>some []
 | r::rs=>match toTs les r,rowsOf les rs with | some x,some xs=>some (x::xs) | _,_=>none
def opBuildSlice (tb:Tab) (dst:Option Tmp) (t:TypeId) (n:Nat) (parts:List (Nat × Operand)):Rdr Stp :=
 match tb.kd t with
 | some (.slice e)=>(match tb e with
  | some i=>if decide (n*i.size≤16777216∧n≤16777216) then
    partsR (List.replicate n i.zero).flatten (parts.map fun p=>(p.1*i.size,i.size,p.2)) fun ds=>(match rowsOf i.les (chunk i.size n ds) with | some rs=>wrS dst (.own e rs) | none => .fail) else .fail
  | none => .fail)
 | _ => .fail
def opLoad (tb:Tab) (dst:Option Tmp) (t:TypeId) (x:Operand):Rdr Stp :=
 match tb t with
 | none => .fail
 | some i=>opdR x fun
  | .cref c k => .cell c fun
   | some ds=>if k+i.size≤ds.length then wrS dst (mkD i.k (mvList true c k ((ds.drop k).take i.size))) else .fail
   | none => .fail
  | .eref p a j=>leafR p fun
   | .own _ xs=>if j+i.size≤(xs.getD a []).length then wrS dst (mkD i.k (toEs p a j (((xs.getD a []).drop j).take i.size))) else .fail
   | _ => .fail
  | .rptr ds=>if i.size≤ds.length then wrS dst (mkD i.k (ds.take i.size)) else .fail
  | _ => .fail
def tmpOf:Operand→Option Nat | .tmp s=>some s | _=>none
def stD (s:Option Nat) (E:Env) (d0:D):D:=match s with | some s=>asMove s (E.sl.getD s .dead) | none=>d0
def stCut (s:Option Nat) (n:Nat) (E:Env):Option Env:=match s with | some s=>cutLeaves s 0 n E | none=>some E
def storeOwn (c k n:Nat) (s:Option Nat) (d0:D) (E:Env):Option Env :=
 match stCut s n E with
 | none=>none
 | some E1 =>
  let E2:=if (((E1.ce.getD c none).getD []).drop k |>.take n).any D.isOwn then E1.killC c k n else E1
  match E2.ce.getD c none with
  | none=>none
  | some ds2 =>
   if !(stD s E2 d0).isTup && !(stD s E2 d0).isDead&&(stD s E2 d0).leaves1.length==n&&decide (k+n≤ds2.length) && !((ds2.drop k).take n).any D.isOwn then
    swapLeaves true c k n { E2 with ce:=E2.ce.set c (some (setRange ds2 k (stD s E2 d0).leaves1)) }
   else none
def opStore (tb:Tab) (dst:Option Tmp) (t:TypeId) (a x:Operand):Rdr Stp :=
 match tb t,dst with
 | none,_ => .fail
 | some _,some _ => .fail
 | some i,none=>opdR a fun
  | .cref c k => .cell c fun
   | none => .fail
   | some old=>opdR x fun d =>
    if d.isTup || d.isDead || d.leaves1.length != i.size || decide (old.length<k+i.size) then .fail
    else if d.leaves1.any D.ownish || ((old.drop k).take i.size).any D.isOwn then
     .all fun E=>(match storeOwn c k i.size (tmpOf x) d E with | some E' => .ret (.done [.all E']) | none => .fail)
    else .ret (.done [.c c (some (setRange old k d.leaves1))])
  | .eref p a j=>leafR p fun
   | .own e xs=>opdR x fun d =>
    (match tb e with
    | none => .fail
    | some ie =>
    if d.isTup || d.isDead || d.leaves1.length != i.size || decide ((xs.getD a []).length<j+i.size) || !flatB ie.les then .fail
    else (match toTs (List.replicate i.size 0) d.leaves1 with
     | some ts => .ret (.done [.lf p (.own e (xs.set a (setRange (xs.getD a []) j ts)))])
     | none => .fail))
   | _ => .fail
  | _ => .fail
def opNilCheck (dst:Option Tmp) (x:Operand):Rdr Stp :=
 opdR x fun
  | .cref c k=>wrS dst (.cref c k)
  | .eref p a j=>wrS dst (.eref p a j)
  | .rptr ds=>wrS dst (.rptr ds)
  | .clo f ds=>wrS dst (.clo f ds)
  | _ => .fail
def eqRes (dst:Option Tmp) (op:BinOp) (r:Bool):Rdr Stp :=
 match op with
 | .eql=>wrS dst (.v (.bool r))
 | .neq=>wrS dst (.v (.bool !r))
 | _ => .fail
def strL:List D→Option (List (List UInt8))
 | []=>some []
 | .v (.string s)::ds=>(match strL ds with | some l=>some (toL s::l) | none=>none)
 | _=>none
def TI.strS (i:TI):Bool:=i.k.isStruct&&i.zero.all fun | .v (.string _)=>true | _=>false
def opBin (tb:Tab) (dst:Option Tmp) (op:BinOp) (t:TypeId) (x y:Operand):Rdr Stp :=
 opdR x fun dx=>opdR y fun dy =>
  match dx,dy with
  | .v a,.v b=>binR tb op t a b fun v=>wrS dst (.v v)
  | dx,.nil=>(match tb t with
   | some ⟨.slice e,_,_,_,_,_⟩=>(match dx with
    | .nil=>eqRes dst op true
    | dx=>rowsR dx fun e' xs => .chk (e'=e∧xs≠[]) (eqRes dst op false))
   | _ => .fail)
  | dx,.v (.pointer none)=>(match tb t with
   | some ⟨.ptr _,_,_,_,_,_⟩=>(match dx with
    | .cref _ _ | .eref _ _ _ | .rptr _=>eqRes dst op false
    | _ => .fail)
   | _ => .fail)
  | .agg ds,.agg es=>(match tb t with
   | some i=>if i.strS=true then (match strL ds,strL es with
    | some a,some b => .chk (a.length=i.size∧b.length=i.size) (eqRes dst op (a==b))
    | _,_ => .fail) else .fail
   | none => .fail)
  | _,_ => .fail
def opUn (dst:Option Tmp) (op:UnOp) (x:Operand):Rdr Stp :=
 opdR x fun
  | .v a=>(match unV op a with | some v=>wrS dst (.v v) | none => .fail)
  | _ => .fail
def opConvert (tb:Tab) (dst:Option Tmp) (s t:TypeId) (x:Operand):Rdr Stp :=
 opdR x fun d =>
  match tb.kd s,tb.kd t,d with
  | some _,some (.int k),.v (.int _ n)=>wrS dst (.v (.int k (k.wrap n)))
  | some .str,some .str,.v (.string b)=>wrS dst (.v (.string b))
  | some .str,some (.slice e),.v (.string b)=>(match tb.kd e with
   | some (.int .u8)=>wrS dst (.own e (bytesRows (toL b)))
   | _ => .fail)
  | some (.slice e),some .str,.nil=>(match tb.kd e with | some (.int .u8)=>wrS dst (.v (vS [])) | _ => .fail)
  | some (.slice e),some .str,d=>(match tb.kd e with
    | some (.int .u8)=>rowsR d fun e' xs => .chk (e'=e∧xs=bytesRows (rowsBytes xs)) (wrS dst (.v (vS (rowsBytes xs))))
    | _ => .fail)
  | _,_,_ => .fail
def opMakeFunc (dst:Option Tmp) (fn:Fn) (first captured:List Operand):Rdr Stp :=
 match fn,first with
 | .func f,[]=>go captured [] fun ds=>wrS dst (.clo f ds)
 | _,_ => .fail
 where
 go:List Operand→List D→(List D→Rdr Stp)→Rdr Stp
 | [],acc,k=>k acc
 | x::xs,acc,k=>opdR x fun d=>if d.capt then go xs (acc++[d]) k else .fail
def zeroT (i:TI):Option (List T):=toTs i.les i.zero
def opMakeSlice (tb:Tab) (dst:Option Tmp) (t:TypeId) (l c:Operand):Rdr Stp :=
 match tb.kd t with
 | some (.slice e)=>(match tb e with
  | some i=>(match zeroT i with
   | some z=>opdR l fun dl=>opdR c fun dc =>
    (match dl,dc with
    | .v (.int _ n),.v (.int _ m) => .chk (0≤n∧n≤m∧m≤9223372036854775807∧m.toNat*i.bytes≤140737488355328) (wrS dst (.own e (List.replicate n.toNat z)))
    | _,_ => .fail)
   | none => .fail)
  | none => .fail)
 | _ => .fail
def boundR {β:Type} (x:Option Operand) (dflt:Nat) (k:Nat→Rdr β):Rdr β :=
 match x with
 | none=>k dflt
 | some x=>opdR x fun
  | .v (.int _ n) => .chk (0≤n) (k n.toNat)
  | _ => .fail
def opSlice (tb:Tab) (dst:Option Tmp) (t:TypeId) (x:Operand) (lo hi mx:Option Operand):Rdr Stp :=
 match mx with
 | some _ => .fail
 | none=>opdR x fun d =>
  match tb.kd t,d with
  | some .str,.v (.string b)=>boundR lo 0 fun l=>boundR hi (toL b).length fun h => .chk (l≤h∧h≤(toL b).length) (wrS dst (.v (vS (((toL b).drop l).take (h-l)))))
  | some (.slice e),.ali p=>leafR p fun
   | .own e' xs=>boundR lo 0 fun l=>boundR hi xs.length fun h => .chk (l≤h∧h≤xs.length∧e'=e) (wrS dst (.sub p l h))
   | _ => .fail
  | some (.slice e),.sub p a b=>leafR p fun
   | .own e' xs=>boundR lo 0 fun l=>boundR hi (b-a) fun h => .chk (l≤h∧h≤b-a∧(l=0∨l<b-a)∧e'=e) (wrS dst (.sub p (a+l) (a+h)))
   | _ => .fail
  | some (.slice e),.imm e' xs=>boundR lo 0 fun l=>boundR hi xs.length fun h => .chk (l≤h∧h≤xs.length∧e'=e) (wrS dst (.imm e ((xs.drop l).take (h-l))))
  | some (.slice e),.nil=>boundR lo 0 fun l=>boundR hi 0 fun h => .chk (l=0∧h=0) (wrS dst .nil)
  | _,_ => .fail
def opFieldAddr (tb:Tab) (dst:Option Tmp) (s:TypeId) (x:Operand) (f:Nat):Rdr Stp :=
 match tb s with
 | none => .fail
 | some i=>if !i.k.isStruct then .fail else (match i.fields[f]? with
  | none => .fail
  | some off=>opdR x fun
   | .cref c k => .cell c fun | some ds=>(if k+off≤ds.length then wrS dst (.cref c (k+off)) else .fail) | none => .fail
   | .eref p a j=>wrS dst (.eref p a (j+off))
   | .rptr ds=>wrS dst (.rptr (ds.drop off))
   | _ => .fail)
def opIndexAddr (tb:Tab) (dst:Option Tmp) (t:TypeId) (x ix:Operand):Rdr Stp :=
 match tb.kd t with
 | some (.slice e)=>opdR ix fun
  | .v (.int _ n)=>opdR x fun
   | .ali p=>leafR p fun
    | .own e' xs => .chk (0≤n∧n<xs.length∧e'=e) (wrS dst (.eref p n.toNat 0))
    | _ => .fail
   | .sub p a b=>leafR p fun
    | .own e' xs => .chk (0≤n∧n<((b-a:Nat):Int)∧e'=e) (wrS dst (.eref p (a+n.toNat) 0))
    | _ => .fail
   | .imm e' xs => .chk (0≤n∧n<xs.length∧e'=e) (wrS dst (.rptr ((xs.getD n.toNat []).map T.toD)))
   | _ => .fail
  | _ => .fail
 | _ => .fail
def opIndex (tb:Tab) (dst:Option Tmp) (t:TypeId) (x ix:Operand):Rdr Stp :=
 match tb.kd t with
 | some .str=>opdR x fun
  | .v (.string b)=>opdR ix fun
   | .v (.int _ n) => .chk (0≤n∧n<(toL b).length) (wrS dst (.v (vC ((toL b).getD n.toNat 0).toNat)))
   | _ => .fail
  | _ => .fail
 | _ => .fail
def opExtract (dst:Option Tmp) (x:Operand) (k:Nat):Rdr Stp :=
 match x with
 | .tmp t => .slot t fun
  | .tup cs=>(match cs[k]? with | some d=>wrS dst (mvComp t (64*k) d) | none => .fail)
  | _ => .fail
 | _ => .fail
def opField (tb:Tab) (dst:Option Tmp) (s:TypeId) (x:Operand) (f:Nat):Rdr Stp :=
 match tb s with
 | none => .fail
 | some i=>if !i.k.isStruct then .fail else (match i.fields[f]? with
  | none => .fail
  | some off=>opdR x fun
   | .agg ds=>if off+i.fsize f≤ds.length then wrS dst (if i.fsize f=1 then ds.getD off .dead else .agg ((ds.drop off).take (i.fsize f))) else .fail
   | _ => .fail)
def Tab.strMap (tb:Tab) (t:TypeId):Option TypeId:=match tb.kd t with
 | some (.map k e)=>(match tb.kd k with | some .str=>some e | _=>none)
 | _=>none
def opMakeMap (tb:Tab) (dst:Option Tmp) (t:TypeId) (r:Option Operand):Rdr Stp :=
 match r,tb.strMap t with
 | none,some _=>wrS dst (.own mapE [[.v (mapV [])]])
 | _,_ => .fail
def mapR {α:Type} (x:Operand) (k:Lf→List (List UInt8 × Value)→Rdr α):Rdr α :=
 opdR x fun
  | .ali p=>leafR p fun
   | .own e [[.v m]]=>if e==mapE then (match mapD m with | some l=>k p l | none => .fail) else .fail
   | _ => .fail
  | _ => .fail
def zeroV (i:TI):Option Value:=match i.k.isStruct,i.zero with | false,[.v z]=>some z | _,_=>none
def opLookup (tb:Tab) (dst:Option Tmp) (t:TypeId) (x ix:Operand) (ok:Bool):Rdr Stp :=
 if ok then .fail else
 match (tb.strMap t).bind tb with
 | some i=>(match zeroV i with
  | some z=>mapR x fun _ l=>opdR ix fun
   | .v (.string s)=>wrS dst (.v ((mapF l (toL s)).getD z))
   | _ => .fail
  | none => .fail)
 | none => .fail
def opMapUpdate (tb:Tab) (dst:Option Tmp) (t:TypeId) (m k x:Operand):Rdr Stp :=
 match tb.strMap t,dst with
 | some _,none=>mapR m fun p l=>opdR k fun
  | .v (.string s)=>opdR x fun
   | .v v => .ret (.done [.lf p (.own mapE [[.v (mapV (mapU l (toL s) v))]])])
   | _ => .fail
  | _ => .fail
 | _,_ => .fail
def opLen (tb:Tab) (dst:Option Tmp) (t:TypeId) (x:Operand):Rdr Stp :=
 opdR x fun d =>
  match tb.kd t,d with
  | some .str,.v (.string b) => .asm ((toL b).length≤9223372036854775807) (wrS dst (.v (vI (toL b).length)))
  | some (.slice _),.nil=>wrS dst (.v (vI 0))
  | some (.slice e),d=>rowsR d fun e' xs => .chk (e'=e) (.asm (xs.length≤9223372036854775807) (wrS dst (.v (vI xs.length))))
  | _,_ => .fail
def opMinMax (mx:Bool) (dst:Option Tmp) (xs:List Operand):Rdr Stp :=
 match xs with
 | x::xs=>opdR x fun
  | .v (.int k n)=>go xs n k
  | _ => .fail
 | [] => .fail
 where
 go:List Operand→Int→IntKind→Rdr Stp
 | [],n,k=>wrS dst (.v (.int k n))
 | x::xs,n,k=>opdR x fun
  | .v (.int k' m)=>if k=k' then go xs (if mx then (if m > n then m else n) else (if m<n then m else n)) k else .fail
  | _ => .fail
def srcR {α:Type} (tb:Tab) (tx e:TypeId) (sz:Nat) (d:D) (k:List (List T)→Rdr α):Rdr α :=
 match tb.kd tx,d with
 | some .str,.v (.string b)=>if sz==1 then k (bytesRows (toL b)) else .fail
 | some (.slice _),.nil=>k []
 | some (.slice _),d=>rowsR d fun e' xs => .chk (e'=e) (k xs)
 | _,_ => .fail
def opAppend (tb:Tab) (dst:Option Tmp) (t tx:TypeId) (s x:Operand):Rdr Stp :=
 match tb.kd t,dst with
 | some (.slice e),some r=>(match tb e with
  | some i=>if flatB i.les&&decide (0<i.size)&&decide (0<i.bytes) then opdR s fun d=>opdR x fun y=>srcR tb tx e i.size y fun ys =>
   (match d with
   | .nil => .chk (ys.length*i.bytes≤140737488355328) (wrS dst (.own e ys))
   | .ali p=>leafR p fun
    | .own e' xs => .chk ((xs.length+ys.length)*i.bytes≤140737488355328∧e'=e) (.all fun E => .ret (.done [.all (fin E r p e (xs++ys))]))
    | _ => .fail
   | .sub p a b=>leafR p fun
    | .own e' xs => .chk ((b-a+ys.length)*i.bytes≤140737488355328∧e'=e) (.all fun E => .ret (.done [.all (fin E r p e ((xs.drop a).take (b-a)++ys))]))
    | _ => .fail
   | _ => .fail) else .fail
  | none => .fail)
 | _,_ => .fail
 where
 fin (E:Env) (r:Nat) (p:Lf) (e:TypeId) (zs:List (List T)):Env :=
  let E1:=E.killP p
  let E2:=if (E1.sl.getD r .dead).anyOwn then E1.killS r else E1
  { E2 with sl:=E2.sl.set r (.own e zs) }
structure CallAcc where
 args:List D
 ce:List (Option (List D))
 wb:List (Lf × Lf)
 wc:List (Nat × Nat × Nat × Nat)
 bor:List Lf
 borc:List Nat
def CallAcc.push (a:CallAcc) (d:D) (bor:List Lf) (borc:List Nat):CallAcc:={ a with args:=a.args++[d],ce:=a.ce++[none],bor:=a.bor++bor,borc:=a.borc++borc }
def coeLeaf {α:Type} (e:TypeId) (d:D) (k:D→List Lf→Rdr α):Rdr α :=
 match d with
 | .v x=>k (.v x) []
 | .nil=>k (if e==0 then .nil else .imm e []) []
 | .imm e' xs=>k (.imm e' xs) []
 | .rptr ds=>k (.rptr ds) []
 | .clo f []=>k (.clo f []) []
 | .ali p=>rowsR (.ali p) fun e' xs=>k (.imm e' xs) [p]
 | .sub p a b=>rowsR (.sub p a b) fun e' xs=>k (.imm e' xs) [p]
 | .ela p i j=>rowsR (.ela p i j) fun e' xs=>k (.imm e' xs) [p]
 | _ => .fail
def coeLeaves {α:Type}:List TypeId→List D→(List D→List Lf→Rdr α)→Rdr α
 | es,d::ds,k=>coeLeaf (es.headD 0) d fun d bs=>coeLeaves es.tail ds fun ds bs'=>k (d::ds) (bs++bs')
 | _,[],k=>k [] []
def coeCapt {α:Type}:List D→(List D→List Lf→List Nat→Rdr α)→Rdr α
 | [],k=>k [] [] []
 | .cref c j::ds,k => .cell c fun
  | some ls=>coeLeaves [] (mvList true c j (ls.drop j)) fun ls bs=>if ls.all D.pure&&decide (0<ls.length) then coeCapt ds fun ds bs' bc=>k (.rptr ls::ds) (bs++bs') (c::bc) else .fail
  | none => .fail
 | .rptr ls::ds,k=>coeCapt ds fun ds bs bc=>k (.rptr ls::ds) bs bc
 | .v x::ds,k=>coeCapt ds fun ds bs bc=>k (.v x::ds) bs bc
 | .nil::ds,k=>coeCapt ds fun ds bs bc=>k (.nil::ds) bs bc
 | .imm e xs::ds,k=>coeCapt ds fun ds bs bc=>k (.imm e xs::ds) bs bc
 | _::_,_ => .fail
def lendLeaf {α:Type} (e:TypeId) (r:Lf) (d:D) (k:D→List (Lf × Lf)→List Lf→Rdr α):Rdr α :=
 match d with
 | .ali p=>rowsR (.ali p) fun e' xs=>k (.own e' xs) [(p,r)] []
 | .nil=>if e==0 then k .nil [] [] else k (.own e []) [] []
 | d=>coeLeaf e d fun d' bs=>k d' [] bs
def lendLeaves {α:Type} (i:Nat):Nat→List TypeId→List D→(List D→List (Lf × Lf)→List Lf→Rdr α)→Rdr α
 | j,es,d::ds,k=>lendLeaf (es.headD 0) ⟨false,i,j⟩ d fun d w bs=>lendLeaves i (j+1) es.tail ds fun ds w' bs'=>k (d::ds) (w++w') (bs++bs')
 | _,_,[],k=>k [] [] []
def lendable:D→Bool | .v _ | .nil | .own _ _ | .imm _ _=>true | _=>false
def argR (tb:Tab) (pt:TypeId) (m:Nat) (d:D) (acc:CallAcc) (k:CallAcc→Rdr Stp):Rdr Stp :=
 match m with
 | 1=>(match d with
  | .agg ds=>(match tb pt with
   | some i=>lendLeaves acc.args.length 0 i.les ds fun ds' w bs=>k { acc.push (.agg ds') bs [] with wb:=acc.wb++w }
   | none => .fail)
  | .tup _ => .fail
  | d=>lendLeaf (match tb.kd pt with | some (.slice e)=>e | _=>0) ⟨false,acc.args.length,0⟩ d fun d' w bs=>k { acc.push d' bs [] with wb:=acc.wb++w })
 | 2=>(match d,tb.kd pt with
  | .cref c j,some (.ptr e)=>(match tb e with
   | none => .fail
   | some ie => .cell c fun
    | none => .fail
    | some ls =>
     if ((ls.drop j).take ie.size).all lendable&&decide (j+ie.size≤ls.length)&&decide (0<ie.size) then
      k { acc with args:=acc.args++[.cref acc.args.length 0],ce:=acc.ce++[some ((ls.drop j).take ie.size)],wc:=acc.wc++[(c,j,ie.size,acc.args.length)] }
     else .fail)
  | _,_ => .fail)
 | 3=>(match d with
  | .cref c j => .cell c fun
   | none => .fail
   | some ls =>
    if ((ls.drop j).take (ls.length-j)).all lendable&&decide (j+(ls.length-j)≤ls.length)&&decide (0<ls.length-j) then
     k { acc with args:=acc.args++[.cref acc.args.length 0],ce:=acc.ce++[some ((ls.drop j).take (ls.length-j))],wc:=acc.wc++[(c,j,ls.length-j,acc.args.length)] }
    else .fail
  | _ => .fail)
 | _=>(match d with
  | .agg ds=>(match tb pt with
   | some i=>coeLeaves i.les ds fun ds' bs=>k (acc.push (.agg ds') bs [])
   | none => .fail)
  | .cref c j=>(match tb.kd pt with
   | some (.ptr e)=>(match tb e with
    | none => .fail
    | some ie => .cell c fun
     | none => .fail
     | some ls=>if 0<ie.size∧j+ie.size≤ls.length then coeLeaves ie.les (mvList true c j ((ls.drop j).take ie.size)) fun ls' bs=>if ls'.all D.pure then k (acc.push (.rptr ls') bs [c]) else .fail else .fail)
   | _ => .fail)
  | .clo f cs=>coeCapt cs fun cs' bs bc=>k (acc.push (.clo f cs') bs bc)
  | .tup _ => .fail
  | d=>coeLeaf (match tb.kd pt with | some (.slice e)=>e | _=>0) d fun d' bs=>k (acc.push d' bs []))
def argsR (tb:Tab) (md:Nat→Nat):List TypeId→List D→CallAcc→(CallAcc→Rdr Stp)→Rdr Stp
 | pt::pts,d::ds,acc,k=>argR tb pt (md acc.args.length) d acc fun acc=>argsR tb md pts ds acc k
 | [],[],acc,k=>k acc
 | _,_,_,_ => .fail
def distinct {α:Type} [DecidableEq α]:List α→Bool
 | []=>true
 | x::xs => !(xs.contains x)&&distinct xs
def CallAcc.ok (a:CallAcc):Bool :=
 let ps:=a.wb.map (·.1)
 let cs:=a.wc.map (·.1)
 distinct ps&&distinct cs&&ps.all (fun p => !(p.c&&cs.contains p.t))&&a.bor.all (fun q => !(ps.contains q) && !(q.c&&cs.contains q.t))&&a.borc.all (fun c => !(cs.contains c))
def D.isImm:D→Bool | .imm _ _=>true | _=>false
def D.resLeaf:D→Bool | .v _ | .nil | .own _ _ | .imm _ _ | .dead=>true | .clo _ ds=>ds.isEmpty | _=>false
def D.anyL (p:D→Bool) (d:D):Bool:=d.comps.any fun c=>c.leaves1.any p
def wbs (Ein Eout:Env):List (Lf × Lf)→Option (List (Lf × TypeId × List (List T)))
 | []=>some []
 | (p,i)::ps=>match Ein.leaf i,Eout.leaf i,wbs Ein Eout ps with
  | .own e0 _,.own e xs,some ws=>if e0=e then some ((p,e,xs)::ws) else none
  | .own _ _,.dead,some ws=>some ws
  | _,_,_=>none
def gones (Eout:Env) (l:List (Lf × Lf)):List Lf:=(l.filter fun x=>(Eout.leaf x.2).isDead).map (·.1)
def wcs (Eout:Env):List (Nat × Nat × Nat × Nat)→Option (List (Nat × Nat × List D))
 | []=>some []
 | (c,j,n,i)::ps=>match Eout.ce.getD i none,wcs Eout ps with
  | some ls,some ws=>if ls.length=n∧ls.all D.resLeaf=true then some ((c,j,ls)::ws) else none
  | _,_=>none
def retIm (acc:CallAcc) (Eout:Env) (w2:List (Nat × Nat × List D)):Bool:=(Eout.sl.getD acc.args.length .dead).anyL D.isImm || w2.any fun x=>x.2.2.any D.isImm
def retW (acc:CallAcc) (dst:Option Tmp) (Eout:Env):Option (List W) :=
 match wbs ⟨acc.args,acc.ce⟩ Eout acc.wb,wcs Eout acc.wc with
 | some w1,some w2 =>
  if (Eout.sl.getD acc.args.length .dead).anyL (fun d => !d.resLeaf) || (retIm acc Eout w2 && !acc.borc.isEmpty) || decide (Eout.sl.length≠acc.args.length+1) then none
  else some ((if retIm acc Eout w2 then [.fz acc.bor] else [])++(.ca (gones Eout acc.wb) w1 w2::(match dst with | none=>[] | some t=>[.rw t (Eout.sl.getD acc.args.length .dead)])))
 | _,_=>none
def callR (C:Cfg) (dst:Option Tmp) (f:FuncId) (ds:List D):Rdr Stp :=
 argsR C.tb (C.md f) (C.pts f) ds ⟨[],[],[],[],[],[]⟩ fun acc=>if acc.ok then .ret (.call f ⟨acc.args,acc.ce⟩ (retW acc dst)) else .fail
def opdsR {α:Type}:List Operand→List D→(List D→Rdr α)→Rdr α
 | [],acc,k=>k acc
 | x::xs,acc,k=>opdR x fun d=>opdsR xs (acc++[d]) k
def opCall (C:Cfg) (dst:Option Tmp) (c:Call):Rdr Stp :=
 match c.callee with
 | .builtin .len=>(match c.args.toList,c.argTypes.toList with | [x],[t]=>opLen C.tb dst t x | _,_ => .fail)
 | .builtin .append=>(match c.args.toList,c.argTypes.toList with | [s,x],[t,tx]=>opAppend C.tb dst t tx s x | _,_ => .fail)
 | .builtin .min=>opMinMax false dst c.args.toList
 | .builtin .max=>opMinMax true dst c.args.toList
 | .builtin _ => .fail
 | .value (.func f)=>opdsR c.args.toList [] fun ds=>callR C dst f ds
 | .value x=>opdR x fun
  | .clo f cs=>opdsR c.args.toList [] fun ds=>callR C dst f (ds++cs)
  | _ => .fail
 | .invoke _ _ => .fail
def opR (C:Cfg) (o:Oper):Rdr Stp :=
 match o.op with
 | .move x=>opMoveT o.dst x
 | .assign x=>opAssign o.dst x
 | .pick c a b=>opPick o.dst c a b
 | .alloc e=>opAlloc C.np C.tb o.dst e
 | .box e x=>opBox C.np C.tb o.dst e x
 | .build t ps=>opBuild C.tb o.dst t ps.toList
 | .buildSlice t n ps=>opBuildSlice C.tb o.dst t n ps.toList
 | .load t a=>opLoad C.tb o.dst t a
 | .store t a x=>opStore C.tb o.dst t a x
 | .nilCheck x=>opNilCheck o.dst x
 | .binOp op t x y _=>opBin C.tb o.dst op t x y
 | .unOp op _ x=>opUn o.dst op x
 | .convert s t x=>opConvert C.tb o.dst s t x
 | .makeFunc fn fi ca=>opMakeFunc o.dst fn fi.toList ca.toList
 | .makeSlice t l c=>opMakeSlice C.tb o.dst t l c
 | .slice t x lo hi mx=>opSlice C.tb o.dst t x lo hi mx
 | .fieldAddr s x f=>opFieldAddr C.tb o.dst s x f
 | .indexAddr t x i=>opIndexAddr C.tb o.dst t x i
 | .index t x i=>opIndex C.tb o.dst t x i
 | .extract x k=>opExtract o.dst x k
 | .field s x f=>opField C.tb o.dst s x f
 | .makeMap t r=>opMakeMap C.tb o.dst t r
 | .lookup t x i ok=>opLookup C.tb o.dst t x i ok
 | .mapUpdate t m k x=>opMapUpdate C.tb o.dst t m k x
 | .call c=>opCall C o.dst c
 | _ => .fail
def T.get? (xs:List (List T)) (i j:Nat):Option T:=(xs[i]?).bind (·[j]?)
def T.isV:T→Bool | .v _=>true | _=>false
def flatP (P:Program) (e:TypeId):Bool:=match (P.info? e).bind (·.zero) with | some z=>z.cells.toList.all (fun x=>match x with | .slice _ _ _=>false | _=>true) | none=>false
def Thawed (n:Nat) (fr:Nat × Nat):Prop:=∀ o,o<n→¬ (fr.1≤o∧o<fr.2)
inductive RdT (P:Program) (w:World) (S:Nat→Prop):T→Value→Prop
 | v (x:Value):scal x=true→RdT P w S (.v x) x
 | emp (e:TypeId) (base:Option Addr) (cap:Nat):cap≤9223372036854775807→RdT P w S (.sl e []) (.slice base 0 cap)
 | row (e:TypeId) (xs:List (List T)) (b o cap:Nat) (cs:Array Value) (ce:TypeId) (fr:Nat × Nat) (X:Nat→Nat→Value) :
   w.heap[b]? = some (.cells cs ce fr)→S b→xs.length≤cap→cap≤9223372036854775807 →
   (∀ (i:Nat) (r:List T),xs[i]? = some r→r.length=P.cellsOf e) →
   (∀ i j t,T.get? xs i j=some t→cs[o+i*P.cellsOf e+j]? = some (X i j)) →
   (∀ i j t,T.get? xs i j=some t→RdT P w S t (X i j))→(flatP P e=true→∀ i j t,T.get? xs i j=some t→t.isV=true) →
   RdT P w S (.sl e xs) (.slice (some ⟨b,o,none⟩) xs.length cap)
 | mp (l:List (List UInt8 × Value)) (es:Array MapEntry) (r ck:Nat):w.heap[r]? = some (.map es ck)→S r→es.toList.map (fun e=>(e.key,e.val))=l.map (fun p=>(vS p.1,p.2)) →
   (∀ p,p∈l→scal p.2=true)→RdT P w S (.sl mapE [[.v (mapV l)]]) (.map (some r))
inductive OwnT (P:Program) (w:World):T→Value→(Nat→Prop)→Prop
 | v (x:Value) (F:Nat→Prop):scal x=true→OwnT P w (.v x) x F
 | emp (e:TypeId) (F:Nat→Prop):OwnT P w (.sl e []) (.slice none 0 0) F
 | row (e:TypeId) (xs:List (List T)) (b o cap:Nat) (cs:Array Value) (fr:Nat × Nat) (F:Nat→Prop) (G:Nat→Nat→Nat→Prop) (X:Nat→Nat→Value) :
   w.heap[b]? = some (.cells cs e fr)→F b→Thawed (cs.size+(P.cellsOf e-1)) fr→o+cap*P.cellsOf e≤cs.size→xs.length≤cap→cap≤9223372036854775807 →
   (∀ (i:Nat) (r:List T),xs[i]? = some r→r.length=P.cellsOf e) →
   (∀ i j b',G i j b'→F b'∧b'≠b) →
   (∀ i j i' j' b',G i j b'→G i' j' b'→i=i'∧j=j') →
   (∀ i j t,T.get? xs i j=some t→cs[o+i*P.cellsOf e+j]? = some (X i j)) →
   (∀ i j t,T.get? xs i j=some t→OwnT P w t (X i j) (G i j))→(flatP P e=true→∀ i j t,T.get? xs i j=some t→t.isV=true) →
   OwnT P w (.sl e xs) (.slice (some ⟨b,o,none⟩) xs.length cap) F
 | mp (l:List (List UInt8 × Value)) (es:Array MapEntry) (r ck:Nat) (F:Nat→Prop):w.heap[r]? = some (.map es ck)→F r→es.toList.map (fun e=>(e.key,e.val))=l.map (fun p=>(vS p.1,p.2)) →
   (∀ p,p∈l→scal p.2=true)→OwnT P w (.sl mapE [[.v (mapV l)]]) (.map (some r)) F
theorem OwnT.rd {P:Program} {w:World} {t:T} {v:Value} {F:Nat→Prop} (h:OwnT P w t v F):∀ {S:Nat→Prop},(∀ b,F b→S b)→RdT P w S t v:=by
 induction h with
 | v x F hx=>intro S _; exact .v x hx
 | emp e F=>intro S _; exact .emp e _ _ (by omega)
 | row e xs b o cap cs fr F G X h1 h2 h3 h4 h5 h6 h7 h8 h9 h10 h11 h12 ih =>
  intro S hS
  exact .row e xs b o cap cs e fr X h1 (hS b h2) h5 h6 h7 h10 (fun i j t ht=>ih i j t ht (fun b' hb=>hS b' (h8 i j b' hb).1)) h12
 | mp l es r ck F h1 h2 h3 h4=>intro S hS; exact .mp l es r ck h1 (hS r h2) h3 h4
theorem RdT.mono {P:Program} {w w':World} {S S':Nat→Prop} {t:T} {v:Value} (h:RdT P w S t v)
  (hS:∀ b,S b→b<w.heap.size→S' b∧w'.heap[b]? = w.heap[b]?):RdT P w' S' t v:=by
 induction h with
 | v x hx=>exact .v x hx
 | emp e base cap hc=>exact .emp e base cap hc
 | row e xs b o cap cs ce fr X h1 h2 h5 h6 h7 h10 h11 h12 ih =>
  have hb:b<w.heap.size:=(Array.getElem?_eq_some_iff.1 h1).1
  obtain ⟨s1,s2⟩:=hS b h2 hb
  exact .row e xs b o cap cs ce fr X (s2▸h1) s1 h5 h6 h7 h10 ih h12
 | mp l es r ck h1 h2 h3 h4 =>
  obtain ⟨s1,s2⟩:=hS r h2 (Array.getElem?_eq_some_iff.1 h1).1
  exact .mp l es r ck (s2▸h1) s1 h3 h4
theorem OwnT.mono {P:Program} {w w':World} {F:Nat→Prop} {t:T} {v:Value} (h:OwnT P w t v F) :
  ∀ {F':Nat→Prop},(∀ b,F b→F' b)→(∀ b,F b→b<w.heap.size→w'.heap[b]? = w.heap[b]?)→OwnT P w' t v F':=by
 induction h with
 | v x F hx=>intro F' _ _; exact .v x F' hx
 | emp e F=>intro F' _ _; exact .emp e F'
 | row e xs b o cap cs fr F G X h1 h2 h3 h4 h5 h6 h7 h8 h9 h10 h11 h12 ih =>
  intro F' hF hw
  have hb:b<w.heap.size:=(Array.getElem?_eq_some_iff.1 h1).1
  refine .row e xs b o cap cs fr F' G X (by rw [hw b h2 hb]; exact h1) (hF b h2) h3 h4 h5 h6 h7 (fun i j b' hb=>⟨hF b' (h8 i j b' hb).1,(h8 i j b' hb).2⟩) h9 h10 ?_ h12
  exact fun i j t ht=>ih i j t ht (fun _ h=>h) (fun b' hb' hl=>hw b' (h8 i j b' hb').1 hl)
 | mp l es r ck F h1 h2 h3 h4 =>
  intro F' hF hw
  exact .mp l es r ck F' (by rw [hw r h2 (Array.getElem?_eq_some_iff.1 h1).1]; exact h1) (hF r h2) h3 h4
theorem OwnT.slice {P:Program} {w:World} {e:TypeId} {xs:List (List T)} {v:Value} {F:Nat→Prop} (h:OwnT P w (.sl e xs) v F) (he:e≠mapE) :
  ∃ base cap,v = .slice base xs.length cap∧cap≤9223372036854775807∧xs.length≤cap:=by
 cases h with
 | emp=>exact ⟨_,_,rfl,by omega,by simp⟩
 | row=>exact ⟨_,_,rfl,by assumption,by assumption⟩
 | mp=>exact absurd rfl he
def lenV:Value→Nat | .slice _ n _=>n | _=>1
theorem OwnT.lenV {P:Program} {w:World} {e:TypeId} {xs:List (List T)} {v:Value} {F:Nat→Prop} (h:OwnT P w (.sl e xs) v F):xs.length=lenV v:=by
 cases h<;>rfl
def vcomps:Value→List Value | .tuple vs=>vs.toList | v=>[v]
def vleaves1:Value→List Value | .agg cs=>cs.toList | v=>[v]
def vleafOf (v:Value) (k:Nat):Value:=((vleaves1 ((vcomps v).getD (k / 64) undef))).getD (k % 64) undef
structure Ctx where
 P:Program
 E:Env
 a:Act
 w:World
 F:Lf→Nat→Prop
 loc:Nat→Nat × Nat
 M:Nat→Prop
def Ctx.live (C:Ctx) (t:Nat) (ds:List D):Prop:=C.E.ce[t]? = some (some ds)
def Ctx.Owned (C:Ctx) (b:Nat):Prop:=(∃ p,C.F p b)∨(∃ t ds,C.live t ds∧(C.loc t).1=b)
def Ctx.Rd (C:Ctx) (b:Nat):Prop:=¬ C.Owned b∧C.M b
def Ctx.cv (C:Ctx) (p:Lf):Value :=
 if p.c then (C.w.cell? ⟨(C.loc p.t).1,(C.loc p.t).2+p.k,none⟩).getD undef else vleafOf (C.a.tmps.getD p.t undef) p.k
def cutV (sz:Nat) (v:Value) (lo hi:Nat):Value :=
 match v with
 | .slice base _ cap => .slice (if cap=lo then base else base.map (·.add (lo*sz))) (hi-lo) (cap-lo)
 | v=>v
inductive LRel (C:Ctx):Lf→D→Value→Prop
 | dead (p:Lf) (v:Value):LRel C p .dead v
 | v (p:Lf) (x:Value):scal x=true→LRel C p (.v x) x
 | nil (p:Lf):LRel C p .nil (.slice none 0 0)
 | own (p:Lf) (e:TypeId) (xs:List (List T)) (v:Value):OwnT C.P C.w (.sl e xs) v (C.F p)→LRel C p (.own e xs) v
 | imm (p:Lf) (e:TypeId) (xs:List (List T)) (v:Value):RdT C.P C.w C.Rd (.sl e xs) v→LRel C p (.imm e xs) v
 | ali (p q:Lf) (e:TypeId) (xs:List (List T)):C.E.leaf q = .own e xs→LRel C p (.ali q) (C.cv q)
 | sub (p q:Lf) (lo hi:Nat) (e:TypeId) (xs:List (List T)):C.E.leaf q = .own e xs→lo≤hi→hi≤xs.length→e≠mapE→LRel C p (.sub q lo hi) (cutV (C.P.cellsOf e) (C.cv q) lo hi)
 | ela (p q:Lf) (i j:Nat) (e:TypeId) (xs:List (List T)) (e':TypeId) (ys:List (List T)) (b o n cap:Nat) (v:Value):C.E.leaf q = .own e xs→T.get? xs i j=some (.sl e' ys) →
   C.cv q = .slice (some ⟨b,o,none⟩) n cap→C.w.cell? ⟨b,o+i*C.P.cellsOf e+j,none⟩=some v→LRel C p (.ela q i j) v
 | cref (p:Lf) (t k:Nat) (ds:List D):C.live t ds→k≤ds.length→LRel C p (.cref t k) (.pointer (some ⟨(C.loc t).1,(C.loc t).2+k,none⟩))
 | eref (p q:Lf) (i j:Nat) (e:TypeId) (xs:List (List T)) (b o n cap:Nat):C.E.leaf q = .own e xs→C.cv q = .slice (some ⟨b,o,none⟩) n cap→i<xs.length →
   LRel C p (.eref q i j) (.pointer (some ⟨b,o+i*C.P.cellsOf e+j,none⟩))
 | rptr (p:Lf) (ds:List D) (b o:Nat) (cs:Array Value) (ce:TypeId) (fr:Nat × Nat) (X:Nat→Value):C.w.heap[b]? = some (.cells cs ce fr)→C.Rd b →
   (∀ (i:Nat) (d:D),ds[i]? = some d→cs[o+i]? = some (X i)∧one (X i)=true)→(∀ (i:Nat) (d:D),ds[i]? = some d→d.pure=true)→(∀ (i:Nat) (d:D),ds[i]? = some d→LRel C p d (X i)) →
   LRel C p (.rptr ds) (.pointer (some ⟨b,o,none⟩))
 | clo (p:Lf) (f:FuncId) (ds:List D) (vs:Array Value):ds.length=vs.size→(∀ (i:Nat) (d:D),ds[i]? = some d→d.capt=true)→(∀ (i:Nat) (d:D),ds[i]? = some d→LRel C p d (vs.getD i undef)) →
   LRel C p (.clo f ds) (.func (.func f) #[] vs)
def D.leafy:D→Bool | .agg _ | .tup _=>false | _=>true
inductive CRel (C:Ctx) (t:Nat):Nat→D→Value→Prop
 | dead (k:Nat) (v:Value):CRel C t k .dead v
 | agg (k:Nat) (ds:List D) (vs:Array Value):ds.length=vs.size→ds.length≤64→(∀ (i:Nat) (d:D),ds[i]? = some d→d.leafy=true∧one (vs.getD i undef)=true∧LRel C ⟨false,t,k+i⟩ d (vs.getD i undef))→CRel C t k (.agg ds) (.agg vs)
 | leaf (k:Nat) (d:D) (v:Value):d.leafy=true→one v=true→LRel C ⟨false,t,k⟩ d v→CRel C t k d v
inductive SRel (C:Ctx) (t:Nat):D→Value→Prop
 | tup (cs:List D) (vs:Array Value):cs.length=vs.size→(∀ (i:Nat) (d:D),cs[i]? = some d→d.isTup=false∧CRel C t (64*i) d (vs.getD i undef))→SRel C t (.tup cs) (.tuple vs)
 | comp (d:D) (v:Value):d.isTup=false→CRel C t 0 d v→SRel C t d v
structure CellOk (C:Ctx) (t:Nat) (ds:List D):Prop where
 mk' ::
 out:∃ cs e fr,C.w.heap[(C.loc t).1]? = some (.cells cs e fr)∧Thawed cs.size fr∧(C.loc t).2+ds.length≤cs.size ∧
  ∀ (i:Nat) (d:D),ds[i]? = some d→d.leafy=true∧one (cs.getD ((C.loc t).2+i) undef)=true∧LRel C ⟨true,t,i⟩ d (cs.getD ((C.loc t).2+i) undef)
structure Frame (w0:World) (L:Nat→Nat→Prop) (w:World):Prop where
 os:w.os=w0.os
 tape:w.tape=w0.tape
 output:w.output=w0.output
 size:w0.heap.size≤w.heap.size
 kept:∀ b,b<w0.heap.size→(∀ o,¬ L b o)→w.heap[b]? = w0.heap[b]?
 part:∀ b cs e fr,w0.heap[b]? = some (.cells cs e fr)→∃ cs',w.heap[b]? = some (.cells cs' e fr)∧cs'.size=cs.size∧∀ o,¬ L b o→cs'[o]? = cs[o]?
def knownTabs:List (List Nat × IntKind × List Int):=[([105,110,116,101,114,110,97,108,47,115,116,114,99,111,110,118,46,117,105,110,116,54,52,112,111,119,49,48],.u64,Lib.pow10Tab)]
def tabName (l:List Nat):String:=String.ofList (l.map Char.ofNat)
def isIntV (v:Value):Prop:=∃ m,v = .int .i64 m
def isErrV (v:Value):Prop:=v = .nilIface∨∃ te pe,v = .iface te pe
def knownVars:List (List Nat × (Value→Prop)):=[([105,110,116,101,114,110,97,108,47,98,121,116,101,97,108,103,46,77,97,120,76,101,110],isIntV),([115,116,114,99,111,110,118,46,69,114,114,83,121,110,116,97,120],isErrV),([115,116,114,99,111,110,118,46,69,114,114,82,97,110,103,101],isErrV)]
def GlobOk (P:Program) (w:World):Prop:=(∀ x,x∈knownTabs→P.globalNamed (tabName x.1)≠none→Lib.TabIs P w (tabName x.1) x.2.1 x.2.2)∧∀ x,x∈knownVars→∀ g,P.globalNamed (tabName x.1)=some g→∃ v,w.cell? ⟨g,0,none⟩=some v∧x.2 v
def Glob (P:Program) (w0:World) (L:Nat→Nat→Prop):Prop:=∃ B,B≤w0.heap.size∧(∀ b o,L b o→B≤b)∧∀ w:World,(∀ b,b<B→w.heap[b]? = w0.heap[b]?)→GlobOk P w
structure Rel (w0:World) (L:Nat→Nat→Prop) (C:Ctx):Prop where
 tmps:C.a.tmps.size=C.E.sl.length
 defers:C.a.defers=[]
 slot:∀ (t:Nat) (d:D),C.E.sl[t]? = some d→SRel C t d (C.a.tmps.getD t undef)
 cell:∀ t ds,C.live t ds→CellOk C t ds
 disj:∀ p q b,C.F p b→C.F q b→p=q
 cdisj:∀ t ds t' ds',C.live t ds→C.live t' ds'→(C.loc t).1=(C.loc t').1→t=t'
 fcd:∀ t ds p,C.live t ds→¬ C.F p (C.loc t).1
 fbound:∀ p b,C.F p b→b<C.w.heap.size
 flent:∀ p b,C.F p b→b<w0.heap.size→∀ o,L b o
 clent:∀ t ds,C.live t ds→(C.loc t).1<w0.heap.size→∀ i,i<ds.length→L (C.loc t).1 ((C.loc t).2+i)
 frame:Frame w0 L C.w
 mnew:∀ b,w0.heap.size≤b→C.M b
 mL:∀ b o,L b o→C.M b
 glob:Glob C.P w0 L
structure Same (C C':Ctx) (g:Lf→Lf) (bad:Lf→Prop) (badc:Nat→Prop):Prop where
 P:C'.P=C.P
 un:∀ b,¬ C.Owned b→b<C.w.heap.size→¬ C'.Owned b∧C'.w.heap[b]? = C.w.heap[b]?
 lf:∀ q e xs,¬ bad q→C.E.leaf q = .own e xs→∃ xs',C'.E.leaf (g q) = .own e xs'∧xs'.length=xs.length∧C'.cv (g q)=C.cv q ∧
  ∀ i j e' ys,T.get? xs i j=some (.sl e' ys)→T.get? xs' i j=some (.sl e' ys) ∧
   ∀ b o n cap v,C.cv q = .slice (some ⟨b,o,none⟩) n cap→C.w.cell? ⟨b,o+i*C.P.cellsOf e+j,none⟩=some v→C'.w.cell? ⟨b,o+i*C.P.cellsOf e+j,none⟩=some v
 live:∀ t ds,¬ badc t→C.live t ds→∃ ds',C'.live t ds'∧ds'.length=ds.length∧C'.loc t=C.loc t
 M:∀ b,C.M b→C'.M b
def D.okB (bad:Lf→Prop) (badc:Nat→Prop) (d:D):Prop:=(∀ q,d.base=some q→¬ bad q)∧∀ t,t∈d.crefs→¬ badc t
theorem LRel.same {C C':Ctx} {g:Lf→Lf} {bad:Lf→Prop} {badc:Nat→Prop} (s:Same C C' g bad badc) {p:Lf} {d:D} {v:Value} (h:LRel C p d v) :
  ∀ p',d.isOwn=false→d.okB bad badc→LRel C' p' (d.re g) v:=by
 induction h with
 | dead v=>intro p' _ _; exact .dead _ _
 | v x hx=>intro p' _ _; exact .v _ _ hx
 | nil=>intro p' _ _; exact .nil _
 | own e xs v h=>intro p' hd; simp [D.isOwn] at hd
 | imm e xs v h =>
  intro p' _ _
  refine .imm _ _ _ _ ?_
  rw [s.P]
  exact h.mono fun b hb hl=>⟨⟨(s.un b hb.1 hl).1,s.M b hb.2⟩,(s.un b hb.1 hl).2⟩
 | ali q e xs h =>
  intro p' _ hk
  obtain ⟨xs',h1,h2,h3,h4⟩:=s.lf q e xs (hk.1 q rfl) h
  have:=LRel.ali (C:=C') p' (g q) e xs' h1
  rwa [h3] at this
 | sub q lo hi e xs h hlo hhi hne =>
  intro p' _ hk
  obtain ⟨xs',h1,h2,h3,h4⟩:=s.lf q e xs (hk.1 q rfl) h
  have:=LRel.sub (C:=C') p' (g q) lo hi e xs' h1 hlo (by omega) hne
  rwa [h3,s.P] at this
 | ela q i j e xs e' ys b o n cap v h hg hc hv =>
  intro p' _ hk
  obtain ⟨xs',h1,h2,h3,h4⟩:=s.lf q e xs (hk.1 q rfl) h
  obtain ⟨h5,h6⟩:=h4 i j e' ys hg
  refine .ela p' (g q) i j e xs' e' ys b o n cap v h1 h5 (h3.trans hc) ?_
  rw [s.P]
  exact h6 b o n cap v hc hv
 | cref t k ds h hk =>
  intro p' _ hb
  obtain ⟨ds',h1,h2,h3⟩:=s.live t ds (hb.2 t (by simp [D.crefs])) h
  have:=LRel.cref (C:=C') p' t k ds' h1 (by omega)
  rwa [h3] at this
 | eref q i j e xs b o n cap h hc hi =>
  intro p' _ hk
  obtain ⟨xs',h1,h2,h3,h4⟩:=s.lf q e xs (hk.1 q rfl) h
  have:=LRel.eref (C:=C') p' (g q) i j e xs' b o n cap h1 (h3.trans hc) (by omega)
  rwa [s.P] at this
 | rptr ds b o cs ce fr X h1 h2 h3 h4 h5 ih =>
  intro p' _ _
  have hb:b<C.w.heap.size:=(Array.getElem?_eq_some_iff.1 h1).1
  obtain ⟨u1,u2⟩:=s.un b h2.1 hb
  refine .rptr p' ds b o cs ce fr X (u2.trans h1) ⟨u1,s.M b h2.2⟩ h3 h4 ?_
  intro i d hd
  have:=h4 i d hd
  have h:=ih i d hd p'
  cases d<;>simp_all [D.pure,D.isOwn,D.re,D.okB,D.base,D.crefs]
 | clo f ds vs h1 h2 h3 ih =>
  intro p' _ hk
  refine .clo p' f ds vs h1 h2 ?_
  intro i d hd
  have:=h2 i d hd
  have hm:d∈ds:=List.mem_of_getElem? hd
  have h:=ih i d hd p'
  have hk2:=hk.2
  cases d with
  | cref t k =>
   refine h rfl ⟨fun q hq=>by simp [D.base] at hq,fun t' ht'=>hk2 t' ?_⟩
   simp only [D.crefs,List.mem_singleton] at ht'
   subst ht'
   simp only [D.crefs,List.mem_filterMap]
   exact ⟨_,hm,rfl⟩
  | _=>first | simp [D.capt] at this; done | exact h rfl ⟨fun q hq=>by simp [D.base] at hq,fun t' ht'=>by simp [D.crefs] at ht'⟩
theorem getD_some {α:Type} {l:List α} {i:Nat} {d x:α} (h:l[i]? = some d):l.getD i x=d:=by simp [gDg,h]
theorem mul_div64 (i k:Nat) (h:k<64):(64*i+k) / 64=i∧(64*i+k) % 64=k:=by omega
theorem leafOf_comp (d:D) (k:Nat) (hd:d.isTup=false) (hk:k<64):d.leafOf k=d.leaves1.getD k .dead:=by
 have h1:k / 64=0:=by omega
 have h2:k % 64=k:=by omega
 simp only [D.leafOf,h1,h2]
 cases d<;>first | rfl | simp [D.isTup] at hd
theorem leafOf_tup (cs:List D) (i k:Nat) (d:D) (h:cs[i]? = some d) (hk:k<64):(D.tup cs).leafOf (64*i+k)=d.leaves1.getD k .dead:=by
 obtain ⟨h1,h2⟩:=mul_div64 i k hk
 simp only [D.leafOf,D.comps,h1,h2]
 rw [getD_some h]
theorem leaf_slot (E:Env) (t k:Nat) (d:D) (h:E.sl[t]? = some d):E.leaf ⟨false,t,k⟩=d.leafOf k:=by
 simp only [Env.leaf]
 rw [getD_some h]
 rfl
theorem leaf_cell (E:Env) (t k:Nat) (ds:List D) (h:E.ce[t]? = some (some ds)):E.leaf ⟨true,t,k⟩=ds.getD k .dead:=by
 simp only [Env.leaf]
 rw [getD_some h]
 rfl
def Goes (C C':Ctx) (p:Lf) (d:D) (p':Lf) (d':D):Prop:=d'.leafy=true∧(LRel C p d (C.cv p)→LRel C' p' d' (C.cv p))
inductive CGo (C C':Ctx) (t:Nat) (k:Nat):D→D→Prop
 | dead (d:D):CGo C C' t k d .dead
 | agg (ds ds':List D):ds.length=ds'.length→(∀ (i:Nat) (d d':D),ds[i]? = some d→ds'[i]? = some d'→Goes C C' ⟨false,t,k+i⟩ d ⟨false,t,k+i⟩ d')→CGo C C' t k (.agg ds) (.agg ds')
 | leaf (d d':D):d.leafy=true→(d = .dead→d' = .dead)→Goes C C' ⟨false,t,k⟩ d ⟨false,t,k⟩ d'→CGo C C' t k d d'
inductive SGo (C C':Ctx) (t:Nat):D→D→Prop
 | dead (d:D):SGo C C' t d .dead
 | tup (cs cs':List D):cs.length=cs'.length→(∀ (i:Nat) (d d':D),cs[i]? = some d→cs'[i]? = some d'→d'.isTup=false∧CGo C C' t (64*i) d d')→SGo C C' t (.tup cs) (.tup cs')
 | comp (d d':D):d.isTup=false→d'.isTup=false→CGo C C' t 0 d d'→SGo C C' t d d'
theorem arr_list_getD (vs:Array Value) (i:Nat):vs.toList.getD i undef=vs.getD i undef:=by
 rw [gDg,Array.getElem?_toList]
 simp [Array.getD_eq_getD_getElem?]
theorem CRel.go {C C':Ctx} {t k:Nat} {d d':D} {v:Value} (h:CRel C t k d v) (hcv:∀ j,j<64→C.cv ⟨false,t,k+j⟩=(vleaves1 v).getD j undef) (hg:CGo C C' t k d d'):CRel C' t k d' v:=by
 cases hg with
 | dead=>exact .dead _ _
 | agg ds ds' hl hg =>
  cases h with
  | agg _ vs hl' h64 h =>
   refine .agg _ _ _ (by omega) (by omega) ?_
   intro i d' hd'
   have hi:i<ds'.length:=(gSm hd').1
   have hd:ds[i]? = some ds[i]:=gEg (by omega)
   obtain ⟨a1,a2,a3⟩:=h i _ hd
   obtain ⟨b1,b2⟩:=hg i _ _ hd hd'
   have e:=hcv i (by omega)
   simp only [vleaves1] at e
   rw [arr_list_getD] at e
   rw [e] at b2
   exact ⟨b1,a2,b2 a3⟩
  | leaf _ _ ha hb hc=>simp [D.leafy] at ha
 | leaf _ _ hlf hdd hg =>
  cases h with
  | dead=>rw [hdd rfl]; exact .dead _ _
  | agg=>simp [D.leafy] at hlf
  | leaf _ _ ha hb hc =>
   have e:=hcv 0 (by omega)
   have e1:vleaves1 v=[v]:=by cases v<;>first | rfl | simp [one] at hb
   rw [e1] at e
   have e:C.cv ⟨false,t,k⟩=v:=by simpa using e
   obtain ⟨g1,g2⟩:=hg
   rw [e] at g2
   exact .leaf _ _ _ g1 hb (g2 hc)
theorem cv_comp {C:Ctx} {t:Nat} {v:Value} (hv:C.a.tmps.getD t undef=v) (ht:∀ vs,v ≠ .tuple vs) (j:Nat) (hj:j<64):C.cv ⟨false,t,0+j⟩=(vleaves1 v).getD j undef:=by
 have h1:(0+j) / 64=0:=by omega
 have h2:(0+j) % 64=j:=by omega
 have h3:vcomps v=[v]:=by cases v<;>first | rfl | exact absurd rfl (ht _)
 show vleafOf (C.a.tmps.getD t undef) (0+j)=_
 rw [hv]
 simp only [vleafOf,h1,h2,h3]
 rfl
theorem cv_tup {C:Ctx} {t:Nat} {vs:Array Value} (hv:C.a.tmps.getD t undef = .tuple vs) (i j:Nat) (hj:j<64):C.cv ⟨false,t,64*i+j⟩=(vleaves1 (vs.getD i undef)).getD j undef:=by
 obtain ⟨h1,h2⟩:=mul_div64 i j hj
 show vleafOf (C.a.tmps.getD t undef) (64*i+j)=_
 rw [hv]
 simp only [vleafOf,h1,h2,vcomps]
 rw [arr_list_getD vs]
theorem CRel.notTuple {C:Ctx} {t k:Nat} {d:D} {v:Value} (h:CRel C t k d v) (hd:d ≠ .dead):∀ vs,v ≠ .tuple vs:=by
 intro vs e
 subst e
 cases h with
 | dead=>exact hd rfl
 | leaf _ _ _ hb _=>simp [one] at hb
theorem SRel.go {C C':Ctx} {t:Nat} {d d':D} {v:Value} (h:SRel C t d v) (hv:C.a.tmps.getD t undef=v) (hg:SGo C C' t d d'):SRel C' t d' v:=by
 cases hg with
 | dead=>exact .comp _ _ rfl (.dead _ _)
 | tup cs cs' hl hg =>
  cases h with
  | tup _ vs hl' h =>
   refine .tup _ _ (by omega) ?_
   intro i d' hd'
   have hi:i<cs'.length:=(gSm hd').1
   have hd:cs[i]? = some cs[i]:=gEg (by omega)
   obtain ⟨b1,b2⟩:=hg i _ _ hd hd'
   exact ⟨b1,(h i _ hd).2.go (fun j hj=>cv_tup hv i j hj) b2⟩
  | comp _ _ ht hc=>simp [D.isTup] at ht
 | comp _ _ ht ht' hg =>
  cases h with
  | tup=>simp [D.isTup] at ht
  | comp _ _ _ hc =>
   by_cases hdd:d = .dead
   ·subst hdd
    cases hg with
    | dead=>exact .comp _ _ rfl (.dead _ _)
    | leaf _ _ _ h2 _=>rw [h2 rfl]; exact .comp _ _ rfl (.dead _ _)
   ·exact .comp _ _ ht' (hc.go (fun j hj=>cv_comp hv (hc.notTuple hdd) j hj) hg)
theorem cell_cv {C:Ctx} {t i:Nat} {cs:Array Value} {e:TypeId} {fr:Nat × Nat} (h:C.w.heap[(C.loc t).1]? = some (.cells cs e fr)):C.cv ⟨true,t,i⟩=cs.getD ((C.loc t).2+i) undef:=by
 show (C.w.cell? ⟨(C.loc t).1,(C.loc t).2+i,none⟩).getD undef=_
 simp [World.cell?,h,Array.getD_eq_getD_getElem?]
theorem CellOk.go {C C':Ctx} {t:Nat} {ds ds':List D} (h:CellOk C t ds) (hlen:ds.length=ds'.length) (hl:C'.loc t=C.loc t)
  (hw:C'.w.heap[(C.loc t).1]? = C.w.heap[(C.loc t).1]?)
  (hg:∀ (i:Nat) (d d':D),ds[i]? = some d→ds'[i]? = some d'→Goes C C' ⟨true,t,i⟩ d ⟨true,t,i⟩ d'):CellOk C' t ds':=by
 obtain ⟨cs,e,fr,a1,a2,a3,a4⟩:=h.out
 refine ⟨cs,e,fr,?_,a2,?_,?_⟩
 ·rw [hl,hw]; exact a1
 ·rw [hl]; omega
 ·intro i d' hd'
  have hi:i<ds'.length:=(gSm hd').1
  have hd:ds[i]? = some ds[i]:=gEg (by omega)
  obtain ⟨b1,b2,b3⟩:=a4 i _ hd
  obtain ⟨c1,c2⟩:=hg i _ _ hd hd'
  rw [cell_cv a1] at c2
  rw [hl]
  exact ⟨c1,b2,c2 b3⟩
inductive At:D→Nat→D→Prop
 | comp (d:D) (k:Nat) (x:D):d.isTup=false→k<64→d.leaves1[k]? = some x→At d k x
 | tup (cs:List D) (i k:Nat) (c x:D):cs[i]? = some c→k<64→c.leaves1[k]? = some x→At (.tup cs) (64*i+k) x
theorem At.leafOf {d:D} {k:Nat} {x:D} (h:At d k x):d.leafOf k=x:=by
 cases h with
 | comp _ _ _ ht hk hx=>rw [leafOf_comp _ _ ht hk]; exact getD_some hx
 | tup cs i k c _ hc hk hx=>rw [leafOf_tup _ _ _ _ hc hk]; exact getD_some hx
def LWk (d d':D):Prop:=d' = .dead∨d'=d∨(d = .nil∧∃ e,d' = .own e [])
inductive CWk:D→D→Prop
 | dead (d:D):CWk d .dead
 | agg (ds ds':List D):ds.length=ds'.length→(∀ (i:Nat) (d d':D),ds[i]? = some d→ds'[i]? = some d'→LWk d d')→CWk (.agg ds) (.agg ds')
 | leaf (d d':D):d.leafy=true→LWk d d'→CWk d d'
inductive SWk:D→D→Prop
 | dead (d:D):SWk d .dead
 | tup (cs cs':List D):cs.length=cs'.length→(∀ (i:Nat) (d d':D),cs[i]? = some d→cs'[i]? = some d'→d'.isTup=false∧CWk d d')→SWk (.tup cs) (.tup cs')
 | comp (d d':D):d.isTup=false→d'.isTup=false→CWk d d'→SWk d d'
def D.fine (E:Env) (d:D):Prop:=(∀ q,d.base=some q→(E.leaf q).isOwn=true)∧∀ t,t∈d.crefs→∃ ds,E.ce[t]? = some (some ds)
structure EWk (E E':Env):Prop where
 len:E'.sl.length=E.sl.length
 sl:∀ (t:Nat) (d d':D),E.sl[t]? = some d→E'.sl[t]? = some d'→SWk d d'
 ce:∀ (t:Nat) (ds':List D),E'.ce[t]? = some (some ds')→∃ ds,E.ce[t]? = some (some ds)∧ds.length=ds'.length∧∀ (i:Nat) (d d':D),ds[i]? = some d→ds'[i]? = some d'→LWk d d'
 fsl:∀ (t:Nat) (d':D),E'.sl[t]? = some d'→∀ k x,At d' k x→x.fine E'
 fce:∀ (t:Nat) (ds':List D),E'.ce[t]? = some (some ds')→∀ x,x∈ds'→x.fine E'
theorem LWk.own {d:D} {e:TypeId} {xs:List (List T)} {d':D} (h:LWk d d') (hd:d = .own e xs) (ho:d'.isOwn=true):d'=d:=by
 rcases h with h | h | ⟨h,_⟩
 ·subst h; simp [D.isOwn] at ho
 ·exact h
 ·rw [hd] at h; simp at h
theorem leaves1_dead (k:Nat):(D.leaves1 .dead).getD k .dead = .dead:=by
 simp only [D.leaves1]
 cases k<;>simp
theorem one_getD (d:D) (n:Nat) (h:n≠0):[d].getD n .dead = .dead:=by
 obtain ⟨m,rfl⟩:∃ m,n=m+1:=⟨n-1,by omega⟩
 rfl
theorem leafOf_dead (k:Nat):D.leafOf .dead k = .dead:=by
 simp only [D.leafOf,D.comps]
 by_cases h:k / 64=0
 ·rw [h]; exact leaves1_dead _
 ·rw [one_getD _ _ h]; exact leaves1_dead _
theorem leaf_none_slot (E:Env) (t k:Nat) (h:E.sl[t]? = none):E.leaf ⟨false,t,k⟩ = .dead:=by
 have:E.sl.getD t .dead = .dead:=by rw [gDg,h]; rfl
 simp only [Env.leaf,this]
 exact leafOf_dead k
theorem leafOf_at (d:D) (k:Nat) (h:d.leafOf k ≠ .dead):At d k (d.leafOf k):=by
 have h3:64*(k / 64)+k % 64=k:=by omega
 have h4:k % 64<64:=Nat.mod_lt _ (by omega)
 by_cases ht:d.isTup=true
 ·cases d<;>simp [D.isTup] at ht
  rename_i cs
  have hc:∃ c,cs[k / 64]? = some c:=by
   cases hc:cs[k / 64]? with
   | some c=>exact ⟨c,rfl⟩
   | none=>exfalso; apply h; simp only [D.leafOf,D.comps,gDg,hc]; exact leaves1_dead _
  obtain ⟨c,hc⟩:=hc
  have hx:∃ x,c.leaves1[k % 64]? = some x:=by
   cases hx:c.leaves1[k % 64]? with
   | some x=>exact ⟨x,rfl⟩
   | none=>exfalso; apply h; simp [D.leafOf,D.comps,gDg,hc,hx]
  obtain ⟨x,hx⟩:=hx
  have:=At.tup cs (k / 64) (k % 64) c x hc h4 hx
  rw [h3] at this
  have e:=this.leafOf
  rw [e]; exact this
 ·have ht':d.isTup=false:=by simpa using ht
  have hk:k / 64=0:=by
   by_cases hk:k / 64=0
   ·exact hk
   ·exfalso; apply h
    have:d.comps=[d]:=by cases d<;>simp_all [D.comps,D.isTup]
    simp only [D.leafOf,this]
    rw [one_getD _ _ hk]
    exact leaves1_dead _
  have hk':k<64:=by omega
  have e:=leafOf_comp d k ht' hk'
  have hx:∃ x,d.leaves1[k]? = some x:=by
   cases hx:d.leaves1[k]? with
   | some x=>exact ⟨x,rfl⟩
   | none=>exfalso; apply h; rw [e,gDg,hx]; rfl
  obtain ⟨x,hx⟩:=hx
  have:=At.comp d k x ht' hk' hx
  rw [this.leafOf]; exact this
theorem SWk.leaf {d d':D} (h:SWk d d') (k:Nat):LWk (d.leafOf k) (d'.leafOf k):=by
 by_cases hd:d'.leafOf k = .dead
 ·exact .inl hd
 have ha:=leafOf_at d' k hd
 generalize hx:d'.leafOf k=x at *
 cases ha with
 | comp _ _ _ ht hk hx' =>
  cases h with
  | dead => 
   exfalso; apply hd
   have:x = .dead:=by
    cases k with
    | zero=>simpa [D.leaves1] using hx'.symm
    | succ n=>simp [D.leaves1] at hx'
   exact this
  | tup=>simp [D.isTup] at ht
  | comp _ _ ht1 _ hc =>
   cases hc with
   | dead =>
    exfalso; apply hd
    cases k with
    | zero=>simpa [D.leaves1] using hx'.symm
    | succ n=>simp [D.leaves1] at hx'
   | agg ds ds' hl hg =>
    rw [leafOf_comp _ _ rfl hk]
    simp only [D.leaves1] at hx' ⊢
    have hi:k<ds'.length:=(gSm hx').1
    have hd1:ds[k]? = some ds[k]:=gEg (by omega)
    rw [getD_some hd1]
    exact hg k _ _ hd1 hx'
   | leaf _ _ hl hg =>
    have hl':d'.leafy=true:=by
     rcases hg with rfl | rfl | ⟨_,e,rfl⟩
     ·rfl
     ·exact hl
     ·rfl
    have e1:d.leaves1=[d]:=by cases d<;>simp_all [D.leafy,D.leaves1]
    have e2:d'.leaves1=[d']:=by cases d'<;>simp_all [D.leafy,D.leaves1]
    rw [leafOf_comp _ _ ht1 hk,e1]
    rw [e2] at hx'
    cases k with
    | zero=>simp at hx'; subst hx'; simpa using hg
    | succ n=>simp at hx'
 | tup cs' i j c _ hc hj hx' =>
  cases h with
  | comp _ _ _ ht _=>simp [D.isTup] at ht
  | tup cs _ hl hg =>
   have hi:i<cs'.length:=(gSm hc).1
   have hd1:cs[i]? = some cs[i]:=gEg (by omega)
   rw [leafOf_tup _ _ _ _ hd1 hj]
   obtain ⟨ht,hcw⟩:=hg i _ _ hd1 hc
   generalize cs[i]=c0 at *
   cases hcw with
   | dead =>
    exfalso; apply hd
    cases j with
    | zero=>simpa [D.leaves1] using hx'.symm
    | succ n=>simp [D.leaves1] at hx'
   | agg ds ds' hl hg =>
    simp only [D.leaves1] at hx' ⊢
    have hi:j<ds'.length:=(gSm hx').1
    have hd1:ds[j]? = some ds[j]:=gEg (by omega)
    rw [getD_some hd1]
    exact hg j _ _ hd1 hx'
   | leaf _ _ hl hg =>
    have hl':c.leafy=true:=by
     rcases hg with rfl | rfl | ⟨_,e,rfl⟩
     ·rfl
     ·exact hl
     ·rfl
    have e1:c0.leaves1=[c0]:=by cases c0<;>simp_all [D.leafy,D.leaves1]
    have e2:c.leaves1=[c]:=by cases c<;>simp_all [D.leafy,D.leaves1]
    rw [e1]
    rw [e2] at hx'
    cases j with
    | zero=>simp at hx'; subst hx'; simpa using hg
    | succ n=>simp at hx'
theorem EWk.leaf {E E':Env} (h:EWk E E') (p:Lf):LWk (E.leaf p) (E'.leaf p):=by
 obtain ⟨c,t,k⟩:=p
 cases c with
 | false =>
  by_cases ht:t<E.sl.length
  ·have h1:E.sl[t]? = some E.sl[t]:=gEg ht
   have h2:E'.sl[t]? = some (E'.sl[t]'(by rw [h.len]; exact ht)):=gEg (by rw [h.len]; exact ht)
   rw [leaf_slot _ _ _ _ h1,leaf_slot _ _ _ _ h2]
   exact (h.sl t _ _ h1 h2).leaf k
  ·left
   exact leaf_none_slot _ _ _ (List.getElem?_eq_none (by rw [h.len]; omega))
 | true =>
  cases h2:E'.ce[t]? with
  | none=>left; simp [Env.leaf,gDg,h2]
  | some o =>
   cases o with
   | none=>left; simp [Env.leaf,gDg,h2]
   | some ds' =>
    obtain ⟨ds,h1,hl,hg⟩:=h.ce t ds' h2
    rw [leaf_cell _ _ _ _ h1,leaf_cell _ _ _ _ h2]
    by_cases hk:k<ds'.length
    ·have a1:ds[k]? = some ds[k]:=gEg (by omega)
     have a2:ds'[k]? = some ds'[k]:=gEg hk
     rw [getD_some a1,getD_some a2]
     exact hg k _ _ a1 a2
    ·have h0:ds'.getD k .dead = .dead:=by rw [gDg,List.getElem?_eq_none (by omega:ds'.length≤k)]; rfl
     exact .inl h0
theorem D.re_id (d:D):d.re (fun q=>q)=d:=by cases d<;>rfl
theorem Rel.weak {w0:World} {L:Nat→Nat→Prop} {C:Ctx} (R:Rel w0 L C) {E':Env} (h:EWk C.E E'):Rel w0 L { C with E:=E' }:=by
 have hlive:∀ t ds',({ C with E:=E' }:Ctx).live t ds'→∃ ds,C.live t ds∧ds.length=ds'.length:=fun t ds' hl=>by
  obtain ⟨ds,h1,h2,_⟩:=h.ce t ds' hl
  exact ⟨ds,h1,h2⟩
 have hown:∀ b,({ C with E:=E' }:Ctx).Owned b→C.Owned b:=by
  rintro b (⟨p,hp⟩ | ⟨t,ds',hl,hb⟩)
  ·exact .inl ⟨p,hp⟩
  ·obtain ⟨ds,h1,_⟩:=hlive t ds' hl
   exact .inr ⟨t,ds,h1,hb⟩
 have s:Same C { C with E:=E' } (fun q=>q) (fun q=>¬ (E'.leaf q).isOwn=true) (fun t=>¬ ∃ ds,E'.ce[t]? = some (some ds)):=by
  refine ⟨rfl,fun b hb _=>⟨fun ho=>hb (hown b ho),rfl⟩,?_,?_,fun _ h=>h⟩
  ·intro q e xs hq hl
   have h1:E'.leaf q = .own e xs:=by
    have:=(h.leaf q).own hl (by simpa using hq)
    rw [this]; exact hl
   exact ⟨xs,h1,rfl,rfl,fun i j e' ys hg=>⟨hg,fun b o n cap v _ hv=>hv⟩⟩
  ·intro t ds ht hl
   have ht':∃ ds',E'.ce[t]? = some (some ds'):=by simpa using ht
   obtain ⟨ds',h1⟩:=ht'
   obtain ⟨ds2,h2,h3,_⟩:=h.ce t ds' h1
   have:ds2=ds:=by have:=hl; unfold Ctx.live at this; rw [h2] at this; injection this with this; injection this
   exact ⟨ds',h1,by rw [←this]; omega,rfl⟩
 have key:∀ (p:Lf) (d d':D),LWk d d'→d'.fine E'→d'.leafy=true→Goes C { C with E:=E' } p d p d':=by
  intro p d d' hw hf hlf
  refine ⟨hlf,fun hv => ?_⟩
  generalize C.cv p=v at hv
  rcases hw with rfl | rfl | ⟨rfl,e,rfl⟩
  ·exact .dead _ _
  ·by_cases ho:d'.isOwn=true
   ·cases d'<;>simp [D.isOwn] at ho
    cases hv with
    | own _ _ _ h=>exact .own _ _ _ _ h
   ·have:=LRel.same s hv p (by simpa using ho) ⟨fun q hq=>by simpa using hf.1 q hq,fun t ht=>by simpa using hf.2 t ht⟩
    rwa [D.re_id] at this
  ·cases hv with
   | nil=>exact .own _ _ _ _ (.emp _ _)
 have leafyW:∀ d d':D,LWk d d'→d.leafy=true→d'.leafy=true:=by
  intro d d' hw hl
  rcases hw with rfl | rfl | ⟨rfl,e,rfl⟩<;>first | rfl | exact hl
 have deadW:∀ d d':D,LWk d d'→d = .dead→d' = .dead:=by
  intro d d' hw hd
  rcases hw with rfl | rfl | ⟨rfl,e,rfl⟩<;>first | rfl | exact hd | simp at hd
 refine ⟨by rw [R.tmps,←h.len],R.defers,?_,?_,R.disj,?_,?_,R.fbound,R.flent,?_,R.frame,R.mnew,R.mL,R.glob⟩
 ·intro t d' hd'
  have ht:t<C.E.sl.length:=by rw [←h.len]; exact (gSm hd').1
  have hd:C.E.sl[t]? = some C.E.sl[t]:=gEg ht
  have hs:=R.slot t _ hd
  have hw:=h.sl t _ _ hd hd'
  have hf:=h.fsl t d' hd'
  generalize C.E.sl[t]=d at *
  generalize hv:C.a.tmps.getD t undef=v at hs
  cases hw with
  | dead=>exact .comp _ _ rfl (.dead _ _)
  | tup cs cs' hl hg =>
   cases hs with
   | comp _ _ ht0 _=>simp [D.isTup] at ht0
   | tup _ vs hl' hs =>
    refine .tup _ _ (by omega) ?_
    intro i c' hc'
    have hi:i<cs'.length:=(gSm hc').1
    have hc:cs[i]? = some cs[i]:=gEg (by omega)
    obtain ⟨b1,b2⟩:=hg i _ _ hc hc'
    obtain ⟨c1,c2⟩:=hs i _ hc
    refine ⟨b1,?_⟩
    generalize cs[i]=c at *
    have hcv:=fun j hj=>cv_tup hv i j hj
    generalize vs.getD i undef=vi at c2 hcv
    cases b2 with
    | dead=>exact .dead _ _
    | agg ds ds' hl2 hg2 =>
     cases c2 with
     | leaf _ _ hx _ _=>simp [D.leafy] at hx
     | agg _ vs2 q1 q2 q3 =>
      refine CRel.go (C:=C) (.agg _ _ _ q1 q2 q3) hcv (.agg _ _ hl2 ?_)
      intro j x x' hx hx'
      have hj:j<64:=by have:=(gSm hx).1; omega
      have hlw:=hg2 j _ _ hx hx'
      exact key _ _ _ hlw (hf _ _ (At.tup cs' i j _ x' hc' hj (by simpa [D.leaves1] using hx'))) (leafyW _ _ hlw (q3 j _ hx).1)
    | leaf _ _ hlf hlw =>
     have hlf':=leafyW _ _ hlw hlf
     have e2:c'.leaves1=[c']:=by cases c'<;>simp_all [D.leafy,D.leaves1]
     exact CRel.go (C:=C) c2 hcv (.leaf _ _ hlf (deadW _ _ hlw) (key _ _ _ hlw (hf _ _ (At.tup cs' i 0 _ c' hc' (by omega) (by rw [e2]; rfl))) hlf'))
  | comp _ _ ht1 ht2 hcw =>
   cases hs with
   | tup=>simp [D.isTup] at ht1
   | comp _ _ _ hs =>
    refine .comp _ _ ht2 ?_
    cases hcw with
    | dead=>exact .dead _ _
    | agg ds ds' hl2 hg2 =>
     cases hs with
     | leaf _ _ hx _ _=>simp [D.leafy] at hx
     | agg _ vs2 q1 q2 q3 =>
      refine CRel.go (C:=C) (.agg _ _ _ q1 q2 q3) (fun j hj=>cv_comp hv (fun _ h=>by cases h) j hj) (.agg _ _ hl2 ?_)
      intro j x x' hx hx'
      have hj:j<64:=by have:=(gSm hx).1; omega
      have hlw:=hg2 j _ _ hx hx'
      exact key _ _ _ hlw (hf _ _ (At.comp _ j x' rfl hj (by simpa [D.leaves1] using hx'))) (leafyW _ _ hlw (q3 j _ hx).1)
    | leaf _ _ hlf hlw =>
     have hlf':=leafyW _ _ hlw hlf
     have e2:d'.leaves1=[d']:=by cases d'<;>simp_all [D.leafy,D.leaves1]
     by_cases hdd:d = .dead
     ·rw [deadW _ _ hlw hdd]; exact .dead _ _
     exact CRel.go (C:=C) hs (fun j hj=>cv_comp hv (hs.notTuple hdd) j hj) (.leaf _ _ hlf (deadW _ _ hlw) (key _ _ _ hlw (hf _ _ (At.comp _ 0 d' ht2 (by omega) (by rw [e2]; rfl))) hlf'))
 ·intro t ds' hl
  obtain ⟨ds,h1,h2,h3⟩:=h.ce t ds' hl
  refine (R.cell t ds h1).go h2 rfl rfl ?_
  intro i d d' hd hd'
  have hlw:=h3 i _ _ hd hd'
  obtain ⟨cs,e,fr,a1,a2,a3,a4⟩:=(R.cell t ds h1).out
  exact key _ _ _ hlw (h.fce t ds' hl d' (List.mem_of_getElem? hd')) (leafyW _ _ hlw (a4 i _ hd).1)
 ·intro t ds t' ds' h1 h2 he
  obtain ⟨x,a1,_⟩:=hlive t ds h1
  obtain ⟨y,a2,_⟩:=hlive t' ds' h2
  exact R.cdisj t x t' y a1 a2 he
 ·intro t ds p h1
  obtain ⟨x,a1,_⟩:=hlive t ds h1
  exact R.fcd t x p a1
 ·intro t ds h1 hb i hi
  obtain ⟨x,a1,a2⟩:=hlive t ds h1
  exact R.clent t x a1 hb i (by omega)
theorem mapLv_get (g:Nat→D→D):∀ (ds:List D) (k i:Nat),(mapLv g k ds)[i]? = (ds[i]?).map (g (k+i))
 | [],k,i=>by simp [mapLv]
 | d::ds,k,0=>by simp [mapLv]
 | d::ds,k,i+1=>by
  simp only [mapLv,List.getElem?_cons_succ]
  rw [mapLv_get g ds (k+1) i]
  congr 2; omega
theorem mapLv_length (g:Nat→D→D):∀ (ds:List D) (k:Nat),(mapLv g k ds).length=ds.length
 | [],_=>rfl
 | d::ds,k=>by simp [mapLv,mapLv_length g ds]
theorem mapCs_get (g:Nat→D→D):∀ (cs:List D) (k i:Nat),(mapCs g k cs)[i]? = (cs[i]?).map (fun c=>c.mapP1 g (k+64*i))
 | [],k,i=>by simp [mapCs]
 | d::ds,k,0=>by simp [mapCs]
 | d::ds,k,i+1=>by
  simp only [mapCs,List.getElem?_cons_succ]
  rw [mapCs_get g ds (k+64) i]
  congr 2; funext c; congr 1; omega
theorem mapCs_length (g:Nat→D→D):∀ (ds:List D) (k:Nat),(mapCs g k ds).length=ds.length
 | [],_=>rfl
 | d::ds,k=>by simp [mapCs,mapCs_length g ds]
theorem mapSl_get (g:Lf→D→D):∀ (cs:List D) (k i:Nat),(mapSl g k cs)[i]? = (cs[i]?).map (fun c=>c.mapP (fun j=>g ⟨false,k+i,j⟩))
 | [],k,i=>by simp [mapSl]
 | d::ds,k,0=>by simp [mapSl]
 | d::ds,k,i+1=>by
  simp only [mapSl,List.getElem?_cons_succ]
  rw [mapSl_get g ds (k+1) i]
  have:k+1+i=k+(i+1):=by omega
  rw [this]
theorem mapSl_length (g:Lf→D→D):∀ (ds:List D) (k:Nat),(mapSl g k ds).length=ds.length
 | [],_=>rfl
 | d::ds,k=>by simp [mapSl,mapSl_length g ds]
theorem mapCe_get (g:Lf→D→D):∀ (cs:List (Option (List D))) (k i:Nat),(mapCe g k cs)[i]? = (cs[i]?).map (fun c=>c.map (mapLv (fun j=>g ⟨true,k+i,j⟩) 0))
 | [],k,i=>by simp [mapCe]
 | d::ds,k,0=>by simp [mapCe]
 | d::ds,k,i+1=>by
  simp only [mapCe,List.getElem?_cons_succ]
  rw [mapCe_get g ds (k+1) i]
  have:k+1+i=k+(i+1):=by omega
  rw [this]
theorem lf1_dead (g:Lf→D→D) (p:Lf):lf1 g p .dead = .dead:=rfl
def Leafy (g:Nat→D→D):Prop:=∀ k d,d.leafy=true→(g k d).leafy=true
theorem mapP1_leaves (g:Nat→D→D) (hg:Leafy g) (hd:∀ k,g k .dead = .dead) (k j:Nat) (d:D) (ht:d.isTup=false) :
  (d.mapP1 g k).leaves1.getD j .dead=g (k+j) (d.leaves1.getD j .dead):=by
 by_cases ha:d.leafy=true
 ·have e1:d.leaves1=[d]:=by cases d<;>simp_all [D.leafy,D.leaves1]
  have e2:d.mapP1 g k=g k d:=by cases d<;>simp_all [D.leafy,D.mapP1]
  have e3:(g k d).leaves1=[g k d]:=by have:=hg k d ha; revert this; cases g k d<;>simp [D.leafy,D.leaves1]
  rw [e1,e2,e3]
  cases j with
  | zero=>rfl
  | succ n=>rw [one_getD _ _ (by omega),one_getD _ _ (by omega),hd]
 ·cases d<;>simp_all [D.leafy,D.isTup]
  rename_i ds
  simp only [D.mapP1,D.leaves1,mapLv_get]
  cases ds[j]? with
  | none=>simp [hd]
  | some x=>rfl
theorem mapP1_isTup (g:Nat→D→D) (hg:Leafy g) (k:Nat) (d:D) (ht:d.isTup=false):(d.mapP1 g k).isTup=false:=by
 by_cases ha:d.leafy=true
 ·have e2:d.mapP1 g k=g k d:=by cases d<;>simp_all [D.leafy,D.mapP1]
  rw [e2]
  have:=hg k d ha
  revert this
  cases g k d<;>simp [D.leafy,D.isTup]
 ·cases d<;>simp_all [D.leafy,D.isTup,D.mapP1]
theorem mapP_leafOf (g:Nat→D→D) (hg:Leafy g) (hd:∀ k,g k .dead = .dead) (d:D) (k:Nat) (hc:∀ cs,d = .tup cs→∀ c∈cs,c.isTup=false) :
  (d.mapP g).leafOf k=g k (d.leafOf k):=by
 have h3:64*(k / 64)+k % 64=k:=by omega
 by_cases ht:d.isTup=true
 ·cases d<;>simp [D.isTup] at ht
  rename_i cs
  have e1:(mapCs g 0 cs).getD (k / 64) .dead=((cs[k / 64]?).map fun c=>c.mapP1 g (0+64*(k / 64))).getD .dead:=by rw [gDg,mapCs_get]
  have e2:cs.getD (k / 64) .dead=(cs[k / 64]?).getD .dead:=gDg ..
  show ((mapCs g 0 cs).getD (k / 64) .dead).leaves1.getD (k % 64) .dead=g k ((cs.getD (k / 64) .dead).leaves1.getD (k % 64) .dead)
  rw [e1,e2]
  cases h:cs[k / 64]? with
  | none=>simp only [Option.map_none,Option.getD_none]; rw [leaves1_dead,hd]
  | some c =>
   simp only [Option.map_some,Option.getD_some]
   rw [mapP1_leaves g hg hd _ _ _ (hc cs rfl c (List.mem_of_getElem? h))]
   congr 1; omega
 ·have ht':d.isTup=false:=by simpa using ht
  have e:d.mapP g=d.mapP1 g 0:=by cases d<;>simp_all [D.mapP,D.isTup]
  have c1:d.comps=[d]:=by cases d<;>simp_all [D.comps,D.isTup]
  have h2:=mapP1_isTup g hg 0 d ht'
  have c2:(d.mapP1 g 0).comps=[d.mapP1 g 0]:=by revert h2; cases d.mapP1 g 0<;>simp [D.isTup,D.comps]
  rw [e]
  simp only [D.leafOf,c1,c2]
  by_cases h0:k / 64=0
  ·have hk:k % 64=k:=by omega
   rw [h0,hk]
   show (d.mapP1 g 0).leaves1.getD k .dead=g k (d.leaves1.getD k .dead)
   rw [mapP1_leaves g hg hd _ _ _ ht']
   simp
  ·rw [one_getD _ _ h0,one_getD _ _ h0,leaves1_dead,hd]
theorem Rel.noTup {w0:World} {L:Nat→Nat→Prop} {C:Ctx} (R:Rel w0 L C) {t:Nat} {cs:List D} (h:C.E.sl[t]? = some (.tup cs)):∀ c∈cs,c.isTup=false:=by
 intro c hc
 have hs:=R.slot t _ h
 generalize C.a.tmps.getD t undef=v at hs
 cases hs with
 | comp _ _ ht _=>simp [D.isTup] at ht
 | tup _ vs hl hs =>
  obtain ⟨i,hi,rfl⟩:=List.mem_iff_getElem.1 hc
  exact (hs i _ (gEg hi)).1
theorem leafyG {g:Lf→D→D} (hg:∀ p d,d.leafy=true→(g p d).leafy=true) (f:Nat→Lf):Leafy fun k=>lf1 g (f k):=by
 intro k d hd
 cases d<;>first | exact hg _ _ hd | rfl
theorem mapP_leaf {w0:World} {L:Nat→Nat→Prop} {C:Ctx} (R:Rel w0 L C) (g:Lf→D→D) (hg:∀ p d,d.leafy=true→(g p d).leafy=true) (p:Lf) :
  (C.E.mapP g).leaf p=lf1 g p (C.E.leaf p):=by
 obtain ⟨c,t,k⟩:=p
 cases c with
 | false =>
  cases h:C.E.sl[t]? with
  | none =>
   have h2:(C.E.mapP g).sl[t]? = none:=by simp only [Env.mapP]; rw [mapSl_get,h]; rfl
   rw [leaf_none_slot _ _ _ h,leaf_none_slot _ _ _ h2]; rfl
  | some d =>
   have h2:(C.E.mapP g).sl[t]? = some (d.mapP fun j=>lf1 g ⟨false,t,j⟩):=by simp only [Env.mapP]; rw [mapSl_get,h]; simp
   rw [leaf_slot _ _ _ _ h,leaf_slot _ _ _ _ h2]
   exact mapP_leafOf _ (leafyG hg _) (fun _=>rfl) d k (fun cs e=>by subst e; exact R.noTup h)
 | true =>
  have h2:(C.E.mapP g).ce[t]? = (C.E.ce[t]?).map (fun c=>c.map (mapLv (fun j=>lf1 g ⟨true,t,j⟩) 0)):=by simp only [Env.mapP]; rw [mapCe_get]; simp
  show (((C.E.mapP g).ce.getD t none).getD []).getD k .dead=lf1 g ⟨true,t,k⟩ (((C.E.ce.getD t none).getD []).getD k .dead)
  simp only [gDg,h2]
  cases h:C.E.ce[t]? with
  | none=>simp; rfl
  | some o =>
   cases o with
   | none=>simp; rfl
   | some ds =>
    simp only [Option.map_some,Option.getD_some,mapLv_get]
    cases ds[k]? with
    | none=>rfl
    | some x=>simp
theorem SRel.at {C:Ctx} {t:Nat} {d:D} {v:Value} (h:SRel C t d v) (hd:C.E.sl[t]? = some d):∀ k x,At d k x→C.E.leaf ⟨false,t,k⟩=x:=by
 intro k x hx
 rw [leaf_slot _ _ _ _ hd]
 exact hx.leafOf
theorem leafy_leaves1 {d:D} (h:d.leafy=true):d.leaves1=[d]:=by cases d<;>first | rfl | simp [D.leafy] at h
theorem leafy_mapP1 {d:D} (h:d.leafy=true) (g:Nat→D→D) (k:Nat):d.mapP1 g k=g k d:=by cases d<;>first | rfl | simp [D.leafy] at h
theorem agg_of {d:D} (h:¬ d.leafy=true) (ht:d.isTup=false):∃ ds,d = .agg ds:=by cases d<;>first | exact ⟨_,rfl⟩ | (simp [D.isTup] at ht; done) | (simp [D.leafy] at h; done)
theorem mapP_of {d:D} (ht:d.isTup=false) (g:Nat→D→D):d.mapP g=d.mapP1 g 0:=by cases d<;>first | rfl | simp [D.isTup] at ht
theorem tup_of {d:D} (ht:d.isTup=true):∃ cs,d = .tup cs:=by cases d<;>first | exact ⟨_,rfl⟩ | simp [D.isTup] at ht
theorem CRel.aggLeaves {C:Ctx} {t k:Nat} {ds:List D} {v:Value} (h:CRel C t k (.agg ds) v):ds.length≤64∧∀ (j:Nat) (x:D),ds[j]? = some x→x.leafy=true:=by
 cases h with
 | agg _ vs2 q1 q2 q3=>exact ⟨q2,fun j x hx=>(q3 j x hx).1⟩
 | leaf _ _ hx _ _=>simp [D.leafy] at hx
theorem SRel.aggLeaves {C:Ctx} {t:Nat} {ds:List D} {v:Value} (h:SRel C t (.agg ds) v):ds.length≤64∧∀ (j:Nat) (x:D),ds[j]? = some x→x.leafy=true:=by
 cases h with
 | comp _ _ ht hc=>exact hc.aggLeaves
theorem SRel.tupLeaves {C:Ctx} {t:Nat} {cs ds:List D} {v:Value} (h:SRel C t (.tup cs) v) (i:Nat) (hi:cs[i]? = some (.agg ds)):ds.length≤64∧∀ (j:Nat) (x:D),ds[j]? = some x→x.leafy=true:=by
 cases h with
 | comp _ _ ht _=>simp [D.isTup] at ht
 | tup _ vs hl hs=>exact (hs i _ hi).2.aggLeaves
theorem SRel.noTup {C:Ctx} {t:Nat} {cs:List D} {v:Value} (h:SRel C t (.tup cs) v) (i:Nat) (c:D) (hi:cs[i]? = some c):c.isTup=false:=by
 cases h with
 | comp _ _ ht _=>simp [D.isTup] at ht
 | tup _ vs hl hs=>exact (hs i _ hi).1
theorem SRel.map {C C':Ctx} {t:Nat} {d:D} {v:Value} (hs:SRel C t d v) (hv:C.a.tmps.getD t undef=v) (g:Nat→D→D) (hg:Leafy g) (hd0:∀ k,g k .dead = .dead)
  (hgo:∀ k x,At d k x→x.leafy=true→Goes C C' ⟨false,t,k⟩ x ⟨false,t,k⟩ (g k x)):SRel C' t (d.mapP g) v:=by
 refine hs.go hv ?_
 have deadW:∀ k (x:D),x = .dead→g k x = .dead:=by intro k x h; rw [h]; exact hd0 k
 by_cases ht:d.isTup=true
 ·obtain ⟨cs,rfl⟩:=tup_of ht
  refine .tup _ _ (by rw [mapCs_length]) ?_
  intro i c c' hc hc'
  rw [mapCs_get,hc] at hc'
  have hc2:c'=c.mapP1 g (64*i):=by simpa using hc'.symm
  subst hc2
  have hct:=hs.noTup i c hc
  refine ⟨mapP1_isTup _ hg _ _ hct,?_⟩
  by_cases hlf:c.leafy=true
  ·rw [leafy_mapP1 hlf]
   exact .leaf _ _ hlf (deadW _ _) (hgo _ _ (At.tup cs i 0 c c hc (by omega) (by rw [leafy_leaves1 hlf]; rfl)) hlf)
  ·obtain ⟨ds,rfl⟩:=agg_of hlf hct
   obtain ⟨h64,hl⟩:=hs.tupLeaves i hc
   refine .agg _ _ (by rw [mapLv_length]) ?_
   intro j x x' hx hx'
   rw [mapLv_get,hx] at hx'
   have hx2:x'=g (64*i+j) x:=by simpa using hx'.symm
   subst hx2
   have hj:j<64:=by have:=(gSm hx).1; omega
   exact hgo _ _ (At.tup cs i j _ x hc hj (by simpa [D.leaves1] using hx)) (hl j x hx)
 ·have ht':d.isTup=false:=by simpa using ht
  rw [mapP_of ht']
  refine .comp _ _ ht' (mapP1_isTup _ hg _ _ ht') ?_
  by_cases hlf:d.leafy=true
  ·rw [leafy_mapP1 hlf]
   exact .leaf _ _ hlf (deadW _ _) (hgo _ _ (At.comp d 0 d ht' (by omega) (by rw [leafy_leaves1 hlf]; rfl)) hlf)
  ·obtain ⟨ds,rfl⟩:=agg_of hlf ht'
   obtain ⟨h64,hl⟩:=hs.aggLeaves
   refine .agg _ _ (by rw [mapLv_length]) ?_
   intro j x x' hx hx'
   rw [mapLv_get,hx] at hx'
   have hx2:x'=g (0+j) x:=by simpa using hx'.symm
   subst hx2
   have hj:j<64:=by have:=(gSm hx).1; omega
   have:=hgo j x (At.comp _ j x rfl hj (by simpa [D.leaves1] using hx)) (hl j x hx)
   simpa using this
theorem lf1_leafy {g:Lf→D→D} (hg:∀ p d,d.leafy=true→(g p d).leafy=true) (p:Lf) (d:D) (h:d.leafy=true):(lf1 g p d).leafy=true:=by
 cases d<;>first | exact hg _ _ h | rfl
theorem Rel.mapP {w0:World} {L:Nat→Nat→Prop} {C:Ctx} (R:Rel w0 L C) (g:Lf→D→D) (F':Lf→Nat→Prop)
  (hg:∀ p d,d.leafy=true→(g p d).leafy=true)
  (hgo:∀ p d,C.E.leaf p=d→d ≠ .dead→d.leafy=true→LRel C p d (C.cv p)→LRel { C with E:=C.E.mapP g,F:=F' } p (g p d) (C.cv p))
  (hF:∀ p b,F' p b→∃ q,C.F q b) (hd:∀ p q b,F' p b→F' q b→p=q):Rel w0 L { C with E:=C.E.mapP g,F:=F' }:=by
 have go1:∀ p d,C.E.leaf p=d→d.leafy=true→Goes C { C with E:=C.E.mapP g,F:=F' } p d p (lf1 g p d):=by
  intro p d h1 h2
  refine ⟨lf1_leafy hg p d h2,fun hv => ?_⟩
  by_cases h3:d = .dead
  ·subst h3; exact .dead _ _
  ·have:=hgo p d h1 h3 h2 hv
   have e:lf1 g p d=g p d:=by cases d<;>first | rfl | exact absurd rfl h3
   rw [e]; exact this
 have deadW:∀ p (d:D),d = .dead→lf1 g p d = .dead:=by intro p d h; subst h; rfl
 have hlive:∀ t ds',({ C with E:=C.E.mapP g,F:=F' }:Ctx).live t ds'→∃ ds,C.live t ds∧ds'=mapLv (fun j=>lf1 g ⟨true,t,j⟩) 0 ds:=by
  intro t ds' h
  have h2:(C.E.mapP g).ce[t]? = some (some ds'):=h
  simp only [Env.mapP] at h2
  rw [mapCe_get] at h2
  cases h3:C.E.ce[t]? with
  | none=>rw [h3] at h2; simp at h2
  | some o =>
   cases o with
   | none=>rw [h3] at h2; simp at h2
   | some ds=>rw [h3] at h2; simp at h2; exact ⟨ds,h3,h2.symm⟩
 refine ⟨?_,R.defers,?_,?_,hd,?_,?_,?_,?_,?_,R.frame,R.mnew,R.mL,R.glob⟩
 ·show C.a.tmps.size=(mapSl (lf1 g) 0 C.E.sl).length
  rw [mapSl_length]; exact R.tmps
 ·intro t d' hd'
  have h2:(mapSl (lf1 g) 0 C.E.sl)[t]? = some d':=hd'
  rw [mapSl_get] at h2
  cases h3:C.E.sl[t]? with
  | none=>rw [h3] at h2; simp at h2
  | some d =>
   rw [h3] at h2
   have h4:d'=d.mapP (fun j=>lf1 g ⟨false,t,j⟩):=by simpa using h2.symm
   subst h4
   have hs:=R.slot t d h3
   exact hs.map rfl _ (leafyG hg _) (fun _=>rfl) fun k x hx hl=>go1 _ _ (hs.at h3 k x hx) hl
 ·intro t ds' hl
  obtain ⟨ds,h1,rfl⟩:=hlive t ds' hl
  obtain ⟨cs,e,fr,a1,a2,a3,a4⟩:=(R.cell t ds h1).out
  refine (R.cell t ds h1).go (by rw [mapLv_length]) rfl rfl ?_
  intro i d d' hd hd'
  rw [mapLv_get,hd] at hd'
  simp at hd'; subst hd'
  refine go1 _ _ ?_ (a4 i d hd).1
  rw [leaf_cell _ _ _ _ h1]; exact getD_some hd
 ·intro t ds t' ds' h1 h2 he
  obtain ⟨x,a1,_⟩:=hlive t ds h1
  obtain ⟨y,a2,_⟩:=hlive t' ds' h2
  exact R.cdisj t x t' y a1 a2 he
 ·intro t ds p h1 hp
  obtain ⟨x,a1,_⟩:=hlive t ds h1
  obtain ⟨q,hq⟩:=hF p _ hp
  exact R.fcd t x q a1 hq
 ·intro p b hp; obtain ⟨q,hq⟩:=hF p b hp; exact R.fbound q b hq
 ·intro p b hp; obtain ⟨q,hq⟩:=hF p b hp; exact R.flent q b hq
 ·intro t ds h1 hb i hi
  obtain ⟨x,a1,rfl⟩:=hlive t ds h1
  rw [mapLv_length] at hi
  exact R.clent t x a1 hb i hi
theorem SRel.leafAt {C:Ctx} {t:Nat} {d:D} {v:Value} (h:SRel C t d v) (hv:C.a.tmps.getD t undef=v) {k:Nat} {x:D} (hx:At d k x) (hn:x ≠ .dead) :
  x.leafy=true∧LRel C ⟨false,t,k⟩ x (C.cv ⟨false,t,k⟩):=by
 have comp:∀ (k0:Nat) (c:D) (v:Value),CRel C t k0 c v→(∀ j,j<64→C.cv ⟨false,t,k0+j⟩=(vleaves1 v).getD j undef)→∀ j,c.leaves1[j]? = some x→j<64 →
   x.leafy=true∧LRel C ⟨false,t,k0+j⟩ x (C.cv ⟨false,t,k0+j⟩):=by
  intro k0 c v hc hcv j hj h64
  cases hc with
  | dead =>
   exfalso; apply hn
   cases j with
   | zero=>simpa [D.leaves1] using hj.symm
   | succ n=>simp [D.leaves1] at hj
  | agg ds vs hl h64' h =>
   simp only [D.leaves1] at hj
   obtain ⟨a1,a2,a3⟩:=h j x hj
   have e:=hcv j h64
   simp only [vleaves1] at e
   rw [arr_list_getD] at e
   rw [e]; exact ⟨a1,a3⟩
  | leaf _ _ ha hb hc =>
   rw [leafy_leaves1 ha] at hj
   cases j with
   | succ n=>simp at hj
   | zero =>
    have e1:vleaves1 v=[v]:=by cases v<;>first | rfl | simp [one] at hb
    have e:=hcv 0 (by omega)
    rw [e1] at e
    have e:C.cv ⟨false,t,k0⟩=v:=by simpa using e
    have hx:c=x:=by simpa using hj
    subst hx
    simp only [Nat.add_zero]
    rw [e]; exact ⟨ha,hc⟩
 cases hx with
 | comp _ _ _ ht hk hx =>
  cases h with
  | tup=>simp [D.isTup] at ht
  | comp _ _ _ hc =>
   by_cases hdd:d = .dead
   ·subst hdd
    exfalso; apply hn
    cases k with
    | zero=>simpa [D.leaves1] using hx.symm
    | succ n=>simp [D.leaves1] at hx
   ·have:=comp 0 d v hc (fun j hj=>cv_comp hv (hc.notTuple hdd) j hj) k hx hk
    simpa using this
 | tup cs i j c _ hc hj hx =>
  cases h with
  | comp _ _ ht _=>simp [D.isTup] at ht
  | tup _ vs hl hs=>exact comp (64*i) c _ (hs i c hc).2 (fun j hj=>cv_tup hv i j hj) j hx hj
theorem Rel.leaf {w0:World} {L:Nat→Nat→Prop} {C:Ctx} (R:Rel w0 L C) (p:Lf) (hn:C.E.leaf p ≠ .dead):(C.E.leaf p).leafy=true∧LRel C p (C.E.leaf p) (C.cv p):=by
 obtain ⟨c,t,k⟩:=p
 cases c with
 | false =>
  cases h:C.E.sl[t]? with
  | none=>exact absurd (leaf_none_slot _ _ _ h) hn
  | some d =>
   have e:=leaf_slot _ _ k _ h
   rw [e] at hn ⊢
   exact (R.slot t d h).leafAt rfl (leafOf_at d k hn) hn
 | true =>
  cases h:C.E.ce[t]? with
  | none=>exfalso; apply hn; simp [Env.leaf,gDg,h]
  | some o =>
   cases o with
   | none=>exfalso; apply hn; simp [Env.leaf,gDg,h]
   | some ds =>
    have e:=leaf_cell _ _ k _ h
    rw [e] at hn ⊢
    have hk:k<ds.length:=by
     by_cases hk:k<ds.length
     ·exact hk
     ·exfalso; apply hn; rw [gDg,List.getElem?_eq_none (by omega)]; rfl
    have hd:ds[k]? = some ds[k]:=gEg hk
    rw [getD_some hd]
    obtain ⟨cs,e',fr,a1,a2,a3,a4⟩:=(R.cell t ds h).out
    obtain ⟨b1,b2,b3⟩:=a4 k _ hd
    rw [cell_cv a1]
    exact ⟨b1,b3⟩
theorem Rel.ownLeaf {w0:World} {L:Nat→Nat→Prop} {C:Ctx} (R:Rel w0 L C) {p:Lf} {e:TypeId} {xs:List (List T)} (h:C.E.leaf p = .own e xs):OwnT C.P C.w (.sl e xs) (C.cv p) (C.F p):=by
 have:=(R.leaf p (by rw [h]; simp)).2
 rw [h] at this
 cases this with
 | own _ _ _ h=>exact h
theorem lf1_own (g:Lf→D→D) (p:Lf) (e:TypeId) (xs:List (List T)):lf1 g p (.own e xs)=g p (.own e xs):=rfl
theorem Same.ofMap {w0:World} {L:Nat→Nat→Prop} {C:Ctx} (R:Rel w0 L C) (g:Lf→D→D) (F':Lf→Nat→Prop) (hg:∀ p d,d.leafy=true→(g p d).leafy=true)
  (hF:∀ p b,F' p b→∃ q,C.F q b) (ren:Lf→Lf) (bad:Lf→Prop)
  (h:∀ q e xs,¬ bad q→C.E.leaf q = .own e xs→lf1 g (ren q) (C.E.leaf (ren q)) = .own e xs∧C.cv (ren q)=C.cv q) :
  Same C { C with E:=C.E.mapP g,F:=F' } ren bad (fun _=>False):=by
 have hlv:∀ t ds,C.live t ds→({ C with E:=C.E.mapP g,F:=F' }:Ctx).live t (mapLv (fun j=>lf1 g ⟨true,t,j⟩) 0 ds):=by
  intro t ds h
  show (C.E.mapP g).ce[t]? = _
  simp only [Env.mapP]
  rw [mapCe_get,show C.E.ce[t]? = some (some ds) from h]
  simp
 have hlive:∀ t ds',({ C with E:=C.E.mapP g,F:=F' }:Ctx).live t ds'→∃ ds,C.live t ds:=by
  intro t ds' h
  have h2:(C.E.mapP g).ce[t]? = some (some ds'):=h
  simp only [Env.mapP] at h2
  rw [mapCe_get] at h2
  cases h3:C.E.ce[t]? with
  | none=>rw [h3] at h2; simp at h2
  | some o =>
   cases o with
   | none=>rw [h3] at h2; simp at h2
   | some ds=>exact ⟨ds,h3⟩
 refine ⟨rfl,fun b hb _=>⟨?_,rfl⟩,?_,?_,fun _ h=>h⟩
 ·rintro (⟨p,hp⟩ | ⟨t,ds',hl,hb'⟩)
  ·obtain ⟨q,hq⟩:=hF p b hp
   exact hb (.inl ⟨q,hq⟩)
  ·obtain ⟨ds,h1⟩:=hlive t ds' hl
   exact hb (.inr ⟨t,ds,h1,hb'⟩)
 ·intro q e xs hq hl
  obtain ⟨h1,h2⟩:=h q e xs hq hl
  exact ⟨xs,by show (C.E.mapP g).leaf (ren q)=_; rw [mapP_leaf R g hg]; exact h1,rfl,h2,fun i j e' ys hg=>⟨hg,fun b o n cap v _ hv=>hv⟩⟩
 ·intro t ds _ hl
  exact ⟨_,hlv t ds hl,mapLv_length ..,rfl⟩
theorem killB_leafy (b:Lf→Bool) (d:D) (h:d.leafy=true):(killB b d).leafy=true:=by
 cases d<;>simp only [killB]<;>first | exact h | (split<;>rfl)
theorem killB_cases (b:Lf→Bool) (d:D):killB b d = .dead∨(killB b d=d∧∀ q,d.base=some q→b q=false):=by
 have one:∀ (q:Lf) (d:D),d.base=some q→killB b d=(if b q then .dead else d)→killB b d = .dead∨(killB b d=d∧∀ q,d.base=some q→b q=false):=by
  intro q d h1 h2
  by_cases hb:b q=true
  ·left; rw [h2,if_pos hb]
  ·right; refine ⟨by rw [h2,if_neg hb],fun q' h => ?_⟩
   rw [h1] at h; injection h with h; subst h; simpa using hb
 cases d with
 | ali p=>exact one p _ rfl rfl
 | sub p lo hi=>exact one p _ rfl rfl
 | ela p i j=>exact one p _ rfl rfl
 | eref p i j=>exact one p _ rfl rfl
 | _=>exact .inr ⟨rfl,fun q hq=>by simp [D.base] at hq⟩
theorem Rel.kill {w0:World} {L:Nat→Nat→Prop} {C:Ctx} (R:Rel w0 L C) (b:Lf→Bool):Rel w0 L { C with E:=C.E.kill b }:=by
 have hg:∀ (p:Lf) (d:D),d.leafy=true→(if b p then D.dead else killB b d).leafy=true:=by
  intro p d h; split
  ·rfl
  ·exact killB_leafy b d h
 have s:=Same.ofMap R (fun p d=>if b p then D.dead else killB b d) C.F hg (fun p b h=>⟨p,h⟩) (fun q=>q) (fun q=>b q=true) (by
  intro q e xs hq hl
  rw [hl]
  have:b q=false:=by simpa using hq
  simp [lf1,this,killB])
 refine R.mapP _ C.F hg ?_ (fun p b h=>⟨p,h⟩) R.disj
 intro p d h1 h2 h3 hv
 by_cases hb:b p=true
 ·simp only [hb,if_true]; exact .dead _ _
 ·simp only [hb]
  rcases killB_cases b d with h | ⟨h,hq⟩
  ·simp only [h]; exact .dead _ _
  ·simp only [h]
   by_cases ho:d.isOwn=true
   ·cases d<;>simp [D.isOwn] at ho
    cases hv with
    | own _ _ _ h=>exact .own _ _ _ _ h
   ·have:=LRel.same s hv p (by simpa using ho) ⟨fun q h=>by simp [hq q h],fun t ht=>by simp⟩
    rwa [D.re_id] at this
theorem re_leafy (g:Lf→Lf) (d:D) (h:d.leafy=true):(d.re g).leafy=true:=by cases d<;>first | exact h | rfl
theorem re_own (g:Lf→Lf) (e:TypeId) (xs:List (List T)):(D.own e xs).re g = .own e xs:=rfl
theorem Rel.swap {w0:World} {L:Nat→Nat→Prop} {C:Ctx} (R:Rel w0 L C) {q p:Lf} {E':Env} (h:C.E.swap q p=some E') (hp:C.E.leaf p = .ali q) :
  ∃ F',Rel w0 L { C with E:=E',F:=F' }:=by
 unfold Env.swap at h
 split at h
 case h_2=>cases h
 rename_i e xs hq
 split at h
 ·cases h
 rename_i hne
 injection h with h
 subst h
 refine ⟨fun r=>if r=p then C.F q else if r=q then fun _=>False else C.F r,?_⟩
 have hg:∀ (r:Lf) (d:D),d.leafy=true→(if r=q then D.ali p else if r=p then .own e xs else reB q p d).leafy=true:=by
  intro r d hd; split
  ·rfl
  ·split
   ·rfl
   ·exact re_leafy _ d hd
 have hcv:C.cv p=C.cv q:=by
  have:=(R.leaf p (by rw [hp]; simp)).2
  rw [hp] at this
  generalize C.cv p=v at this
  cases this with
  | ali=>rfl
 have hF:∀ r b,(fun r=>if r=p then C.F q else if r=q then fun _=>False else C.F r) r b→∃ q,C.F q b:=by
  intro r b h
  split at h
  ·exact ⟨_,h⟩
  ·split at h
   ·exact h.elim
   ·exact ⟨_,h⟩
 have s:=Same.ofMap R (fun r d=>if r=q then D.ali p else if r=p then .own e xs else reB q p d) _ hg hF (fun r=>if r=q then p else r) (fun _=>False) (by
  intro r e' xs' _ hl
  by_cases hr:r=q
  ·subst hr
   rw [hq] at hl
   injection hl with h1 h2
   subst h1; subst h2
   simp only [if_true]
   rw [hp]
   refine ⟨?_,hcv⟩
   show (if p=r then D.ali p else if p=p then D.own e xs else reB r p (.ali r))=_
   rw [if_neg (fun h=>hne h.symm),if_pos rfl]
  ·simp only [if_neg hr]
   rw [hl]
   refine ⟨?_,by trivial⟩
   have hrp:r≠p:=by intro h; subst h; rw [hp] at hl; cases hl
   show (if r=q then D.ali p else if r=p then D.own e xs else reB q p (.own e' xs'))=_
   rw [if_neg hr,if_neg hrp]; rfl)
 refine R.mapP _ _ hg ?_ hF ?_
 ·intro r d h1 h2 h3 hv
  by_cases hr:r=q
  ·subst hr
   rw [if_pos rfl]
   have:LRel { C with E:=C.E.mapP fun r' d=>if r'=r then D.ali p else if r'=p then .own e xs else reB r p d,F:=fun r'=>if r'=p then C.F r else if r'=r then fun _=>False else C.F r' } r (.ali p) _ :=
    .ali r p e xs (by
     show (C.E.mapP _).leaf p=_
     rw [mapP_leaf R _ hg,hp]
     show (if p=r then D.ali p else if p=p then D.own e xs else _)=_
     rw [if_neg (fun h=>hne h.symm),if_pos rfl])
   have e2:Ctx.cv { C with E:=C.E.mapP fun r' d=>if r'=r then D.ali p else if r'=p then .own e xs else reB r p d,F:=fun r'=>if r'=p then C.F r else if r'=r then fun _=>False else C.F r' } p=C.cv p:=rfl
   rw [e2,hcv] at this
   exact this
  ·rw [if_neg hr]
   by_cases hrp:r=p
   ·subst hrp
    rw [if_pos rfl]
    refine .own _ _ _ _ ?_
    show OwnT C.P C.w _ _ (if r=r then C.F q else _)
    rw [if_pos rfl,hcv]
    exact R.ownLeaf hq
   ·rw [if_neg hrp]
    by_cases ho:d.isOwn=true
    ·cases d<;>simp [D.isOwn] at ho
     cases hv with
     | own _ _ _ h =>
      refine .own _ _ _ _ ?_
      show OwnT C.P C.w _ _ (if r=p then C.F q else if r=q then fun _=>False else C.F r)
      rw [if_neg hrp,if_neg hr]
      exact h
    ·exact LRel.same s hv r (by simpa using ho) ⟨fun q h=>by simp,fun t ht=>by simp⟩
 ·intro r r' b h1 h2
  by_cases a1:r=p
  ·by_cases a2:r'=p
   ·rw [a1,a2]
   ·rw [if_pos a1] at h1; rw [if_neg a2] at h2
    by_cases a3:r'=q
    ·rw [if_pos a3] at h2; exact h2.elim
    ·rw [if_neg a3] at h2; exact absurd (R.disj _ _ b h1 h2).symm a3
  ·rw [if_neg a1] at h1
   by_cases a3:r=q
   ·rw [if_pos a3] at h1; exact h1.elim
   ·rw [if_neg a3] at h1
    by_cases a2:r'=p
    ·rw [if_pos a2] at h2; exact absurd (R.disj _ _ b h1 h2) a3
    ·rw [if_neg a2] at h2
     by_cases a4:r'=q
     ·rw [if_pos a4] at h2; exact h2.elim
     ·rw [if_neg a4] at h2; exact R.disj _ _ b h1 h2
theorem get?_cut {xs:List (List T)} {lo n i j:Nat} {t:T} (h:T.get? ((xs.drop lo).take n) i j=some t):i<n∧T.get? xs (lo+i) j=some t:=by
 unfold T.get? at *
 rw [List.getElem?_take] at h
 split at h
 ·rename_i hi
  rw [List.getElem?_drop] at h
  exact ⟨hi,h⟩
 ·simp at h
theorem add_plain (b o n:Nat):(⟨b,o,none⟩:Addr).add n=⟨b,o+n,none⟩:=by
 unfold Addr.add
 split
 ·rename_i h; subst h; rfl
 ·rfl
theorem OwnT.cut {P:Program} {w:World} {e:TypeId} {xs:List (List T)} {v:Value} {F:Nat→Prop} (h:OwnT P w (.sl e xs) v F) {lo hi:Nat} (h1:lo≤hi) (h2:hi≤xs.length) (he:e≠mapE) :
  OwnT P w (.sl e ((xs.drop lo).take (hi-lo))) (cutV (P.cellsOf e) v lo hi) F:=by
 cases h with
 | mp=>exact absurd rfl he
 | emp =>
  have:lo=0:=by simp at h2; omega
  have:hi=0:=by simp at h2; omega
  subst_vars
  exact .emp e F
 | row _ _ b o cap cs fr _ G X a1 a2 a3 a4 a5 a6 a7 a8 a9 a10 a11 a12 =>
  have hlen:((xs.drop lo).take (hi-lo)).length=hi-lo:=by simp; omega
  have hrow:∀ (i:Nat) (r:List T),((xs.drop lo).take (hi-lo))[i]? = some r→r.length=P.cellsOf e:=by
   intro i r hr
   rw [List.getElem?_take] at hr
   split at hr
   ·rw [List.getElem?_drop] at hr; exact a7 _ r hr
   ·simp at hr
  have hval:cutV (P.cellsOf e) (.slice (some ⟨b,o,none⟩) xs.length cap) lo hi = .slice (some ⟨b,if cap=lo then o else o+lo*P.cellsOf e,none⟩) ((xs.drop lo).take (hi-lo)).length (cap-lo):=by
   simp only [cutV,hlen]
   split
   ·rfl
   ·simp only [Option.map_some,add_plain]
  rw [hval]
  refine .row e _ b _ (cap-lo) cs fr F (fun i j=>G (lo+i) j) (fun i j=>X (lo+i) j) a1 a2 a3 ?_ (by omega) (by omega) hrow (fun i j=>a8 _ _) ?_ ?_ ?_ (fun hf i j t ht=>a12 hf _ _ _ (get?_cut ht).2)
  ·split
   ·rename_i hc; rw [hc,Nat.sub_self,Nat.zero_mul]
    have:o≤o+cap*P.cellsOf e:=Nat.le_add_right _ _
    omega
   ·have:lo*P.cellsOf e+(cap-lo)*P.cellsOf e=cap*P.cellsOf e:=by rw [←Nat.add_mul]; congr 1; omega
    omega
  ·intro i j i' j' b' hb hb'
   obtain ⟨q1,q2⟩:=a9 _ _ _ _ _ hb hb'
   exact ⟨by omega,q2⟩
  ·intro i j t ht
   obtain ⟨q1,q2⟩:=get?_cut ht
   have q3:=a10 _ _ _ q2
   split
   ·omega
   ·rw [show o+lo*P.cellsOf e+i*P.cellsOf e+j=o+(lo+i)*P.cellsOf e+j from by rw [Nat.add_mul]; omega]
    exact q3
  ·intro i j t ht
   obtain ⟨q1,q2⟩:=get?_cut ht
   exact a11 _ _ _ q2
theorem RdT.cut {P:Program} {w:World} {S:Nat→Prop} {e:TypeId} {xs:List (List T)} {v:Value} (h:RdT P w S (.sl e xs) v) {lo hi:Nat} (h1:lo≤hi) (h2:hi≤xs.length) (he:e≠mapE) :
  RdT P w S (.sl e ((xs.drop lo).take (hi-lo))) (cutV (P.cellsOf e) v lo hi):=by
 cases h with
 | mp=>exact absurd rfl he
 | emp _ base cap hc =>
  have:lo=0:=by simp at h2; omega
  have:hi=0:=by simp at h2; omega
  subst_vars
  exact .emp e _ _ (by omega)
 | row _ _ b o cap cs ce fr X a1 a2 a5 a6 a7 a10 a11 a12 =>
  have hlen:((xs.drop lo).take (hi-lo)).length=hi-lo:=by simp; omega
  have hrow:∀ (i:Nat) (r:List T),((xs.drop lo).take (hi-lo))[i]? = some r→r.length=P.cellsOf e:=by
   intro i r hr
   rw [List.getElem?_take] at hr
   split at hr
   ·rw [List.getElem?_drop] at hr; exact a7 _ r hr
   ·simp at hr
  have hval:cutV (P.cellsOf e) (.slice (some ⟨b,o,none⟩) xs.length cap) lo hi = .slice (some ⟨b,if cap=lo then o else o+lo*P.cellsOf e,none⟩) ((xs.drop lo).take (hi-lo)).length (cap-lo):=by
   simp only [cutV,hlen]
   split
   ·rfl
   ·simp only [Option.map_some,add_plain]
  rw [hval]
  refine .row e _ b _ (cap-lo) cs ce fr (fun i j=>X (lo+i) j) a1 a2 (by omega) (by omega) hrow ?_ ?_ (fun hf i j t ht=>a12 hf _ _ _ (get?_cut ht).2)
  ·intro i j t ht
   obtain ⟨q1,q2⟩:=get?_cut ht
   have q3:=a10 _ _ _ q2
   split
   ·omega
   ·rw [show o+lo*P.cellsOf e+i*P.cellsOf e+j=o+(lo+i)*P.cellsOf e+j from by rw [Nat.add_mul]; omega]
    exact q3
  ·intro i j t ht
   obtain ⟨q1,q2⟩:=get?_cut ht
   exact a11 _ _ _ q2
theorem Rel.cut {w0:World} {L:Nat→Nat→Prop} {C:Ctx} (R:Rel w0 L C) {q p:Lf} {lo hi:Nat} {E':Env} (h:C.E.cut q p lo hi=some E') (hp:C.E.leaf p = .sub q lo hi) :
  ∃ F',Rel w0 L { C with E:=E',F:=F' }:=by
 unfold Env.cut at h
 split at h
 case h_2=>cases h
 rename_i e xs hq
 split at h
 ·cases h
 rename_i hne
 injection h with h
 subst h
 refine ⟨fun r=>if r=p then C.F q else if r=q then fun _=>False else C.F r,?_⟩
 have hg:∀ (r:Lf) (d:D),d.leafy=true→(if r=q then D.dead else if r=p then .own e ((xs.drop lo).take (hi-lo)) else killB (fun r=>r==q) d).leafy=true:=by
  intro r d hd; split
  ·rfl
  ·split
   ·rfl
   ·exact killB_leafy _ d hd
 have hcv:C.cv p=cutV (C.P.cellsOf e) (C.cv q) lo hi∧lo≤hi∧hi≤xs.length∧e≠mapE:=by
  have:=(R.leaf p (by rw [hp]; simp)).2
  rw [hp] at this
  generalize C.cv p=v at this
  cases this with
  | sub _ _ _ e' xs' h1 h2 h3 h3' =>
   rw [hq] at h1; injection h1 with h4 h5; subst h4; subst h5
   exact ⟨rfl,h2,h3,h3'⟩
 have hF:∀ r b,(fun r=>if r=p then C.F q else if r=q then fun _=>False else C.F r) r b→∃ q,C.F q b:=by
  intro r b h
  split at h
  ·exact ⟨_,h⟩
  ·split at h
   ·exact h.elim
   ·exact ⟨_,h⟩
 have s:=Same.ofMap R (fun r d=>if r=q then D.dead else if r=p then .own e ((xs.drop lo).take (hi-lo)) else killB (fun r=>r==q) d) _ hg hF (fun r=>r) (fun r=>r=q) (by
  intro r e' xs' hr hl
  rw [hl]
  refine ⟨?_,rfl⟩
  have hrp:r≠p:=by intro h; subst h; rw [hp] at hl; cases hl
  show (if r=q then D.dead else if r=p then D.own e _ else killB (fun r=>r==q) (.own e' xs'))=_
  rw [if_neg hr,if_neg hrp]; rfl)
 refine R.mapP _ _ hg ?_ hF ?_
 ·intro r d h1 h2 h3 hv
  by_cases hr:r=q
  ·rw [if_pos hr]; exact .dead _ _
  ·rw [if_neg hr]
   by_cases hrp:r=p
   ·subst hrp
    rw [if_pos rfl]
    refine .own _ _ _ _ ?_
    show OwnT C.P C.w _ _ (if r=r then C.F q else _)
    rw [if_pos rfl,hcv.1]
    exact (R.ownLeaf hq).cut hcv.2.1 hcv.2.2.1 hcv.2.2.2
   ·rw [if_neg hrp]
    rcases killB_cases (fun r=>r==q) d with h | ⟨h,hk⟩
    ·rw [h]; exact .dead _ _
    ·rw [h]
     by_cases ho:d.isOwn=true
     ·cases d<;>simp [D.isOwn] at ho
      cases hv with
      | own _ _ _ h =>
       refine .own _ _ _ _ ?_
       show OwnT C.P C.w _ _ (if r=p then C.F q else if r=q then fun _=>False else C.F r)
       rw [if_neg hrp,if_neg hr]
       exact h
     ·have:=LRel.same s hv r (by simpa using ho) ⟨fun q' h'=>by simpa using hk q' h',fun t ht=>by simp⟩
      rwa [D.re_id] at this
 ·intro r r' b h1 h2
  by_cases a1:r=p
  ·by_cases a2:r'=p
   ·rw [a1,a2]
   ·rw [if_pos a1] at h1; rw [if_neg a2] at h2
    by_cases a3:r'=q
    ·rw [if_pos a3] at h2; exact h2.elim
    ·rw [if_neg a3] at h2; exact absurd (R.disj _ _ b h1 h2).symm a3
  ·rw [if_neg a1] at h1
   by_cases a3:r=q
   ·rw [if_pos a3] at h1; exact h1.elim
   ·rw [if_neg a3] at h1
    by_cases a2:r'=p
    ·rw [if_pos a2] at h2; exact absurd (R.disj _ _ b h1 h2) a3
    ·rw [if_neg a2] at h2
     by_cases a4:r'=q
     ·rw [if_pos a4] at h2; exact h2.elim
     ·rw [if_neg a4] at h2; exact R.disj _ _ b h1 h2
theorem Rel.mF {w0:World} {L:Nat→Nat→Prop} {C:Ctx} (R:Rel w0 L C) {p:Lf} {b:Nat} (h:C.F p b):C.M b:=by
 by_cases hb:b<w0.heap.size
 ·exact R.mL b 0 (R.flent p b h hb 0)
 ·exact R.mnew b (by omega)
theorem Rel.frz {w0:World} {L:Nat→Nat→Prop} {C:Ctx} (R:Rel w0 L C) {q:Lf} {E':Env} (h:C.E.frz q=some E'):Rel w0 L { C with E:=E',F:=fun r=>if r=q then fun _=>False else C.F r }:=by
 unfold Env.frz at h
 split at h
 case h_2=>cases h
 rename_i e xs hq
 injection h with h
 subst h
 have hg:∀ (r:Lf) (d:D),d.leafy=true→(if r=q then D.imm e xs else frzB q e xs d).leafy=true:=by
  intro r d hd; split
  ·rfl
  ·cases d<;>simp only [frzB]<;>first | exact hd | (split<;>first | rfl | (split<;>rfl))
 have hF:∀ r b,(fun r=>if r=q then fun _=>False else C.F r) r b→∃ q,C.F q b:=by
  intro r b h
  split at h
  ·exact h.elim
  ·exact ⟨_,h⟩
 have s:=Same.ofMap R (fun r d=>if r=q then D.imm e xs else frzB q e xs d) _ hg hF (fun r=>r) (fun r=>r=q) (by
  intro r e' xs' hr hl
  rw [hl]
  refine ⟨?_,rfl⟩
  show (if r=q then D.imm e xs else frzB q e xs (.own e' xs'))=_
  rw [if_neg hr]; rfl)
 have ho:=R.ownLeaf hq
 have hlive:∀ t ds',({ C with E:=C.E.mapP fun r d=>if r=q then D.imm e xs else frzB q e xs d,F:=fun r=>if r=q then fun _=>False else C.F r }:Ctx).live t ds'→∃ ds,C.live t ds:=by
  intro t ds' h
  have h2:(C.E.mapP fun r d=>if r=q then D.imm e xs else frzB q e xs d).ce[t]? = some (some ds'):=h
  simp only [Env.mapP] at h2
  rw [mapCe_get] at h2
  cases h3:C.E.ce[t]? with
  | none=>rw [h3] at h2; simp at h2
  | some o =>
   cases o with
   | none=>rw [h3] at h2; simp at h2
   | some ds=>exact ⟨ds,h3⟩
 have hun:∀ b,C.F q b→¬ ({ C with E:=C.E.mapP fun r d=>if r=q then D.imm e xs else frzB q e xs d,F:=fun r=>if r=q then fun _=>False else C.F r }:Ctx).Owned b:=by
  rintro b hb (⟨p,hp⟩ | ⟨t,ds',hl,hb'⟩)
  ·have hp':(if p=q then fun _=>False else C.F p) b:=hp
   split at hp'
   ·exact hp'
   ·rename_i hne; exact hne (R.disj _ _ b hp' hb)
  ·obtain ⟨ds,h1⟩:=hlive t ds' hl
   exact R.fcd t ds q h1 (by have:(C.loc t).1=b:=hb'; rw [this]; exact hb)
 have hrd:RdT C.P C.w ({ C with E:=C.E.mapP fun r d=>if r=q then D.imm e xs else frzB q e xs d,F:=fun r=>if r=q then fun _=>False else C.F r }:Ctx).Rd (.sl e xs) (C.cv q):=ho.rd fun b hb=>⟨hun b hb,R.mF hb⟩
 refine R.mapP _ _ hg ?_ hF ?_
 ·intro r d h1 h2 h3 hv
  by_cases hr:r=q
  ·subst hr
   rw [if_pos rfl]
   exact .imm _ _ _ _ hrd
  ·rw [if_neg hr]
   by_cases hown:d.isOwn=true
   ·cases d<;>simp [D.isOwn] at hown
    cases hv with
    | own _ _ _ h =>
     refine .own _ _ _ _ ?_
     show OwnT C.P C.w _ _ (if r=q then fun _=>False else C.F r)
     rw [if_neg hr]
     exact h
   ·have other:(∀ q',d.base=some q'→q'≠q)→frzB q e xs d=d→LRel { C with E:=C.E.mapP fun r d=>if r=q then D.imm e xs else frzB q e xs d,F:=fun r=>if r=q then fun _=>False else C.F r } r (frzB q e xs d) (C.cv r):=by
     intro hb he
     rw [he]
     have:=LRel.same s hv r (by simpa using hown) ⟨fun q' h'=>hb q' h',fun t ht=>by simp⟩
     rwa [D.re_id] at this
    generalize C.cv r=v at hv other
    cases d with
    | ali r' =>
     by_cases hr':r'=q
     ·subst hr'
      simp only [frzB,if_true]
      cases hv with
      | ali _ e' xs' h4=>exact .imm _ _ _ _ hrd
     ·exact other (fun q' h'=>by simp only [D.base,Option.some.injEq] at h'; subst h'; exact hr') (by simp [frzB,hr'])
    | sub r' lo hi =>
     by_cases hr':r'=q
     ·subst hr'
      simp only [frzB,if_true]
      cases hv with
      | sub _ _ _ e' xs' h4 h5 h6 h6' =>
       rw [hq] at h4; injection h4 with h7 h8; subst h7; subst h8
       exact .imm _ _ _ _ (hrd.cut h5 h6 h6')
     ·exact other (fun q' h'=>by simp only [D.base,Option.some.injEq] at h'; subst h'; exact hr') (by simp [frzB,hr'])
    | ela r' i j =>
     by_cases hr':r'=q
     ·subst hr'
      simp only [frzB,if_true]
      cases hv with
      | ela _ _ _ e' xs' e2 ys b o n cap _ h4 h5 h6 h7 =>
       rw [hq] at h4; injection h4 with h8 h9; subst h8; subst h9
       have hg':T.get xs i j = .sl e2 ys:=by
        unfold T.get? at h5
        unfold T.get
        cases hx:xs[i]? with
        | none=>rw [hx] at h5; simp at h5
        | some row=>rw [hx] at h5; rw [getD_some hx]; exact getD_some h5
       rw [hg']
       refine .imm _ _ _ _ ?_
       generalize C.cv r'=v' at hrd h6
       cases hrd with
       | mp=>cases h6
       | emp=>simp [T.get?] at h5
       | row _ _ b' o' cap' cs ce fr X a1 a2 a5 a6 a7 a10 a11 a12 =>
        injection h6 with h8 h9 h10
        injection h8 with h8; injection h8 with h8 h11
        subst h8; subst h11
        have:=a10 i j _ h5
        have e3:C.w.cell? ⟨b',o'+i*C.P.cellsOf e+j,none⟩=some (X i j):=by simp [World.cell?,a1,this]
        rw [e3] at h7; injection h7 with h7; subst h7
        exact a11 i j _ h5
     ·exact other (fun q' h'=>by simp only [D.base,Option.some.injEq] at h'; subst h'; exact hr') (by simp [frzB,hr'])
    | eref r' i j =>
     by_cases hr':r'=q
     ·subst hr'
      simp only [frzB,if_true]
      exact .dead _ _
     ·exact other (fun q' h'=>by simp only [D.base,Option.some.injEq] at h'; subst h'; exact hr') (by simp [frzB,hr'])
    | _=>exact other (fun q' h'=>by simp [D.base] at h') rfl
 ·intro r r' b h1 h2
  split at h1
  ·exact h1.elim
  ·split at h2
   ·exact h2.elim
   ·exact R.disj _ _ b h1 h2
structure Ext (w w':World):Prop where
 os:w'.os=w.os
 tape:w'.tape=w.tape
 output:w'.output=w.output
 size:w.heap.size≤w'.heap.size
 kept:∀ b,b<w.heap.size→w'.heap[b]? = w.heap[b]?
theorem Ext.refl (w:World):Ext w w:=⟨rfl,rfl,rfl,Nat.le_refl _,fun _ _=>rfl⟩
theorem Ext.trans {a b c:World} (h:Ext a b) (k:Ext b c):Ext a c :=
 ⟨k.os.trans h.os,k.tape.trans h.tape,k.output.trans h.output,Nat.le_trans h.size k.size,fun i hi=>(k.kept i (Nat.lt_of_lt_of_le hi h.size)).trans (h.kept i hi)⟩
theorem Ext.alloc (w:World) (o:Obj):Ext w (w.alloc o) :=
 ⟨rfl,rfl,rfl,by show _≤(w.heap.push o).size; rw [Array.size_push]; omega,fun b hb=>by show (w.heap.push o)[b]? = _; rw [Array.getElem?_push,if_neg (by omega)]⟩
theorem Ext.drew (w:World):Ext w w.drew:=⟨rfl,rfl,rfl,Nat.le_refl _,fun _ _=>rfl⟩
theorem Ext.cell {w w':World} (h:Ext w w') {a:Addr} {v:Value} (hc:w.cell? a=some v):w'.cell? a=some v:=by
 have hb:a.block<w.heap.size:=by
  unfold World.cell? at hc
  cases hx:w.heap[a.block]? with
  | none=>rw [hx] at hc; simp at hc
  | some o=>exact (Array.getElem?_eq_some_iff.1 hx).1
 unfold World.cell? at *
 rw [h.kept _ hb]; exact hc
theorem Frame.ext {w0:World} {L:Nat→Nat→Prop} {w w':World} (h:Frame w0 L w) (x:Ext w w'):Frame w0 L w':=by
 refine ⟨x.os.trans h.os,x.tape.trans h.tape,x.output.trans h.output,Nat.le_trans h.size x.size,?_,?_⟩
 ·intro b hb hl
  rw [x.kept b (Nat.lt_of_lt_of_le hb h.size)]; exact h.kept b hb hl
 ·intro b cs e fr hc
  obtain ⟨cs',h1,h2⟩:=h.part b cs e fr hc
  exact ⟨cs',by rw [x.kept b (Array.getElem?_eq_some_iff.1 h1).1]; exact h1,h2⟩
theorem CRel.tr {C C':Ctx} {t k0:Nat} {d:D} {v:Value} (h:CRel C t k0 d v) (g:Nat→D→D) (hg:Leafy g) (hd0:∀ k,g k .dead = .dead)
  (hgo:∀ j x v,j<64→d.leaves1[j]? = some x→LRel C ⟨false,t,k0+j⟩ x v→LRel C' ⟨false,t,k0+j⟩ (g (k0+j) x) v):CRel C' t k0 (d.mapP1 g k0) v:=by
 cases h with
 | dead=>simp only [D.mapP1]; rw [hd0]; exact .dead _ _
 | agg ds vs hl h64 h =>
  refine .agg _ _ _ (by rw [mapLv_length]; exact hl) (by rw [mapLv_length]; exact h64) ?_
  intro i d' hd'
  rw [mapLv_get] at hd'
  cases hx:ds[i]? with
  | none=>rw [hx] at hd'; simp at hd'
  | some x =>
   rw [hx] at hd'
   have:d'=g (k0+i) x:=by simpa using hd'.symm
   subst this
   obtain ⟨a1,a2,a3⟩:=h i x hx
   exact ⟨hg _ _ a1,a2,hgo i x _ (by have:=(gSm hx).1; omega) (by simpa [D.leaves1] using hx) a3⟩
 | leaf _ _ ha hb hc =>
  rw [leafy_mapP1 ha]
  have:=hgo 0 d v (by omega) (by rw [leafy_leaves1 ha]; rfl) (by simpa using hc)
  exact .leaf _ _ _ (hg _ _ ha) hb (by simpa using this)
theorem SRel.tr {C C':Ctx} {t:Nat} {d:D} {v:Value} (h:SRel C t d v) (g:Nat→D→D) (hg:Leafy g) (hd0:∀ k,g k .dead = .dead)
  (hgo:∀ k x v,At d k x→LRel C ⟨false,t,k⟩ x v→LRel C' ⟨false,t,k⟩ (g k x) v):SRel C' t (d.mapP g) v:=by
 cases h with
 | tup cs vs hl h =>
  refine .tup _ _ (by rw [mapCs_length]; exact hl) ?_
  intro i c hc
  rw [mapCs_get] at hc
  cases hx:cs[i]? with
  | none=>rw [hx] at hc; simp at hc
  | some x =>
   rw [hx] at hc
   have:c=x.mapP1 g (64*i):=by simpa using hc.symm
   subst this
   obtain ⟨a1,a2⟩:=h i x hx
   exact ⟨mapP1_isTup g hg _ _ a1,a2.tr g hg hd0 fun j y v hj hy=>hgo _ y v (At.tup cs i j x y hx hj hy)⟩
 | comp _ _ ht hc =>
  rw [mapP_of ht]
  exact .comp _ _ (mapP1_isTup g hg _ _ ht) (hc.tr g hg hd0 fun j y v hj hy=>hgo _ y v (by rw [Nat.zero_add]; exact At.comp d j y ht hj hy))
theorem mapP1_id (k:Nat) (d:D):d.mapP1 (fun _ x=>x) k=d:=by
 have:∀ (ds:List D) (k:Nat),mapLv (fun _ x=>x) k ds=ds:=by
  intro ds
  induction ds with
  | nil=>intro k; rfl
  | cons d ds ih=>intro k; simp [mapLv,ih]
 cases d<;>simp [D.mapP1,this]
theorem mapP_id (d:D):d.mapP (fun _ x=>x)=d:=by
 have:∀ (ds:List D) (k:Nat),mapCs (fun _ x=>x) k ds=ds:=by
  intro ds
  induction ds with
  | nil=>intro k; rfl
  | cons d ds ih=>intro k; simp [mapCs,ih,mapP1_id]
 by_cases ht:d.isTup=true
 ·obtain ⟨cs,rfl⟩:=tup_of ht; simp [D.mapP,this]
 ·rw [mapP_of (by simpa using ht),mapP1_id]
theorem own_anyOwn {d:D} {k:Nat} {e:TypeId} {xs:List (List T)} (h:d.leafOf k = .own e xs):d.anyOwn=true:=by
 have ha:=leafOf_at d k (by rw [h]; simp)
 rw [h] at ha
 unfold D.anyOwn
 cases ha with
 | comp _ _ _ ht hk hx =>
  have:d.comps=[d]:=by cases d<;>first | rfl | simp [D.isTup] at ht
  rw [this,List.any_eq_true]
  exact ⟨d,by simp,List.any_eq_true.2 ⟨_,List.mem_of_getElem? hx,rfl⟩⟩
 | tup cs i j c _ hc hj hx =>
  simp only [D.comps]
  rw [List.any_eq_true]
  exact ⟨c,List.mem_of_getElem? hc,List.any_eq_true.2 ⟨_,List.mem_of_getElem? hx,rfl⟩⟩
theorem SRel.tr' {C C':Ctx} {t:Nat} {d:D} {v:Value} (h:SRel C t d v) (hgo:∀ k x v,At d k x→LRel C ⟨false,t,k⟩ x v→LRel C' ⟨false,t,k⟩ x v):SRel C' t d v:=by
 have:=h.tr (C':=C') (fun _ x=>x) (fun _ _ h=>h) (fun _=>rfl) hgo
 rwa [mapP_id] at this
theorem anyOwn_at {d:D} {k:Nat} {x:D} (h:At d k x) (hno:d.anyOwn=false):x.isOwn=false:=by
 cases x<;>first | rfl | exact absurd (own_anyOwn h.leafOf) (by rw [hno]; simp)
def inS (t:Nat) (p:Lf):Prop:=p.c=false∧p.t=t
theorem notOwn_inS {C:Ctx} {t:Nat} (hno:(C.E.sl.getD t .dead).anyOwn=false):∀ q e xs,C.E.leaf q = .own e xs→¬ inS t q:=by
 rintro ⟨c,t',k⟩ e xs hq ⟨h1,h2⟩
 simp only at h1 h2
 subst h1; subst h2
 have:(C.E.sl.getD t' .dead).leafOf k = .own e xs:=hq
 rw [own_anyOwn this] at hno
 cases hno
theorem Rel.liveOf {w0:World} {L:Nat→Nat→Prop} {C:Ctx} {t k:Nat} (hn:C.E.leaf ⟨true,t,k⟩ ≠ .dead):∃ ds,C.live t ds:=by
 cases h:C.E.ce[t]? with
 | none=>exfalso; apply hn; simp [Env.leaf,gDg,h]
 | some o =>
  cases o with
  | none=>exfalso; apply hn; simp [Env.leaf,gDg,h]
  | some ds=>exact ⟨ds,h⟩
theorem Rel.ext {w0:World} {L:Nat→Nat→Prop} {C:Ctx} (R:Rel w0 L C) {w':World} (x:Ext C.w w') (F':Lf→Nat→Prop) (new:Lf→Prop)
  (hno:∀ q e xs,C.E.leaf q = .own e xs→¬ new q) (hout:∀ p,¬ new p→F' p=C.F p) (hin:∀ p b,new p→F' p b→C.w.heap.size≤b∧b<w'.heap.size)
  (hd:∀ p q b,new p→new q→F' p b→F' q b→p=q):Rel w0 L { C with w:=w',F:=F' }:=by
 have cases':∀ p b,F' p b→(C.F p b∧¬ new p)∨(new p∧C.w.heap.size≤b∧b<w'.heap.size):=by
  intro p b h
  by_cases hn:new p
  ·exact .inr ⟨hn,hin p b hn h⟩
  ·rw [hout p hn] at h; exact .inl ⟨h,hn⟩
 have blk:∀ t ds,C.live t ds→(C.loc t).1<C.w.heap.size:=by
  intro t ds hl
  obtain ⟨cs,e,fr,a1,_⟩:=(R.cell t ds hl).out
  exact (Array.getElem?_eq_some_iff.1 a1).1
 have hcv:∀ q,C.E.leaf q ≠ .dead→Ctx.cv { C with w:=w',F:=F' } q=C.cv q:=by
  rintro ⟨c,t',k⟩ hn
  cases c with
  | false=>rfl
  | true =>
   obtain ⟨ds,hl⟩:=Rel.liveOf (w0:=w0) (L:=L) hn
   show (w'.cell? _).getD undef=(C.w.cell? _).getD undef
   simp only [World.cell?,x.kept _ (blk t' ds hl)]
 have s:Same C { C with w:=w',F:=F' } (fun q=>q) (fun _=>False) (fun _=>False):=by
  refine ⟨rfl,fun b hb hl=>⟨?_,x.kept b hl⟩,?_,?_,fun _ h=>h⟩
  ·rintro (⟨p,hp⟩ | ⟨t',ds',hl',hb'⟩)
   ·rcases cases' p b hp with h | h
    ·exact hb (.inl ⟨p,h.1⟩)
    ·omega
   ·exact hb (.inr ⟨t',ds',hl',hb'⟩)
  ·intro q e xs _ hl
   exact ⟨xs,hl,rfl,hcv q (by rw [hl]; simp),fun i j e' ys hg=>⟨hg,fun b o n cap v _ hv=>x.cell hv⟩⟩
  ·intro t' ds _ hl
   exact ⟨ds,hl,rfl,rfl⟩
 have go1:∀ p d' v,C.E.leaf p=d'→LRel C p d' v→LRel { C with w:=w',F:=F' } p d' v:=by
  intro p d' v' hp hv
  by_cases ho:d'.isOwn=true
  ·cases d'<;>simp [D.isOwn] at ho
   cases hv with
   | own _ _ _ h=>exact .own _ _ _ _ (h.mono (fun b hb=>by show F' p b; rw [hout p (hno p _ _ hp)]; exact hb) (fun b _ hb=>x.kept b hb))
  ·have:=LRel.same s hv p (by simpa using ho) ⟨fun q h=>by simp,fun t ht=>by simp⟩
   rwa [D.re_id] at this
 refine ⟨R.tmps,R.defers,?_,?_,?_,R.cdisj,?_,?_,?_,R.clent,R.frame.ext x,R.mnew,R.mL,R.glob⟩
 ·intro t d hd
  have hs:=R.slot t d hd
  exact hs.tr' fun k x v hx hv=>go1 _ _ _ (hs.at hd k x hx) hv
 ·intro t ds hl
  obtain ⟨cs,e,fr,a1,a2,a3,a4⟩:=(R.cell t ds hl).out
  refine ⟨cs,e,fr,(x.kept _ (blk t ds hl)).trans a1,a2,a3,?_⟩
  intro i d hd
  obtain ⟨b1,b2,b3⟩:=a4 i d hd
  exact ⟨b1,b2,go1 _ _ _ (by rw [leaf_cell _ _ _ _ hl]; exact getD_some hd) b3⟩
 ·intro p q b h1 h2
  rcases cases' p b h1 with a | a
  ·rcases cases' q b h2 with c | c
   ·exact R.disj p q b a.1 c.1
   ·have:=R.fbound p b a.1; omega
  ·rcases cases' q b h2 with c | c
   ·have:=R.fbound q b c.1; omega
   ·exact hd p q b a.1 c.1 h1 h2
 ·intro t ds p hl hp
  rcases cases' p _ hp with a | a
  ·exact R.fcd t ds p hl a.1
  ·have:=blk t ds hl
   have h2:C.w.heap.size≤(C.loc t).1:=a.2.1
   omega
 ·intro p b hp
  rcases cases' p b hp with a | a
  ·exact Nat.lt_of_lt_of_le (R.fbound p b a.1) x.size
  ·exact a.2.2
 ·intro p b hp hb
  rcases cases' p b hp with a | a
  ·exact R.flent p b a.1 hb
  ·have:=R.frame.size; omega
theorem Rel.put1 {w0:World} {L:Nat→Nat→Prop} {C:Ctx} (R:Rel w0 L C) (t:Nat) (d:D) (v:Value) (hno:(C.E.sl.getD t .dead).anyOwn=false) (h:SRel C t d v) :
  Rel w0 L { C with E:={ C.E with sl:=C.E.sl.set t d },a:=C.a.put (some t) v }:=by
 have hnot:=notOwn_inS hno
 have hleaf:∀ q,¬ inS t q→({ C.E with sl:=C.E.sl.set t d }:Env).leaf q=C.E.leaf q:=by
  rintro ⟨c,t',k⟩ hq
  cases c with
  | true=>rfl
  | false =>
   have hne:t≠t':=fun h=>hq ⟨rfl,h.symm⟩
   show ((C.E.sl.set t d).getD t' .dead).leafOf k=(C.E.sl.getD t' .dead).leafOf k
   rw [gDg,List.getElem?_set_ne hne,←gDg]
 have htm:∀ t',t'≠t→(C.a.put (some t) v).tmps.getD t' undef=C.a.tmps.getD t' undef:=by
  intro t' hne
  simp only [Act.put]
  rw [Array.getD_eq_getD_getElem?,Array.getD_eq_getD_getElem?,Array.getElem?_setIfInBounds_ne (fun h=>hne h.symm)]
 have s:Same C { C with E:={ C.E with sl:=C.E.sl.set t d },a:=C.a.put (some t) v } (fun q=>q) (fun _=>False) (fun _=>False):=by
  refine ⟨rfl,fun b hb hl=>⟨hb,rfl⟩,?_,?_,fun _ h=>h⟩
  ·intro q e xs _ hl
   have hq:=hnot q e xs hl
   refine ⟨xs,by rw [hleaf q hq]; exact hl,rfl,?_,fun i j e' ys hg=>⟨hg,fun b o n cap v _ hv=>hv⟩⟩
   obtain ⟨c,t',k⟩:=q
   cases c with
   | true=>rfl
   | false =>
    show vleafOf ((C.a.put (some t) v).tmps.getD t' undef) k=vleafOf (C.a.tmps.getD t' undef) k
    rw [htm t' (fun h=>hq ⟨rfl,h⟩)]
  ·intro t' ds _ hl
   exact ⟨ds,hl,rfl,rfl⟩
 have go1:∀ p d' v',LRel C p d' v'→LRel { C with E:={ C.E with sl:=C.E.sl.set t d },a:=C.a.put (some t) v } p d' v':=by
  intro p d' v' hv
  by_cases ho:d'.isOwn=true
  ·cases d'<;>simp [D.isOwn] at ho
   cases hv with
   | own _ _ _ h=>exact .own _ _ _ _ h
  ·have:=LRel.same s hv p (by simpa using ho) ⟨fun q h=>by simp,fun t ht=>by simp⟩
   rwa [D.re_id] at this
 refine ⟨?_,R.defers,?_,?_,R.disj,R.cdisj,R.fcd,R.fbound,R.flent,R.clent,R.frame,R.mnew,R.mL,R.glob⟩
 ·show (C.a.tmps.setIfInBounds t v).size=(C.E.sl.set t d).length
  rw [Array.size_setIfInBounds,List.length_set]; exact R.tmps
 ·intro t' d' hd'
  have hd':(C.E.sl.set t d)[t']? = some d':=hd'
  by_cases hne:t'=t
  ·subst hne
   have hlt:t'<C.E.sl.length:=by have:=(gSm hd').1; simpa using this
   rw [List.getElem?_set_self hlt] at hd'
   injection hd' with hd'
   subst hd'
   have:(C.a.put (some t') v).tmps.getD t' undef=v:=by
    simp only [Act.put]
    rw [Array.getD_eq_getD_getElem?,Array.getElem?_setIfInBounds_self_of_lt (by rw [R.tmps]; exact hlt)]
    rfl
   show SRel _ t' d ((C.a.put (some t') v).tmps.getD t' undef)
   rw [this]
   exact h.tr' fun k x v _ hv=>go1 _ _ _ hv
  ·rw [List.getElem?_set_ne (fun h=>hne h.symm)] at hd'
   show SRel _ t' d' ((C.a.put (some t) v).tmps.getD t' undef)
   rw [htm t' hne]
   exact (R.slot t' d' hd').tr' fun k x v _ hv=>go1 _ _ _ hv
 ·intro t' ds hl
  obtain ⟨cs,e,fr,a1,a2,a3,a4⟩:=(R.cell t' ds hl).out
  refine ⟨cs,e,fr,a1,a2,a3,?_⟩
  intro i d' hd'
  obtain ⟨b1,b2,b3⟩:=a4 i d' hd'
  exact ⟨b1,b2,go1 _ _ _ b3⟩
theorem deadMap (f:Nat→D→D) (hf:∀ k x,f k x = .dead) (d:D):(d.mapP f).anyOwn=false:=by
 have hlv:∀ (ds:List D) (k:Nat),(mapLv f k ds).any D.isOwn=false:=by
  intro ds
  induction ds with
  | nil=>intro k; rfl
  | cons d ds ih=>intro k; simp only [mapLv,List.any_cons,hf,ih]; rfl
 have h1:∀ (c:D) (k:Nat),(c.mapP1 f k).leaves1.any D.isOwn=false:=by
  intro c k
  cases c<;>simp only [D.mapP1,hf]<;>first | rfl | exact hlv _ _
 have hcs:∀ (cs:List D) (k:Nat),(mapCs f k cs).any (fun c=>c.leaves1.any D.isOwn)=false:=by
  intro cs
  induction cs with
  | nil=>intro k; rfl
  | cons c cs ih=>intro k; simp only [mapCs,List.any_cons,h1,ih]; rfl
 by_cases ht:d.isTup=true
 ·obtain ⟨cs,rfl⟩:=tup_of ht
  exact hcs cs 0
 ·have ht':d.isTup=false:=by simpa using ht
  rw [mapP_of ht']
  have h2:(d.mapP1 f 0).isTup=false:=by cases d<;>simp only [D.mapP1,hf]<;>first | rfl | simp [D.isTup] at ht'
  have:(d.mapP1 f 0).comps=[d.mapP1 f 0]:=by revert h2; cases d.mapP1 f 0<;>simp [D.isTup,D.comps]
  simp only [D.anyOwn,this,List.any_cons,h1]
  rfl
theorem killS_anyOwn (E:Env) (t:Nat):((E.killS t).sl.getD t .dead).anyOwn=false:=by
 simp only [Env.killS,Env.kill,Env.mapP]
 rw [gDg,mapSl_get]
 cases E.sl[t]? with
 | none=>rfl
 | some d =>
  simp only [Option.map_some,Option.getD_some]
  refine deadMap _ ?_ d
  intro k x
  cases x<;>simp [lf1]
theorem LRel.kill {w0:World} {L:Nat→Nat→Prop} {C:Ctx} (R:Rel w0 L C) (b:Lf→Bool) {p:Lf} {d:D} {v:Value} (h:LRel C p d v) (ho:d.isOwn=false) :
  LRel { C with E:=C.E.kill b } p (killB b d) v:=by
 have hg:∀ (p:Lf) (d:D),d.leafy=true→(if b p then D.dead else killB b d).leafy=true:=by
  intro p d h; split
  ·rfl
  ·exact killB_leafy b d h
 have s:=Same.ofMap R (fun p d=>if b p then D.dead else killB b d) C.F hg (fun p b h=>⟨p,h⟩) (fun q=>q) (fun q=>b q=true) (by
  intro q e xs hq hl
  rw [hl]
  have:b q=false:=by simpa using hq
  simp [lf1,this,killB])
 rcases killB_cases b d with h' | ⟨h',hq⟩
 ·rw [h']; exact .dead _ _
 ·rw [h']
  have:=LRel.same s h p ho ⟨fun q h=>by simp [hq q h],fun t ht=>by simp⟩
  rwa [D.re_id] at this
theorem Rel.wr0 {w0:World} {L:Nat→Nat→Prop} {C:Ctx} (R:Rel w0 L C) {w':World} (x:Ext C.w w') (t:Nat) (d:D) (v:Value) (hd:d.anyOwn=false)
  (h:SRel { C with w:=w' } t d v) :
  Rel w0 L { C with E:=C.E.app1 (if (C.E.sl.getD t .dead).anyOwn then .ks t d else .s t d),a:=C.a.put (some t) v,w:=w' }:=by
 have R1:Rel w0 L { C with w:=w' }:=R.ext x C.F (fun _=>False) (fun _ _ _ _ h=>h) (fun _ _=>rfl) (fun _ _ h=>h.elim) (fun _ _ _ h=>h.elim)
 by_cases ho:(C.E.sl.getD t .dead).anyOwn=true
 ·rw [if_pos ho]
  have R2:=R1.kill (fun p => !p.c&&p.t==t)
  refine R2.put1 t _ v (killS_anyOwn C.E t) ?_
  refine h.tr _ (fun _ d h=>killB_leafy _ d h) (fun _=>rfl) ?_
  intro k x' v' hx hv
  exact LRel.kill R1 _ hv (anyOwn_at hx hd)
 ·rw [if_neg ho]
  exact R1.put1 t d v (by simpa using ho) h
theorem Rel.wr1 {w0:World} {L:Nat→Nat→Prop} {C:Ctx} (R:Rel w0 L C) {w':World} (x:Ext C.w w') (t:Nat) (e:TypeId) (xs:List (List T)) (v:Value) (G:Nat→Prop)
  (hG:∀ b,G b→C.w.heap.size≤b∧b<w'.heap.size) (h:OwnT C.P w' (.sl e xs) v G) :
  ∃ F',Rel w0 L { C with E:=C.E.app1 (if (C.E.sl.getD t .dead).anyOwn then .ks t (.own e xs) else .s t (.own e xs)),a:=C.a.put (some t) v,w:=w',F:=F' }:=by
 have one:one v=true:=by cases h<;>rfl
 have main:∀ C1:Ctx,Rel w0 L C1→C1.P=C.P→C1.w=C.w→(C1.E.sl.getD t .dead).anyOwn=false→∃ F',Rel w0 L { C1 with E:={ C1.E with sl:=C1.E.sl.set t (.own e xs) },a:=C1.a.put (some t) v,w:=w',F:=F' }:=by
  intro C1 R1 hP hw hno
  refine ⟨fun p=>if p.c=false∧p.t=t then (fun b=>p.k=0∧G b) else C1.F p,?_⟩
  have R2:Rel w0 L { C1 with w:=w',F:=fun p=>if p.c=false∧p.t=t then (fun b=>p.k=0∧G b) else C1.F p }:=by
   refine R1.ext (by rw [hw]; exact x) _ (inS t) (notOwn_inS hno) ?_ ?_ ?_
   ·intro p hp; exact if_neg hp
   ·intro p b hp hb
    have hb:(if p.c=false∧p.t=t then (fun b=>p.k=0∧G b) else C1.F p) b:=hb
    rw [if_pos (show p.c=false∧p.t=t from hp)] at hb
    rw [hw]; exact hG b hb.2
   ·intro p q b hp hq h1 h2
    have h1:(if p.c=false∧p.t=t then (fun b=>p.k=0∧G b) else C1.F p) b:=h1
    have h2:(if q.c=false∧q.t=t then (fun b=>q.k=0∧G b) else C1.F q) b:=h2
    rw [if_pos (show p.c=false∧p.t=t from hp)] at h1
    rw [if_pos (show q.c=false∧q.t=t from hq)] at h2
    have e1:p.k=0:=h1.1
    have e2:q.k=0:=h2.1
    have e3:p.c=q.c:=hp.1.trans hq.1.symm
    have e4:p.t=q.t:=hp.2.trans hq.2.symm
    cases p; cases q
    simp only at e1 e2 e3 e4
    rw [e1,e2,e3,e4]
  refine R2.put1 t _ v hno (.comp _ _ rfl (.leaf _ _ _ rfl one (.own _ _ _ _ ?_)))
  show OwnT C1.P w' _ v (if false=false∧t=t then (fun b=>0=0∧G b) else C1.F ⟨false,t,0⟩)
  rw [if_pos ⟨rfl,rfl⟩,hP]
  exact h.mono (fun b hb=>⟨rfl,hb⟩) (fun _ _ _=>rfl)
 by_cases ho:(C.E.sl.getD t .dead).anyOwn=true
 ·rw [if_pos ho]
  exact main _ (R.kill (fun p => !p.c&&p.t==t)) rfl rfl (killS_anyOwn C.E t)
 ·rw [if_neg ho]
  exact main C R rfl rfl (by simpa using ho)
def lentOf (E:Env) (F:Lf→Nat→Prop) (loc:Nat→Nat × Nat) (b o:Nat):Prop :=
 (∃ p,F p b)∨∃ t ds,E.ce[t]? = some (some ds)∧(loc t).1=b∧(loc t).2≤o∧o<(loc t).2+ds.length
def Runs (P:Program) (f:FuncId) (args:Array Value) (w:World) (Rt:Value→World→Prop):Prop :=
 ((callFunc f args).run P w = .ok (.enter f args) w∧Calls P f args w fun e w'=>∃ v,e = .returned v∧Rt v w')∨∃ v w',(callFunc f args).run P w = .ok (.value v) w'∧Rt v w'
def Sem (P:Program) (f:FuncId) (Ein Eout:Env):Prop :=
 ∀ (w:World) (a:Act) (F:Lf→Nat→Prop) (loc:Nat→Nat × Nat) (M:Nat→Prop),Rel w (lentOf Ein F loc) ⟨P,Ein,a,w,F,loc,M⟩ →
  Runs P f a.tmps w fun v w'=>∃ F' loc',(∀ t,t<Ein.sl.length→loc' t=loc t) ∧
   Rel w (lentOf Ein F loc) ⟨P,Eout,{ tmps:=a.tmps.push v,defers:=[] },w',F',loc',M⟩
def VRel (C:Ctx) (d:D) (v:Value):Prop:=d.anyOwn=false∧∀ t,SRel C t d v
theorem VRel.leaf {C:Ctx} {d:D} {v:Value} (h1:d.leafy=true) (h2:one v=true) (h3:d.isOwn=false) (h:∀ p,LRel C p d v):VRel C d v:=by
 refine ⟨?_,fun t => .comp _ _ (by cases d<;>first | rfl | simp [D.leafy] at h1) (.leaf _ _ _ h1 h2 (h _))⟩
 have e1:d.comps=[d]:=by cases d<;>first | rfl | simp [D.leafy] at h1
 simp [D.anyOwn,e1,leafy_leaves1 h1,h3]
theorem VRel.v {C:Ctx} {x:Value} (h:scal x=true):VRel C (.v x) x :=
 .leaf rfl (by cases x<;>first | rfl | simp [scal] at h) rfl fun p => .v _ _ h
theorem VRel.dead {C:Ctx} (v:Value):VRel C .dead v:=⟨rfl,fun t => .comp _ _ rfl (.dead _ _)⟩
theorem VRel.agg {C:Ctx} {ds:List D} {vs:Array Value} (h1:ds.length=vs.size) (h2:ds.length≤64)
  (h:∀ (i:Nat) (d:D),ds[i]? = some d→d.leafy=true∧d.isOwn=false∧one (vs.getD i undef)=true∧∀ p,LRel C p d (vs.getD i undef)):VRel C (.agg ds) (.agg vs):=by
 refine ⟨?_,fun t => .comp _ _ rfl (.agg _ _ _ h1 h2 fun i d hd=>⟨(h i d hd).1,(h i d hd).2.2.1,(h i d hd).2.2.2 _⟩)⟩
 have e:(D.agg ds).anyOwn=ds.any D.isOwn:=by simp [D.anyOwn,D.comps,D.leaves1]
 rw [e]
 by_cases hh:ds.any D.isOwn=true
 ·rw [List.any_eq_true] at hh
  obtain ⟨x,hx,ho⟩:=hh
  obtain ⟨i,hi,rfl⟩:=List.mem_iff_getElem.1 hx
  rw [(h i _ (gEg hi)).2.1] at ho
  cases ho
 ·simpa using hh
theorem constLeaf_cases (x:Value) (hx:one x=true):(constLeaf x).leafy=true∧(constLeaf x).isOwn=false∧∀ (C:Ctx) p,LRel C p (constLeaf x) x:=by
 unfold constLeaf
 split
 ·exact ⟨rfl,rfl,fun C p => .nil _⟩
 ·split
  ·rename_i h; exact ⟨rfl,rfl,fun C p => .v _ _ h⟩
  ·exact ⟨rfl,rfl,fun C p => .dead _ _⟩
theorem constD_rel (C:Ctx) (v:Value):VRel C (constD v) v:=by
 unfold constD
 split
 ·rename_i cs
  split
  ·rename_i h
   simp only [Bool.and_eq_true,List.all_eq_true,decide_eq_true_eq] at h
   refine .agg (by simp) (by simpa using h.2) ?_
   intro i d hd
   rw [List.getElem?_map] at hd
   cases hx:cs.toList[i]? with
   | none=>rw [hx] at hd; simp at hd
   | some x =>
    rw [hx] at hd
    have:d=constLeaf x:=by simpa using hd.symm
    subst this
    have hg:cs.getD i undef=x:=by rw [←arr_list_getD]; exact getD_some hx
    have h1:=h.1 x (List.mem_of_getElem? hx)
    obtain ⟨a1,a2,a3⟩:=constLeaf_cases x h1
    rw [hg]
    exact ⟨a1,a2,h1,fun p=>a3 C p⟩
  ·exact .dead _
 ·rename_i h
  by_cases h1:one v=true
  ·obtain ⟨a1,a2,a3⟩:=constLeaf_cases v h1
   exact .leaf a1 h1 a2 fun p=>a3 C p
  ·have:constLeaf v = .dead:=by
    cases v<;>simp [one] at h1<;>simp [constLeaf,scal]
   rw [this]; exact .dead _
theorem mvLeaf_cases (p:Lf) (d:D):(mvLeaf p d=d∧d.isOwn=false)∨(∃ e xs,d = .own e xs∧mvLeaf p d = .ali p):=by
 cases d<;>first | exact .inl ⟨rfl,rfl⟩ | exact .inr ⟨_,_,rfl,rfl⟩
theorem LRel.any {C:Ctx} {p:Lf} {d:D} {v:Value} (h:LRel C p d v) (ho:d.isOwn=false) (p':Lf):LRel C p' d v:=by
 cases h with
 | own=>simp [D.isOwn] at ho
 | dead=>exact .dead _ _
 | v=>exact .v _ _ (by assumption)
 | nil=>exact .nil _
 | imm=>exact .imm _ _ _ _ (by assumption)
 | ali=>exact .ali _ _ _ _ (by assumption)
 | sub=>exact .sub _ _ _ _ _ _ (by assumption) (by assumption) (by assumption) (by assumption)
 | ela=>exact .ela _ _ _ _ _ _ _ _ _ _ _ _ _ (by assumption) (by assumption) (by assumption) (by assumption)
 | cref=>exact .cref _ _ _ _ (by assumption) (by assumption)
 | eref=>exact .eref _ _ _ _ _ _ _ _ _ _ (by assumption) (by assumption) (by assumption)
 | rptr ds b o cs ce fr X h1 h2 h3 h4 h5 =>
  refine .rptr _ _ _ _ _ _ _ X h1 h2 h3 h4 fun i d hd => ?_
  have:=h4 i d hd
  have h:=h5 i d hd
  generalize X i=xi at h
  cases d<;>simp [D.pure] at this
  ·cases h with | v _ h=>exact .v _ _ h
  ·cases h with | nil=>exact .nil _
  ·cases h with | imm _ _ _ h=>exact .imm _ _ _ _ h
 | clo f ds vs h1 h2 h3 =>
  refine .clo _ _ _ _ h1 h2 fun i d hd => ?_
  have:=h2 i d hd
  have h:=h3 i d hd
  generalize vs.getD i undef=vi at h
  cases d<;>simp [D.capt] at this
  ·cases h with | v _ h=>exact .v _ _ h
  ·cases h with | nil=>exact .nil _
  ·cases h with | imm _ _ _ h=>exact .imm _ _ _ _ h
  ·cases h with | cref _ _ _ h1 h2=>exact .cref _ _ _ _ h1 h2
  ·cases h with
   | rptr ds b o cs ce fr X h1 h2 h3 h4 h5 =>
    refine .rptr _ _ _ _ _ _ _ X h1 h2 h3 h4 fun i d hd => ?_
    have:=h4 i d hd
    have h:=h5 i d hd
    generalize X i=xi at h
    cases d<;>simp [D.pure] at this
    ·cases h with | v _ h=>exact .v _ _ h
    ·cases h with | nil=>exact .nil _
    ·cases h with | imm _ _ _ h=>exact .imm _ _ _ _ h
theorem mvLeaf_rel {C:Ctx} {p:Lf} {d:D} (hl:C.E.leaf p=d) (h:LRel C p d (C.cv p)):(mvLeaf p d).isOwn=false∧∀ p',LRel C p' (mvLeaf p d) (C.cv p):=by
 rcases mvLeaf_cases p d with ⟨h1,h2⟩ | ⟨e,xs,rfl,h2⟩
 ·rw [h1]; exact ⟨h2,fun p'=>h.any h2 p'⟩
 ·rw [h2]; exact ⟨rfl,fun p' => .ali p' p e xs hl⟩
theorem mvLeaf_leafy {p:Lf} {d:D} (h:d.leafy=true):(mvLeaf p d).leafy=true:=by
 rcases mvLeaf_cases p d with ⟨h1,h2⟩ | ⟨e,xs,rfl,h2⟩
 ·rw [h1]; exact h
 ·rw [h2]; rfl
theorem mvList_get (c:Bool) (t:Nat):∀ (ds:List D) (k i:Nat),(mvList c t k ds)[i]? = (ds[i]?).map (mvLeaf ⟨c,t,k+i⟩)
 | [],k,i=>by simp [mvList]
 | d::ds,k,0=>by simp [mvList]
 | d::ds,k,i+1=>by
  simp only [mvList,List.getElem?_cons_succ]
  rw [mvList_get c t ds (k+1) i]
  congr 2; rw [Nat.add_assoc,Nat.add_comm 1 i]
theorem mvList_length (c:Bool) (t:Nat):∀ (ds:List D) (k:Nat),(mvList c t k ds).length=ds.length
 | [],_=>rfl
 | d::ds,k=>by simp [mvList,mvList_length c t ds]
theorem mvComp_rel {C:Ctx} {t k:Nat} {d:D} {v:Value} (h:CRel C t k d v) (hcv:∀ j,j<64→C.cv ⟨false,t,k+j⟩=(vleaves1 v).getD j undef)
  (hl:∀ j x,j<64→d.leaves1[j]? = some x→C.E.leaf ⟨false,t,k+j⟩=x):VRel C (mvComp t k d) v:=by
 cases h with
 | dead=>exact .dead _
 | agg ds vs h1 h2 h =>
  simp only [mvComp]
  refine .agg (by rw [mvList_length]; exact h1) (by rw [mvList_length]; exact h2) ?_
  intro i d' hd'
  rw [mvList_get] at hd'
  cases hx:ds[i]? with
  | none=>rw [hx] at hd'; simp at hd'
  | some x =>
   rw [hx] at hd'
   have:d'=mvLeaf ⟨false,t,k+i⟩ x:=by simpa using hd'.symm
   subst this
   obtain ⟨a1,a2,a3⟩:=h i x hx
   have hi:i<64:=by have:=(gSm hx).1; omega
   have e:=hcv i hi
   simp only [vleaves1] at e
   rw [arr_list_getD] at e
   rw [←e] at a3 a2 ⊢
   obtain ⟨b1,b2⟩:=mvLeaf_rel (hl i x hi (by simpa [D.leaves1] using hx)) a3
   exact ⟨mvLeaf_leafy a1,b1,a2,b2⟩
 | leaf _ _ ha hb hc =>
  have e1:mvComp t k d=mvLeaf ⟨false,t,k⟩ d:=by cases d<;>first | rfl | simp [D.leafy] at ha
  have e2:vleaves1 v=[v]:=by cases v<;>first | rfl | simp [one] at hb
  have e:=hcv 0 (by omega)
  rw [e2] at e
  have e:C.cv ⟨false,t,k⟩=v:=by simpa using e
  rw [e1,←e]
  rw [←e] at hb hc
  obtain ⟨b1,b2⟩:=mvLeaf_rel (hl 0 d (by omega) (by rw [leafy_leaves1 ha]; rfl)) hc
  exact .leaf (mvLeaf_leafy ha) hb b1 b2
theorem asMove_rel {w0:World} {L:Nat→Nat→Prop} {C:Ctx} (R:Rel w0 L C) (t:Nat) (ht:(C.E.sl.getD t .dead).isTup=false):VRel C (asMove t (C.E.sl.getD t .dead)) (C.a.tmps.getD t undef):=by
 cases h:C.E.sl[t]? with
 | none =>
  have:C.E.sl.getD t .dead = .dead:=by rw [gDg,h]; rfl
  rw [this]; exact .dead _
 | some d =>
  rw [getD_some h] at ht ⊢
  have hs:=R.slot t d h
  generalize hv:C.a.tmps.getD t undef=v at hs
  cases hs with
  | tup=>simp [D.isTup] at ht
  | comp _ _ _ hc =>
   by_cases hdd:d = .dead
   ·subst hdd; exact .dead _
   ·refine mvComp_rel hc (fun j hj=>cv_comp hv (hc.notTuple hdd) j hj) fun j x hj hx => ?_
    rw [leaf_slot _ _ _ _ h]
    exact (At.comp d (0+j) x ht (by omega) (by simpa using hx)).leafOf
theorem opdR_wp {w0:World} {L:Nat→Nat→Prop} {C:Ctx} (R:Rel w0 L C) {α:Type} {x:Operand} {k:D→Rdr α} {Q:α→Prop} (h:(opdR x k).wp C.E Q) :
  ∃ d,(k d).wp C.E Q∧(d.isTup=false→VRel C d (C.a.eval x)):=by
 cases x with
 | tmp t =>
  refine ⟨_,h,fun ht => ?_⟩
  refine asMove_rel R t ?_
  have:∀ d:D,(asMove t d).isTup=d.isTup:=by
   intro d
   cases d<;>first | rfl
  rw [this] at ht; exact ht
 | const v=>exact ⟨_,h,fun _=>constD_rel C v⟩
 | func f =>
  refine ⟨_,h,fun _ => .leaf rfl rfl rfl fun p => ?_⟩
  exact .clo p f [] #[] rfl (fun i d hd=>by simp at hd) (fun i d hd=>by simp at hd)
 | global g=>exact h.elim
def fldOk (P:Program) (t:TypeId):Bool :=
 match P.underlying t,P.info? t with
 | some (.struct _),some j=>j.size != 1
 | some (.array _ _),_=>false
 | some _,some j=>j.size==1
 | _,_=>false
def KOk (P:Program) (t:TypeId) (i:TI):Prop :=
 match i.k with
 | .int k=>P.underlying t=some (.int k)
 | .bool=>P.underlying t=some .bool
 | .str=>P.underlying t=some .string
 | .ptr e=>P.underlying t=some (.pointer e)
 | .slice e=>P.underlying t=some (.slice e)∧(∃ j,P.info? e=some j)∧e≠mapE
 | .struct=>∃ fs,P.underlying t=some (.struct fs)∧(∀ y,y∈fs.toList→(P.info? y.type).isSome=true∧fldOk P y.type=true) ∧
   ∀ f off,i.fields[f]? = some off→∃ x,fs[f]? = some x∧x.offset=off∧∃ j,P.info? x.type=some j∧j.size≠0∧j.size=i.fsize f
 | .map k e=>P.underlying t=some (.map k e)
 | .other=>∃ d,P.underlying t=some d∧(match d with | .struct _ | .array _ _=>False | _=>True)
def EqC (P:Program) (t:TypeId) (n:Nat):Prop :=
 ∃ fs,P.underlying t=some (.struct fs)∧P.stoodInHeld t=false∧P.eqGuardType P.depth t=false∧fs.size=n∧∀ (i:Nat) (f:Field),fs[i]? = some f→f.name ≠ "_" ∧ f.offset=i∧P.underlying f.type=some .string
structure TIok (P:Program) (t:TypeId) (i:TI):Prop where
 k:KOk P t i
 info:∃ j z,P.info? t=some j∧j.size=i.size∧j.bytes=i.bytes∧j.zero=some z∧z.cells.size=i.size∧i.zero=z.cells.toList.map constLeaf∧z.cells.toList.all one=true
 flat:flatB i.les=flatP P t
 les:i.les.length=i.size
 nag:i.k.isStruct=false→i.size=1
 small:i.size≤64
 ne:t≠mapE
 zone:i.k.isStruct=false→∀ j z,P.info? t=some j→j.zero=some z→one z=true
 eq:i.strS=true→EqC P t i.size
theorem zone_of {P:Program} {t:TypeId} {j0:TypeInfo} {z0:Value} (e:P.info? t=some j0) (ez:j0.zero=some z0) (h:one z0=true):∀ j z,P.info? t=some j→j.zero=some z→one z=true:=by
 intro j z h1 h2
 rw [e] at h1
 cases h1
 rw [ez] at h2
 cases h2
 exact h
def TabOk (P:Program) (tb:Tab):Prop:=∀ t i,tb t=some i→TIok P t i
def Done (P:Program) (K:Env→Prop) (E:Env):Stp→Prop
 | .done ws=>K (E.app ws)
 | .call f Ein k=>∃ Eout,Sem P f Ein Eout∧∃ ws,k Eout=some ws∧K (E.app ws)
def Nxt (w0:World) (L:Nat→Nat→Prop) (np:Nat) (C:Ctx) (K:Env→Prop) (next:Act→World→Prop):Prop :=
 ∀ C',Rel w0 L C'→(C'.P,C'.M)=(C.P,C.M)→(∀ t,t<np→C'.loc t=C.loc t)→K C'.E→next C'.a C'.w
section inv
variable {C:Ctx}
theorem VRel.lf {d:D} {v:Value} (h:VRel C d v) (hd:d.leafy=true) (hn:d ≠ .dead):LRel C ⟨false,0,0⟩ d v∧one v=true:=by
 have:=h.2 0
 cases this with
 | tup=>simp [D.leafy] at hd
 | comp _ _ _ hc =>
  cases hc with
  | dead=>exact absurd rfl hn
  | agg=>simp [D.leafy] at hd
  | leaf _ _ a b c=>exact ⟨c,b⟩
theorem VRel.v_inv {x v:Value} (h:VRel C (.v x) v):v=x∧scal x=true:=by
 have:=(h.lf rfl (by simp)).1
 cases this with | v _ h'=>exact ⟨rfl,h'⟩
theorem VRel.nil_inv {v:Value} (h:VRel C .nil v):v = .slice none 0 0:=by
 have:=(h.lf rfl (by simp)).1
 cases this; rfl
theorem VRel.agg_inv {ds:List D} {v:Value} (h:VRel C (.agg ds) v) :
  ∃ vs:Array Value,v = .agg vs∧ds.length=vs.size∧ds.length≤64∧∀ (i:Nat) (d:D),ds[i]? = some d→d.leafy=true∧d.isOwn=false∧one (vs.getD i undef)=true∧∀ p,LRel C p d (vs.getD i undef):=by
 have h1:=h.1
 have e:(D.agg ds).anyOwn=ds.any D.isOwn:=by simp [D.anyOwn,D.comps,D.leaves1]
 rw [e] at h1
 have:=h.2 0
 cases this with
 | comp _ _ _ hc =>
  cases hc with
  | agg _ vs a b c =>
   refine ⟨vs,rfl,a,b,fun i d hd => ?_⟩
   obtain ⟨c1,c2,c3⟩:=c i d hd
   have ho:d.isOwn=false:=by
    rw [List.any_eq_false] at h1
    have:=h1 d (List.mem_of_getElem? hd)
    simpa using this
   exact ⟨c1,ho,c2,fun p=>c3.any ho p⟩
  | leaf _ _ a=>simp [D.leafy] at a
end inv
theorem Rel.drew {w0:World} {L:Nat→Nat→Prop} {C:Ctx} (R:Rel w0 L C) {w':World} (x:Ext C.w w'):Rel w0 L { C with w:=w' } :=
 R.ext x C.F (fun _=>False) (fun _ _ _ _ h=>h) (fun _ _=>rfl) (fun _ _ h=>h.elim) (fun _ _ _ h=>h.elim)
theorem wrS_done {w0:World} {L:Nat→Nat→Prop} {C:Ctx} (R:Rel w0 L C) {np:Nat} {K:Env→Prop} {next:Act→World→Prop} (hn:Nxt w0 L np C K next)
  {dst:Option Tmp} {d:D} {v:Value} {w':World} (x:Ext C.w w') (h:(wrS dst d).wp C.E (Done C.P K C.E)) (hv:VRel { C with w:=w' } d v):next (C.a.put dst v) w':=by
 cases dst with
 | none =>
  simp only [wrS,Rdr.wp,Done,Env.app] at h
  exact hn _ (R.drew x) rfl (fun _ _=>rfl) h
 | some t =>
  simp only [wrS,Rdr.wp,Done,Env.app] at h
  exact hn _ (R.wr0 x t d v hv.1 (hv.2 t)) rfl (fun _ _=>rfl) h
theorem wrS_own {w0:World} {L:Nat→Nat→Prop} {C:Ctx} (R:Rel w0 L C) {np:Nat} {K:Env→Prop} {next:Act→World→Prop} (hn:Nxt w0 L np C K next)
  {dst:Option Tmp} {e:TypeId} {xs:List (List T)} {v:Value} {w':World} (x:Ext C.w w') (h:(wrS dst (.own e xs)).wp C.E (Done C.P K C.E))
  {G:Nat→Prop} (hG:∀ b,G b→C.w.heap.size≤b∧b<w'.heap.size) (ho:OwnT C.P w' (.sl e xs) v G):next (C.a.put dst v) w':=by
 cases dst with
 | none =>
  simp only [wrS,Rdr.wp,Done,Env.app] at h
  exact hn _ (R.drew x) rfl (fun _ _=>rfl) h
 | some t =>
  simp only [wrS,Rdr.wp,Done,Env.app] at h
  obtain ⟨F',R'⟩:=R.wr1 x t e xs v G hG ho
  exact hn _ R' rfl (fun _ _=>rfl) h
theorem wp_value {P:Program} {o:Oper} {a:Act} {w w':World} {next:Act→World→Prop} {Q:Exit→Act→World→Prop} {v:Value}
  (h:(execOp a.eval o).run P w = .ok (.value v) w') (hn:next (a.put o.dst v) w'):o.wp P a w next Q:=by
 unfold Oper.wp; rw [h]; exact hn
theorem leafR_wp {α:Type} {E:Env} {p:Lf} {k:D→Rdr α} {Q:α→Prop}:(leafR p k).wp E Q↔(k (E.leaf p)).wp E Q:=by
 unfold leafR Env.leaf
 cases p.c<;>simp [Rdr.wp]
theorem rowsR_wp {w0:World} {L:Nat→Nat→Prop} {C:Ctx} (R:Rel w0 L C) {α:Type} {d:D} {v:Value} (hv:VRel C d v) {k:TypeId→List (List T)→Rdr α} {Q:α→Prop} (h:(rowsR d k).wp C.E Q) :
  ∃ e xs,(k e xs).wp C.E Q∧RdT C.P C.w (fun _=>True) (.sl e xs) v:=by
 cases d with
 | own e xs=>have:=hv.1; simp [D.anyOwn,D.comps,D.leaves1,D.isOwn] at this
 | imm e xs =>
  have h1:=(hv.lf rfl (by simp)).1
  cases h1 with | imm _ _ _ h1=>exact ⟨e,xs,h,h1.mono fun b _ _=>⟨trivial,rfl⟩⟩
 | ali p =>
  have h1:=(hv.lf rfl (by simp)).1
  simp only [rowsR] at h
  rw [leafR_wp] at h
  cases h1 with
  | ali q e xs hl =>
   simp only [hl] at h
   exact ⟨e,xs,h,(R.ownLeaf hl).rd fun _ _=>trivial⟩
 | sub p lo hi =>
  have h1:=(hv.lf rfl (by simp)).1
  simp only [rowsR] at h
  rw [leafR_wp] at h
  cases h1 with
  | sub q lo hi e xs hl h2 h3 hne =>
   simp only [hl] at h
   exact ⟨e,_,h,RdT.cut ((R.ownLeaf hl).rd fun _ _=>trivial) h2 h3 hne⟩
 | ela p i j =>
  have h1:=(hv.lf rfl (by simp)).1
  simp only [rowsR] at h
  rw [leafR_wp] at h
  cases h1 with
  | ela q i j e xs e' ys b o n cap v hl hg hc hw =>
   simp only [hl] at h
   have hg':T.get xs i j = .sl e' ys:=by
    unfold T.get? at hg
    unfold T.get
    cases hx:xs[i]? with
    | none=>rw [hx] at hg; simp at hg
    | some r=>rw [hx] at hg; rw [getD_some hx]; exact getD_some (by simpa using hg)
   simp only [hg'] at h
   have ho:=R.ownLeaf hl
   rw [hc] at ho
   refine ⟨e',ys,h,?_⟩
   cases ho with
   | row _ _ b o cap cs fr F G X h1 h2 h3 h4 h5 h6 h7 h8 h9 h10 h11 h12 =>
    have e1:=h10 i j _ hg
    have e2:=h11 i j _ hg
    have:v=X i j:=by
     simp only [World.cell?,h1] at hw
     simp at hw
     rw [e1] at hw; injection hw with hw; exact hw.symm
    rw [this]
    exact e2.rd fun _ _=>trivial
 | _=>exact h.elim
theorem RdT.slice {P:Program} {w:World} {S:Nat→Prop} {e:TypeId} {xs:List (List T)} {v:Value} (h:RdT P w S (.sl e xs) v) (he:e≠mapE) :
  ∃ base cap,v = .slice base xs.length cap∧cap≤9223372036854775807∧(xs≠[]→base.isSome=true)∧(base.isSome=true→xs.length≤cap)∧(xs.length≤9223372036854775807):=by
 cases h with
 | emp base cap=>exact ⟨_,_,rfl,by assumption,fun h=>absurd rfl h,fun _=>by simp,by simp⟩
 | row=>exact ⟨_,_,rfl,by assumption,fun _=>rfl,fun _=>by assumption,by omega⟩
 | mp=>exact absurd rfl he
theorem binI_run {P : Program} {E : Env} {Q : Stp → Prop} {op : BinOp} {a b : IntKind} {m n : Int} {k : Value → Rdr Stp} (h : (binI op a m b n k).wp E Q) :
    ∃ v,(k v).wp E Q ∧ scal v = true ∧ ∀ w t x y,(do eqGuard op t x y (.int a m) (.int b n); binOp op t (.int a m) (.int b n) : Go.Sem Value).run P w = .ok v w := by
  cases op <;> simp only [binI] at h
  case shl =>
    obtain ⟨h1,h2⟩ := h
    refine ⟨_,h2,rfl,fun w t x y => ?_⟩
    have : ¬ n < 0 := by omega
    simp [eqGuard,binOp,Op.shift,this]
  case shr =>
    obtain ⟨h1,h2⟩ := h
    refine ⟨_,h2,rfl,fun w t x y => ?_⟩
    have : ¬ n < 0 := by omega
    simp [eqGuard,binOp,Op.shift,this]
  all_goals
    first
    | exact h.elim
    | (by_cases hab : a = b
       · subst hab
         simp only [if_true] at h
         first
         | exact ⟨_,h,rfl,fun w t x y => by simp [eqGuard,binOp,Op.intArith,Op.intBits,Op.intCmp]⟩
         | (obtain ⟨h1,h2⟩ := h
            refine ⟨_,h2,rfl,fun w t x y => ?_⟩
            simp [eqGuard,binOp,Op.intDiv,h1])
       · simp only [hab,if_false] at h
         exact h.elim)
theorem binS_run {P:Program} {E:Env} {Q:Stp→Prop} {op:BinOp} {s t:ByteArray} {k:Value→Rdr Stp} (h:(binS op s t k).wp E Q) :
  ∃ v,(k v).wp E Q∧scal v=true∧∀ w ty x y,(do eqGuard op ty x y (.string s) (.string t); binOp op ty (.string s) (.string t):Go.Sem Value).run P w = .ok v w:=by
 cases op<;>simp only [binS] at h
 case add =>
  obtain ⟨h1,h2⟩:=h
  refine ⟨_,h2,by simpa [scal,ofL,ByteArray.size] using h1,fun w t' x y => ?_⟩
  have e:s++t=ofL (toL s++toL t):=by
   have:(s++t).data.toList=s.data.toList++t.data.toList:=by simp
   exact congrArg ofL this
  have h3:(s.size:Int)+(t.size:Int)≤9223372036854775807:=by
   rw [toL_length,toL_length] at h1; omega
  simp [eqGuard,binOp,Op.stringOp,e,h3]
 all_goals
  first
  | exact h.elim
  | exact ⟨_,h,rfl,fun w ty x y=>by simp [eqGuard,binOp,Op.stringOp,ByteArray.toList_eq,toL,ltB]⟩
theorem binB_run {P : Program} {tb : Tab} (hT : TabOk P tb) {E : Env} {Q : Stp → Prop} {op : BinOp} {ty : TypeId} {b c : Bool} {k : Value → Rdr Stp} (h : (binB tb op ty b c k).wp E Q) :
    ∃ v,(k v).wp E Q ∧ scal v = true ∧ ∀ w x y,(do eqGuard op ty x y (.bool b) (.bool c); binOp op ty (.bool b) (.bool c) : Go.Sem Value).run P w = .ok v w := by
  unfold binB at h
  cases ht : tb ty with
  | none => rw [ht] at h; exact h.elim
  | some i =>
    rw [ht] at h
    have hk := (hT ty i ht).k
    obtain ⟨ik,i1,i2,i3,i4,i5⟩ := i
    cases ik <;> try exact h.elim
    have hu : P.underlying ty = some .bool := hk
    cases op <;> first
      | exact h.elim
      | (refine ⟨_,h,rfl,fun w x y => ?_⟩
         have e := run_equalIn_bool' (P := P) (w := w) 9999 ty b c hu
         simp [eqGuard,binOp,Op.equal,Op.maxDepth,e])
theorem binR_run {P:Program} {tb:Tab} (hT:TabOk P tb) {E:Env} {Q:Stp→Prop} {op:BinOp} {ty:TypeId} {a b:Value} {k:Value→Rdr Stp} (h:(binR tb op ty a b k).wp E Q) :
  ∃ v,(k v).wp E Q∧scal v=true∧∀ w x y,(do eqGuard op ty x y a b; binOp op ty a b:Go.Sem Value).run P w = .ok v w:=by
 cases a<;>cases b<;>first
  | exact h.elim
  | (obtain ⟨v,h1,h2,h3⟩:=binI_run (P:=P) h; exact ⟨v,h1,h2,fun w x y=>h3 w ty x y⟩)
  | (obtain ⟨v,h1,h2,h3⟩:=binS_run (P:=P) h; exact ⟨v,h1,h2,fun w x y=>h3 w ty x y⟩)
  | exact binB_run hT h
theorem strL_get:∀ {ds:List D} {a:List (List UInt8)},strL ds=some a→a.length=ds.length∧∀ (i:Nat) (d:D),ds[i]? = some d→∃ s,d = .v (.string s)∧a[i]? = some (toL s)
 | [],a,h=>by injection h with h; subst h; exact ⟨rfl,fun i d h=>by simp at h⟩
 | d::ds,a,h=>by
  unfold strL at h
  split at h
  ·rename_i e; cases e
  ·rename_i s ds' e
   injection e with e1 e2
   subst e1 e2
   cases hx:strL ds with
   | none=>rw [hx] at h; cases h
   | some l =>
    rw [hx] at h
    injection h with h; subst h
    obtain ⟨h1,h2⟩:=strL_get hx
    refine ⟨by simp [h1],fun i d h => ?_⟩
    cases i with
    | zero=>simp at h; exact ⟨s,h.symm,rfl⟩
    | succ i=>exact h2 i d (by simpa using h)
  ·cases h
theorem run_part_str {P:Program} {w:World} {e:TypeId} (hu:P.underlying e=some .string) {xs:Array Value} {off:Nat} {v:Value} (hx:xs[off]? = some v):(part e xs off).run P w = .ok v w:=by
 simp [part,isAgg,run_underlying hu,hx]
theorem eqFields_str {P:Program} {w:World} {xs ys:Array Value}:∀ (fs:List Field) (k:Nat) (a b:List (List UInt8)),a.length=fs.length→b.length=fs.length →
  (∀ (i:Nat) (f:Field),fs[i]? = some f→f.name ≠ "_" ∧ f.offset=k+i∧P.underlying f.type=some .string) →
  (∀ (i:Nat) (x:List UInt8),a[i]? = some x→∃ s,xs[k+i]? = some (.string s)∧toL s=x)→(∀ (i:Nat) (x:List UInt8),b[i]? = some x→∃ s,ys[k+i]? = some (.string s)∧toL s=x) →
  (Op.eqFields 9999 xs ys fs).run P w = .ok (a==b) w
 | [],k,a,b,ha,hb,_,_,_=>by
  have e1:a=[]:=List.length_eq_zero_iff.1 ha
  have e2:b=[]:=List.length_eq_zero_iff.1 hb
  subst e1 e2
  simp [Op.eqFields]
 | f::fs,k,a,b,ha,hb,hf,hx,hy=>by
  cases a with
  | nil=>simp at ha
  | cons x a =>
  cases b with
  | nil=>simp at hb
  | cons y b =>
  obtain ⟨f1,f2,f3⟩:=hf 0 f rfl
  obtain ⟨s,s1,s2⟩:=hx 0 x rfl
  obtain ⟨t,t1,t2⟩:=hy 0 y rfl
  rw [←f2] at s1 t1
  have ih:=eqFields_str (P:=P) (w:=w) (xs:=xs) (ys:=ys) fs (k+1) a b (by simpa using ha) (by simpa using hb)
   (fun i g hg=>by have:=hf (i+1) g (by simpa using hg); rwa [show k+(i+1)=k+1+i by omega] at this)
   (fun i z hz=>by have:=hx (i+1) z (by simpa using hz); rwa [show k+(i+1)=k+1+i by omega] at this)
   (fun i z hz=>by have:=hy (i+1) z (by simpa using hz); rwa [show k+(i+1)=k+1+i by omega] at this)
  have e:=run_equalIn_string (P:=P) w 9998 f.type s t f3
  have es:s.toList=x:=by rw [←s2,toL,ByteArray.toList_eq]
  have et:t.toList=y:=by rw [←t2,toL,ByteArray.toList_eq]
  rw [es,et] at e
  simp only [Op.eqFields,f1,ne_eq,not_false_eq_true,if_true,Sem.run_bind,run_part_str f3 s1,run_part_str f3 t1,Result.andThen_ok,e]
  by_cases hxy:x=y
  ·subst hxy
   simp [ih]
  ·simp [hxy]
theorem VRel.strs {C:Ctx} {ds:List D} {v:Value} {a:List (List UInt8)} (h:VRel C (.agg ds) v) (hs:strL ds=some a):∃ vs:Array Value,v = .agg vs∧∀ (i:Nat) (x:List UInt8),a[i]? = some x→∃ s,vs[i]? = some (.string s)∧toL s=x:=by
 obtain ⟨hl,hg⟩:=strL_get hs
 have h:=h.2 0
 cases h with
 | comp _ _ _ hc =>
  cases hc with
  | leaf _ _ hf _ _=>simp [D.leafy] at hf
  | agg _ vs h1 h2 h3 =>
   refine ⟨vs,rfl,fun i x hx => ?_⟩
   have hi:i<ds.length:=by rw [←hl]; exact (gSm hx).1
   obtain ⟨s,e1,e2⟩:=hg i _ (gEg hi)
   obtain ⟨_,_,h4⟩:=h3 i _ (gEg hi)
   rw [e1] at h4
   rw [e2] at hx
   injection hx with hx
   refine ⟨s,?_,hx⟩
   have hv:vs.getD i undef = .string s:=by
    generalize vs.getD i undef=v at h4
    cases h4; rfl
   have hi2:i<vs.size:=by omega
   rw [Array.getElem?_eq_getElem hi2,←hv]
   simp [Array.getD,hi2]
theorem eqRes_wp {dst:Option Tmp} {op:BinOp} {r:Bool} {E:Env} {Q:Stp→Prop} (h:(eqRes dst op r).wp E Q) :
  (op = .eql∧(wrS dst (.v (.bool r))).wp E Q)∨(op = .neq∧(wrS dst (.v (.bool !r))).wp E Q):=by
 cases op<;>first | exact h.elim | exact .inl ⟨rfl,h⟩ | exact .inr ⟨rfl,h⟩
section ops
variable {w0:World} {L:Nat→Nat→Prop} {C:Ctx} (R:Rel w0 L C) {np:Nat} {K:Env→Prop} {next:Act→World→Prop} (hn:Nxt w0 L np C K next) {Q:Exit→Act→World→Prop} {o:Oper}
include R hn
theorem snd_move {x:Operand} (ho:o.op = .move x∨o.op = .assign x) (h:(opMove o.dst x).wp C.E (Done C.P K C.E)):o.wp C.P C.a C.w next Q:=by
 obtain ⟨d,hd,hv⟩:=opdR_wp R h
 by_cases ht:d.isTup=true
 ·simp [ht,Rdr.wp] at hd
 ·have ht:d.isTup=false:=by simpa using ht
  simp only [ht,Bool.false_eq_true,if_false] at hd
  refine wp_value (w':=C.w) (v:=C.a.eval x) ?_ (wrS_done R hn (.refl _) hd (hv ht))
  rcases ho with ho | ho<;>simp [execOp,ho]
theorem snd_pick {c x y:Operand} (ho:o.op = .pick c x y) (h:(opPick o.dst c x y).wp C.E (Done C.P K C.E)):o.wp C.P C.a C.w next Q:=by
 obtain ⟨d,hd,hv⟩:=opdR_wp R h
 split at hd
 ·rename_i t
  have e:=(hv rfl).v_inv.1
  cases t with
  | true =>
   simp only [if_true] at hd
   obtain ⟨d,hd,hv⟩:=opdR_wp R hd
   by_cases ht:d.isTup=true
   ·simp [ht,Rdr.wp] at hd
   ·have ht:d.isTup=false:=by simpa using ht
    simp only [ht,Bool.false_eq_true,if_false] at hd
    refine wp_value (w':=C.w) (v:=C.a.eval x) ?_ (wrS_done R hn (.refl _) hd (hv ht))
    simp [execOp,ho,e,asBool]
  | false =>
   simp only [Bool.false_eq_true,if_false] at hd
   obtain ⟨d,hd,hv⟩:=opdR_wp R hd
   by_cases ht:d.isTup=true
   ·simp [ht,Rdr.wp] at hd
   ·have ht:d.isTup=false:=by simpa using ht
    simp only [ht,Bool.false_eq_true,if_false] at hd
    refine wp_value (w':=C.w) (v:=C.a.eval y) ?_ (wrS_done R hn (.refl _) hd (hv ht))
    simp [execOp,ho,e,asBool]
 ·exact hd.elim
theorem snd_un {op:UnOp} {t:TypeId} {x:Operand} (ho:o.op = .unOp op t x) (h:(opUn o.dst op x).wp C.E (Done C.P K C.E)):o.wp C.P C.a C.w next Q:=by
 obtain ⟨d,hd,hv⟩:=opdR_wp R h
 split at hd
 ·rename_i a
  have e:=(hv rfl).v_inv.1
  split at hd
  ·rename_i v hu
   have:(Op.unary op a).run C.P C.w = .ok v C.w∧scal v=true:=by
    unfold unV at hu
    split at hu
    ·injection hu with hu; subst hu; exact ⟨rfl,rfl⟩
    ·injection hu with hu; subst hu; exact ⟨rfl,rfl⟩
    ·injection hu with hu; subst hu; exact ⟨rfl,rfl⟩
    ·cases hu
   refine wp_value (w':=C.w) (v:=v) ?_ (wrS_done R hn (.refl _) hd (.v this.2))
   simp [execOp,ho,e,this.1]
  ·exact hd.elim
 ·exact hd.elim
theorem snd_nilCheck {x:Operand} (ho:o.op = .nilCheck x) (h:(opNilCheck o.dst x).wp C.E (Done C.P K C.E)):o.wp C.P C.a C.w next Q:=by
 obtain ⟨d,hd,hv⟩:=opdR_wp R h
 split at hd
 ·have h1:=(hv rfl)
  have h2:=(h1.lf rfl (by simp)).1
  refine wp_value (w':=C.w) (v:=C.a.eval x) ?_ (wrS_done R hn (.refl _) hd h1)
  generalize hx:C.a.eval x=v at h2
  cases h2; simp [execOp,ho,hx]
 ·have h1:=(hv rfl)
  have h2:=(h1.lf rfl (by simp)).1
  refine wp_value (w':=C.w) (v:=C.a.eval x) ?_ (wrS_done R hn (.refl _) hd h1)
  generalize hx:C.a.eval x=v at h2
  cases h2; simp [execOp,ho,hx]
 ·have h1:=(hv rfl)
  have h2:=(h1.lf rfl (by simp)).1
  refine wp_value (w':=C.w) (v:=C.a.eval x) ?_ (wrS_done R hn (.refl _) hd h1)
  generalize hx:C.a.eval x=v at h2
  cases h2; simp [execOp,ho,hx]
 ·have h1:=(hv rfl)
  have h2:=(h1.lf rfl (by simp)).1
  refine wp_value (w':=C.w) (v:=C.a.eval x) ?_ (wrS_done R hn (.refl _) hd h1)
  generalize hx:C.a.eval x=v at h2
  cases h2; simp [execOp,ho,hx]
 ·exact hd.elim
theorem snd_bin {tb:Tab} (hT:TabOk C.P tb) {op:BinOp} {t u:TypeId} {x y:Operand} (ho:o.op = .binOp op t x y u) (h:(opBin tb o.dst op t x y).wp C.E (Done C.P K C.E)):o.wp C.P C.a C.w next Q:=by
 replace h:=opdR_wp R h
 obtain ⟨dx,h,hvx⟩:=h
 replace h:=opdR_wp R h
 obtain ⟨dy,h,hvy⟩:=h
 split at h
 ·rename_i a b
  have ex:=(hvx rfl).v_inv.1
  have ey:=(hvy rfl).v_inv.1
  obtain ⟨v,h1,h2,h3⟩:=binR_run hT h
  refine wp_value (w':=C.w) (v:=v) ?_ (wrS_done R hn (.refl _) h1 (.v h2))
  have:=h3 C.w x y
  simp only [Sem.run_bind] at this
  cases hg:(eqGuard op t x y a b).run C.P C.w with
  | ok u w1 =>
   rw [hg] at this
   simp only [Result.andThen_ok] at this
   simp [execOp,ho,ex,ey,hg,this]
  | halt e w1=>rw [hg] at this; simp at this
 ·split at h
  ·rename_i e _ _ _ _ _ ht
   have hu:C.P.underlying t=some (.slice e):=(hT _ _ ht).k.1
   have ey:=(hvy rfl).nil_inv
   have fin:∀ (ao:Option Addr) (l c:Nat) (r:Bool),C.a.eval x = .slice ao l c→ao.isNone=r→(eqRes o.dst op r).wp C.E (Done C.P K C.E)→o.wp C.P C.a C.w next Q:=by
    intro ao l c r ex hr h
    have hq:=run_equal_slice_nil (P:=C.P) (w:=C.w) t e ao l c hu
    rcases eqRes_wp h with ⟨rfl,h⟩ | ⟨rfl,h⟩
    ·refine wp_value (w':=C.w) (v := .bool r) ?_ (wrS_done R hn (.refl _) h (.v rfl))
     simp [execOp,ho,ex,ey,eqGuard,binOp,hq,hr]
    ·refine wp_value (w':=C.w) (v := .bool !r) ?_ (wrS_done R hn (.refl _) h (.v rfl))
     simp [execOp,ho,ex,ey,eqGuard,binOp,hq,hr]
   split at h
   ·exact fin none 0 0 true (hvx rfl).nil_inv rfl h
   ·have hx':dx.isTup=false:=by
     cases dx<;>first | rfl | exact h.elim
    obtain ⟨e',xs,h,hr⟩:=rowsR_wp R (hvx hx') h
    obtain ⟨base,cap,hv,hc,hb,_⟩:=hr.slice (by rw [h.1.1]; exact (hT _ _ ht).k.2.2)
    have hb:=hb h.1.2
    exact fin base _ cap false hv (by cases base<;>simp at hb ⊢) h.2
  ·exact h.elim
 ·split at h
  ·rename_i e _ _ _ _ _ ht
   have hu:C.P.underlying t=some (.pointer e):=(hT _ _ ht).k
   have ey:=(hvy rfl).v_inv.1
   have fin:∀ (a:Addr),C.a.eval x = .pointer (some a)→(eqRes o.dst op false).wp C.E (Done C.P K C.E)→o.wp C.P C.a C.w next Q:=by
    intro a ex h
    have hq:(Op.equal t (.pointer (some a)) (.pointer none)).run C.P C.w = .ok false C.w:=by
     rw [run_equal_pointer_nil]
     ·rfl
     ·simp [hu,Program.pointee]
    rcases eqRes_wp h with ⟨rfl,h⟩ | ⟨rfl,h⟩
    ·refine wp_value (w':=C.w) (v := .bool false) ?_ (wrS_done R hn (.refl _) h (.v rfl))
     simp [execOp,ho,ex,ey,eqGuard,binOp,hq]
    ·refine wp_value (w':=C.w) (v := .bool true) ?_ (wrS_done R hn (.refl _) h (.v rfl))
     simp [execOp,ho,ex,ey,eqGuard,binOp,hq]
   split at h
   ·have h2:=((hvx rfl).lf rfl (by simp)).1
    generalize hx:C.a.eval x=v at h2
    cases h2; exact fin _ hx h
   ·have h2:=((hvx rfl).lf rfl (by simp)).1
    generalize hx:C.a.eval x=v at h2
    cases h2; exact fin _ hx h
   ·have h2:=((hvx rfl).lf rfl (by simp)).1
    generalize hx:C.a.eval x=v at h2
    cases h2; exact fin _ hx h
   ·exact h.elim
  ·exact h.elim
 ·split at h
  ·rename_i i hi
   split at h
   ·rename_i hs
    split at h
    ·rename_i a b ha hb
     obtain ⟨⟨la,lb⟩,h⟩:=h
     obtain ⟨fs,u1,u2,u3,u4,u5⟩:=(hT _ _ hi).eq hs
     obtain ⟨xs,ex,gx⟩:=(hvx rfl).strs ha
     obtain ⟨ys,ey,gy⟩:=(hvy rfl).strs hb
     have hfo:C.P.fieldsOf t=fs:=by simp [Program.fieldsOf,u1]
     have hq:(Op.equalIn 10000 t (.agg xs) (.agg ys)).run C.P C.w = .ok (a==b) C.w:=by
      rw [run_equalIn_agg C.w 9999 t xs ys (by rw [hfo]; exact u1) u2,hfo]
      refine eqFields_str fs.toList 0 a b (by rw [la,←u4]; simp) (by rw [lb,←u4]; simp) ?_ ?_ ?_
      ·intro i f hf
       rw [Nat.zero_add]
       exact u5 i f (by rwa [Array.getElem?_toList] at hf)
      ·intro i z hz; rw [Nat.zero_add]; exact gx i z hz
      ·intro i z hz; rw [Nat.zero_add]; exact gy i z hz
     have hg:=fun op=>run_eqGuard_agg (P:=C.P) C.w op t x y xs ys u3
     rcases eqRes_wp h with ⟨rfl,h⟩ | ⟨rfl,h⟩
     ·refine wp_value (w':=C.w) (v := .bool (a==b)) ?_ (wrS_done R hn (.refl _) h (.v rfl))
      simp [execOp,ho,ex,ey,hg,run_eql_struct,hq]
     ·refine wp_value (w':=C.w) (v := .bool !(a==b)) ?_ (wrS_done R hn (.refl _) h (.v rfl))
      simp [execOp,ho,ex,ey,hg,run_neq_struct,hq]
    ·exact h.elim
   ·exact h.elim
  ·exact h.elim
 ·exact h.elim
end ops
theorem TIok.und {P:Program} {t:TypeId} {i:TI} (h:TIok P t i):∃ d,P.underlying t=some d:=by
 have:=h.k
 unfold KOk at this
 split at this
 ·exact ⟨_,this⟩
 ·exact ⟨_,this⟩
 ·exact ⟨_,this⟩
 ·exact ⟨_,this⟩
 ·exact ⟨_,this.1⟩
 ·obtain ⟨fs,h,_⟩:=this; exact ⟨_,h⟩
 ·exact ⟨_,this⟩
 ·obtain ⟨d,h,_⟩:=this; exact ⟨_,h⟩
theorem TabOk.kd {P:Program} {tb:Tab} (hT:TabOk P tb) {t:TypeId} {k:K} (h:tb.kd t=some k):∃ i,tb t=some i∧i.k=k∧TIok P t i:=by
 unfold Tab.kd at h
 cases ht:tb t with
 | none=>rw [ht] at h; simp at h
 | some i=>rw [ht] at h; exact ⟨i,rfl,by simpa using h,hT t i ht⟩
theorem TabOk.kd_slice {P:Program} {tb:Tab} (hT:TabOk P tb) {t e:TypeId} (h:tb.kd t=some (.slice e)):P.underlying t=some (.slice e):=by
 obtain ⟨i,h1,h2,h3⟩:=hT.kd h; have:=h3.k; unfold KOk at this; rw [h2] at this; exact this.1
theorem TabOk.kd_ne {P:Program} {tb:Tab} (hT:TabOk P tb) {t e:TypeId} (h:tb.kd t=some (.slice e)):e≠mapE:=by
 obtain ⟨i,h1,h2,h3⟩:=hT.kd h; have:=h3.k; unfold KOk at this; rw [h2] at this; exact this.2.2
theorem TabOk.kd_size {P:Program} {tb:Tab} (hT:TabOk P tb) {t e:TypeId} (h:tb.kd t=some (.slice e)) (w:World):(Go.sizeOf e).run P w = .ok (P.cellsOf e) w:=by
 obtain ⟨i,h1,h2,h3⟩:=hT.kd h; have:=h3.k; unfold KOk at this; rw [h2] at this
 obtain ⟨j,hj⟩:=this.2.1
 simp [Go.sizeOf,typeInfo,Program.cellsOf,hj]
theorem TabOk.kd_str {P:Program} {tb:Tab} (hT:TabOk P tb) {t:TypeId} (h:tb.kd t=some .str):P.underlying t=some .string:=by
 obtain ⟨i,h1,h2,h3⟩:=hT.kd h; have:=h3.k; unfold KOk at this; rw [h2] at this; exact this
theorem TabOk.kd_int {P:Program} {tb:Tab} (hT:TabOk P tb) {t:TypeId} {k:IntKind} (h:tb.kd t=some (.int k)):P.underlying t=some (.int k):=by
 obtain ⟨i,h1,h2,h3⟩:=hT.kd h; have:=h3.k; unfold KOk at this; rw [h2] at this; exact this
theorem TIok.cellsOf {P:Program} {t:TypeId} {i:TI} (h:TIok P t i):P.cellsOf t=i.size:=by
 obtain ⟨j,z,h1,h2,_⟩:=h.info
 simp [Program.cellsOf,h1,h2]
theorem TIok.sizeOf {P:Program} {t:TypeId} {i:TI} (h:TIok P t i) (w:World):(Go.sizeOf t).run P w = .ok i.size w:=by
 obtain ⟨j,z,h1,h2,_⟩:=h.info
 simp [Go.sizeOf,typeInfo,h1,h2]
theorem scal_one {v:Value} (h:scal v=true):one v=true:=by cases v<;>first | rfl | simp [scal] at h
theorem RdT.one {P:Program} {w:World} {S:Nat→Prop} {t:T} {v:Value} (h:RdT P w S t v):one v=true:=by
 cases h with
 | v=>exact scal_one (by assumption)
 | emp=>rfl
 | row=>rfl
 | mp=>rfl
theorem rowsR_notTup {α:Type} {d:D} {k:TypeId→List (List T)→Rdr α} {E:Env} {Q:α→Prop} (h:(rowsR d k).wp E Q):d.isTup=false:=by
 cases d<;>first | rfl | exact h.elim
theorem isStruct_eq {k:K} (h:k.isStruct=true):k = .struct:=by cases k<;>first | rfl | simp [K.isStruct] at h
section inv
variable {C:Ctx}
theorem VRel.ali_inv {p:Lf} {v:Value} (h:VRel C (.ali p) v):v=C.cv p∧∃ e xs,C.E.leaf p = .own e xs:=by
 have:=(h.lf rfl (by simp)).1
 cases this with | ali _ e xs hl=>exact ⟨rfl,e,xs,hl⟩
theorem VRel.sub_inv {p:Lf} {lo hi:Nat} {v:Value} (h:VRel C (.sub p lo hi) v):∃ e xs,C.E.leaf p = .own e xs∧lo≤hi∧hi≤xs.length∧e≠mapE∧v=cutV (C.P.cellsOf e) (C.cv p) lo hi:=by
 have:=(h.lf rfl (by simp)).1
 cases this with | sub _ _ _ e xs hl a b c=>exact ⟨e,xs,hl,a,b,c,rfl⟩
theorem VRel.imm_inv {e:TypeId} {xs:List (List T)} {v:Value} (h:VRel C (.imm e xs) v):RdT C.P C.w C.Rd (.sl e xs) v:=by
 have:=(h.lf rfl (by simp)).1
 cases this with | imm _ _ _ h=>exact h
theorem VRel.cref_inv {t k:Nat} {v:Value} (h:VRel C (.cref t k) v):∃ ds,C.live t ds∧k≤ds.length∧v = .pointer (some ⟨(C.loc t).1,(C.loc t).2+k,none⟩):=by
 have:=(h.lf rfl (by simp)).1
 cases this with | cref _ _ ds a b=>exact ⟨ds,a,b,rfl⟩
theorem VRel.eref_inv {q:Lf} {i j:Nat} {v:Value} (h:VRel C (.eref q i j) v):∃ e xs b o n cap,C.E.leaf q = .own e xs∧C.cv q = .slice (some ⟨b,o,none⟩) n cap∧i<xs.length∧v = .pointer (some ⟨b,o+i*C.P.cellsOf e+j,none⟩):=by
 have:=(h.lf rfl (by simp)).1
 cases this with | eref _ _ _ e xs b o n cap a b' c=>exact ⟨e,xs,b,o,n,cap,a,b',c,rfl⟩
theorem VRel.rptr_inv {ds : List D} {v : Value} (h : VRel C (.rptr ds) v) : ∃ (b o : Nat) (cs : Array Value) (ce : TypeId) (fr : Nat × Nat) (X : Nat → Value),C.w.heap[b]? = some (.cells cs ce fr) ∧ C.Rd b ∧
      (∀ (i : Nat) (d : D),ds[i]? = some d → cs[o + i]? = some (X i) ∧ one (X i) = true) ∧ (∀ (i : Nat) (d : D),ds[i]? = some d → d.pure = true) ∧ (∀ (i : Nat) (d : D),ds[i]? = some d → ∀ p,LRel C p d (X i)) ∧ v = .pointer (some ⟨b,o,none⟩) := by
  have := (h.lf rfl (by simp)).1
  cases this with
  | rptr _ b o cs ce fr X h1 h2 h3 h4 h5 =>
    refine ⟨b,o,cs,ce,fr,X,h1,h2,h3,h4,fun i d hd p => (h5 i d hd).any ?_ p,rfl⟩
    have := h4 i d hd
    cases d <;> first | rfl | simp [D.pure] at this
end inv
section ops
variable {w0:World} {L:Nat→Nat→Prop} {C:Ctx} (R:Rel w0 L C) {np:Nat} {K:Env→Prop} {next:Act→World→Prop} (hn:Nxt w0 L np C K next) {Q:Exit→Act→World→Prop} {o:Oper}
include R hn
theorem snd_makeFunc {fn:Fn} {fi ca:Array Operand} (ho:o.op = .makeFunc fn fi ca) (h:(opMakeFunc o.dst fn fi.toList ca.toList).wp C.E (Done C.P K C.E)):o.wp C.P C.a C.w next Q:=by
 unfold opMakeFunc at h
 split at h
 ·rename_i _ _ f hf
  have hfi:fi = #[]:=by
   cases fi with | mk l=>simp at hf; rw [hf]
  subst hfi
  have key:∀ (xs:List Operand) (acc:List D) (vs:List Value),acc.length=vs.length→(∀ (i:Nat) (d:D),acc[i]? = some d→d.capt=true∧LRel C ⟨false,0,0⟩ d (vs.getD i undef)) →
    (opMakeFunc.go xs acc fun ds=>wrS o.dst (.clo f ds)).wp C.E (Done C.P K C.E) →
    ∃ ds:List D,ds.length=vs.length+xs.length∧(∀ (i:Nat) (d:D),ds[i]? = some d→d.capt=true∧LRel C ⟨false,0,0⟩ d ((vs++xs.map C.a.eval).getD i undef))∧(wrS o.dst (.clo f ds)).wp C.E (Done C.P K C.E):=by
   intro xs
   induction xs with
   | nil =>
    intro acc vs h1 h2 h3
    exact ⟨acc,by simp [h1],by simpa using h2,h3⟩
   | cons x xs ih =>
    intro acc vs h1 h2 h3
    obtain ⟨d,h4,hv⟩:=opdR_wp R h3
    split at h4
    ·rename_i hc
     have hl:=(hv (by cases d<;>first | rfl | simp [D.capt] at hc)).lf (by cases d<;>first | rfl | simp [D.capt] at hc) (by rintro rfl; simp [D.capt] at hc)
     obtain ⟨ds,e1,e2,e3⟩:=ih (acc++[d]) (vs++[C.a.eval x]) (by simp [h1]) (by
      intro i d' hd'
      by_cases hi:i<acc.length
      ·rw [List.getElem?_append_left hi] at hd'
       rw [gDg,List.getElem?_append_left (by omega),←gDg]
       exact h2 i d' hd'
      ·have:i=acc.length:=by
        have:=(gSm hd').1
        simp at this; omega
       subst this
       simp at hd'
       subst hd'
       rw [gDg,h1]
       simpa using ⟨hc,hl.1⟩) h4
     refine ⟨ds,?_,?_,e3⟩
     ·simp at e1 ⊢; omega
     ·simpa using e2
    ·exact h4.elim
  obtain ⟨ds,e1,e2,e3⟩:=key ca.toList [] [] rfl (fun i d hd=>by simp at hd) h
  refine wp_value (w':=C.w) (v := .func (.func f) #[] (ca.map C.a.eval)) ?_ (wrS_done R hn (.refl _) e3 ?_)
  ·simp [execOp,ho,Instr.makeFunc]
  ·refine .leaf rfl rfl rfl fun p => .clo _ _ _ _ (by simpa using e1) (fun i d hd=>(e2 i d hd).1) fun i d hd => ?_
   have:=(e2 i d hd).2
   have e:(ca.map C.a.eval).getD i undef=((([]:List Value)++ca.toList.map C.a.eval).getD i undef):=by
    rw [←arr_list_getD]; simp
   rw [e]
   have hc:=(e2 i d hd).1
   exact this.any (by cases d<;>first | rfl | simp [D.capt] at hc) _
 ·exact h.elim
theorem snd_extract {x:Operand} {k:Nat} (ho:o.op = .extract x k) (h:(opExtract o.dst x k).wp C.E (Done C.P K C.E)):o.wp C.P C.a C.w next Q:=by
 unfold opExtract at h
 split at h
 ·rename_i t
  simp only [Rdr.wp] at h
  split at h
  ·rename_i cs hcs
   split at h
   ·rename_i d hd
    have hsl:C.E.sl[t]? = some (.tup cs):=by
     rw [gDg] at hcs
     cases hx:C.E.sl[t]? with
     | none=>rw [hx] at hcs; simp at hcs
     | some y=>rw [hx] at hcs; simp at hcs; rw [hcs]
    have hs:=R.slot t _ hsl
    generalize hv:C.a.tmps.getD t undef=v at hs
    cases hs with
    | comp _ _ ht=>simp [D.isTup] at ht
    | tup _ vs hl hc =>
     obtain ⟨ht,hc⟩:=hc k d hd
     have hk:k<vs.size:=by rw [←hl]; exact (gSm hd).1
     have hv':VRel C (mvComp t (64*k) d) (vs.getD k undef):=by
      refine mvComp_rel hc (fun j hj=>cv_tup hv k j hj) fun j x hj hx => ?_
      rw [leaf_slot _ _ _ _ hsl]
      exact (At.tup cs k j d x hd hj hx).leafOf
     refine wp_value (w':=C.w) (v:=vs.getD k undef) ?_ (wrS_done R hn (.refl _) h hv')
     have:C.a.eval (.tmp t) = .tuple vs:=hv
     have hg:vs[k]? = some (vs.getD k undef):=by simp [Array.getD,hk]
     simp only [execOp,ho,this,Instr.extract,hg,bind_pure_comp,Sem.run_map,Sem.run_pure,Result.andThen_ok]
   ·exact h.elim
  ·exact h.elim
 ·exact h.elim
theorem snd_field {tb:Tab} (hT:TabOk C.P tb) {s:TypeId} {x:Operand} {f:Nat} (ho:o.op = .field s x f) (h:(opField tb o.dst s x f).wp C.E (Done C.P K C.E)):o.wp C.P C.a C.w next Q:=by
 unfold opField at h
 cases ht:tb s with
 | none=>rw [ht] at h; exact h.elim
 | some i =>
  rw [ht] at h
  simp only at h
  cases hst:i.k.isStruct with
  | false=>rw [hst] at h; exact h.elim
  | true =>
  rw [hst] at h
  simp only [Bool.not_true,Bool.false_eq_true,if_false] at h
  have hst:i.k = .struct:=isStruct_eq hst
  cases hf:i.fields[f]? with
  | none=>rw [hf] at h; exact h.elim
  | some off =>
   rw [hf] at h
   have hk:=(hT s i ht).k
   unfold KOk at hk
   rw [hst] at hk
   obtain ⟨fs,hu,hall,hfs⟩:=hk
   obtain ⟨y,h1,h2,j,h3,h4,h5⟩:=hfs f off hf
   have hy:=(hall y (by rw [←Array.getElem?_toList] at h1; exact List.mem_of_getElem? h1)).2
   replace h:=opdR_wp R h
   obtain ⟨d,h,hv⟩:=h
   split at h
   ·rename_i ds
    obtain ⟨vs,ev,hl,h64,hz⟩:=(hv rfl).agg_inv
    split at h
    ·rename_i hle
     have hsz:(Go.sizeOf y.type).run C.P C.w = .ok j.size C.w:=by simp [Go.sizeOf,typeInfo,h3]
     unfold fldOk at hy
     rw [h3] at hy
     by_cases h1c:i.fsize f=1
     ·rw [if_pos h1c] at h
      have hlt:off<ds.length:=by omega
      have hd:ds[off]? = some (ds.getD off .dead):=by simp [gDg,hlt]
      obtain ⟨q1,q2,q3,q4⟩:=hz off _ hd
      have hv':VRel C (ds.getD off .dead) (vs.getD off undef) := .leaf q1 q3 q2 q4
      have hg:vs[off]? = some (vs.getD off undef):=by simp [Array.getD,hl▸hlt]
      generalize vs.getD off undef=xv at hv' hg
      refine wp_value (w':=C.w) (v:=xv) ?_ (wrS_done R hn (.refl _) h hv')
      cases hun:C.P.underlying y.type with
      | none=>rw [hun] at hy; simp at hy
      | some u =>
       rw [hun] at hy
       have hag:(isAgg y.type).run C.P C.w = .ok false C.w:=by
        unfold isAgg
        cases u<;>first | (simp [h5,h1c] at hy; done) | (simp at hy; done) | simp [run_underlying hun]
       simp [execOp,ho,ev,Instr.field,run_underlying hu,h1,asAgg,part,hag,h2,hg]
     ·rw [if_neg h1c] at h
      have hv':VRel C (.agg ((ds.drop off).take (i.fsize f))) (.agg (vs.extract off (off+i.fsize f))):=by
       refine .agg (by simp; omega) (by simp; omega) fun k d hd => ?_
       have hk:k<i.fsize f:=by
        have:=(gSm hd).1
        simp at this; omega
       rw [List.getElem?_take_of_lt hk,List.getElem?_drop] at hd
       obtain ⟨q1,q2,q3,q4⟩:=hz _ _ hd
       have e:(vs.extract off (off+i.fsize f)).getD k undef=vs.getD (off+k) undef:=by
        simp [Array.getD_eq_getD_getElem?,Array.getElem?_extract]
        rw [if_pos (by omega)]
       rw [e]
       exact ⟨q1,q2,q3,q4⟩
      refine wp_value (w':=C.w) (v := .agg (vs.extract off (off+i.fsize f))) ?_ (wrS_done R hn (.refl _) h hv')
      cases hun:C.P.underlying y.type with
      | none=>rw [hun] at hy; simp at hy
      | some u =>
       rw [hun] at hy
       have hag:(isAgg y.type).run C.P C.w = .ok true C.w:=by
        unfold isAgg
        cases u<;>first | (simp [h5,h1c] at hy; done) | (simp at hy; done) | simp [run_underlying hun]
       simp [execOp,ho,ev,Instr.field,run_underlying hu,h1,asAgg,part,hag,hsz,h5,h2]
    ·exact h.elim
   ·exact h.elim
omit R hn in
theorem VRel.crel {d:D} {v:Value} (h:VRel C d v) (ht:d.isTup=false) (t k:Nat):CRel C t k d v:=by
 have h1:=h.1
 have:=h.2 0
 cases this with
 | tup=>simp [D.isTup] at ht
 | comp _ _ _ hc =>
  have ec:d.comps=[d]:=by cases d<;>first | rfl | simp [D.isTup] at ht
  simp only [D.anyOwn,ec,List.any_cons,List.any_nil,Bool.or_false] at h1
  cases hc with
  | dead=>exact .dead _ _
  | agg ds vs a b c =>
   refine .agg _ _ _ a b fun i d hd => ?_
   obtain ⟨c1,c2,c3⟩:=c i d hd
   have ho:d.isOwn=false:=by
    have h1:ds.any D.isOwn=false:=h1
    rw [List.any_eq_false] at h1
    have:=h1 d (List.mem_of_getElem? hd)
    simpa using this
   exact ⟨c1,c2,c3.any ho _⟩
  | leaf _ _ a b c =>
   refine .leaf _ _ _ a b (c.any ?_ _)
   rw [leafy_leaves1 a] at h1
   simpa using h1
omit R hn in
theorem mvCs_get (t:Nat):∀ (cs:List D) (k i:Nat),(mvCs t k cs)[i]? = (cs[i]?).map (fun c=>mvComp t (k+64*i) c)
 | [],k,i=>by simp [mvCs]
 | c::cs,k,0=>by simp [mvCs]
 | c::cs,k,i+1=>by
  simp only [mvCs,List.getElem?_cons_succ]
  rw [mvCs_get t cs (k+64) i]
  congr 2; funext c; congr 1; omega
theorem snd_moveT {x:Operand} (ho:o.op = .move x) (h:(opMoveT o.dst x).wp C.E (Done C.P K C.E)):o.wp C.P C.a C.w next Q:=by
 unfold opMoveT at h
 split at h
 ·rename_i t
  simp only [Rdr.wp] at h
  split at h
  ·rename_i cs hcs
   have hsl:C.E.sl[t]? = some (.tup cs):=by
    rw [gDg] at hcs
    cases hx:C.E.sl[t]? with
    | none=>rw [hx] at hcs; simp at hcs
    | some y=>rw [hx] at hcs; simp at hcs; rw [hcs]
   have hs:=R.slot t _ hsl
   generalize hv:C.a.tmps.getD t undef=v at hs
   cases hs with
   | comp _ _ ht=>simp [D.isTup] at ht
   | tup _ vs hl hc =>
    have key:∀ (i:Nat) (d:D),cs[i]? = some d→d.isTup=false∧VRel C (mvComp t (64*i) d) (vs.getD i undef):=by
     intro i d hd
     obtain ⟨ht,hc⟩:=hc i d hd
     refine ⟨ht,mvComp_rel hc (fun j hj=>cv_tup hv i j hj) fun j x hj hx => ?_⟩
     rw [leaf_slot _ _ _ _ hsl]
     exact (At.tup cs i j d x hd hj hx).leafOf
    have hnt:∀ (k:Nat) (d:D),d.isTup=false→(mvComp t k d).isTup=false:=by
     intro k d h
     cases d<;>first | rfl | simp [D.isTup] at h
    have hv':VRel C (.tup (mvCs t 0 cs)) (.tuple vs):=by
     have hlen:(mvCs t 0 cs).length=cs.length:=by
      have:∀ (cs:List D) (k:Nat),(mvCs t k cs).length=cs.length:=by
       intro cs
       induction cs with
       | nil=>intro k; rfl
       | cons c cs ih=>intro k; simp [mvCs,ih]
      exact this cs 0
     have comp:∀ (i:Nat) (d:D),(mvCs t 0 cs)[i]? = some d→d.isTup=false∧VRel C d (vs.getD i undef):=by
      intro i d hd
      rw [mvCs_get] at hd
      cases hx:cs[i]? with
      | none=>rw [hx] at hd; simp at hd
      | some c =>
       rw [hx] at hd
       simp only [Option.map_some,Option.some.injEq] at hd
       subst hd
       rw [Nat.zero_add]
       exact ⟨hnt _ _ (key i c hx).1,(key i c hx).2⟩
     refine ⟨?_,fun t' => .tup _ _ (by rw [hlen,hl]) fun i d hd=>⟨(comp i d hd).1,(comp i d hd).2.crel (comp i d hd).1 t' (64*i)⟩⟩
     simp only [D.anyOwn,D.comps]
     rw [List.any_eq_false]
     intro d hd
     obtain ⟨i,hi,rfl⟩:=List.mem_iff_getElem.1 hd
     obtain ⟨c1,c2⟩:=comp i _ (gEg hi)
     have h1:=c2.1
     generalize (mvCs t 0 cs)[i]=d at c1 h1
     have ec:d.comps=[d]:=by cases d<;>first | rfl | simp [D.isTup] at c1
     simp only [D.anyOwn,ec,List.any_cons,List.any_nil,Bool.or_false] at h1
     simpa using h1
    refine wp_value (w':=C.w) (v := .tuple vs) ?_ (wrS_done R hn (.refl _) h hv')
    have:C.a.eval (.tmp t) = .tuple vs:=hv
    simp [execOp,ho,this]
  ·rename_i d hd
   refine snd_move R hn (.inl ho) ?_
   show (Rdr.wp C.E (if (asMove t (C.E.sl.getD t .dead)).isTup then .fail else wrS o.dst (asMove t (C.E.sl.getD t .dead))) _)
   have:(asMove t (C.E.sl.getD t .dead)).isTup=false:=by
    generalize C.E.sl.getD t .dead=d at hd
    cases d<;>first | rfl | exact absurd rfl (hd _)
   rw [this]
   exact h
 ·exact snd_move R hn (.inl ho) h
theorem snd_len {tb:Tab} (hT:TabOk C.P tb) {t:TypeId} {x:Operand} (hx:∀ v n,C.a.eval x=v→(Builtin.len_ #[t] o.type #[v]).run C.P C.w = .ok n C.w→(execOp C.a.eval o).run C.P C.w = .ok (.value n) C.w)
  (h:(opLen tb o.dst t x).wp C.E (Done C.P K C.E)):o.wp C.P C.a C.w next Q:=by
 replace h:=opdR_wp R h
 obtain ⟨d,h,hv⟩:=h
 split at h
 ·rename_i b hk
  have hu:=hT.kd_str hk
  obtain ⟨e,hs⟩:=(hv rfl).v_inv
  have h':=h (by simp only [scal,decide_eq_true_eq] at hs; rw [toL_length]; exact hs)
  refine wp_value (w':=C.w) (v:=vI (toL b).length) ?_ (wrS_done R hn (.refl _) h' (.v rfl))
  exact hx _ _ e (by simp [Builtin.len_,run_underlying hu,goInt,toL_length])
 ·rename_i e hk
  have hu:=hT.kd_slice hk
  have e:=(hv rfl).nil_inv
  refine wp_value (w':=C.w) (v:=vI 0) ?_ (wrS_done R hn (.refl _) h (.v rfl))
  exact hx _ _ e (by simp [Builtin.len_,run_underlying hu,goInt])
 ·rename_i hk _
  have hu:=hT.kd_slice hk
  obtain ⟨e',xs,h',hr⟩:=rowsR_wp R (hv (rowsR_notTup h)) h
  obtain ⟨he,h'⟩:=h'
  obtain ⟨base,cap,hv,_,_,_,hl⟩:=hr.slice (by rw [he]; exact hT.kd_ne hk)
  refine wp_value (w':=C.w) (v:=vI xs.length) ?_ (wrS_done R hn (.refl _) (h' hl) (.v rfl))
  exact hx _ _ hv (by simp [Builtin.len_,run_underlying hu,goInt])
 ·exact h.elim
theorem snd_minmax {mx:Bool} {xs:List Operand}
  (hx:∀ v vs n,xs.map C.a.eval=v::vs→(vs.foldlM (if mx then Builtin.max2 else Builtin.min2) v).run C.P C.w = .ok n C.w→(execOp C.a.eval o).run C.P C.w = .ok (.value n) C.w)
  (h:(opMinMax mx o.dst xs).wp C.E (Done C.P K C.E)):o.wp C.P C.a C.w next Q:=by
 unfold opMinMax at h
 split at h
 ·rename_i x xs
  replace h:=opdR_wp R h
  obtain ⟨d,h,hv⟩:=h
  split at h
  ·rename_i k n
   have ex:=(hv rfl).v_inv.1
   have key:∀ (xs:List Operand) (n:Int),(opMinMax.go mx o.dst xs n k).wp C.E (Done C.P K C.E) →
     ∃ m,((xs.map C.a.eval).foldlM (if mx then Builtin.max2 else Builtin.min2) (.int k n)).run C.P C.w = .ok (.int k m) C.w∧(wrS o.dst (.v (.int k m))).wp C.E (Done C.P K C.E):=by
    intro xs
    induction xs with
    | nil=>intro n h; exact ⟨n,rfl,h⟩
    | cons y ys ih =>
     intro n h
     replace h:=opdR_wp R h
     obtain ⟨d,h,hv⟩:=h
     split at h
     ·rename_i k' m
      have ey:=(hv rfl).v_inv.1
      split at h
      ·rename_i hk
       subst hk
       obtain ⟨r,h1,h2⟩:=ih _ h
       refine ⟨r,?_,h2⟩
       simp only [List.map_cons,List.foldlM_cons,Sem.run_bind,ey]
       cases mx
       ·simpa [Builtin.min2] using h1
       ·simpa [Builtin.max2] using h1
      ·exact h.elim
     ·exact h.elim
   obtain ⟨m,h1,h2⟩:=key xs n h
   refine wp_value (w':=C.w) (v := .int k m) ?_ (wrS_done R hn (.refl _) h2 (.v rfl))
   exact hx _ _ _ (by rw [List.map_cons,ex]) h1
  ·exact h.elim
 ·exact h.elim
theorem snd_index {tb:Tab} (hT:TabOk C.P tb) {t:TypeId} {x i:Operand} (ho:o.op = .index t x i) (h:(opIndex tb o.dst t x i).wp C.E (Done C.P K C.E)):o.wp C.P C.a C.w next Q:=by
 unfold opIndex at h
 split at h
 ·rename_i hk
  have hu:=hT.kd_str hk
  replace h:=opdR_wp R h
  obtain ⟨d,h,hv⟩:=h
  split at h
  ·rename_i b
   have ex:=(hv rfl).v_inv.1
   replace h:=opdR_wp R h
   obtain ⟨d,h,hv⟩:=h
   split at h
   ·rename_i k n
    have ei:=(hv rfl).v_inv.1
    obtain ⟨⟨h1,h2⟩,h⟩:=h
    refine wp_value (w':=C.w) (v:=vC ((toL b).getD n.toNat 0).toNat) ?_ (wrS_done R hn (.refl _) h (.v rfl))
    have hlt:n.toNat<b.size:=by rw [toL_length] at h2; omega
    have hg:b[n.toNat]? = some ((toL b).getD n.toNat 0):=by
     rw [ByteArray.getElem?_lt' b n.toNat hlt]
     congr 1
     rw [gDg,gEg (by rw [toL_length]; exact hlt)]
     simp [toL,ByteArray.getElem_eq_getElem_data]
    simp [execOp,ho,ex,ei,Instr.index,asIntOf,run_underlying hu,h1,hg]
   ·exact h.elim
  ·exact h.elim
 ·exact h.elim
theorem snd_fieldAddr {tb:Tab} (hT:TabOk C.P tb) {s:TypeId} {x:Operand} {f:Nat} (ho:o.op = .fieldAddr s x f) (h:(opFieldAddr tb o.dst s x f).wp C.E (Done C.P K C.E)):o.wp C.P C.a C.w next Q:=by
 unfold opFieldAddr at h
 cases ht:tb s with
 | none=>rw [ht] at h; exact h.elim
 | some i =>
  rw [ht] at h
  simp only at h
  cases hst:i.k.isStruct with
  | false=>rw [hst] at h; exact h.elim
  | true =>
  rw [hst] at h
  simp only [Bool.not_true,Bool.false_eq_true,if_false] at h
  have hst:i.k = .struct:=isStruct_eq hst
  cases hf:i.fields[f]? with
  | none=>rw [hf] at h; exact h.elim
  | some off =>
   rw [hf] at h
   have hk:=hT s i ht
   replace h:=opdR_wp R h
   obtain ⟨d,h,hv⟩:=h
   have hrun:∀ (b a:Nat),C.a.eval x = .pointer (some ⟨b,a,none⟩)→(execOp C.a.eval o).run C.P C.w = .ok (.value (.pointer (some ⟨b,a+off,none⟩))) C.w:=by
    intro b a ex
    have hk:=hk.k
    unfold KOk at hk
    rw [hst] at hk
    obtain ⟨fs,hu,_,hfs⟩:=hk
    obtain ⟨y,h1,h2,j,h3,h4,_⟩:=hfs f off hf
    have hs:(Go.sizeOf y.type).run C.P C.w = .ok j.size C.w:=by simp [Go.sizeOf,typeInfo,h3]
    simp [execOp,ho,ex,Instr.fieldAt,run_underlying hu,h1,Instr.sureAddr,fieldPlace,hs,h4,h2,add_plain]
   split at h
   ·rename_i c k
    obtain ⟨ds,h1,h2,h3⟩:=(hv rfl).cref_inv
    simp only [Rdr.wp] at h
    have e:C.E.ce.getD c none=some ds:=getD_some h1
    rw [e] at h
    simp only at h
    split at h
    ·rename_i hle
     refine wp_value (w':=C.w) (hrun _ _ h3) (wrS_done R hn (.refl _) h ?_)
     rw [Nat.add_assoc]
     exact .leaf rfl rfl rfl fun p => .cref p c (k+off) ds h1 hle
    ·exact h.elim
   ·rename_i p a j
    obtain ⟨e,xs,b,o',n,cap,h1,h2,h3,h4⟩:=(hv rfl).eref_inv
    refine wp_value (w':=C.w) (hrun _ _ h4) (wrS_done R hn (.refl _) h ?_)
    rw [Nat.add_assoc]
    exact .leaf rfl rfl rfl fun p' => .eref p' p a (j+off) e xs b o' n cap h1 h2 h3
   ·rename_i ds
    obtain ⟨b,o',cs,ce,fr,X,h1,h2,h3,h4,h5,h6⟩:=(hv rfl).rptr_inv
    refine wp_value (w':=C.w) (hrun _ _ h6) (wrS_done R hn (.refl _) h ?_)
    refine .leaf rfl rfl rfl fun p' => .rptr p' (ds.drop off) b (o'+off) cs ce fr (fun j=>X (off+j)) h1 h2 ?_ ?_ ?_
    ·intro j d hd
     rw [List.getElem?_drop] at hd
     rw [Nat.add_assoc]; exact h3 _ d hd
    ·intro j d hd
     rw [List.getElem?_drop] at hd
     exact h4 _ d hd
    ·intro j d hd
     rw [List.getElem?_drop] at hd
     exact h5 _ d hd p'
   ·exact h.elim
theorem snd_indexAddr {tb:Tab} (hT:TabOk C.P tb) {t:TypeId} {x ix:Operand} (ho:o.op = .indexAddr t x ix) (h:(opIndexAddr tb o.dst t x ix).wp C.E (Done C.P K C.E)):o.wp C.P C.a C.w next Q:=by
 unfold opIndexAddr at h
 split at h
 ·rename_i e hk
  have hu:=hT.kd_slice hk
  replace h:=opdR_wp R h
  obtain ⟨di,h,hvi⟩:=h
  split at h
  ·rename_i k n
   have ei:=(hvi rfl).v_inv.1
   replace h:=opdR_wp R h
   obtain ⟨d,h,hv⟩:=h
   have hrun:∀ (b a len cap:Nat),C.a.eval x = .slice (some ⟨b,a,none⟩) len cap→0≤n→n<len→(execOp C.a.eval o).run C.P C.w = .ok (.value (.pointer (some ⟨b,a+n.toNat*C.P.cellsOf e,none⟩))) C.w:=by
    intro b a len cap ex h0 h1
    have hs:=hT.kd_size hk C.w
    simp [execOp,ho,ex,ei,Instr.indexAt,asIntOf,run_underlying hu,h0,h1,hs,add_plain]
   split at h
   ·rename_i p
    rw [leafR_wp] at h
    obtain ⟨ex,e',xs,hl⟩:=(hv rfl).ali_inv
    rw [hl] at h
    obtain ⟨⟨h0,h1,rfl⟩,h⟩:=h
    have hown:=R.ownLeaf hl
    rw [←ex] at hown
    generalize hval:C.a.eval x=val at hown
    cases hown with
    | mp=>exact absurd rfl (hT.kd_ne hk)
    | emp=>simp at h1; omega
    | row _ _ b o cap cs fr F G X g1 g2 g3 g4 g5 g6 g7 =>
     refine wp_value (w':=C.w) (hrun _ _ _ _ hval h0 h1) (wrS_done R hn (.refl _) h ?_)
     refine .leaf rfl rfl rfl fun p' => ?_
     have:=LRel.eref (C:=C) p' p n.toNat 0 e' xs b o xs.length cap hl (ex▸hval) (by omega)
     simpa using this
   ·rename_i p a' b'
    rw [leafR_wp] at h
    obtain ⟨e',xs,hl,hlo,hhi,hne,ex⟩:=(hv rfl).sub_inv
    rw [hl] at h
    obtain ⟨⟨h0,h1,rfl⟩,h⟩:=h
    have hown:=R.ownLeaf hl
    generalize hval:C.cv p=val at hown
    cases hown with
    | mp=>exact absurd rfl (hT.kd_ne hk)
    | emp=>simp at hhi; omega
    | row _ _ b o cap cs fr F G X g1 g2 g3 g4 g5 g6 g7 =>
     rw [hval] at ex
     simp only [cutV,Option.map_some,add_plain] at ex
     rw [if_neg (by omega)] at ex
     refine wp_value (w':=C.w) (hrun _ _ _ _ ex h0 h1) (wrS_done R hn (.refl _) h ?_)
     refine .leaf rfl rfl rfl fun p' => ?_
     have:=LRel.eref (C:=C) p' p (a'+n.toNat) 0 e' xs b o xs.length cap hl hval (by omega)
     rw [Nat.add_mul,←Nat.add_assoc] at this
     simpa using this
   ·rename_i e' xs
    obtain ⟨⟨h0,h1,rfl⟩,h⟩:=h
    have hr:=(hv rfl).imm_inv
    generalize hval:C.a.eval x=val at hr
    cases hr with
    | mp=>exact absurd rfl (hT.kd_ne hk)
    | emp=>simp at h1; omega
    | row _ _ b o cap cs ce fr X g1 g2 g5 g6 g7 g10 g11 g12 =>
     refine wp_value (w':=C.w) (hrun _ _ _ _ hval h0 h1) (wrS_done R hn (.refl _) h ?_)
     have hlt:n.toNat<xs.length:=by omega
     have hrow:∀ j d,((xs.getD n.toNat []).map T.toD)[j]? = some d→∃ tt,T.get? xs n.toNat j=some tt∧d=tt.toD:=by
      intro j d hd
      rw [List.getElem?_map] at hd
      cases hx:(xs.getD n.toNat [])[j]? with
      | none=>rw [hx] at hd; simp at hd
      | some tt =>
       rw [hx] at hd
       refine ⟨tt,?_,by simpa using hd.symm⟩
       unfold T.get?
       rw [gEg hlt]
       rw [gDg,gEg hlt] at hx
       simpa using hx
     refine .leaf rfl rfl rfl fun p' => .rptr p' _ b _ cs ce fr (X n.toNat) g1 g2 ?_ ?_ ?_
     ·intro j d hd
      obtain ⟨tt,h1,rfl⟩:=hrow j d hd
      refine ⟨g10 _ _ _ h1,?_⟩
      exact (g11 _ _ _ h1).one
     ·intro j d hd
      obtain ⟨tt,h1,rfl⟩:=hrow j d hd
      cases tt<;>rfl
     ·intro j d hd
      obtain ⟨tt,h1,rfl⟩:=hrow j d hd
      have:=g11 _ _ _ h1
      generalize X n.toNat j=xv at this
      cases tt with
      | v y=>cases this with | v _ h=>exact .v _ _ h
      | sl e2 ys=>exact .imm _ _ _ _ this
   ·exact h.elim
  ·exact h.elim
 ·exact h.elim
end ops
theorem extract_ofL (b:ByteArray) (l h:Nat):b.extract l h=ofL (((toL b).drop l).take (h-l)):=by
 have:(b.extract l h).data.toList=(b.data.toList.drop l).take (h-l):=by
  rw [ByteArray.data_extract,Array.toList_extract,List.extract_eq_take_drop]
 exact congrArg ofL this
theorem boundR_wp {w0:World} {L:Nat→Nat→Prop} {C:Ctx} (R:Rel w0 L C) {β:Type} {x:Option Operand} {dflt:Nat} {k:Nat→Rdr β} {Q:β→Prop} (h:(boundR x dflt k).wp C.E Q) :
  ∃ n,(k n).wp C.E Q∧((x=none∧n=dflt)∨∃ y kd,x=some y∧C.a.eval y = .int kd (n:Int)):=by
 unfold boundR at h
 split at h
 ·exact ⟨_,h,.inl ⟨rfl,rfl⟩⟩
 ·rename_i y
  replace h:=opdR_wp R h
  obtain ⟨d,h,hv⟩:=h
  split at h
  ·rename_i kd n
   have e:=(hv rfl).v_inv.1
   refine ⟨n.toNat,h.2,.inr ⟨y,kd,rfl,?_⟩⟩
   rw [e,Int.toNat_of_nonneg h.1]
  ·exact h.elim
theorem run_bounds {P:Program} {a:Act} {w:World} {isS:Bool} {lo hi:Option Operand} {l h len cap:Nat}
  (hl:(lo=none∧l=0)∨∃ y kd,lo=some y∧a.eval y = .int kd (l:Int)) (hh:(hi=none∧h=len)∨∃ y kd,hi=some y∧a.eval y = .int kd (h:Int))
  (h1:l≤h) (h2:h≤cap):(Instr.sliceBounds isS len cap (lo.map a.eval) (hi.map a.eval) none).run P w = .ok (l,h,cap) w:=by
 have e1:∀ kd (n y:Nat) c,n≤y→(Instr.sliceBound (.int kd (n:Int)) y c).run P w = .ok n w:=by
  intro kd n y c hn
  have:((n:Int)≤(y:Int)):=by omega
  simp [Instr.sliceBound,asIntOf,this]
 rcases hl with ⟨rfl,rfl⟩ | ⟨y,kd,rfl,ey⟩
 ·rcases hh with ⟨rfl,rfl⟩ | ⟨z,kz,rfl,ez⟩
  ·simp [Instr.sliceBounds]
  ·simp [Instr.sliceBounds,ez,e1 kz h cap _ h2]
 ·rcases hh with ⟨rfl,rfl⟩ | ⟨z,kz,rfl,ez⟩
  ·simp [Instr.sliceBounds,ey,e1 kd l h _ h1]
  ·simp [Instr.sliceBounds,ez,ey,e1 kz h cap _ h2,e1 kd l h _ h1]
theorem cutV_run {P:Program} {a:Act} {w:World} {tb:Tab} (hT:TabOk P tb) {t e:TypeId} (ht:tb.kd t=some (.slice e)) {base:Option Addr} {lo hi:Option Operand} {l h len cap:Nat}
  (hl:(lo=none∧l=0)∨∃ y kd,lo=some y∧a.eval y = .int kd (l:Int)) (hh:(hi=none∧h=len)∨∃ y kd,hi=some y∧a.eval y = .int kd (h:Int))
  (h1:l≤h) (h2:h≤cap):(Instr.sliceAt t (.slice base len cap) (lo.map a.eval) (hi.map a.eval) none).run P w = .ok (cutV (P.cellsOf e) (.slice base len cap) l h) w:=by
 have hu:=hT.kd_slice ht
 have hs:=hT.kd_size ht w
 have hb:=run_bounds (P:=P) (w:=w) (isS:=true) hl hh h1 h2
 simp [Instr.sliceAt,run_underlying hu,Instr.slice,hb,hs,cutV]
theorem cutV_cutV {sz:Nat} {base:Option Addr} {len cap lo hi l h:Nat} (h1:l=0∨l<hi-lo) (hlo:lo≤hi) (hc:hi≤cap) (hb:∀ a,base=some a→a.spot=none) :
  cutV sz (cutV sz (.slice base len cap) lo hi) l h=cutV sz (.slice base len cap) (lo+l) (lo+h):=by
 have hadd:∀ a:Addr,a.spot=none→(a.add (lo*sz)).add (l*sz)=a.add ((lo+l)*sz):=by
  rintro ⟨b,o,s⟩ hs
  simp only at hs
  subst hs
  rw [add_plain,add_plain,add_plain,Nat.add_mul,Nat.add_assoc]
 have e1:lo+h-(lo+l)=h-l:=by omega
 have e2:cap-lo-l=cap-(lo+l):=by omega
 by_cases hl0:l=0
 ·subst hl0
  simp only [cutV,Nat.add_zero,Nat.zero_mul,Nat.sub_zero]
  have e3:lo+h-lo=h:=by omega
  rw [e3]
  congr 1
  split
  ·split<;>rfl
  ·split
   ·omega
   ·cases base with
    | none=>rfl
    | some a=>simp [Addr.add]
 ·have hl1:l<hi-lo:=by omega
  have n1:cap≠lo:=by omega
  have n2:cap-lo≠l:=by omega
  have n3:cap≠lo+l:=by omega
  simp only [cutV,if_neg n1,if_neg n2,if_neg n3,e1,e2]
  congr 1
  cases base with
  | none=>rfl
  | some a=>simp [hadd a (hb a rfl)]
theorem OwnT.spot {P:Program} {w:World} {e:TypeId} {xs:List (List T)} {base:Option Addr} {n cap:Nat} {F:Nat→Prop} (h:OwnT P w (.sl e xs) (.slice base n cap) F):∀ a,base=some a→a.spot=none:=by
 intro a ha
 cases h with
 | emp=>cases ha
 | row=>injection ha with ha; subst ha; rfl
section ops
variable {w0:World} {L:Nat→Nat→Prop} {C:Ctx} (R:Rel w0 L C) {np:Nat} {K:Env→Prop} {next:Act→World→Prop} (hn:Nxt w0 L np C K next) {Q:Exit→Act→World→Prop} {o:Oper}
include R hn
theorem snd_slice {tb:Tab} (hT:TabOk C.P tb) {t:TypeId} {x:Operand} {lo hi mx:Option Operand} (ho:o.op = .slice t x lo hi mx) (h:(opSlice tb o.dst t x lo hi mx).wp C.E (Done C.P K C.E)):o.wp C.P C.a C.w next Q:=by
 unfold opSlice at h
 split at h
 ·exact h.elim
 ·replace h:=opdR_wp R h
  obtain ⟨d,h,hv⟩:=h
  split at h
  ·rename_i b hk
   have hu:=hT.kd_str hk
   obtain ⟨ex,hs⟩:=(hv rfl).v_inv
   replace h:=boundR_wp R h
   obtain ⟨l,h,hl⟩:=h
   replace h:=boundR_wp R h
   obtain ⟨m,h,hm⟩:=h
   obtain ⟨⟨h1,h2⟩,h⟩:=h
   rw [toL_length] at hm h2
   refine wp_value (w':=C.w) (v:=vS (((toL b).drop l).take (m-l))) ?_ (wrS_done R hn (.refl _) h (.v ?_))
   ·have hb:=run_bounds (P:=C.P) (w:=C.w) (isS:=false) (cap:=b.size) hl hm h1 h2
    simp [execOp,ho,ex,Instr.sliceAt,run_underlying hu,Instr.slice,hb,extract_ofL]
   ·simp only [scal,decide_eq_true_eq] at hs ⊢
    have:(ofL (((toL b).drop l).take (m-l))).size≤b.size:=by
     show (((toL b).drop l).take (m-l)).length≤_
     simp only [List.length_take,List.length_drop,toL_length]; omega
    omega
  ·rename_i e p hk
   obtain ⟨ex,e',xs,hl'⟩:=(hv rfl).ali_inv
   rw [leafR_wp,hl'] at h
   replace h:=boundR_wp R h
   obtain ⟨l,h,hl⟩:=h
   replace h:=boundR_wp R h
   obtain ⟨m,h,hm⟩:=h
   obtain ⟨⟨h1,h2,rfl⟩,h⟩:=h
   obtain ⟨base,cap,hval,hc,hc2⟩:=(R.ownLeaf hl').slice (hT.kd_ne hk)
   rw [hval] at ex
   refine wp_value (w':=C.w) (v:=cutV (C.P.cellsOf e') (C.cv p) l m) ?_ (wrS_done R hn (.refl _) h ?_)
   ·rw [hval]
    have hr:=cutV_run (P:=C.P) (a:=C.a) (w:=C.w) hT hk (base:=base) (cap:=cap) hl hm h1 (by omega)
    simp [execOp,ho,ex,hr]
   ·exact .leaf rfl (by rw [hval]; rfl) rfl fun p' => .sub p' p l m e' xs hl' h1 h2 (hT.kd_ne hk)
  ·rename_i e p a b hk
   obtain ⟨e',xs,hl',g1,g2,hne,ex⟩:=(hv rfl).sub_inv
   rw [leafR_wp,hl'] at h
   replace h:=boundR_wp R h
   obtain ⟨l,h,hl⟩:=h
   replace h:=boundR_wp R h
   obtain ⟨m,h,hm⟩:=h
   obtain ⟨⟨h1,h2,h3,rfl⟩,h⟩:=h
   have hown:=R.ownLeaf hl'
   obtain ⟨base,cap,hval,hc,hc2⟩:=hown.slice hne
   rw [hval] at ex hown
   have key:=cutV_cutV (sz:=C.P.cellsOf e') (len:=xs.length) (h:=m) h3 g1 (by omega:b≤cap) hown.spot
   refine wp_value (w':=C.w) (v:=cutV (C.P.cellsOf e') (C.cv p) (a+l) (a+m)) ?_ (wrS_done R hn (.refl _) h ?_)
   ·rw [hval,←key]
    have hr:=fun w=>cutV_run (P:=C.P) (a:=C.a) (w:=w) hT hk (base:=if cap=a then base else base.map (·.add (a*C.P.cellsOf e'))) (len:=b-a) (cap:=cap-a) hl hm h1 (by omega)
    simp only [cutV] at ex hr ⊢
    simp [execOp,ho,ex,hr]
   ·exact .leaf rfl (by rw [hval]; rfl) rfl fun p' => .sub p' p _ _ e' xs hl' (by omega) (by omega) hne
  ·rename_i e e' xs hk
   have hr:=(hv rfl).imm_inv
   replace h:=boundR_wp R h
   obtain ⟨l,h,hl⟩:=h
   replace h:=boundR_wp R h
   obtain ⟨m,h,hm⟩:=h
   obtain ⟨⟨h1,h2,rfl⟩,h⟩:=h
   have hcut:=RdT.cut hr h1 h2 (hT.kd_ne hk)
   obtain ⟨base,cap,hval,hc,hb,hc2,_⟩:=hr.slice (hT.kd_ne hk)
   have hcap:m≤cap∨xs=[]:=by
    by_cases hx:xs=[]
    ·exact .inr hx
    ·exact .inl (Nat.le_trans h2 (hc2 (hb hx)))
   have hmc:m≤cap:=by
    rcases hcap with h | h
    ·exact h
    ·subst h; simp at h2; omega
   refine wp_value (w':=C.w) (v:=cutV (C.P.cellsOf e') (C.a.eval x) l m) ?_ (wrS_done R hn (.refl _) h ?_)
   ·rw [hval]
    have hr:=cutV_run (P:=C.P) (a:=C.a) (w:=C.w) hT hk (base:=base) (cap:=cap) hl hm h1 hmc
    simp [execOp,ho,hval,hr]
   ·exact .leaf rfl (by rw [hval]; rfl) rfl fun p' => .imm p' _ _ _ hcut
  ·rename_i e hk
   have ex:=(hv rfl).nil_inv
   replace h:=boundR_wp R h
   obtain ⟨l,h,hl⟩:=h
   replace h:=boundR_wp R h
   obtain ⟨m,h,hm⟩:=h
   obtain ⟨⟨rfl,rfl⟩,h⟩:=h
   refine wp_value (w':=C.w) (v := .slice none 0 0) ?_ (wrS_done R hn (.refl _) h (.leaf rfl rfl rfl fun p => .nil p))
   have hr:=cutV_run (P:=C.P) (a:=C.a) (w:=C.w) hT hk (base:=none) (cap:=0) hl hm (Nat.le_refl _) (Nat.le_refl _)
   simp [execOp,ho,ex,hr,cutV]
  ·exact h.elim
end ops
theorem run_load_cells {P:Program} {w:World} {t:TypeId} {i:TI} (hT:TIok P t i) {a:Addr} (cs:List Value) (hl:cs.length=i.size) (hc:∀ j v,cs[j]? = some v→w.cell? (a.add j)=some v) :
  (Instr.loadAt t (.pointer (some a))).run P w = .ok (if i.k.isStruct then .agg cs.toArray else cs.getD 0 undef) w:=by
 have hload:=run_loadCells_list (P:=P) w a cs hc
 have hs:=hT.sizeOf w
 have one:∀ d,P.underlying t=some d→(match d with | .struct _ | .array _ _=>False | _=>True)→i.k.isStruct=false→(Instr.loadAt t (.pointer (some a))).run P w = .ok (if i.k.isStruct then .agg cs.toArray else cs.getD 0 undef) w:=by
  intro d hu hd hk
  have h1:=hT.nag hk
  have h0:=hc 0 (cs.getD 0 undef) (by rw [gDg,gEg (by omega)]; rfl)
  have ea:a.add 0=a:=by simp [Addr.add]
  rw [ea] at h0
  have hagg:(isAgg t).run P w = .ok false w:=by
   simp only [isAgg,Sem.run_bind,run_underlying hu,Result.andThen_ok]
   cases d<;>first | rfl | exact hd.elim
  simp [Instr.loadAt,Instr.sureAddr,loadVar,hagg,h0,hk]
 have hk:=hT.k
 unfold KOk at hk
 split at hk<;>rename_i hik
 ·exact one _ hk trivial (by rw [hik]; rfl)
 ·exact one _ hk trivial (by rw [hik]; rfl)
 ·exact one _ hk trivial (by rw [hik]; rfl)
 ·exact one _ hk trivial (by rw [hik]; rfl)
 ·exact one _ hk.1 trivial (by rw [hik]; rfl)
 ·obtain ⟨fs,hu,_⟩:=hk
  have hagg:(isAgg t).run P w = .ok true w:=by simp [isAgg,run_underlying hu]
  rw [←hl] at hs
  simp [Instr.loadAt,Instr.sureAddr,loadVar,hagg,hik,K.isStruct,hs,hload]
 ·exact one _ hk trivial (by rw [hik]; rfl)
 ·obtain ⟨d,hu,hd⟩:=hk
  exact one d hu hd (by rw [hik]; rfl)
theorem mkD_rel {C:Ctx} {P:Program} {t:TypeId} {i:TI} (hT:TIok P t i) {ds:List D} {cs:List Value} (hl:ds.length=i.size) (hc:cs.length=i.size)
  (h:∀ (j:Nat) (d:D),ds[j]? = some d→d.leafy=true∧d.isOwn=false∧one (cs.getD j undef)=true∧∀ p,LRel C p d (cs.getD j undef)) :
  VRel C (mkD i.k ds) (if i.k.isStruct then .agg cs.toArray else cs.getD 0 undef):=by
 unfold mkD
 cases hs:i.k.isStruct with
 | true =>
  simp only [if_true]
  refine .agg (by simp [hl,hc]) (by rw [hl]; exact hT.small) fun j d hd => ?_
  have:=h j d hd
  rw [←arr_list_getD]
  simpa using this
 | false =>
  have h1:=hT.nag hs
  simp only [Bool.false_eq_true,if_false]
  have hd:ds[0]? = some (ds.getD 0 .dead):=by
   rw [gDg,gEg (by omega)]; rfl
  obtain ⟨a,b,c,d⟩:=h 0 _ hd
  exact .leaf a c b d
theorem getD_range_map {f:Nat→Value} {n j:Nat} (h:j<n):((List.range n).map f).getD j undef=f j:=by
 rw [gDg,List.getElem?_map,List.getElem?_range h]; rfl
theorem toEs_get (p:Lf) (i:Nat):∀ (ts:List T) (j k:Nat),(toEs p i j ts)[k]? = (ts[k]?).map (T.toE p i (j+k))
 | [],j,k=>by simp [toEs]
 | t::ts,j,0=>by simp [toEs]
 | t::ts,j,k+1=>by
  simp only [toEs,List.getElem?_cons_succ]
  rw [toEs_get p i ts (j+1) k]
  congr 2; omega
theorem toEs_length (p:Lf) (i:Nat):∀ (ts:List T) (j:Nat),(toEs p i j ts).length=ts.length
 | [],_=>rfl
 | t::ts,j=>by simp [toEs,toEs_length p i ts]
theorem cell_of {w:World} {b o:Nat} {cs:Array Value} {e:TypeId} {fr:Nat × Nat} (h:w.heap[b]? = some (.cells cs e fr)):w.cell? ⟨b,o,none⟩=cs[o]? := by
 simp [World.cell?,h]
theorem getD_get? {cs:Array Value} {o:Nat} (h:o<cs.size):cs[o]? = some (cs.getD o undef):=by simp [Array.getD,h]
section ops
variable {w0:World} {L:Nat→Nat→Prop} {C:Ctx} (R:Rel w0 L C) {np:Nat} {K:Env→Prop} {next:Act→World→Prop} (hn:Nxt w0 L np C K next) {Q:Exit→Act→World→Prop} {o:Oper}
include R hn
theorem snd_load {tb:Tab} (hT:TabOk C.P tb) {t:TypeId} {x:Operand} (ho:o.op = .load t x) (h:(opLoad tb o.dst t x).wp C.E (Done C.P K C.E)):o.wp C.P C.a C.w next Q:=by
 unfold opLoad at h
 cases ht:tb t with
 | none=>rw [ht] at h; exact h.elim
 | some i =>
  rw [ht] at h
  have hk:=hT t i ht
  replace h:=opdR_wp R h
  obtain ⟨d,h,hv⟩:=h
  have hrun:∀ (b a:Nat) (cs:List Value),C.a.eval x = .pointer (some ⟨b,a,none⟩)→cs.length=i.size→(∀ j v,cs[j]? = some v→C.w.cell? ⟨b,a+j,none⟩=some v) →
    (execOp C.a.eval o).run C.P C.w = .ok (.value (if i.k.isStruct then .agg cs.toArray else cs.getD 0 undef)) C.w:=by
   intro b a cs ex hl hc
   have:=run_load_cells hk (a:=⟨b,a,none⟩) cs hl (fun j v hj=>by rw [add_plain]; exact hc j v hj)
   simp only [execOp,ho,ex,bind_pure_comp,Sem.run_map,this,Result.andThen_ok]
  split at h
  ·rename_i c k
   obtain ⟨ds,h1,h2,h3⟩:=(hv rfl).cref_inv
   simp only [Rdr.wp] at h
   have e:C.E.ce.getD c none=some ds:=getD_some h1
   rw [e] at h
   simp only at h
   split at h
   ·rename_i hle
    obtain ⟨cs,ce,fr,g1,g2,g3,g4⟩:=(R.cell c ds h1).out
    refine wp_value (w':=C.w) (hrun _ _ ((List.range i.size).map fun j=>cs.getD ((C.loc c).2+(k+j)) undef) h3 (by simp) ?_) (wrS_done R hn (.refl _) h ?_)
    ·intro j v hj
     rw [List.getElem?_map] at hj
     have hj':j<i.size:=by
      by_cases hlt:j<i.size
      ·exact hlt
      ·rw [List.getElem?_eq_none (by simpa using hlt)] at hj; simp at hj
     rw [List.getElem?_range hj'] at hj
     simp only [Option.map_some,Option.some.injEq] at hj
     rw [cell_of g1,←hj,Nat.add_assoc]
     exact getD_get? (by omega)
    ·refine mkD_rel hk (by rw [mvList_length]; simp; omega) (by simp) fun j d hd => ?_
     rw [mvList_get] at hd
     have hj':j<i.size:=by
      by_cases hlt:j<i.size
      ·exact hlt
      ·rw [List.getElem?_eq_none (by simp; omega)] at hd; simp at hd
     rw [getD_range_map hj']
     rw [List.getElem?_take_of_lt hj',List.getElem?_drop] at hd
     cases hx:ds[k+j]? with
     | none=>rw [hx] at hd; simp at hd
     | some y =>
      rw [hx] at hd
      simp only [Option.map_some,Option.some.injEq] at hd
      subst hd
      obtain ⟨a1,a2,a3⟩:=g4 (k+j) y hx
      have ec:C.cv ⟨true,c,k+j⟩=cs.getD ((C.loc c).2+(k+j)) undef:=cell_cv g1
      rw [←ec] at a2 a3 ⊢
      obtain ⟨b1,b2⟩:=mvLeaf_rel (by rw [leaf_cell _ _ _ _ h1]; exact getD_some hx) a3
      exact ⟨mvLeaf_leafy a1,b1,a2,b2⟩
   ·exact h.elim
  ·rename_i p a j
   obtain ⟨e,xs,b,o',n,cap,h1,h2,h3,h4⟩:=(hv rfl).eref_inv
   rw [leafR_wp,h1] at h
   simp only at h
   split at h
   ·rename_i hle
    have hown:=R.ownLeaf h1
    rw [h2] at hown
    cases hown with
    | row _ _ _ _ _ cs fr F G X g1 g2 g3 g4 g5 g6 g7 g8 g9 g10 g11 g12 =>
    have hr:xs[a]? = some (xs.getD a []):=by rw [gDg,gEg h3]; rfl
    have hget:∀ k tt,(xs.getD a [])[k]? = some tt→T.get? xs a k=some tt:=by
     intro k tt hk; unfold T.get?; rw [hr]; exact hk
    refine wp_value (w':=C.w) (hrun _ _ ((List.range i.size).map fun k=>X a (j+k)) h4 (by simp) ?_) (wrS_done R hn (.refl _) h ?_)
    ·intro k v hk'
     rw [List.getElem?_map] at hk'
     have hj':k<i.size:=by
      by_cases hlt:k<i.size
      ·exact hlt
      ·rw [List.getElem?_eq_none (by simpa using hlt)] at hk'; simp at hk'
     rw [List.getElem?_range hj'] at hk'
     simp only [Option.map_some,Option.some.injEq] at hk'
     rw [cell_of g1,←hk',Nat.add_assoc _ j k]
     have hlt:j+k<(xs.getD a []).length:=by omega
     exact g10 a (j+k) _ (hget _ _ (gEg hlt))
    ·refine mkD_rel hk (by rw [toEs_length,List.length_take,List.length_drop]; omega) (by simp) fun k d hd => ?_
     rw [toEs_get] at hd
     have hj':k<i.size:=by
      by_cases hlt:k<i.size
      ·exact hlt
      ·rw [List.getElem?_eq_none (by rw [List.length_take,List.length_drop]; omega)] at hd; simp at hd
     rw [getD_range_map hj']
     rw [List.getElem?_take_of_lt hj',List.getElem?_drop] at hd
     cases hx:(xs.getD a [])[j+k]? with
     | none=>rw [hx] at hd; simp at hd
     | some y =>
      rw [hx] at hd
      simp only [Option.map_some,Option.some.injEq] at hd
      subst hd
      have q1:=hget _ _ hx
      have q2:=g11 _ _ _ q1
      have q3:=g10 _ _ _ q1
      generalize X a (j+k)=xv at q2 q3
      cases y with
      | v z =>
       cases q2 with
       | v=>exact ⟨rfl,rfl,scal_one (by assumption),fun p => .v p _ (by assumption)⟩
      | sl e2 ys =>
       refine ⟨rfl,rfl,(q2.rd (S:=fun _=>True) fun _ _=>trivial).one,fun p' => ?_⟩
       exact .ela p' p a (j+k) e xs e2 ys b o' xs.length cap xv h1 q1 h2 (by rw [cell_of g1]; exact q3)
   ·exact h.elim
  ·rename_i ds
   obtain ⟨b,o',cs,ce,fr,X,h1,h2,h3,h4,h5,h6⟩:=(hv rfl).rptr_inv
   split at h
   ·rename_i hle
    refine wp_value (w':=C.w) (hrun _ _ ((List.range i.size).map X) h6 (by simp) ?_) (wrS_done R hn (.refl _) h ?_)
    ·intro j v hj
     rw [List.getElem?_map] at hj
     have hj':j<i.size:=by
      by_cases hlt:j<i.size
      ·exact hlt
      ·rw [List.getElem?_eq_none (by simpa using hlt)] at hj; simp at hj
     rw [List.getElem?_range hj'] at hj
     simp only [Option.map_some,Option.some.injEq] at hj
     rw [cell_of h1,←hj]
     exact (h3 j _ (gEg (by omega))).1
    ·refine mkD_rel hk (by simp; omega) (by simp) fun j d hd => ?_
     have hj':j<i.size:=by
      by_cases hlt:j<i.size
      ·exact hlt
      ·rw [List.getElem?_eq_none (by simp; omega)] at hd; simp at hd
     rw [getD_range_map hj']
     rw [List.getElem?_take_of_lt hj'] at hd
     have hp:=h4 j d hd
     exact ⟨by cases d<;>first | rfl | simp [D.pure] at hp,by cases d<;>first | rfl | simp [D.pure] at hp,(h3 j d hd).2,h5 j d hd⟩
   ·exact h.elim
  ·exact h.elim
end ops
def Lined (C:Ctx) (ds:List D) (cs:Array Value):Prop :=
 ds.length=cs.size∧∀ (j:Nat) (d:D),ds[j]? = some d→d.leafy=true∧d.isOwn=false∧one (cs.getD j undef)=true∧∀ p,LRel C p d (cs.getD j undef)
theorem setRange_length {α:Type}:∀ (xs:List α) (l:List α) (k:Nat),(setRange l k xs).length=l.length
 | [],_,_=>rfl
 | x::xs,l,k=>by simp [setRange,setRange_length xs]
theorem setRange_get {α:Type}:∀ (xs:List α) (l:List α) (k j:Nat),k+xs.length≤l.length→(setRange l k xs)[j]? = if k≤j∧j<k+xs.length then xs[j-k]? else l[j]?
 | [],l,k,j,_=>by simp [setRange]; intro h1 h2; omega
 | x::xs,l,k,j,h=>by
  simp only [setRange,List.length_cons] at h ⊢
  rw [setRange_get xs (l.set k x) (k+1) j (by simp; omega)]
  by_cases h1:k+1≤j∧j<k+1+xs.length
  ·rw [if_pos h1,if_pos (by omega)]
   have:j-k=j-(k+1)+1:=by omega
   rw [this,List.getElem?_cons_succ]
  ·rw [if_neg h1]
   by_cases h2:j=k
   ·subst h2
    rw [if_pos (by omega),List.getElem?_set_self (by omega)]
    simp
   ·rw [if_neg (by omega),List.getElem?_set_ne (by omega)]
def putCells (vs:List Value) (off:Nat) (cs:Array Value):Array Value:=(vs.zipIdx).foldl (fun cs (c,j)=>cs.setIfInBounds (off+j) c) cs
theorem putFrom (off:Nat):∀ (vs:List Value) (s:Nat) (cs:Array Value),off+s+vs.length≤cs.size →
  ((vs.zipIdx s).foldl (fun cs (c,j)=>cs.setIfInBounds (off+j) c) cs).size=cs.size ∧
  ∀ j,((vs.zipIdx s).foldl (fun cs (c,j)=>cs.setIfInBounds (off+j) c) cs)[j]? = if off+s≤j∧j<off+s+vs.length then vs[j-(off+s)]? else cs[j]?
 | [],s,cs,_=>by refine ⟨rfl,fun j => ?_⟩; rw [if_neg (by simp only [List.length_nil]; omega)]; rfl
 | v::vs,s,cs,h=>by
  simp only [List.length_cons] at h
  obtain ⟨h1,h2⟩:=putFrom off vs (s+1) (cs.setIfInBounds (off+s) v) (by simp; omega)
  simp only [List.zipIdx_cons,List.foldl_cons]
  refine ⟨by rw [h1]; simp,fun j => ?_⟩
  rw [h2 j]
  by_cases a:off+(s+1)≤j∧j<off+(s+1)+vs.length
  ·rw [if_pos a,if_pos (by simp; omega)]
   have:j-(off+s)=j-(off+(s+1))+1:=by omega
   rw [this,List.getElem?_cons_succ]
  ·rw [if_neg a]
   by_cases b:j=off+s
   ·subst b
    rw [if_pos (by simp),Array.getElem?_setIfInBounds_self_of_lt (by omega)]
    simp
   ·rw [if_neg (by simp; omega),Array.getElem?_setIfInBounds_ne (by omega)]
theorem arrGetD {cs:Array Value} {j:Nat}:cs.getD j undef=(cs[j]?).getD undef:=by
 rw [Array.getD_eq_getD_getElem?]
theorem lstGetD {cs:List Value} {j:Nat}:cs.getD j undef=(cs[j]?).getD undef:=gDg ..
theorem Lined.put {C:Ctx} {ds:List D} {cs:Array Value} (h:Lined C ds cs) {xs:List D} {vs:Array Value} (hx:Lined C xs vs) {off:Nat} (hle:off+xs.length≤ds.length) :
  Lined C (setRange ds off xs) (vs.zipIdx.foldl (fun cs (c,j)=>cs.setIfInBounds (off+j) c) cs):=by
 obtain ⟨a1,a2⟩:=h
 obtain ⟨b1,b2⟩:=hx
 have e:vs.zipIdx.foldl (fun cs (c,j)=>cs.setIfInBounds (off+j) c) cs=(vs.toList.zipIdx 0).foldl (fun cs (c,j)=>cs.setIfInBounds (off+j) c) cs:=by
  rw [←Array.foldl_toList,Array.toList_zipIdx]
 have hvs:vs.toList.length=xs.length:=by simp [b1]
 obtain ⟨p1,p2⟩:=putFrom off vs.toList 0 cs (by rw [hvs]; omega)
 rw [e]
 refine ⟨by rw [setRange_length,p1,a1],fun j d hd => ?_⟩
 rw [setRange_get _ _ _ _ hle] at hd
 have hj:=p2 j
 rw [arrGetD,hj]
 simp only [Nat.add_zero,hvs]
 by_cases hr:off≤j∧j<off+xs.length
 ·rw [if_pos hr] at hd ⊢
  have:=b2 _ d hd
  rw [←arr_list_getD,lstGetD] at this
  exact this
 ·rw [if_neg hr] at hd ⊢
  have:=a2 _ d hd
  rw [arrGetD] at this
  exact this
theorem VRel.lined {C:Ctx} {d:D} {v:Value} (h:VRel C d v) (ht:d.isTup=false) (hd:d ≠ .dead):Lined C d.leaves1 v.cells:=by
 by_cases hl:d.leafy=true
 ·obtain ⟨h1,h2⟩:=h.lf hl hd
  have e1:v.cells = #[v]:=by cases v<;>first | rfl | simp [one] at h2
  rw [leafy_leaves1 hl,e1]
  have ho:d.isOwn=false:=by
   have:=h.1
   cases d<;>first | rfl | (simp [D.anyOwn,D.comps,D.leaves1,D.isOwn] at this)
  refine ⟨rfl,fun j x hx => ?_⟩
  cases j with
  | zero=>simp at hx; subst hx; exact ⟨hl,ho,h2,fun p=>h1.any ho p⟩
  | succ j=>simp at hx
 ·cases d<;>first | (simp [D.leafy] at hl; done) | (simp [D.isTup] at ht; done) | skip
  rename_i ds
  obtain ⟨vs,rfl,a,b,c⟩:=h.agg_inv
  exact ⟨a,c⟩
section ops
variable {w0:World} {L:Nat→Nat→Prop} {C:Ctx} (R:Rel w0 L C)
include R
theorem partsR_wp {K:List D→Rdr Stp} {Q:Stp→Prop} {place:Nat→Option (Nat × Nat)}:∀ (ps:List (Nat × Operand)) (qs:List (Nat × Nat × Operand)) (ds:List D) (cs:Array Value),
  qs.length=ps.length→(∀ (j:Nat) (p:Nat × Operand) (q:Nat × Nat × Operand),ps[j]? = some p→qs[j]? = some q→q.2.2=p.2∧place p.1=some (q.1,q.2.1))→Lined C ds cs→(partsR ds qs K).wp C.E Q →
  ∃ ds' cs',(K ds').wp C.E Q∧Lined C ds' cs'∧Instr.fill place cs (ps.map fun p=>(p.1,C.a.eval p.2))=some cs'∧ds'.length=ds.length
 | [],[],ds,cs,_,_,hl,h=>⟨ds,cs,h,hl,rfl,rfl⟩
 | [],q::qs,ds,cs,h,_,_,_=>by simp at h
 | p::ps,[],ds,cs,h,_,_,_=>by simp at h
 | p::ps,(off,n,x)::qs,ds,cs,hlen,hp,hl,h=>by
  simp only [partsR] at h
  replace h:=opdR_wp R h
  obtain ⟨d,h,hv⟩:=h
  split at h
  ·exact h.elim
  ·rename_i hcond
   simp only [Bool.or_eq_true,decide_eq_true_eq,bne_iff_ne,ne_eq,not_or,Bool.not_eq_true,Decidable.not_not] at hcond
   obtain ⟨⟨⟨c1,c0⟩,c2⟩,c3⟩:=hcond
   obtain ⟨e1,e2⟩:=hp 0 p (off,n,x) rfl rfl
   simp only at e1 e2
   subst e1
   have hv:=hv c1
   have hdd:d ≠ .dead:=by rintro rfl; simp [D.isDead] at c0
   have hx:=hv.lined c1 hdd
   have h2:=hl.put hx (off:=off) (by omega)
   obtain ⟨ds',cs',k1,k2,k3,k4⟩:=partsR_wp ps qs _ _ (by simpa using hlen) (fun j p' q' a b=>hp (j+1) p' q' (by simpa using a) (by simpa using b)) h2 h
   refine ⟨ds',cs',k1,k2,?_,by rw [k4,setRange_length]⟩
   simp only [List.map_cons,Instr.fill,e2]
   rw [if_neg]
   ·exact k3
   ·have:=hx.1
    have:=hl.1
    simp only [ne_eq,Bool.or_eq_true,decide_eq_true_eq,not_or,Decidable.not_not]
    omega
variable {np:Nat} {K:Env→Prop} {next:Act→World→Prop} (hn:Nxt w0 L np C K next) {Q:Exit→Act→World→Prop} {o:Oper}
include hn
theorem snd_build {tb:Tab} (hT:TabOk C.P tb) {t:TypeId} {ps:Array (Nat × Operand)} (ho:o.op = .build t ps) (h:(opBuild tb o.dst t ps.toList).wp C.E (Done C.P K C.E)):o.wp C.P C.a C.w next Q:=by
 unfold opBuild at h
 cases ht:tb t with
 | none=>rw [ht] at h; exact h.elim
 | some i =>
  rw [ht] at h
  have hi:=hT t i ht
  simp only at h
  cases hst:i.k.isStruct with
  | false=>rw [hst] at h; exact h.elim
  | true =>
  rw [hst] at h
  simp only [if_true] at h
  have hk:=hi.k
  unfold KOk at hk
  rw [isStruct_eq hst] at hk
  obtain ⟨fs,hu,hall,hfs⟩:=hk
  obtain ⟨j,z,i1,i2,i3,i4,i5,i6,i7⟩:=hi.info
  have hpl:∃ pl:List (Nat × Nat),fs.toList.mapM (fun f=>(C.P.info? f.type).map fun i=>(f.offset,i.size))=some pl∧∀ (f:Nat) (x:Field) (j:TypeInfo),fs[f]? = some x→C.P.info? x.type=some j→pl[f]? = some (x.offset,j.size):=by
   have:∀ l:List Field,(∀ y,y∈l→(C.P.info? y.type).isSome=true)→∃ pl:List (Nat × Nat),l.mapM (fun f=>(C.P.info? f.type).map fun i=>(f.offset,i.size))=some pl∧∀ (f:Nat) (x:Field) (j:TypeInfo),l[f]? = some x→C.P.info? x.type=some j→pl[f]? = some (x.offset,j.size):=by
    intro l
    induction l with
    | nil=>intro _; exact ⟨[],rfl,fun f x j hx=>by simp at hx⟩
    | cons y l ih =>
     intro hy
     obtain ⟨pl,h1,h2⟩:=ih (fun y' hy'=>hy y' (List.mem_cons_of_mem _ hy'))
     have:=hy y (List.mem_cons_self ..)
     cases hj:C.P.info? y.type with
     | none=>rw [hj] at this; simp at this
     | some jj =>
      refine ⟨(y.offset,jj.size)::pl,by simp [List.mapM_cons,hj,h1],fun f x j hx hxj => ?_⟩
      cases f with
      | zero=>simp at hx; subst hx; rw [hj] at hxj; injection hxj with hxj; subst hxj; rfl
      | succ f=>simpa using h2 f x j (by simpa using hx) hxj
   obtain ⟨pl,h1,h2⟩:=this fs.toList (fun y hy=>(hall y hy).1)
   exact ⟨pl,h1,fun f x j hx=>h2 f x j (by simpa using hx)⟩
  obtain ⟨pl,hp1,hp2⟩:=hpl
  split at h
  ·rename_i qs hqs
   have hq:∀ (ps:List (Nat × Operand)) (qs:List (Nat × Nat × Operand)),places i i.fsize ps=some qs→qs.length=ps.length∧∀ (j:Nat) (p:Nat × Operand) (q:Nat × Nat × Operand),ps[j]? = some p→qs[j]? = some q→q.2.2=p.2∧pl.toArray[p.1]? = some (q.1,q.2.1):=by
    intro ps
    induction ps with
    | nil=>intro qs hq; simp [places] at hq; subst hq; exact ⟨rfl,fun j p q hp=>by simp at hp⟩
    | cons p ps ih =>
     intro qs hq
     obtain ⟨f,x⟩:=p
     simp only [places] at hq
     cases ho:i.fields[f]? with
     | none=>rw [ho] at hq; simp at hq
     | some off =>
      cases hr:places i i.fsize ps with
      | none=>rw [ho,hr] at hq; simp at hq
      | some r =>
       rw [ho,hr] at hq
       simp only [Option.some.injEq] at hq
       subst hq
       obtain ⟨ih1,ih2⟩:=ih r hr
       refine ⟨by simp [ih1],fun j p q hp hq => ?_⟩
       cases j with
       | zero =>
        simp at hp hq
        subst hp; subst hq
        obtain ⟨y,h1,h2,jj,h3,h4,h5⟩:=hfs f off ho
        have:=hp2 f y jj h1 h3
        exact ⟨rfl,by simpa [h2,h5] using this⟩
       | succ j=>exact ih2 j p q (by simpa using hp) (by simpa using hq)
   obtain ⟨q1,q2⟩:=hq ps.toList qs hqs
   have hz:Lined C i.zero z.cells:=by
    rw [i6]
    refine ⟨by simp,fun j d hd => ?_⟩
    rw [List.getElem?_map] at hd
    cases hx:z.cells.toList[j]? with
    | none=>rw [hx] at hd; simp at hd
    | some y =>
     rw [hx] at hd
     simp only [Option.map_some,Option.some.injEq] at hd
     subst hd
     rw [←arr_list_getD,getD_some hx]
     have:=List.all_eq_true.1 i7 y (List.mem_of_getElem? hx)
     obtain ⟨a,b,c⟩:=constLeaf_cases y this
     exact ⟨a,b,this,fun p=>c C p⟩
   obtain ⟨ds',cs',k1,k2,k3,k4⟩:=partsR_wp R (place:=(pl.toArray[·]?)) ps.toList qs i.zero z.cells q1 q2 hz h
   have hb:C.P.built t ((ps.map fun p=>(p.1,C.a.eval p.2)).toList)=some cs':=by
    unfold Program.built
    rw [i1,hu]
    simp only [i4,hp1]
    rw [Array.toList_map]
    exact k3
   refine wp_value (w':=C.w) (v := .agg cs') ?_ (wrS_done R hn (.refl _) k1 (.agg k2.1 ?_ k2.2))
   ·have:=run_build C.w t (ps.map fun p=>(p.1,C.a.eval p.2)) cs' hb
    simp only [execOp,ho,bind_pure_comp,Sem.run_map]
    rw [this]; rfl
   ·rw [k4,i6]; simp; rw [i5]; exact hi.small
  ·exact h.elim
end ops
def SimpT (t:T) (v:Value):Prop:=(t = .v v∧scal v=true)∨(∃ e,t = .sl e []∧v = .slice none 0 0)
theorem OwnT.simple {P:Program} {w:World} {e:TypeId} {xs:List (List T)} {b o cap:Nat} {cs:Array Value} {fr:Nat × Nat} (h1:w.heap[b]? = some (.cells cs e fr)) (h3:Thawed (cs.size+(P.cellsOf e-1)) fr)
  (h4:o+cap*P.cellsOf e≤cs.size) (h5:xs.length≤cap) (h6:cap≤9223372036854775807) (h7:∀ (i:Nat) (r:List T),xs[i]? = some r→r.length=P.cellsOf e)
  (hX:∀ i j t,T.get? xs i j=some t→∃ v,cs[o+i*P.cellsOf e+j]? = some v∧SimpT t v) (hf:flatP P e=true→∀ i j t,T.get? xs i j=some t→t.isV=true) :
  OwnT P w (.sl e xs) (.slice (some ⟨b,o,none⟩) xs.length cap) (fun b'=>b'=b):=by
 refine .row e xs b o cap cs fr _ (fun _ _ _=>False) (fun i j=>cs.getD (o+i*P.cellsOf e+j) undef) h1 rfl h3 h4 h5 h6 h7 (fun _ _ _ h=>h.elim) (fun _ _ _ _ _ h=>h.elim) ?_ ?_ hf
 ·intro i j t ht
  obtain ⟨v,a,b⟩:=hX i j t ht
  rw [arrGetD,a]; rfl
 ·intro i j t ht
  obtain ⟨v,a,b⟩:=hX i j t ht
  rw [arrGetD,a]
  rcases b with ⟨rfl,b⟩ | ⟨e',rfl,rfl⟩
  ·exact .v v _ b
  ·exact .emp e' _
theorem heap_new (w:World) (o:Obj):(w.alloc o).heap[w.heap.size]? = some o:=by
 show (w.heap.push o)[w.heap.size]? = _
 simp
theorem Ext.drewAlloc (w:World) (o:Obj):Ext w (w.drew.alloc o):=(Ext.drew w).trans (Ext.alloc _ o)
theorem size_alloc (w:World) (o:Obj):(w.alloc o).heap.size=w.heap.size+1:=by
 show (w.heap.push o).size=_
 simp
theorem toTs_get:∀ (es:List TypeId) (ds:List D) (ts:List T),toTs es ds=some ts→ts.length=ds.length∧es.length=ds.length∧∀ (j:Nat) (t:T),ts[j]? = some t→∃ e d,es[j]? = some e∧ds[j]? = some d∧d.toT e=some t
 | [],[],ts,h=>by simp [toTs] at h; subst h; exact ⟨rfl,rfl,fun j t h=>by simp at h⟩
 | [],d::ds,ts,h=>by simp [toTs] at h
 | e::es,[],ts,h=>by simp [toTs] at h
 | e::es,d::ds,ts,h=>by
  simp only [toTs] at h
  cases h1:d.toT e with
  | none=>rw [h1] at h; simp at h
  | some t =>
   cases h2:toTs es ds with
   | none=>rw [h1,h2] at h; simp at h
   | some ts' =>
    rw [h1,h2] at h
    simp only [Option.some.injEq] at h
    subst h
    obtain ⟨a,b,c⟩:=toTs_get es ds ts' h2
    refine ⟨by simp [a],by simp [b],fun j t' h => ?_⟩
    cases j with
    | zero=>simp at h; subst h; exact ⟨e,d,rfl,rfl,h1⟩
    | succ j=>simpa using c j t' (by simpa using h)
theorem rowsOf_get (les:List TypeId):∀ (rs:List (List D)) (xs:List (List T)),rowsOf les rs=some xs→xs.length=rs.length∧∀ (i:Nat) (x:List T),xs[i]? = some x→∃ r,rs[i]? = some r∧toTs les r=some x
 | [],xs,h=>by simp [rowsOf] at h; subst h; exact ⟨rfl,fun i x h=>by simp at h⟩
 | r::rs,xs,h=>by
  simp only [rowsOf] at h
  cases h1:toTs les r with
  | none=>rw [h1] at h; simp at h
  | some x =>
   cases h2:rowsOf les rs with
   | none=>rw [h1,h2] at h; simp at h
   | some xs' =>
    rw [h1,h2] at h
    simp only [Option.some.injEq] at h
    subst h
    obtain ⟨a,b⟩:=rowsOf_get les rs xs' h2
    refine ⟨by simp [a],fun i x' h => ?_⟩
    cases i with
    | zero=>simp at h; subst h; exact ⟨r,rfl,h1⟩
    | succ i=>simpa using b i x' (by simpa using h)
theorem toT_simp {C:Ctx} {e:TypeId} {d:D} {t:T} {v:Value} (h:d.toT e=some t) (hl:LRel C ⟨false,0,0⟩ d v):SimpT t v∧(e=0→t.isV=true):=by
 cases d<;>simp only [D.toT] at h<;>try (cases h; done)
 ·injection h with h; subst h
  cases hl with | v _ hs=>exact ⟨.inl ⟨rfl,hs⟩,fun _=>rfl⟩
 ·split at h
  ·cases h
  ·rename_i he
   injection h with h; subst h
   cases hl
   exact ⟨.inr ⟨e,rfl,rfl⟩,fun h=>by simp [h] at he⟩
theorem constLeaf_toT {e:TypeId} {x:Value} {t:T} (h:(constLeaf x).toT e=some t) (hx:one x=true):SimpT t x∧(e=0→t.isV=true):=by
 unfold constLeaf at h
 split at h
 ·simp only [D.toT] at h
  split at h
  ·cases h
  ·rename_i he
   injection h with h; subst h
   exact ⟨.inr ⟨e,rfl,rfl⟩,fun h=>by simp [h] at he⟩
 ·split at h
  ·rename_i hs
   simp only [D.toT,Option.some.injEq] at h
   subst h
   exact ⟨.inl ⟨rfl,hs⟩,fun _=>rfl⟩
  ·simp [D.toT] at h
theorem flat_les {P:Program} {t:TypeId} {i:TI} (hT:TIok P t i) (h:flatP P t=true) {j:Nat} {e:TypeId} (he:i.les[j]? = some e):e=0:=by
 have:=hT.flat
 rw [h] at this
 have:=List.all_eq_true.1 this e (List.mem_of_getElem? he)
 simpa using this
section ops
variable {w0:World} {L:Nat→Nat→Prop} {C:Ctx} (R:Rel w0 L C)
variable {np:Nat} {K:Env→Prop} {next:Act→World→Prop} (hn:Nxt w0 L np C K next) {Q:Exit→Act→World→Prop} {o:Oper}
include R hn
theorem snd_makeSlice {tb:Tab} (hT:TabOk C.P tb) {t:TypeId} {l c:Operand} (ho:o.op = .makeSlice t l c) (h:(opMakeSlice tb o.dst t l c).wp C.E (Done C.P K C.E)):o.wp C.P C.a C.w next Q:=by
 unfold opMakeSlice at h
 split at h
 ·rename_i e hk
  have hu:=hT.kd_slice hk
  cases ht:tb e with
  | none=>rw [ht] at h; exact h.elim
  | some i =>
   rw [ht] at h
   have hi:=hT e i ht
   simp only at h
   cases hz:zeroT i with
   | none=>rw [hz] at h; exact h.elim
   | some z =>
    rw [hz] at h
    simp only at h
    replace h:=opdR_wp R h
    obtain ⟨dl,h,hvl⟩:=h
    replace h:=opdR_wp R h
    obtain ⟨dc,h,hvc⟩:=h
    split at h
    ·rename_i kl n kc m
     have el:=(hvl rfl).v_inv.1
     have ec:=(hvc rfl).v_inv.1
     obtain ⟨⟨h0,h1,h2,h3⟩,h⟩:=h
     obtain ⟨j,zv,i1,i2,i3,i4,i5,i6,i7⟩:=hi.info
     have hbb:(j.bytes:Int)*m≤281474976710656:=by
      rw [i3]
      have:((i.bytes*m.toNat:Nat):Int)≤140737488355328:=by rw [Nat.mul_comm]; omega
      rw [Int.natCast_mul,Int.toNat_of_nonneg (by omega)] at this
      omega
     have hrun:=run_make (P:=C.P) C.w t e j zv hu i1 i4 kl kc n m h0 h1 hbb h2
     have hsz:C.P.cellsOf e=i.size:=hi.cellsOf
     obtain ⟨q1,q2,q3⟩:=toTs_get _ _ _ hz
     have hzl:z.length=i.size:=by rw [q1,i6]; simp [i5]
     have hlen:(List.replicate n.toNat z).length=n.toNat:=by simp
     have hval:Value.slice (some ⟨C.w.heap.size,0,none⟩) n.toNat m.toNat = .slice (some ⟨C.w.heap.size,0,none⟩) (List.replicate n.toNat z).length m.toNat:=by rw [hlen]
     refine wp_value (w':=C.w.alloc (.cells (madeCells zv.cells (m.toNat*j.size)) e)) (v := .slice (some ⟨C.w.heap.size,0,none⟩) n.toNat m.toNat) ?_ (wrS_own R hn (Ext.alloc _ _) h (G:=fun b=>b=C.w.heap.size) ?_ ?_)
     ·simp only [execOp,ho,el,ec,bind_pure_comp,Sem.run_map,hrun,Result.andThen_ok]
     ·rintro b rfl; rw [size_alloc]; omega
     ·rw [hval]
      have hget:∀ i' j' t',T.get? (List.replicate n.toNat z) i' j'=some t'→i'<n.toNat∧z[j']? = some t':=by
       intro i' j' t' hg
       unfold T.get? at hg
       rw [List.getElem?_replicate] at hg
       split at hg
       ·rename_i hlt; exact ⟨hlt,by simpa using hg⟩
       ·simp at hg
      refine OwnT.simple (heap_new _ _) ?_ ?_ (by rw [hlen]; omega) (by omega) ?_ ?_ ?_
      ·intro o' _ h; simp at h
      ·rw [size_madeCells,hsz,i2]; omega
      ·intro i' r hr
       rw [List.getElem?_replicate] at hr
       split at hr
       ·injection hr with hr; rw [←hr,hzl,hsz]
       ·cases hr
      ·intro i' j' t' hg
       obtain ⟨g1,g2⟩:=hget i' j' t' hg
       obtain ⟨e',d,g3,g4,g5⟩:=q3 j' t' g2
       have hj:j'<i.size:=by rw [←hzl]; exact (gSm g2).1
       have hlt:0+i'*C.P.cellsOf e+j'<m.toNat*j.size:=by
        rw [hsz,i2]
        have:(i'+1)*i.size≤m.toNat*i.size:=Nat.mul_le_mul_right _ (by omega)
        rw [Nat.add_mul] at this; omega
       have hmod:(0+i'*C.P.cellsOf e+j') % zv.cells.size=j':=by
        rw [i5,hsz,Nat.zero_add,Nat.add_comm,Nat.add_mul_mod_self_right,Nat.mod_eq_of_lt hj]
       refine ⟨zv.cells[j']!,?_,?_⟩
       ·unfold madeCells
        rw [Array.getElem?_map,Array.getElem?_range,if_pos hlt]
        simp only [Option.map_some,hmod]
       ·rw [i6,List.getElem?_map] at g4
        have hjz:j'<zv.cells.size:=by omega
        rw [Array.getElem?_toList,Array.getElem?_eq_getElem hjz] at g4
        simp only [Option.map_some,Option.some.injEq] at g4
        subst g4
        have:zv.cells[j']! = zv.cells[j']:=by simp [hjz]
        rw [this]
        exact (constLeaf_toT g5 (List.all_eq_true.1 i7 _ (by simp))).1
      ·intro hfl i' j' t' hg
       obtain ⟨g1,g2⟩:=hget i' j' t' hg
       obtain ⟨e',d,g3,g4,g5⟩:=q3 j' t' g2
       have he:=flat_les hi hfl g3
       rw [i6,List.getElem?_map] at g4
       cases hx:zv.cells.toList[j']? with
       | none=>rw [hx] at g4; simp at g4
       | some y =>
        rw [hx] at g4
        simp only [Option.map_some,Option.some.injEq] at g4
        subst g4
        exact (constLeaf_toT g5 (List.all_eq_true.1 i7 _ (List.mem_of_getElem? hx))).2 he
    ·exact h.elim
 ·exact h.elim
theorem snd_buildSlice {tb:Tab} (hT:TabOk C.P tb) {t:TypeId} {n:Nat} {ps:Array (Nat × Operand)} (ho:o.op = .buildSlice t n ps) (h:(opBuildSlice tb o.dst t n ps.toList).wp C.E (Done C.P K C.E)):o.wp C.P C.a C.w next Q:=by
 unfold opBuildSlice at h
 split at h
 ·rename_i e hk
  have hu:=hT.kd_slice hk
  have hse:=hT.kd_size hk C.w
  cases ht:tb e with
  | none=>rw [ht] at h; exact h.elim
  | some i =>
   rw [ht] at h
   have hi:=hT e i ht
   simp only at h
   split at h
   ·rename_i hbig
    have hbig:n*i.size≤16777216∧n≤16777216:=by simpa using hbig
    obtain ⟨j,zv,i1,i2,i3,i4,i5,i6,i7⟩:=hi.info
    have hsz:C.P.cellsOf e=i.size:=hi.cellsOf
    have hzlen:i.zero.length=i.size:=by rw [i6]; simp [i5]
    have hfl:(List.replicate n i.zero).flatten.length=n*i.size:=by simp [hzlen]
    have hz:Lined C (List.replicate n i.zero).flatten ((Array.range (n*i.size)).map (zv.cells[· % zv.cells.size]!)):=by
     refine ⟨by rw [hfl]; simp,fun k d hd => ?_⟩
     have hk:k<n*i.size:=by rw [←hfl]; exact (gSm hd).1
     have hpos:0<i.size:=by
      rcases Nat.eq_zero_or_pos i.size with h | h
      ·rw [h] at hk; simp at hk
      ·exact h
     have hmod:k % i.size<i.size:=Nat.mod_lt _ hpos
     have hd':i.zero[k % i.size]? = some d:=by
      have:∀ (m:Nat) (k:Nat),k<m*i.size→(List.replicate m i.zero).flatten[k]? = i.zero[k % i.size]? := by
       intro m
       induction m with
       | zero=>intro k hk; simp at hk
       | succ m ih =>
        intro k hk
        rw [List.replicate_succ,List.flatten_cons]
        by_cases hlt:k<i.size
        ·rw [List.getElem?_append_left (by omega),Nat.mod_eq_of_lt hlt]
        ·rw [List.getElem?_append_right (by omega),hzlen,ih (k-i.size) (by rw [Nat.add_mul] at hk; omega)]
         rw [Nat.mod_eq_sub_mod (by omega:i.size≤k)]
      rw [←this n k hk]; exact hd
     rw [i6,List.getElem?_map] at hd'
     have hjz:k % i.size<zv.cells.size:=by omega
     rw [Array.getElem?_toList,Array.getElem?_eq_getElem hjz] at hd'
     simp only [Option.map_some,Option.some.injEq] at hd'
     subst hd'
     have e1:((Array.range (n*i.size)).map (zv.cells[· % zv.cells.size]!)).getD k undef=zv.cells[k % i.size]:=by
      rw [arrGetD,Array.getElem?_map,Array.getElem?_range,if_pos hk]
      simp only [Option.map_some,Option.getD_some,i5]
      exact getElem!_pos zv.cells _ hjz
     rw [e1]
     have h1:=List.all_eq_true.1 i7 zv.cells[k % i.size] (by simp)
     obtain ⟨a,b,c⟩:=constLeaf_cases _ h1
     exact ⟨a,b,h1,fun p=>c C p⟩
    obtain ⟨ds',cs',k1,k2,k3,k4⟩:=partsR_wp R (place:=fun a=>some (a*i.size,i.size)) ps.toList (ps.toList.map fun p=>(p.1*i.size,i.size,p.2)) _ _ (by simp) (by
     intro k p q hp hq
     rw [List.getElem?_map,hp] at hq
     simp at hq; subst hq; exact ⟨rfl,rfl⟩) hz h
    split at k1
    ·rename_i rs hrs
     obtain ⟨r1,r2⟩:=rowsOf_get _ _ _ hrs
     have hrl:rs.length=n:=by rw [r1]; simp [chunk]
     have hcs:cs'.size=n*i.size:=by rw [←k2.1,k4,hfl]
     have hrow:∀ (a:Nat) (x:List T),rs[a]? = some x→a<n∧toTs i.les ((ds'.drop (a*i.size)).take i.size)=some x:=by
      intro a x hx
      obtain ⟨r,g1,g2⟩:=r2 a x hx
      have ha:a<n:=by rw [←hrl]; exact (gSm hx).1
      unfold chunk at g1
      rw [List.getElem?_map,List.getElem?_range ha] at g1
      simp at g1; subst g1
      exact ⟨ha,g2⟩
     have hin:∀ a k,a<n→k<i.size→a*i.size+k<n*i.size:=by
      intro a k ha hk
      have:(a+1)*i.size≤n*i.size:=Nat.mul_le_mul_right _ (by omega)
      rw [Nat.add_mul] at this; omega
     have hleaf:∀ a k t',T.get? rs a k=some t'→∃ e' d,i.les[k]? = some e'∧d.toT e'=some t'∧a<n∧k<i.size∧ds'[a*i.size+k]? = some d:=by
      intro a k t' hg
      unfold T.get? at hg
      cases hx:rs[a]? with
      | none=>rw [hx] at hg; simp at hg
      | some x =>
       rw [hx] at hg
       obtain ⟨g1,g2⟩:=hrow a x hx
       obtain ⟨q1,q2,q3⟩:=toTs_get _ _ _ g2
       obtain ⟨e',d,g3,g4,g5⟩:=q3 k t' (by simpa using hg)
       have hk:k<i.size:=by
        by_cases hlt:k<i.size
        ·exact hlt
        ·rw [List.getElem?_eq_none (by rw [List.length_take]; omega)] at g4; cases g4
       rw [List.getElem?_take_of_lt hk,List.getElem?_drop] at g4
       exact ⟨e',d,g3,g5,g1,hk,g4⟩
     have hval:Value.slice (some ⟨C.w.heap.size,0,none⟩) n n = .slice (some ⟨C.w.heap.size,0,none⟩) rs.length n:=by rw [hrl]
     refine wp_value (w':=C.w.alloc (.cells cs' e)) (v := .slice (some ⟨C.w.heap.size,0,none⟩) n n) ?_ (wrS_own R hn (Ext.alloc _ _) k1 (G:=fun b=>b=C.w.heap.size) ?_ ?_)
     ·have hb:¬ (16777216<n*i.size):=by omega
      rw [hsz] at hse
      have hzero:(zeroValue e).run C.P C.w = .ok zv C.w:=by simp [zeroValue,typeInfo,i1,i4]
      have hp:(ps.map fun x=>(x.1,C.a.eval x.2)).toList=ps.toList.map fun p=>(p.1,C.a.eval p.2):=by simp
      simp only [execOp,ho,Instr.buildSlice,bind_pure_comp,Sem.run_map,Sem.run_bind,run_underlying hu,Result.andThen_ok,hse,gt_iff_lt,Sem.run_ite,hb,if_false]
      by_cases h0:n*i.size=0
      ·have e0:∀ f g:Nat→Value,(Array.range (n*i.size)).map f=(Array.range (n*i.size)).map g:=by intro f g; rw [h0]; simp
       rw [if_pos h0]
       simp only [Sem.run_pure,Result.andThen_ok]
       rw [e0 _ (zv.cells[· % zv.cells.size]!),hp,k3]
       rfl
      ·rw [if_neg h0]
       simp only [hzero,Sem.run_pure,Result.andThen_ok]
       rw [hp,k3]
       rfl
     ·rintro b rfl; rw [size_alloc]; omega
     ·rw [hval]
      refine OwnT.simple (heap_new _ _) ?_ ?_ (by omega) ?_ ?_ ?_ ?_
      ·intro o' _ h; simp at h
      ·rw [hcs,hsz]; omega
      ·omega
      ·intro a r hr
       obtain ⟨g1,g2⟩:=hrow a r hr
       obtain ⟨q1,q2,q3⟩:=toTs_get _ _ _ g2
       rw [q1,←q2,hi.les,hsz]
      ·intro a k t' hg
       obtain ⟨e',d,g1,g2,g3,g4,g5⟩:=hleaf a k t' hg
       obtain ⟨_,_,_,p⟩:=k2.2 _ d g5
       rw [Nat.zero_add,hsz]
       refine ⟨cs'.getD (a*i.size+k) undef,getD_get? (by rw [hcs]; exact hin a k g3 g4),(toT_simp g2 (p _)).1⟩
      ·intro hflat a k t' hg
       obtain ⟨e',d,g1,g2,g3,g4,g5⟩:=hleaf a k t' hg
       obtain ⟨_,_,_,p⟩:=k2.2 _ d g5
       exact (toT_simp g2 (p _)).2 (flat_les hi hflat g1)
    ·exact k1.elim
   ·exact h.elim
 ·exact h.elim
end ops
theorem bytesRows_get {l:List UInt8} {i j:Nat} {t:T} (h:T.get? (bytesRows l) i j=some t):∃ b,l[i]? = some b∧j=0∧t = .v (.int .u8 b.toNat):=by
 unfold T.get? bytesRows at h
 rw [List.getElem?_map] at h
 cases hx:l[i]? with
 | none=>rw [hx] at h; simp at h
 | some b =>
  rw [hx] at h
  simp only [Option.map_some,Option.bind_some] at h
  cases j with
  | zero=>simp at h; exact ⟨b,rfl,rfl,h.symm⟩
  | succ j=>simp at h
theorem bytesRows_at {l:List UInt8} {i:Nat} {b:UInt8} (h:l[i]? = some b):T.get? (bytesRows l) i 0=some (.v (.int .u8 b.toNat)):=by
 unfold T.get? bytesRows
 rw [List.getElem?_map,h]; rfl
theorem bytesRows_length (l:List UInt8):(bytesRows l).length=l.length:=by simp [bytesRows]
section ops
variable {w0:World} {L:Nat→Nat→Prop} {C:Ctx} (R:Rel w0 L C)
variable {np:Nat} {K:Env→Prop} {next:Act→World→Prop} (hn:Nxt w0 L np C K next) {Q:Exit→Act→World→Prop} {o:Oper}
include R hn
theorem snd_convert {tb:Tab} (hT:TabOk C.P tb) {s t:TypeId} {x:Operand} (ho:o.op = .convert s t x) (h:(opConvert tb o.dst s t x).wp C.E (Done C.P K C.E)):o.wp C.P C.a C.w next Q:=by
 unfold opConvert at h
 replace h:=opdR_wp R h
 obtain ⟨d,h,hv⟩:=h
 split at h
 ·rename_i ks k k' n hs ht
  obtain ⟨is,_,_,his⟩:=hT.kd hs
  obtain ⟨ds,hus⟩:=his.und
  have hut:=hT.kd_int ht
  have e:=(hv rfl).v_inv.1
  refine wp_value (w':=C.w) (v := .int k (k.wrap n)) ?_ (wrS_done R hn (.refl _) h (.v rfl))
  simp [execOp,ho,e,convert,run_underlying hus,run_underlying hut,Conv.intToInt]
 ·rename_i b hs ht
  have hus:=hT.kd_str hs
  have hut:=hT.kd_str ht
  obtain ⟨e,hb⟩:=(hv rfl).v_inv
  refine wp_value (w':=C.w) (v := .string b) ?_ (wrS_done R hn (.refl _) h (.v hb))
  simp [execOp,ho,e,convert,run_underlying hus,run_underlying hut]
 ·rename_i e b hs ht
  have hus:=hT.kd_str hs
  have hut:=hT.kd_slice ht
  obtain ⟨ex,hb⟩:=(hv rfl).v_inv
  split at h
  ·rename_i he
   have hue:=hT.kd_int he
   obtain ⟨ie,he1,he2,he3⟩:=hT.kd he
   have hsz:C.P.cellsOf e=1:=by rw [he3.cellsOf]; exact he3.nag (by rw [he2]; rfl)
   have hrun:=run_bytes_of_string (P:=C.P) C.w s t e b hus hut hue
   generalize hcap:grownCap C.w b.size 0 e=cap at hrun
   simp only [scal,decide_eq_true_eq] at hb
   have hc1:b.size≤cap∧cap≤9223372036854775807:=by
    rw [←hcap]
    unfold grownCap Question.cut
    simp only
    have:C.w.tape C.w.drawn (.appendCap b.size 0 e) % (2 ^ 63-b.size)<2 ^ 63-b.size:=Nat.mod_lt _ (by omega)
    omega
   have hrs:(bytesRow b cap).size=cap:=by
    have:b.data.size=b.size:=rfl
    simp [bytesRow,this]; omega
   have hval:Value.slice (some ⟨C.w.heap.size,0,none⟩) b.size cap = .slice (some ⟨C.w.heap.size,0,none⟩) (bytesRows (toL b)).length cap:=by rw [bytesRows_length,toL_length]
   refine wp_value (w':=C.w.drew.alloc (.cells (bytesRow b cap) e ((bytesRow b cap).size,(bytesRow b cap).size+1))) (v := .slice (some ⟨C.w.heap.size,0,none⟩) b.size cap) ?_ (wrS_own R hn (Ext.drewAlloc _ _) h (G:=fun b'=>b'=C.w.heap.size) ?_ ?_)
   ·simp only [execOp,ho,ex,bind_pure_comp,Sem.run_map,hrun,Result.andThen_ok]
   ·rintro b' rfl; rw [size_alloc]; exact ⟨Nat.le_refl _,Nat.lt_succ_self _⟩
   ·rw [hval]
    refine OwnT.simple (heap_new C.w.drew _) ?_ (by rw [hsz,hrs]; omega) (by rw [bytesRows_length,toL_length]; omega) hc1.2 ?_ ?_ ?_
    ·intro o' h1 h2; simp at h2; omega
    ·intro i r hr
     unfold bytesRows at hr
     rw [List.getElem?_map] at hr
     cases hx:(toL b)[i]? with
     | none=>rw [hx] at hr; simp at hr
     | some y=>rw [hx] at hr; simp at hr; rw [←hr,hsz]; rfl
    ·intro i j t' hg
     obtain ⟨y,h1,rfl,rfl⟩:=bytesRows_get hg
     refine ⟨_,?_,.inl ⟨rfl,rfl⟩⟩
     rw [hsz,Nat.zero_add,Nat.mul_one,Nat.add_zero]
     unfold bytesRow
     have hlt:i<b.data.size:=by
      have:=(gSm h1).1
      simpa [toL] using this
     rw [Array.getElem?_append_left (by simpa using hlt),Array.getElem?_map]
     have:b.data[i]? = some y:=by rw [←Array.getElem?_toList]; exact h1
     rw [this]; rfl
    ·intro _ i j t' hg
     obtain ⟨y,h1,rfl,rfl⟩:=bytesRows_get hg
     rfl
  ·exact h.elim
 ·rename_i e hs ht
  have hus:=hT.kd_slice hs
  have hut:=hT.kd_str ht
  have ex:=(hv rfl).nil_inv
  split at h
  ·rename_i he
   have hue:=hT.kd_int he
   refine wp_value (w':=C.w) (v:=vS []) ?_ (wrS_done R hn (.refl _) h (.v rfl))
   have hr:=run_convert_bytes_string (P:=C.P) C.w s t e none 0 0 hus hue hut
   simp only [execOp,ho,ex,bind_pure_comp,Sem.run_map,hr]
   rfl
  ·exact h.elim
 ·rename_i e hs ht _
  have hus:=hT.kd_slice hs
  have hut:=hT.kd_str ht
  split at h
  ·rename_i he
   have hue:=hT.kd_int he
   obtain ⟨ie,he1,he2,he3⟩:=hT.kd he
   have hsz:C.P.cellsOf e=1:=by rw [he3.cellsOf]; exact he3.nag (by rw [he2]; rfl)
   replace h:=rowsR_wp R (hv (rowsR_notTup h)) h
   obtain ⟨e',xs,h,hr⟩:=h
   obtain ⟨⟨rfl,hxs⟩,h⟩:=h
   have hlen:(rowsBytes xs).length=xs.length:=by simp [rowsBytes]
   have hmax:xs.length≤9223372036854775807:=by obtain ⟨_,_,_,_,_,_,h⟩:=hr.slice (hT.kd_ne hs); exact h
   refine wp_value (w':=C.w) (v:=vS (rowsBytes xs)) ?_ (wrS_done R hn (.refl _) h (.v (by simp only [scal,decide_eq_true_eq]; show (rowsBytes xs).length≤_; omega)))
   generalize hval:C.a.eval x=val at hr
   cases hr with
   | mp=>exact absurd rfl (hT.kd_ne hs)
   | emp _ base cap hc =>
    have hr:=run_convert_bytes_string (P:=C.P) C.w s t e' base 0 cap hus hue hut
    simp only [execOp,ho,hval,bind_pure_comp,Sem.run_map,hr]
    cases base with
    | none=>rfl
    | some a =>
     have:=run_bytesToString (P:=C.P) C.w a 0 cap [] (by rfl)
     rw [this]; rfl
   | row _ _ b o' cap cs ce fr X g1 g2 g5 g6 g7 g10 g11 g12 =>
    have hr:=run_convert_bytes_back (P:=C.P) C.w s t e' ⟨b,o',none⟩ cap (rowsBytes xs) hus hue hut (by
     intro j hj
     have hb:(rowsBytes xs)[j]? = some (rowsBytes xs)[j]:=gEg hj
     have hg:=bytesRows_at hb
     rw [←hxs] at hg
     have h1:=g10 j 0 _ hg
     have h2:=g11 j 0 _ hg
     rw [add_plain,cell_of g1]
     rw [hsz,Nat.mul_one,Nat.add_zero] at h1
     rw [h1]
     generalize X j 0=xv at h2
     cases h2; rfl)
    rw [hlen] at hr
    simp only [execOp,ho,hval,bind_pure_comp,Sem.run_map,hr]
    rfl
  ·exact h.elim
 ·exact h.elim
end ops
theorem Rel.newCell {w0 : World} {L : Nat → Nat → Prop} {C : Ctx} (R : Rel w0 L C) (t : Nat) (ds : List D) (cs : Array Value) (e : TypeId) (ht : C.E.ce[t]? = some none) (hno : (C.E.sl.getD t .dead).anyOwn = false) (hl : Lined C ds cs) :
    Rel w0 L { C with E := { sl := C.E.sl.set t (.cref t 0),ce := C.E.ce.set t (some ds) },a := C.a.put (some t) (.pointer (some ⟨C.w.heap.size,0,none⟩)),w := C.w.alloc (.cells cs e),
                      loc := fun t' => if t' = t then (C.w.heap.size,0) else C.loc t' } := by
  have x := Ext.alloc C.w (.cells cs e)
  have hnl : ∀ ds,¬ C.live t ds := by intro ds h; have : C.E.ce[t]? = some (some ds) := h; rw [ht] at this; cases this
  have blk : ∀ t ds,C.live t ds → (C.loc t).1 < C.w.heap.size := by
    intro t ds hl
    obtain ⟨cs,e,fr,a1,_⟩ := (R.cell t ds hl).out
    exact (Array.getElem?_eq_some_iff.1 a1).1
  have hlt : t < C.E.ce.length := (gSm ht).1
  have main : Rel w0 L { C with E := { C.E with ce := C.E.ce.set t (some ds) },w := C.w.alloc (.cells cs e),loc := fun t' => if t' = t then (C.w.heap.size,0) else C.loc t' } := by
    generalize hC' : ({ C with E := { C.E with ce := C.E.ce.set t (some ds) },w := C.w.alloc (.cells cs e),loc := fun t' => if t' = t then (C.w.heap.size,0) else C.loc t' } : Ctx) = C'
    have hP : C'.P = C.P := by rw [← hC']
    have hE : C'.E = { C.E with ce := C.E.ce.set t (some ds) } := by rw [← hC']
    have ha : C'.a = C.a := by rw [← hC']
    have hw : C'.w = C.w.alloc (.cells cs e) := by rw [← hC']
    have hF : C'.F = C.F := by rw [← hC']
    have hloc : C'.loc = fun t' => if t' = t then (C.w.heap.size,0) else C.loc t' := by rw [← hC']
    have hlv : ∀ t' ds',C'.live t' ds' → (t' = t ∧ ds' = ds) ∨ (t' ≠ t ∧ C.live t' ds') := by
      intro t' ds' h
      have h : C'.E.ce[t']? = some (some ds') := h
      rw [hE] at h
      simp only at h
      by_cases hne : t' = t
      · subst hne
        rw [List.getElem?_set_self hlt] at h
        injection h with h; injection h with h
        exact .inl ⟨rfl,h.symm⟩
      · rw [List.getElem?_set_ne (fun h => hne h.symm)] at h
        exact .inr ⟨hne,h⟩
    have hlv2 : ∀ t' ds',C.live t' ds' → C'.live t' ds' ∧ C'.loc t' = C.loc t' := by
      intro t' ds' h
      have hne : t' ≠ t := by rintro rfl; exact hnl _ h
      refine ⟨?_,by rw [hloc]; exact if_neg hne⟩
      show C'.E.ce[t']? = _
      rw [hE]
      show (C.E.ce.set t (some ds))[t']? = _
      rw [List.getElem?_set_ne (fun h => hne h.symm)]; exact h
    have hleaf : ∀ q : Lf,¬ (q.c = true ∧ q.t = t) → C'.E.leaf q = C.E.leaf q := by
      rintro ⟨c,t',k⟩ hq
      rw [hE]
      cases c with
      | false => rfl
      | true =>
        have hne : t ≠ t' := fun h => hq ⟨rfl,h.symm⟩
        show (((C.E.ce.set t (some ds)).getD t' none).getD []).getD k .dead = ((C.E.ce.getD t' none).getD []).getD k .dead
        have e1 : (C.E.ce.set t (some ds)).getD t' none = C.E.ce.getD t' none := by
          rw [gDg,List.getElem?_set_ne hne,← gDg]
        rw [e1]
    have hdeadt : ∀ k,C.E.leaf ⟨true,t,k⟩ = .dead := by
      intro k
      show ((C.E.ce.getD t none).getD []).getD k .dead = .dead
      rw [getD_some ht]; rfl
    have hnt : ∀ q,C.E.leaf q ≠ .dead → ¬ (q.c = true ∧ q.t = t) := by
      rintro ⟨c,t',k⟩ h ⟨h1,h2⟩
      simp only at h1 h2
      subst h1; subst h2
      exact h (hdeadt k)
    have hcv : ∀ q,C.E.leaf q ≠ .dead → C'.cv q = C.cv q := by
      rintro ⟨c,t',k⟩ hn
      unfold Ctx.cv
      rw [ha,hw]
      cases c with
      | false => rfl
      | true =>
        obtain ⟨ds',hl'⟩ := Rel.liveOf (w0 := w0) (L := L) hn
        simp only [if_true]
        rw [(hlv2 t' ds' hl').2]
        simp only [World.cell?,x.kept _ (blk t' ds' hl')]
    have hown : ∀ b,C'.Owned b → b < C.w.heap.size → C.Owned b := by
      rintro b (⟨p,hp⟩ | ⟨t',ds',hl',hb⟩) hlt'
      · rw [hF] at hp; exact .inl ⟨p,hp⟩
      · rcases hlv t' ds' hl' with ⟨rfl,rfl⟩ | ⟨hne,hl''⟩
        · rw [hloc] at hb; simp at hb; omega
        · rw [(hlv2 t' ds' hl'').2] at hb; exact .inr ⟨t',ds',hl'',hb⟩
    have s : Same C C' (fun q => q) (fun _ => False) (fun _ => False) := by
      refine ⟨hP,fun b hb hl => ⟨fun h => hb (hown b h hl),by rw [hw]; exact x.kept b hl⟩,?_,?_,by rw [← hC']; exact fun _ h => h⟩
      · intro q e xs _ hl
        have hn : C.E.leaf q ≠ .dead := by rw [hl]; simp
        refine ⟨xs,by rw [hleaf q (hnt q hn)]; exact hl,rfl,hcv q hn,fun i j e' ys hg => ⟨hg,fun b o n cap v _ hv => by rw [hw]; exact x.cell hv⟩⟩
      · intro t' ds' _ hl
        exact ⟨ds',(hlv2 t' ds' hl).1,rfl,(hlv2 t' ds' hl).2⟩
    have go1 : ∀ p d' v,LRel C p d' v → LRel C' p d' v := by
      intro p d' v' hv
      by_cases ho : d'.isOwn = true
      · cases d' <;> simp [D.isOwn] at ho
        cases hv with
        | own _ _ _ h =>
          refine .own _ _ _ _ ?_
          rw [hP,hw,hF]
          exact h.mono (fun b hb => hb) (fun b _ hb => x.kept b hb)
      · have := LRel.same s hv p (by simpa using ho) ⟨fun q h => by simp,fun t ht => by simp⟩
        rwa [D.re_id] at this
    refine ⟨by rw [ha,hE]; exact R.tmps,by rw [ha]; exact R.defers,?_,?_,by rw [hF]; exact R.disj,?_,?_,?_,by rw [hF]; exact R.flent,?_,by rw [hw]; exact R.frame.ext x,by rw [← hC']; exact R.mnew,by rw [← hC']; exact R.mL,by rw [← hC']; exact R.glob⟩
    · intro t' d hd
      rw [hE] at hd
      rw [ha]
      exact (R.slot t' d hd).tr' fun k x v hx hv => go1 _ _ _ hv
    · intro t' ds' hl'
      rcases hlv t' ds' hl' with ⟨rfl,rfl⟩ | ⟨hne,hl''⟩
      · have e1 : C'.loc t' = (C.w.heap.size,0) := by rw [hloc]; exact if_pos rfl
        refine ⟨cs,e,(0,0),by rw [e1,hw]; exact heap_new _ _,by intro o _ h; simp at h,by rw [e1,hl.1]; simp,?_⟩
        intro i d hd
        rw [e1]
        simp only [Nat.zero_add]
        obtain ⟨a,b,c,f⟩ := hl.2 i d hd
        exact ⟨a,c,go1 _ _ _ (f _)⟩
      · obtain ⟨cs',e',fr,a1,a2,a3,a4⟩ := (R.cell t' ds' hl'').out
        have e1 := (hlv2 t' ds' hl'').2
        refine ⟨cs',e',fr,by rw [e1,hw]; exact (x.kept _ (blk t' ds' hl'')).trans a1,a2,by rw [e1]; exact a3,?_⟩
        intro i d hd
        rw [e1]
        obtain ⟨b1,b2,b3⟩ := a4 i d hd
        exact ⟨b1,b2,go1 _ _ _ b3⟩
    · intro t1 d1 t2 d2 h1 h2 he
      rcases hlv t1 d1 h1 with ⟨rfl,rfl⟩ | ⟨n1,h1'⟩
      · rcases hlv t2 d2 h2 with ⟨rfl,rfl⟩ | ⟨n2,h2'⟩
        · rfl
        · rw [(hlv2 t2 d2 h2').2,hloc] at he
          simp at he
          have := blk t2 d2 h2'; omega
      · rcases hlv t2 d2 h2 with ⟨rfl,rfl⟩ | ⟨n2,h2'⟩
        · rw [(hlv2 t1 d1 h1').2,hloc] at he
          simp at he
          have := blk t1 d1 h1'; omega
        · rw [(hlv2 t1 d1 h1').2,(hlv2 t2 d2 h2').2] at he
          exact R.cdisj t1 d1 t2 d2 h1' h2' he
    · intro t' ds' p hl' hp
      rw [hF] at hp
      rcases hlv t' ds' hl' with ⟨rfl,rfl⟩ | ⟨n1,h1'⟩
      · rw [hloc] at hp
        simp at hp
        have := R.fbound p _ hp; omega
      · rw [(hlv2 t' ds' h1').2] at hp
        exact R.fcd t' ds' p h1' hp
    · intro p b hp
      rw [hF] at hp
      rw [hw]
      exact Nat.lt_of_lt_of_le (R.fbound p b hp) x.size
    · intro t' ds' hl' hb i hi
      rcases hlv t' ds' hl' with ⟨rfl,rfl⟩ | ⟨n1,h1'⟩
      · rw [hloc] at hb
        simp at hb
        have := R.frame.size; omega
      · rw [(hlv2 t' ds' h1').2] at hb ⊢
        exact R.clent t' ds' h1' hb i hi
  have hput := main.put1 t (.cref t 0) (.pointer (some ⟨C.w.heap.size,0,none⟩)) hno (.comp _ _ rfl (.leaf _ _ _ rfl rfl (by
    have hlive : Ctx.live { C with E := { C.E with ce := C.E.ce.set t (some ds) },w := C.w.alloc (.cells cs e),loc := fun t' => if t' = t then (C.w.heap.size,0) else C.loc t' } t ds := by
      show (C.E.ce.set t (some ds))[t]? = _
      rw [List.getElem?_set_self hlt]
    have := LRel.cref (C := { C with E := { C.E with ce := C.E.ce.set t (some ds) },w := C.w.alloc (.cells cs e),loc := fun t' => if t' = t then (C.w.heap.size,0) else C.loc t' }) ⟨false,t,0⟩ t 0 ds hlive (Nat.zero_le _)
    simpa using this)))
  exact hput
theorem Rel.swapLeaves {w0:World} {L:Nat→Nat→Prop}:∀ (n k:Nat) {C:Ctx} (R:Rel w0 L C) {c:Bool} {t:Nat} {E':Env},Fw.swapLeaves c t k n C.E=some E'→∃ F',Rel w0 L { C with E:=E',F:=F' }
 | 0,k,C,R,c,t,E',h=>by
  simp only [Fw.swapLeaves,Option.some.injEq] at h
  subst h; exact ⟨C.F,R⟩
 | n+1,k,C,R,c,t,E',h=>by
  simp only [Fw.swapLeaves] at h
  split at h
  ·rename_i q hq
   split at h
   ·rename_i E1 h1
    obtain ⟨F1,R1⟩:=R.swap h1 hq
    exact Rel.swapLeaves n (k+1) R1 h
   ·cases h
  ·exact Rel.swapLeaves n (k+1) R h
theorem Rel.cutLeaves {w0:World} {L:Nat→Nat→Prop}:∀ (n k:Nat) {C:Ctx} (R:Rel w0 L C) {t:Nat} {E':Env},Fw.cutLeaves t k n C.E=some E'→∃ F',Rel w0 L { C with E:=E',F:=F' }
 | 0,k,C,R,t,E',h=>by
  simp only [Fw.cutLeaves,Option.some.injEq] at h
  subst h; exact ⟨C.F,R⟩
 | n+1,k,C,R,t,E',h=>by
  simp only [Fw.cutLeaves] at h
  split at h
  ·rename_i q lo hi hq
   split at h
   ·rename_i E1 h1
    obtain ⟨F1,R1⟩:=R.cut h1 hq
    exact Rel.cutLeaves n (k+1) R1 h
   ·cases h
  ·cases h
  ·exact Rel.cutLeaves n (k+1) R h
end Go.Proofs.YtbdfdfhamlmodaaGreatDoor.Fw
