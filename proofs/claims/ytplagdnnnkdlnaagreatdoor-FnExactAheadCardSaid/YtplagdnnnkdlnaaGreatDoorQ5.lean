/- Texts of the proof: FcS FeA FeU FeE FeH FeV FeR FeW FeX FeS FeZ FdF FdG FdH FdI FdJ FwBd. -/
import Derived.Shelf.Sort.Plain
import Derived.Shelf.Slices.Turned
import Derived.Shelf.Slices.CompactS
import Derived.Shelf.Slices.Cells
import Derived.Shelf.Slices.In.SortNone
import Derived.Shelf.Strconv.Itoa3
import Derived.Shelf.LaysM
import Derived.Lib.RowBridge
import Derived.Shelf.Strings.Cut
import Derived.Shelf.Strings.Split
import Derived.Shelf.Strings.Prefix
import Derived.Shelf.Strings.IndexAnyAll
import Derived.Shelf.Strings.Search1
import Derived.Shelf.Strconv.AtoiAll
import Derived.WalkKit
import Derived.BigCall
import Derived.BigGuard
import Derived.Lib.AtoiErrMem
import Derived.Test.YtplagdnnnkdlnaaGreatDoorQ4
set_option linter.unusedSimpArgs false
set_option linter.unusedVariables false
/- The library's functions over slices of strings, and strconv.Itoa, off the kit's shelf, as contracts here. -/
namespace Go.Proofs.YtplagdnnnkdlnaaGreatDoor.Fw
open Go Go.Proofs
open Go.Shelf
set_option linter.unusedVariables false
set_option linter.unusedSimpArgs false
def lib_laysM171_ren : Go.Shelf.Ren := ⟨fun | 171 => 119 | 243 => 153 | 246 => 170 | 283 => 192 | 284 => 193 | 285 => 194 | 286 => 195 | 129 => 182 | 317 => 205 | 318 => 206 | 319 => 207 | 320 => 208 | 337 => 210 | 338 => 211 | n => n,fun | 3 => 3 | 9 => 9 | 2 => 2 | 4 => 4 | 171 => 152 | 0 => 0 | 53 => 140 | 37 => 80 | 5 => 5 | 173 => 154 | 212 => 166 | 51 => 138 | 20 => 20 | 213 => 167 | 46 => 109 | 232 => 175 | 233 => 176 | n => n,fun | 17 => 3 | 18 => 6 | 19 => 7 | n => n⟩
theorem lib_laysM171 : Go.Proofs.LaysM.n171 Tryz.prog lib_laysM171_ren := {
  mixed := by kernel_rfl
  f129 := Tryz.func182.trans (congrArg some (by kernel_rfl))
  f171 := Tryz.func119.trans (congrArg some (by kernel_rfl))
  f243 := Tryz.func153.trans (congrArg some (by kernel_rfl))
  f246 := Tryz.func170.trans (congrArg some (by kernel_rfl))
  f283 := Tryz.func192.trans (congrArg some (by kernel_rfl))
  f284 := Tryz.func193.trans (congrArg some (by kernel_rfl))
  f285 := Tryz.func194.trans (congrArg some (by kernel_rfl))
  f286 := Tryz.func195.trans (congrArg some (by kernel_rfl))
  f317 := Tryz.func205.trans (congrArg some (by kernel_rfl))
  f318 := Tryz.func206.trans (congrArg some (by kernel_rfl))
  f319 := Tryz.func207.trans (congrArg some (by kernel_rfl))
  f320 := Tryz.func208.trans (congrArg some (by kernel_rfl))
  f337 := Tryz.func210.trans (congrArg some (by kernel_rfl))
  f338 := Tryz.func211.trans (congrArg some (by kernel_rfl))
  t0 := Tryz.underlying0
  a0 := Tryz.isAgg0
  z0 := Tryz.sizeOf0
  v0 := Tryz.zeroValue0
  t2 := Tryz.underlying2
  a2 := Tryz.isAgg2
  z2 := Tryz.sizeOf2
  v2 := Tryz.zeroValue2
  t3 := Tryz.underlying3
  a3 := Tryz.isAgg3
  z3 := Tryz.sizeOf3
  v3 := Tryz.zeroValue3
  t4 := Tryz.underlying4
  a4 := Tryz.isAgg4
  z4 := Tryz.sizeOf4
  v4 := Tryz.zeroValue4
  t5 := Tryz.underlying5
  a5 := Tryz.isAgg5
  z5 := Tryz.sizeOf5
  v5 := Tryz.zeroValue5
  t9 := Tryz.underlying9
  a9 := Tryz.isAgg9
  z9 := Tryz.sizeOf9
  v9 := Tryz.zeroValue9
  t20 := Tryz.underlying20
  a20 := Tryz.isAgg20
  z20 := Tryz.sizeOf20
  v20 := Tryz.zeroValue20
  t37 := Tryz.underlying80
  a37 := Tryz.isAgg80
  z37 := Tryz.sizeOf80
  v37 := Tryz.zeroValue80
  t46 := Tryz.underlying109
  a46 := Tryz.isAgg109
  z46 := Tryz.sizeOf109
  v46 := Tryz.zeroValue109
  t51 := Tryz.underlying138
  a51 := Tryz.isAgg138
  z51 := Tryz.sizeOf138
  v51 := Tryz.zeroValue138
  t53 := Tryz.underlying140
  a53 := Tryz.isAgg140
  z53 := Tryz.sizeOf140
  v53 := Tryz.zeroValue140
  t171 := Tryz.underlying152
  a171 := Tryz.isAgg152
  z171 := Tryz.sizeOf152
  v171 := Tryz.zeroValue152
  t173 := Tryz.underlying154
  a173 := Tryz.isAgg154
  z173 := Tryz.sizeOf154
  v173 := Tryz.zeroValue154
  t212 := Tryz.underlying166
  a212 := Tryz.isAgg166
  z212 := Tryz.sizeOf166
  v212 := Tryz.zeroValue166
  t213 := Tryz.underlying167
  a213 := Tryz.isAgg167
  z213 := Tryz.sizeOf167
  t232 := Tryz.underlying175
  a232 := Tryz.isAgg175
  z232 := Tryz.sizeOf175
  v232 := Tryz.zeroValue175
  t233 := Tryz.underlying176
  a233 := Tryz.isAgg176
  z233 := Tryz.sizeOf176
  v233 := Tryz.zeroValue176
  g17 := by kernel_rfl
  g18 := by kernel_rfl
  g19 := by kernel_rfl
  i0 := by kernel_rfl
  i2 := by kernel_rfl
  i3 := by kernel_rfl
  i4 := by kernel_rfl
  i5 := by kernel_rfl
  i9 := by kernel_rfl
  i20 := by kernel_rfl
  i37 := by kernel_rfl
  i46 := by kernel_rfl
  i51 := by kernel_rfl
  i53 := by kernel_rfl
  i171 := by kernel_rfl
  i173 := by kernel_rfl
  i212 := by kernel_rfl
  i232 := by kernel_rfl
  i233 := by kernel_rfl
  m17 := by kernel_rfl
  m18 := by kernel_rfl
  m19 := by kernel_rfl }
open Go.RowKit Go.Sort Go.Lib in
theorem lib_strconv_Itoa (n : Int) (h0 : -9223372036854775808 ≤ n) (h1 : n ≤ 9223372036854775807) (w : World) (htab : Lib.TabIs Tryz.prog w "internal/strconv.uint64pow10" .u64 Lib.pow10Tab) :
    Calls Tryz.prog 119 #[.int .i64 n] w fun e w' => e = .returned (.string ⟨(Lib.itoa n).toArray⟩) ∧ ∃ k os,w' = grow (w.drewN k) os := Any.strconv_Itoa lib_laysM171 n h0 h1 w htab
def lib_lays190_ren : Go.Shelf.Ren := ⟨fun | 190 => 126 | 125 => 157 | 258 => 156 | 128 => 181 | 129 => 182 | 302 => 172 | 303 => 173 | 304 => 174 | 305 => 175 | 306 => 176 | 307 => 177 | 308 => 178 | 309 => 179 | 310 => 180 | 333 => 196 | 329 => 197 | 330 => 198 | 334 => 199 | 335 => 200 | 336 => 201 | 344 => 209 | n => n,fun | 31 => 62 | 9 => 9 | 3 => 3 | 46 => 109 | 0 => 0 | 51 => 138 | 53 => 140 | 4 => 4 | 183 => 132 | 182 => 131 | 131 => 56 | 5 => 5 | 218 => 156 | 222 => 160 | 228 => 168 | 229 => 169 | n => n,fun | n => n⟩
theorem lib_lays190 : Go.Proofs.Lays.n190 Tryz.prog lib_lays190_ren := {
  mixed := by kernel_rfl
  f125 := Tryz.func157.trans (congrArg some (by kernel_rfl))
  f128 := Tryz.func181.trans (congrArg some (by kernel_rfl))
  f129 := Tryz.func182.trans (congrArg some (by kernel_rfl))
  f190 := Tryz.func126.trans (congrArg some (by kernel_rfl))
  f258 := Tryz.func156.trans (congrArg some (by kernel_rfl))
  f302 := Tryz.func172.trans (congrArg some (by kernel_rfl))
  f303 := Tryz.func173.trans (congrArg some (by kernel_rfl))
  f304 := Tryz.func174.trans (congrArg some (by kernel_rfl))
  f305 := Tryz.func175.trans (congrArg some (by kernel_rfl))
  f306 := Tryz.func176.trans (congrArg some (by kernel_rfl))
  f307 := Tryz.func177.trans (congrArg some (by kernel_rfl))
  f308 := Tryz.func178.trans (congrArg some (by kernel_rfl))
  f309 := Tryz.func179.trans (congrArg some (by kernel_rfl))
  f310 := Tryz.func180.trans (congrArg some (by kernel_rfl))
  f329 := Tryz.func197.trans (congrArg some (by kernel_rfl))
  f330 := Tryz.func198.trans (congrArg some (by kernel_rfl))
  f333 := Tryz.func196.trans (congrArg some (by kernel_rfl))
  f334 := Tryz.func199.trans (congrArg some (by kernel_rfl))
  f335 := Tryz.func200.trans (congrArg some (by kernel_rfl))
  f336 := Tryz.func201.trans (congrArg some (by kernel_rfl))
  f344 := Tryz.func209.trans (congrArg some (by kernel_rfl))
  t0 := Tryz.underlying0
  a0 := Tryz.isAgg0
  z0 := Tryz.sizeOf0
  v0 := Tryz.zeroValue0
  t3 := Tryz.underlying3
  a3 := Tryz.isAgg3
  z3 := Tryz.sizeOf3
  v3 := Tryz.zeroValue3
  t4 := Tryz.underlying4
  a4 := Tryz.isAgg4
  z4 := Tryz.sizeOf4
  v4 := Tryz.zeroValue4
  t5 := Tryz.underlying5
  a5 := Tryz.isAgg5
  z5 := Tryz.sizeOf5
  v5 := Tryz.zeroValue5
  t9 := Tryz.underlying9
  a9 := Tryz.isAgg9
  z9 := Tryz.sizeOf9
  v9 := Tryz.zeroValue9
  t31 := Tryz.underlying62
  a31 := Tryz.isAgg62
  z31 := Tryz.sizeOf62
  v31 := Tryz.zeroValue62
  t46 := Tryz.underlying109
  a46 := Tryz.isAgg109
  z46 := Tryz.sizeOf109
  v46 := Tryz.zeroValue109
  t51 := Tryz.underlying138
  a51 := Tryz.isAgg138
  z51 := Tryz.sizeOf138
  v51 := Tryz.zeroValue138
  t53 := Tryz.underlying140
  a53 := Tryz.isAgg140
  z53 := Tryz.sizeOf140
  v53 := Tryz.zeroValue140
  t131 := Tryz.underlying56
  a131 := Tryz.isAgg56
  z131 := Tryz.sizeOf56
  v131 := Tryz.zeroValue56
  t182 := Tryz.underlying131
  a182 := Tryz.isAgg131
  z182 := Tryz.sizeOf131
  v182 := Tryz.zeroValue131
  t183 := Tryz.underlying132
  a183 := Tryz.isAgg132
  z183 := Tryz.sizeOf132
  v183 := Tryz.zeroValue132
  t218 := Tryz.underlying156
  a218 := Tryz.isAgg156
  z218 := Tryz.sizeOf156
  v218 := Tryz.zeroValue156
  t222 := Tryz.underlying160
  a222 := Tryz.isAgg160
  z222 := Tryz.sizeOf160
  v222 := Tryz.zeroValue160
  t228 := Tryz.underlying168
  a228 := Tryz.isAgg168
  z228 := Tryz.sizeOf168
  v228 := Tryz.zeroValue168
  t229 := Tryz.underlying169
  a229 := Tryz.isAgg169
  z229 := Tryz.sizeOf169
  v229 := Tryz.zeroValue169 }
open Go.Sort Go.RowKit in
theorem lib_slices_Sort_string (blk off cap : Nat) (ss : List (List UInt8)) (w : World) (hH : Holds encStr w blk off ss.toArray) (hblk : blk < w.heap.size) (hsz : ss.length < 4611686018427387904) :
    Calls Tryz.prog 126 #[.slice (some ⟨blk,off,none⟩) ss.length cap] w fun e w' =>
      e = .returned (.tuple #[]) ∧ ∃ n os,w' = grow (putRow encStr (Sort.ahead w n) blk off (ss.mergeSort fun x y => decide (x ≤ y)).toArray) os := Any.slices_Sort_string lib_lays190 blk off cap ss w hH hblk hsz
def lib_lays110_ren : Go.Shelf.Ren := ⟨fun | 110 => 78 | 109 => 128 | n => n,fun | 31 => 62 | 9 => 9 | 4 => 4 | 3 => 3 | 0 => 0 | n => n,fun | n => n⟩
theorem lib_lays110 : Go.Proofs.Lays.n110 Tryz.prog lib_lays110_ren := {
  mixed := by kernel_rfl
  f109 := Tryz.func128.trans (congrArg some (by kernel_rfl))
  f110 := Tryz.func78.trans (congrArg some (by kernel_rfl))
  t0 := Tryz.underlying0
  a0 := Tryz.isAgg0
  z0 := Tryz.sizeOf0
  v0 := Tryz.zeroValue0
  t3 := Tryz.underlying3
  a3 := Tryz.isAgg3
  z3 := Tryz.sizeOf3
  v3 := Tryz.zeroValue3
  t4 := Tryz.underlying4
  a4 := Tryz.isAgg4
  z4 := Tryz.sizeOf4
  v4 := Tryz.zeroValue4
  t9 := Tryz.underlying9
  a9 := Tryz.isAgg9
  z9 := Tryz.sizeOf9
  v9 := Tryz.zeroValue9
  t31 := Tryz.underlying62
  a31 := Tryz.isAgg62
  z31 := Tryz.sizeOf62
  v31 := Tryz.zeroValue62 }
open Go.Lib in
theorem lib_slices_Contains_string (b off n c : Nat) (zs : List ByteArray) (x : ByteArray) (w : World) (hz : n ≤ zs.length) (hbig : n ≤ 9223372036854775807) (hc : ∀ j,j < zs.length → w.cell? ⟨b,off + j,none⟩ = some (.string (zs.getD j ByteArray.empty))) :
    Calls Tryz.prog 78 #[.slice (some ⟨b,off,none⟩) n c,.string x] w fun e w' => e = .returned (.bool (Lib.containsS (zs.take n) x)) ∧ w' = w := Any.slices_Contains_string lib_lays110 b off n c zs x w hz hbig hc
open Go.Lib in
theorem lib_slices_Contains_string_empty (a : Option Addr) (c : Nat) (x : ByteArray) (w : World) :
    Calls Tryz.prog 78 #[.slice a 0 c,.string x] w fun e w' => e = .returned (.bool false) ∧ w' = w := Any.slices_Contains_string_empty lib_lays110 a c x w
def lib_lays194_ren : Go.Shelf.Ren := ⟨fun | 194 => 127 | n => n,fun | 31 => 62 | 9 => 9 | 3 => 3 | 4 => 4 | 0 => 0 | n => n,fun | n => n⟩
theorem lib_lays194 : Go.Proofs.Lays.n194 Tryz.prog lib_lays194_ren := {
  mixed := by kernel_rfl
  f194 := Tryz.func127.trans (congrArg some (by kernel_rfl))
  t0 := Tryz.underlying0
  a0 := Tryz.isAgg0
  z0 := Tryz.sizeOf0
  v0 := Tryz.zeroValue0
  t3 := Tryz.underlying3
  a3 := Tryz.isAgg3
  z3 := Tryz.sizeOf3
  v3 := Tryz.zeroValue3
  t4 := Tryz.underlying4
  a4 := Tryz.isAgg4
  z4 := Tryz.sizeOf4
  v4 := Tryz.zeroValue4
  t9 := Tryz.underlying9
  a9 := Tryz.isAgg9
  z9 := Tryz.sizeOf9
  v9 := Tryz.zeroValue9
  t31 := Tryz.underlying62
  a31 := Tryz.isAgg62
  z31 := Tryz.sizeOf62
  v31 := Tryz.zeroValue62 }
open Go.RowKit Go.Lib Go.Sort in
theorem lib_slices_Compact_string_empty (a : Option Addr) (cap : Nat) (w : World) :
    Calls Tryz.prog 127 #[.slice a 0 cap] w fun e w' => e = .returned (.slice a 0 cap) ∧ w' = w := Any.slices_Compact_string_empty lib_lays194 a cap w
open Go.RowKit Go.Lib Go.Sort in
theorem lib_slices_Compact_string_cells (b off n c : Nat) (Sx : Nat → ByteArray) (w : World) (hbig : n ≤ 9223372036854775807) (hcap : n ≤ c) (hc : ∀ i,i < n → w.cell? ⟨b,off + i,none⟩ = some (.string (Sx i))) (hf : ∀ j,j < n → w.frozen? ⟨b,off + j,none⟩ = false) :
    Calls Tryz.prog 127 #[.slice (some ⟨b,off,none⟩) n c] w fun e w' => e = .returned (.slice (some ⟨b,off,none⟩) (Lib.compact (Lib.strsOf Sx n)).length c) ∧ ∃ q,w' = (w.drewN q).setCells b off ((Lib.compact (Lib.strsOf Sx n) ++ List.replicate (n - (Lib.compact (Lib.strsOf Sx n)).length) []).map encStr) := Any.slices_Compact_string_cells lib_lays194 b off n c Sx w hbig hcap hc hf
open Go.RowKit Go.Sort in
theorem lib_slices_Sort_string_none (p : Option Addr) (cap : Nat) (w : World) :
    Calls Tryz.prog 126 #[.slice p 0 cap] w fun e w' => e = .returned (.tuple #[]) ∧ w' = w := Any.slices_Sort_string_none lib_lays190 p cap w
set_option maxRecDepth 100000
theorem Rel.push {P : Program} {w0 : World} {L : Nat → Nat → Prop} {E : Env} {a : Act} {w : World} {F : Lf → Nat → Prop} {loc : Nat → Nat × Nat} {M : Nat → Prop} (R : Rel w0 L ⟨P,E,a,w,F,loc,M⟩) (hd : a.defers = []) {d : D} {v : Value} (hno : d.anyOwn = false) (h : ∀ (C : Ctx) t,SRel C t d v) :
    Rel w0 L ⟨P,⟨E.sl ++ [d],E.ce ++ [none]⟩,{ tmps := a.tmps.push v,defers := [] },w,F,loc,M⟩ := by
  have hl : a.tmps.size = E.sl.length := R.tmps
  have R1 := R.pad 1
  have R2 := R1.put1 E.sl.length d v (by
    show ((E.sl ++ List.replicate 1 D.dead).getD E.sl.length .dead).anyOwn = false
    rw [List.getD_eq_getElem?_getD,List.getElem?_append_right (Nat.le_refl _)]
    simp [D.anyOwn,D.comps,D.leaves1,D.isOwn]) (h _ _)
  have e1 : (E.sl ++ List.replicate 1 D.dead).set E.sl.length d = E.sl ++ [d] := by
    rw [List.set_append_right _ _ (Nat.le_refl _)]
    simp
  have e2 : (a.tmps ++ Array.replicate 1 undef).setIfInBounds E.sl.length v = a.tmps.push v := by
    rw [← hl]
    exact set_push a.tmps v
  have R3 : Rel w0 L { P := P,E := ⟨(E.sl ++ List.replicate 1 D.dead).set E.sl.length d,E.ce ++ List.replicate 1 none⟩,a := { tmps := (a.tmps ++ Array.replicate 1 undef).setIfInBounds E.sl.length v,defers := [] },w := w,F := F,loc := loc,M := M } := R2
  rw [e1,e2] at R3
  exact R3
theorem tup0 (C : Ctx) (t : Nat) : SRel C t (.tup []) (.tuple #[]) := .tup [] #[] rfl fun i d h => by simp at h
theorem strs_get {zs : List (List UInt8)} {i j : Nat} {t : T} (h : T.get? (rowsS zs) i j = some t) : j = 0 ∧ ∃ s,zs[i]? = some s ∧ t = .v (vS s) := by
  unfold T.get? rowsS at h
  rw [List.getElem?_map] at h
  cases hz : zs[i]? with
  | none => rw [hz] at h; simp at h
  | some s =>
    rw [hz] at h
    cases j with
    | zero => exact ⟨rfl,s,rfl,by simpa using h.symm⟩
    | succ j => simp at h
theorem own_strs {P : Program} {w : World} {F : Nat → Prop} {e : TypeId} {vs : List (List UInt8)} {v : Value} (he : P.cellsOf e = 1) (h : OwnT P w (.sl e (rowsS vs)) v F) :
    (vs = [] ∧ v = .slice none 0 0) ∨ ∃ b o cap cs fr,v = .slice (some ⟨b,o,none⟩) vs.length cap ∧ w.heap[b]? = some (.cells cs e fr) ∧ F b ∧ Thawed cs.size fr ∧ o + cap ≤ cs.size ∧ vs.length ≤ cap ∧ cap ≤ 9223372036854775807 ∧ ∀ (j : Nat) s,vs[j]? = some s → cs[o + j]? = some (vS s) := by
  generalize hx : rowsS vs = xs at h
  cases h with
  | emp =>
    left
    refine ⟨?_,rfl⟩
    cases vs with
    | nil => rfl
    | cons => simp [rowsS] at hx
  | row _ _ b o cap cs fr _ G X h1 h2 h3 h4 h5 h6 h7 h8 h9 h10 h11 h12 =>
    right
    have hlen : vs.length = xs.length := by rw [← hx]; simp [rowsS]
    rw [he,Nat.mul_one] at h4
    refine ⟨b,o,cap,cs,fr,by rw [hlen],h1,h2,h3,h4,by rw [hlen]; exact h5,h6,fun j s hj => ?_⟩
    have hg : T.get? xs j 0 = some (.v (vS s)) := by
      unfold T.get? rowsS at *
      rw [← hx,List.getElem?_map,hj]; rfl
    have a1 := h10 j 0 _ hg
    have a2 := h11 j 0 _ hg
    rw [he,Nat.mul_one,Nat.add_zero] at a1
    have e : X j 0 = vS s := by
      generalize X j 0 = y at a2
      cases a2; rfl
    rw [a1,e]
theorem own_of_strs {P : Program} {w : World} {F : Nat → Prop} {e : TypeId} {zs : List (List UInt8)} {b o cap : Nat} {cs : Array Value} {fr : Nat × Nat} (he : P.cellsOf e = 1) (h1 : w.heap[b]? = some (.cells cs e fr)) (h2 : F b) (h3 : Thawed cs.size fr) (h4 : o + cap ≤ cs.size) (h5 : zs.length ≤ cap) (h6 : cap ≤ 9223372036854775807)
    (hl : ∀ s,s ∈ zs → s.length ≤ 9223372036854775807) (h : ∀ (j : Nat) s,zs[j]? = some s → cs[o + j]? = some (vS s)) : OwnT P w (.sl e (rowsS zs)) (.slice (some ⟨b,o,none⟩) zs.length cap) F := by
  have hlen : zs.length = (rowsS zs).length := by simp [rowsS]
  rw [hlen]
  rw [hlen] at h5
  refine .row e _ b o cap cs fr F (fun _ _ _ => False) (fun i _ => vS (zs.getD i [])) h1 h2 h3 (by rw [he,Nat.mul_one]; exact h4) h5 h6 ?_ (fun _ _ _ h => h.elim) (fun _ _ _ _ _ h => h.elim) ?_ ?_ ?_
  · intro i r hr
    unfold rowsS at hr
    rw [List.getElem?_map] at hr
    cases hz : zs[i]? with
    | none => rw [hz] at hr; simp at hr
    | some s => rw [hz] at hr; simp at hr; rw [← hr,he]; rfl
  · intro i j t ht
    obtain ⟨rfl,s,hs,rfl⟩ := strs_get ht
    rw [he,Nat.mul_one,Nat.add_zero,h i s hs,List.getD_eq_getElem?_getD,hs]
    rfl
  · intro i j t ht
    obtain ⟨rfl,s,hs,rfl⟩ := strs_get ht
    have : zs.getD i [] = s := by rw [List.getD_eq_getElem?_getD,hs]; rfl
    rw [this]
    refine .v _ _ ?_
    simp only [scal,decide_eq_true_eq]
    exact hl s (List.mem_of_getElem? hs)
  · intro _ i j t ht
    obtain ⟨rfl,s,hs,rfl⟩ := strs_get ht
    rfl
theorem frozen_of {w : World} {b o : Nat} {cs : Array Value} {e : TypeId} {fr : Nat × Nat} (h1 : w.heap[b]? = some (.cells cs e fr)) (h3 : Thawed cs.size fr) (ho : o < cs.size) : w.frozen? ⟨b,o,none⟩ = false := by
  unfold World.frozen?
  simp only [h1]
  obtain ⟨lo,hi⟩ := fr
  have := h3 o ho
  simp only [Bool.and_eq_false_iff,decide_eq_false_iff_not]
  by_cases h : lo ≤ o
  · exact .inr fun h2 => this ⟨h,h2⟩
  · exact .inl h
theorem ext_drewN (w : World) (n : Nat) : Ext w (w.drewN n) := ⟨rfl,rfl,rfl,Nat.le_refl _,fun _ _ => rfl⟩
theorem ext_grow (w : World) (os : Array Obj) : Ext w (Sort.grow w os) := by
  refine ⟨rfl,rfl,rfl,by simp [Sort.grow],fun b hb => ?_⟩
  simp only [Sort.grow]
  rw [Array.getElem?_append_left hb]
theorem args1 {a : Act} (h : a.tmps.size = 1) : a.tmps = #[a.tmps.getD 0 undef] := by
  apply Array.ext
  · simpa using h
  · intro i hi hi2
    have : i = 0 := by simp at hi2; omega
    subst this; simp [Array.getD,h]
theorem args2 {a : Act} (hsz : a.tmps.size = 2) : a.tmps = #[a.tmps.getD 0 undef,a.tmps.getD 1 undef] := by
  apply Array.ext
  · simpa using hsz
  · intro i hi hi2
    have : i = 0 ∨ i = 1 := by simp at hi2; omega
    rcases this with rfl | rfl <;> simp [Array.getD,hsz]
theorem c78 (vs : List (List UInt8)) (s : List UInt8) (hN : vs.length ≤ 9223372036854775807) : Sem Tryz.prog 78 ⟨[.imm 9 (rowsS vs),.v (vS s)],[none,none]⟩ ⟨[.imm 9 (rowsS vs),.v (vS s),.v (vB (vs.contains s))],[none,none,none]⟩ := by
  refine sem_calls (Ein := ⟨[.imm 9 (rowsS vs),.v (vS s)],[none,none]⟩) (r := vB (vs.contains s)) (enter_of Tryz.func78 rfl rfl) rfl rfl rfl ?_
  intro w a F loc M R
  have h0 := slot_of R (i := 0) (d := .imm 9 (rowsS vs)) rfl rfl (by simp)
  have h1 := slot_of R (i := 1) (d := .v (vS s)) rfl rfl (by simp)
  rw [args2 R.tmps]
  generalize a.tmps.getD 0 undef = v0 at h0
  generalize a.tmps.getD 1 undef = v1 at h1
  cases h1
  cases h0 with
  | imm _ _ _ h =>
    rcases strs_of (by kernel_rfl) h with ⟨rfl,base,cap,rfl⟩ | ⟨b,o,cap,rfl,hb,hc,hcells⟩
    · exact (lib_slices_Contains_string_empty base cap (ofL s) w).mono fun e w' ⟨he,hw⟩ => ⟨he,hw ▸ RowKit.Below.refl _ _⟩
    · have hcs : Lib.containsS ((vs.map ofL).take (vs.map ofL).length) (ofL s) = vs.contains s := by
        rw [List.take_length,Bool.eq_iff_iff,Lib.containsS_iff,List.contains_iff_mem]
        constructor
        · intro h
          obtain ⟨x,hx,he⟩ := List.mem_map.1 h
          rw [ofL_inj] at he; rw [← he]; exact hx
        · exact fun h => List.mem_map.2 ⟨s,h,rfl⟩
      have := lib_slices_Contains_string b o (vs.map ofL).length cap (vs.map ofL) (ofL s) w (Nat.le_refl _) (by simp; omega) (fun j hj => by
        rw [hcells j _ (List.getElem?_eq_getElem hj),List.getD_eq_getElem?_getD,List.getElem?_eq_getElem hj]; rfl)
      rw [hcs] at this
      exact this.mono fun e w' ⟨he,hw⟩ => ⟨he,hw ▸ RowKit.Below.refl _ _⟩
theorem c119 (n : Int) (h0 : -9223372036854775808 ≤ n) (h1 : n ≤ 9223372036854775807) (hlen : (Lib.itoa n).length ≤ 9223372036854775807) : Sem Tryz.prog 119 ⟨[.v (vI n)],[none]⟩ ⟨[.v (vI n),.v (vS (Lib.itoa n))],[none,none]⟩ := by
  refine sem_calls (Ein := ⟨[.v (vI n)],[none]⟩) (r := vS (Lib.itoa n)) (enter_of Tryz.func119 rfl rfl) rfl (by simp only [scal,decide_eq_true_eq]; exact hlen) rfl ?_
  intro w a F loc M R
  have hv := slot_of R (i := 0) (d := .v (vI n)) rfl rfl (by simp)
  rw [args1 R.tmps]
  generalize a.tmps.getD 0 undef = v0 at hv
  cases hv
  obtain ⟨B,hB,hL,hg⟩ := R.glob
  have htab := (hg w (fun _ _ => rfl)).1 _ List.mem_cons_self (by
    intro h
    have hs : (Tryz.prog.globalNamed (tabName [105,110,116,101,114,110,97,108,47,115,116,114,99,111,110,118,46,117,105,110,116,54,52,112,111,119,49,48])).isSome = true := by kernel_rfl
    have h : Tryz.prog.globalNamed (tabName [105,110,116,101,114,110,97,108,47,115,116,114,99,111,110,118,46,117,105,110,116,54,52,112,111,119,49,48]) = none := h
    rw [h] at hs
    cases hs)
  have htab : Lib.TabIs Tryz.prog w "internal/strconv.uint64pow10" .u64 Lib.pow10Tab := by
    have e : tabName [105,110,116,101,114,110,97,108,47,115,116,114,99,111,110,118,46,117,105,110,116,54,52,112,111,119,49,48] = "internal/strconv.uint64pow10" := by decide
    rw [← e]; exact htab
  exact (lib_strconv_Itoa n h0 h1 w htab).mono fun e w' ⟨he,k,os,hw⟩ => ⟨he,by
    have x := (ext_drewN w k).trans (ext_grow _ os)
    rw [hw]
    exact ⟨x.os,x.tape,x.output,x.size,x.kept⟩⟩
theorem holds_strs {w : World} {b o cap : Nat} {vs : List (List UInt8)} {cs : Array Value} {e : TypeId} {fr : Nat × Nat} (h1 : w.heap[b]? = some (.cells cs e fr)) (h3 : Thawed cs.size fr) (h4 : o + cap ≤ cs.size) (h5 : vs.length ≤ cap) (h : ∀ (j : Nat) s,vs[j]? = some s → cs[o + j]? = some (vS s)) :
    ∀ j,j < vs.length → w.cell? ⟨b,o + j,none⟩ = some (vS (vs.getD j [])) ∧ w.frozen? ⟨b,o + j,none⟩ = false := by
  intro j hj
  refine ⟨?_,frozen_of h1 h3 (by omega)⟩
  have hx : vs[j]? = some vs[j] := List.getElem?_eq_getElem hj
  rw [cell_of h1,h j _ hx,List.getD_eq_getElem?_getD,hx]
  rfl
theorem set_strs {cs cs' : Array Value} {o n : Nat} {zs : List (List UInt8)} (hc : ∀ j,cs'[j]? = if o ≤ j ∧ j < o + n then (zs.map fun s => vS s)[j - o]? else cs[j]?) (hn : zs.length ≤ n) : ∀ (j : Nat) s,zs[j]? = some s → cs'[o + j]? = some (vS s) := by
  intro j s hj
  have hlt : j < zs.length := (List.getElem?_eq_some_iff.1 hj).1
  rw [hc,if_pos (by omega),show o + j - o = j by omega,List.getElem?_map,hj]
  rfl
def sortB (vs : List (List UInt8)) : List (List UInt8) := vs.mergeSort fun x y => decide (x ≤ y)
theorem sortB_len (vs : List (List UInt8)) : (sortB vs).length = vs.length := List.length_mergeSort ..
theorem sortB_mem {vs : List (List UInt8)} {s : List UInt8} : s ∈ sortB vs ↔ s ∈ vs := (List.mergeSort_perm vs _).mem_iff
theorem compactUpTo_mem (d : Array (List UInt8)) (s : List UInt8) : ∀ m,s ∈ Lib.compactUpTo d m ↔ ∃ j,j < m ∧ d[j]! = s
  | 0 => by simp [Lib.compactUpTo]
  | m + 1 => by
    rw [Lib.compactUpTo_succ,List.mem_append,compactUpTo_mem d s m]
    constructor
    · rintro (⟨j,h1,h2⟩ | h)
      · exact ⟨j,by omega,h2⟩
      · split at h
        · exact ⟨m,by omega,(List.mem_singleton.1 h).symm⟩
        · simp at h
    · rintro ⟨j,h1,h2⟩
      by_cases hj : j < m
      · exact .inl ⟨j,hj,h2⟩
      · have : j = m := by omega
        subst this
        split
        · exact .inr (by rw [h2]; exact List.mem_singleton.2 rfl)
        · rename_i hk
          unfold Lib.keeps at hk
          simp only [Bool.or_eq_true,not_or,bne_iff_ne,ne_eq,Decidable.not_not,beq_iff_eq,decide_eq_true_eq] at hk
          exact .inl ⟨j - 1,by omega,by rw [← h2]; exact hk.2.symm⟩
theorem compact_mem {vs : List (List UInt8)} {s : List UInt8} : s ∈ Lib.compact vs ↔ s ∈ vs := by
  unfold Lib.compact
  rw [compactUpTo_mem]
  constructor
  · rintro ⟨j,h1,h2⟩
    rw [← h2]
    simp [h1]
  · intro h
    obtain ⟨j,h1,h2⟩ := List.mem_iff_getElem.1 h
    exact ⟨j,h1,by simp [h1,h2]⟩
theorem leaf0 {v : Value} (h : one v = true) : vleafOf v 0 = v := by cases v <;> simp [one] at h <;> rfl
theorem c126 (vs : List (List UInt8)) (hN : vs.length ≤ 1048576) (hl : ∀ s,s ∈ vs → s.length ≤ 9223372036854775807) : Sem Tryz.prog 126 ⟨[.own 9 (rowsS vs)],[none]⟩ ⟨[.own 9 (rowsS (sortB vs)),.tup []],[none,none]⟩ := by
  intro w a F loc M R
  refine .inl ⟨enter_of Tryz.func126 rfl rfl _ _,?_⟩
  have hv := slot_of R (i := 0) (d := .own 9 (rowsS vs)) rfl rfl (by simp)
  have hE : (⟨[.own 9 (rowsS vs)],[none]⟩ : Env).leaf ⟨false,0,0⟩ = .own 9 (rowsS vs) := rfl
  have hargs : a.tmps = #[a.tmps.getD 0 undef] := args1 R.tmps
  rw [hargs]
  have hcv : vleafOf (a.tmps.getD 0 undef) 0 = a.tmps.getD 0 undef → Ctx.cv ⟨Tryz.prog,⟨[.own 9 (rowsS vs)],[none]⟩,a,w,F,loc,M⟩ ⟨false,0,0⟩ = a.tmps.getD 0 undef := fun h => h
  generalize a.tmps.getD 0 undef = v0 at hv hcv hargs
  cases hv with
  | own _ _ _ h =>
    rcases own_strs (by kernel_rfl) h with ⟨rfl,rfl⟩ | ⟨b,o,cap,cs,fr,rfl,h1,h2,h3,h4,h5,h6,h7⟩
    · refine (lib_slices_Sort_string_none none 0 w).mono ?_
      rintro e w' ⟨rfl,rfl⟩
      refine ⟨_,rfl,F,loc,fun _ _ => rfl,?_⟩
      have := R.push R.defers (d := .tup []) (v := .tuple #[]) rfl tup0
      rw [show sortB [] = [] from by simp [sortB]]
      simp only [hargs] at this
      exact this
    · have hh := holds_strs h1 h3 h4 h5 h7
      have hH : Go.Sort.Holds Go.Proofs.encStr w b o vs.toArray := by
        intro j hj
        have hj : j < vs.length := by simpa using hj
        obtain ⟨a1,a2⟩ := hh j hj
        refine ⟨a1.trans ?_,a2⟩
        simp [List.getD,hj,Go.Proofs.encStr]
        rfl
      refine (lib_slices_Sort_string b o cap vs w hH (Array.getElem?_eq_some_iff.1 h1).1 (by omega)).mono ?_
      rintro e w' ⟨rfl,n,os,rfl⟩
      refine ⟨_,rfl,F,loc,fun _ _ => rfl,?_⟩
      have hp := Lib.putRow_eq_setCells Go.Proofs.encStr w b o vs.toArray (sortB vs) n hH (by rw [sortB_len]; simp)
      have hp : Go.Sort.putRow Go.Proofs.encStr (Go.Sort.ahead w n) b o (vs.mergeSort fun x y => decide (x ≤ y)).toArray = (w.drewN n).setCells b o ((sortB vs).map Go.Proofs.encStr) := hp
      rw [hp]
      have hlm : ((sortB vs).map Go.Proofs.encStr).length = vs.length := by rw [List.length_map,sortB_len]
      obtain ⟨cs',hw,hc⟩ := setCells_wrt b 9 fr ((sortB vs).map Go.Proofs.encStr) o (w.drewN n) cs h1 (by rw [hlm]; omega)
      rw [hlm] at hc
      have R1 := R.drew (ext_drewN w n)
      have R2 := R1.row (q := ⟨false,0,0⟩) (xs' := rowsS (sortB vs)) hE (by simp [rowsS,sortB_len]) (fun i j t ht => by
        obtain ⟨rfl,s,hs,rfl⟩ := strs_get ht
        rfl) hw h2 (by
        show OwnT Tryz.prog _ _ (Ctx.cv ⟨Tryz.prog,⟨[.own 9 (rowsS vs)],[none]⟩,a,w,F,loc,M⟩ ⟨false,0,0⟩) _
        rw [hcv rfl]
        have := own_of_strs (P := Tryz.prog) (w := (w.drewN n).setCells b o ((sortB vs).map Go.Proofs.encStr)) (F := F ⟨false,0,0⟩) (e := 9) (zs := sortB vs) (cap := cap) (by kernel_rfl) hw.new h2 (by rw [hw.sz]; exact h3) (by rw [hw.sz]; exact h4) (by rw [sortB_len]; exact h5) h6 (fun s hs => hl s (sortB_mem.1 hs)) (set_strs hc (by rw [sortB_len]; exact Nat.le_refl _))
        rw [sortB_len] at this
        exact this)
      have R3 := R2.drew (ext_grow _ os)
      have := R3.push R.defers (d := .tup []) (v := .tuple #[]) rfl tup0
      simp only [hargs] at this
      exact this
theorem c127 (vs : List (List UInt8)) (hN : vs.length ≤ 1048576) (hl : ∀ s,s ∈ vs → s.length ≤ 9223372036854775807) : Sem Tryz.prog 127 ⟨[.own 9 (rowsS vs)],[none]⟩ ⟨[.dead,.own 9 (rowsS (Lib.compact vs))],[none,none]⟩ := by
  intro w a F loc M R
  refine .inl ⟨enter_of Tryz.func127 rfl rfl _ _,?_⟩
  have hv := slot_of R (i := 0) (d := .own 9 (rowsS vs)) rfl rfl (by simp)
  have ha : a.tmps.size = 1 := R.tmps
  have hdf : a.defers = [] := R.defers
  have hdead : ∀ e xs,(⟨[.dead,.dead],[none,none]⟩ : Env).leaf ⟨false,0,0⟩ ≠ .own e xs := fun e xs h => by cases h
  have hK : Rel w (lentOf ⟨[.own 9 (rowsS vs)],[none]⟩ F loc) ⟨Tryz.prog,⟨[.dead],[none]⟩,a,w,F,loc,M⟩ := R.kill fun p => p == ⟨false,0,0⟩
  have hargs := args1 ha
  have go : ∀ (w1 : World),Rel w (lentOf ⟨[.own 9 (rowsS vs)],[none]⟩ F loc) ⟨Tryz.prog,⟨[.dead],[none]⟩,a,w1,F,loc,M⟩ → ∀ (v : Value) (zs : List (List UInt8)),OwnT Tryz.prog w1 (.sl 9 (rowsS zs)) v (F ⟨false,0,0⟩) →
      ∃ F',Rel w (lentOf ⟨[.own 9 (rowsS vs)],[none]⟩ F loc) ⟨Tryz.prog,⟨[.dead,.own 9 (rowsS zs)],[none,none]⟩,{ tmps := a.tmps.push v,defers := [] },w1,F',loc,M⟩ := by
    intro w1 R1 v zs ho
    have R2 := R1.pad 1
    obtain ⟨F',R3⟩ := R2.put2 (q := ⟨false,0,0⟩) (t := 1) (e := 9) (zs := rowsS zs) (v := v) hdead rfl ho
    refine ⟨F',?_⟩
    have e2 : (a.tmps ++ Array.replicate 1 undef).setIfInBounds 1 v = a.tmps.push v := by
      have := set_push a.tmps v
      rw [ha] at this
      exact this
    have R4 : Rel w (lentOf ⟨[.own 9 (rowsS vs)],[none]⟩ F loc) ⟨Tryz.prog,⟨[.dead,.own 9 (rowsS zs)],[none,none]⟩,{ tmps := (a.tmps ++ Array.replicate 1 undef).setIfInBounds 1 v,defers := [] },w1,F',loc,M⟩ := R3
    rw [e2] at R4
    exact R4
  rw [hargs]
  generalize a.tmps.getD 0 undef = v0 at hv hargs
  cases hv with
  | own _ _ _ h =>
    rcases own_strs (by kernel_rfl) h with ⟨rfl,rfl⟩ | ⟨b,o,cap,cs,fr,rfl,h1,h2,h3,h4,h5,h6,h7⟩
    · refine (lib_slices_Compact_string_empty none 0 w).mono ?_
      rintro e w' ⟨rfl,rfl⟩
      obtain ⟨F',R'⟩ := go _ hK (.slice none 0 0) (Lib.compact []) (by rw [show Lib.compact ([] : List (List UInt8)) = [] from rfl]; exact .emp _ _)
      simp only [hargs] at R'
      exact ⟨_,rfl,F',loc,fun _ _ => rfl,R'⟩
    · have hh := holds_strs h1 h3 h4 h5 h7
      have hst : Lib.strsOf (fun i => ofL (vs.getD i [])) vs.length = vs := by
        unfold Lib.strsOf
        apply List.ext_getElem?
        intro i
        rw [List.getElem?_map]
        by_cases hi : i < vs.length
        · rw [List.getElem?_range hi,List.getElem?_eq_getElem hi]
          simp [List.getD,hi]
          rfl
        · rw [List.getElem?_eq_none (by simp; omega),List.getElem?_eq_none (by omega)]; rfl
      have := lib_slices_Compact_string_cells b o vs.length cap (fun i => ofL (vs.getD i [])) w (by omega) h5 (fun i hi => (hh i hi).1) (fun i hi => (hh i hi).2)
      rw [hst] at this
      refine this.mono ?_
      rintro e w' ⟨rfl,n,rfl⟩
      have hcl := Lib.compact_length_le vs
      have hlm : ((Lib.compact vs ++ List.replicate (vs.length - (Lib.compact vs).length) []).map Go.Proofs.encStr).length = vs.length := by simp; omega
      obtain ⟨cs',hw,hc⟩ := setCells_wrt b 9 fr ((Lib.compact vs ++ List.replicate (vs.length - (Lib.compact vs).length) []).map Go.Proofs.encStr) o (w.drewN n) cs h1 (by rw [hlm]; omega)
      rw [hlm] at hc
      have R1 := hK.drew (ext_drewN w n)
      have R2 := R1.wrf (q := ⟨false,0,0⟩) h2 (fun e xs h => by cases h) hw
      obtain ⟨F',R'⟩ := go _ R2 (.slice (some ⟨b,o,none⟩) (Lib.compact vs).length cap) (Lib.compact vs) (own_of_strs (cap := cap) (by kernel_rfl) hw.new h2 (by rw [hw.sz]; exact h3) (by rw [hw.sz]; exact h4) (by omega) h6 (fun s hs => hl s (compact_mem.1 hs)) (fun j s hj => by
        refine set_strs (zs := Lib.compact vs ++ List.replicate (vs.length - (Lib.compact vs).length) []) hc (by simp; omega) j s ?_
        rw [List.getElem?_append_left (List.getElem?_eq_some_iff.1 hj).1]; exact hj))
      simp only [hargs] at R'
      exact ⟨_,rfl,F',loc,fun _ _ => rfl,R'⟩
def lib_lays172_ren : Go.Shelf.Ren := ⟨fun | 172 => 106 | 244 => 141 | 245 => 142 | 247 => 161 | 279 => 162 | 280 => 163 | 281 => 164 | 282 => 165 | 287 => 185 | 316 => 186 | 171 => 119 | 205 => 187 | 321 => 202 | 322 => 203 | 243 => 153 | 246 => 170 | 283 => 192 | 284 => 193 | 285 => 194 | 286 => 195 | 129 => 182 | 317 => 205 | 318 => 206 | 319 => 207 | 320 => 208 | 337 => 210 | 338 => 211 | n => n,fun | 9 => 9 | 3 => 3 | 75 => 92 | 76 => 93 | 4 => 4 | 5 => 5 | 167 => 119 | 37 => 80 | 0 => 0 | 85 => 120 | 2 => 2 | 168 => 122 | 53 => 140 | 175 => 143 | 46 => 109 | 210 => 146 | 127 => 115 | 145 => 164 | 143 => 162 | 21 => 21 | 171 => 152 | 173 => 154 | 212 => 166 | 51 => 138 | 20 => 20 | 213 => 167 | 232 => 175 | 233 => 176 | 80 => 101 | n => n,fun | 15 => 1 | 16 => 2 | 17 => 3 | 18 => 6 | 19 => 7 | n => n⟩
theorem lib_lays172 : Go.Proofs.Lays.n172 Tryz.prog lib_lays172_ren := {
  mixed := by kernel_rfl
  f129 := Tryz.func182.trans (congrArg some (by kernel_rfl))
  f171 := Tryz.func119.trans (congrArg some (by kernel_rfl))
  f172 := Tryz.func106.trans (congrArg some (by kernel_rfl))
  f205 := Tryz.func187.trans (congrArg some (by kernel_rfl))
  f243 := Tryz.func153.trans (congrArg some (by kernel_rfl))
  f244 := Tryz.func141.trans (congrArg some (by kernel_rfl))
  f245 := Tryz.func142.trans (congrArg some (by kernel_rfl))
  f246 := Tryz.func170.trans (congrArg some (by kernel_rfl))
  f247 := Tryz.func161.trans (congrArg some (by kernel_rfl))
  f279 := Tryz.func162.trans (congrArg some (by kernel_rfl))
  f280 := Tryz.func163.trans (congrArg some (by kernel_rfl))
  f281 := Tryz.func164.trans (congrArg some (by kernel_rfl))
  f282 := Tryz.func165.trans (congrArg some (by kernel_rfl))
  f283 := Tryz.func192.trans (congrArg some (by kernel_rfl))
  f284 := Tryz.func193.trans (congrArg some (by kernel_rfl))
  f285 := Tryz.func194.trans (congrArg some (by kernel_rfl))
  f286 := Tryz.func195.trans (congrArg some (by kernel_rfl))
  f287 := Tryz.func185.trans (congrArg some (by kernel_rfl))
  f316 := Tryz.func186.trans (congrArg some (by kernel_rfl))
  f317 := Tryz.func205.trans (congrArg some (by kernel_rfl))
  f318 := Tryz.func206.trans (congrArg some (by kernel_rfl))
  f319 := Tryz.func207.trans (congrArg some (by kernel_rfl))
  f320 := Tryz.func208.trans (congrArg some (by kernel_rfl))
  f321 := Tryz.func202.trans (congrArg some (by kernel_rfl))
  f322 := Tryz.func203.trans (congrArg some (by kernel_rfl))
  f337 := Tryz.func210.trans (congrArg some (by kernel_rfl))
  f338 := Tryz.func211.trans (congrArg some (by kernel_rfl))
  t0 := Tryz.underlying0
  a0 := Tryz.isAgg0
  z0 := Tryz.sizeOf0
  v0 := Tryz.zeroValue0
  t2 := Tryz.underlying2
  a2 := Tryz.isAgg2
  z2 := Tryz.sizeOf2
  v2 := Tryz.zeroValue2
  t3 := Tryz.underlying3
  a3 := Tryz.isAgg3
  z3 := Tryz.sizeOf3
  v3 := Tryz.zeroValue3
  t4 := Tryz.underlying4
  a4 := Tryz.isAgg4
  z4 := Tryz.sizeOf4
  v4 := Tryz.zeroValue4
  t5 := Tryz.underlying5
  a5 := Tryz.isAgg5
  z5 := Tryz.sizeOf5
  v5 := Tryz.zeroValue5
  t9 := Tryz.underlying9
  a9 := Tryz.isAgg9
  z9 := Tryz.sizeOf9
  v9 := Tryz.zeroValue9
  t20 := Tryz.underlying20
  a20 := Tryz.isAgg20
  z20 := Tryz.sizeOf20
  v20 := Tryz.zeroValue20
  t21 := Tryz.underlying21
  a21 := Tryz.isAgg21
  z21 := Tryz.sizeOf21
  v21 := Tryz.zeroValue21
  t37 := Tryz.underlying80
  a37 := Tryz.isAgg80
  z37 := Tryz.sizeOf80
  v37 := Tryz.zeroValue80
  t46 := Tryz.underlying109
  a46 := Tryz.isAgg109
  z46 := Tryz.sizeOf109
  v46 := Tryz.zeroValue109
  t51 := Tryz.underlying138
  a51 := Tryz.isAgg138
  z51 := Tryz.sizeOf138
  v51 := Tryz.zeroValue138
  t53 := Tryz.underlying140
  a53 := Tryz.isAgg140
  z53 := Tryz.sizeOf140
  v53 := Tryz.zeroValue140
  t75 := Tryz.underlying92
  a75 := Tryz.isAgg92
  z75 := Tryz.sizeOf92
  v75 := Tryz.zeroValue92
  t76 := Tryz.underlying93
  a76 := Tryz.isAgg93
  z76 := Tryz.sizeOf93
  v76 := Tryz.zeroValue93
  t85 := Tryz.underlying120
  a85 := Tryz.isAgg120
  z85 := Tryz.sizeOf120
  v85 := Tryz.zeroValue120
  t127 := Tryz.underlying115
  a127 := Tryz.isAgg115
  z127 := Tryz.sizeOf115
  v127 := Tryz.zeroValue115
  t143 := Tryz.underlying162
  a143 := Tryz.isAgg162
  z143 := Tryz.sizeOf162
  v143 := Tryz.zeroValue162
  t145 := Tryz.underlying164
  a145 := Tryz.isAgg164
  z145 := Tryz.sizeOf164
  v145 := Tryz.zeroValue164
  t167 := Tryz.underlying119
  a167 := Tryz.isAgg119
  z167 := Tryz.sizeOf119
  v167 := Tryz.zeroValue119
  t168 := Tryz.underlying122
  a168 := Tryz.isAgg122
  z168 := Tryz.sizeOf122
  v168 := Tryz.zeroValue122
  t171 := Tryz.underlying152
  a171 := Tryz.isAgg152
  z171 := Tryz.sizeOf152
  v171 := Tryz.zeroValue152
  t173 := Tryz.underlying154
  a173 := Tryz.isAgg154
  z173 := Tryz.sizeOf154
  v173 := Tryz.zeroValue154
  t175 := Tryz.underlying143
  a175 := Tryz.isAgg143
  z175 := Tryz.sizeOf143
  v175 := Tryz.zeroValue143
  t210 := Tryz.underlying146
  a210 := Tryz.isAgg146
  z210 := Tryz.sizeOf146
  v210 := Tryz.zeroValue146
  t212 := Tryz.underlying166
  a212 := Tryz.isAgg166
  z212 := Tryz.sizeOf166
  v212 := Tryz.zeroValue166
  t213 := Tryz.underlying167
  a213 := Tryz.isAgg167
  z213 := Tryz.sizeOf167
  t232 := Tryz.underlying175
  a232 := Tryz.isAgg175
  z232 := Tryz.sizeOf175
  v232 := Tryz.zeroValue175
  t233 := Tryz.underlying176
  a233 := Tryz.isAgg176
  z233 := Tryz.sizeOf176
  v233 := Tryz.zeroValue176
  g15 := by kernel_rfl
  g16 := by kernel_rfl
  g17 := by kernel_rfl
  g18 := by kernel_rfl
  g19 := by kernel_rfl }
def lib_lays144_ren : Go.Shelf.Ren := ⟨fun | 144 => 54 | 143 => 99 | 219 => 136 | 217 => 159 | 225 => 140 | 224 => 139 | 267 => 160 | 266 => 183 | 314 => 184 | n => n,fun | 9 => 9 | 4 => 4 | 3 => 3 | 5 => 5 | 46 => 109 | 146 => 141 | 51 => 138 | n => n,fun | 1 => 0 | n => n⟩
theorem lib_lays144 : Go.Proofs.Lays.n144 Tryz.prog lib_lays144_ren := {
  mixed := by kernel_rfl
  f143 := Tryz.func99.trans (congrArg some (by kernel_rfl))
  f144 := Tryz.func54.trans (congrArg some (by kernel_rfl))
  f217 := Tryz.func159.trans (congrArg some (by kernel_rfl))
  f219 := Tryz.func136.trans (congrArg some (by kernel_rfl))
  f224 := Tryz.func139.trans (congrArg some (by kernel_rfl))
  f225 := Tryz.func140.trans (congrArg some (by kernel_rfl))
  f266 := Tryz.func183.trans (congrArg some (by kernel_rfl))
  f267 := Tryz.func160.trans (congrArg some (by kernel_rfl))
  f314 := Tryz.func184.trans (congrArg some (by kernel_rfl))
  t3 := Tryz.underlying3
  a3 := Tryz.isAgg3
  z3 := Tryz.sizeOf3
  v3 := Tryz.zeroValue3
  t4 := Tryz.underlying4
  a4 := Tryz.isAgg4
  z4 := Tryz.sizeOf4
  v4 := Tryz.zeroValue4
  t5 := Tryz.underlying5
  a5 := Tryz.isAgg5
  z5 := Tryz.sizeOf5
  v5 := Tryz.zeroValue5
  t9 := Tryz.underlying9
  a9 := Tryz.isAgg9
  z9 := Tryz.sizeOf9
  v9 := Tryz.zeroValue9
  t46 := Tryz.underlying109
  a46 := Tryz.isAgg109
  z46 := Tryz.sizeOf109
  v46 := Tryz.zeroValue109
  t51 := Tryz.underlying138
  a51 := Tryz.isAgg138
  z51 := Tryz.sizeOf138
  v51 := Tryz.zeroValue138
  t146 := Tryz.underlying141
  a146 := Tryz.isAgg141
  z146 := Tryz.sizeOf141
  v146 := Tryz.zeroValue141
  g1 := by kernel_rfl }
open Go.RowKit Go.Lib in
theorem lib_strings_Contains_one (s : ByteArray) (c : UInt8) (w : World) :
    Calls Tryz.prog 54 #[.string s,.string ⟨#[c]⟩] w fun e w' => e = .returned (.bool (decide (0 ≤ Lib.indexByte s.data.toList c))) ∧ w' = w := Any.strings_Contains_one lib_lays144 s c w
def lib_lays145_ren : Go.Shelf.Ren := ⟨fun | 145 => 57 | 220 => 105 | 219 => 136 | 217 => 159 | 225 => 140 | 224 => 139 | 267 => 160 | 266 => 183 | 314 => 184 | n => n,fun | 9 => 9 | 4 => 4 | 59 => 71 | 3 => 3 | 5 => 5 | 46 => 109 | 146 => 141 | 51 => 138 | n => n,fun | 1 => 0 | n => n⟩
theorem lib_lays145 : Go.Proofs.Lays.n145 Tryz.prog lib_lays145_ren := {
  mixed := by kernel_rfl
  f145 := Tryz.func57.trans (congrArg some (by kernel_rfl))
  f217 := Tryz.func159.trans (congrArg some (by kernel_rfl))
  f219 := Tryz.func136.trans (congrArg some (by kernel_rfl))
  f220 := Tryz.func105.trans (congrArg some (by kernel_rfl))
  f224 := Tryz.func139.trans (congrArg some (by kernel_rfl))
  f225 := Tryz.func140.trans (congrArg some (by kernel_rfl))
  f266 := Tryz.func183.trans (congrArg some (by kernel_rfl))
  f267 := Tryz.func160.trans (congrArg some (by kernel_rfl))
  f314 := Tryz.func184.trans (congrArg some (by kernel_rfl))
  t3 := Tryz.underlying3
  a3 := Tryz.isAgg3
  z3 := Tryz.sizeOf3
  v3 := Tryz.zeroValue3
  t4 := Tryz.underlying4
  a4 := Tryz.isAgg4
  z4 := Tryz.sizeOf4
  v4 := Tryz.zeroValue4
  t5 := Tryz.underlying5
  a5 := Tryz.isAgg5
  z5 := Tryz.sizeOf5
  v5 := Tryz.zeroValue5
  t9 := Tryz.underlying9
  a9 := Tryz.isAgg9
  z9 := Tryz.sizeOf9
  v9 := Tryz.zeroValue9
  t46 := Tryz.underlying109
  a46 := Tryz.isAgg109
  z46 := Tryz.sizeOf109
  v46 := Tryz.zeroValue109
  t51 := Tryz.underlying138
  a51 := Tryz.isAgg138
  z51 := Tryz.sizeOf138
  v51 := Tryz.zeroValue138
  t59 := Tryz.underlying71
  a59 := Tryz.isAgg71
  z59 := Tryz.sizeOf71
  v59 := Tryz.zeroValue71
  t146 := Tryz.underlying141
  a146 := Tryz.isAgg141
  z146 := Tryz.sizeOf141
  v146 := Tryz.zeroValue141
  g1 := by kernel_rfl }
open Go.RowKit Go.Lib in
theorem lib_strings_Cut (s sep : ByteArray) (m : Int) (w : World) (hs : s.size < 4294967281) (hm : w.cell? ⟨0,0,none⟩ = some (.int .i64 m)) :
    Calls Tryz.prog 57 #[.string s,.string sep] w fun e w' => e = .returned (.tuple #[.string ⟨(Lib.cut s.data.toList sep.data.toList).1.toArray⟩,.string ⟨(Lib.cut s.data.toList sep.data.toList).2.1.toArray⟩,.bool (Lib.cut s.data.toList sep.data.toList).2.2]) ∧ ∃ n,w' = w.drewN n := Any.strings_Cut lib_lays145 s sep m w hs hm
def lib_lays99_ren : Go.Shelf.Ren := ⟨fun | 99 => 109 | 206 => 143 | n => n,fun | 9 => 9 | 4 => 4 | 3 => 3 | n => n,fun | n => n⟩
theorem lib_lays99 : Go.Proofs.Lays.n99 Tryz.prog lib_lays99_ren := {
  mixed := by kernel_rfl
  f99 := Tryz.func109.trans (congrArg some (by kernel_rfl))
  f206 := Tryz.func143.trans (congrArg some (by kernel_rfl))
  t3 := Tryz.underlying3
  a3 := Tryz.isAgg3
  z3 := Tryz.sizeOf3
  v3 := Tryz.zeroValue3
  t4 := Tryz.underlying4
  a4 := Tryz.isAgg4
  z4 := Tryz.sizeOf4
  v4 := Tryz.zeroValue4
  t9 := Tryz.underlying9
  a9 := Tryz.isAgg9
  z9 := Tryz.sizeOf9
  v9 := Tryz.zeroValue9 }
open Go.RowKit Go.Lib in
theorem lib_strings_HasPrefix (s p : ByteArray) (w : World) :
    Calls Tryz.prog 109 #[.string s,.string p] w fun e w' => e = .returned (.bool (Lib.hasPrefix s.data.toList p.data.toList)) ∧ w' = w := Any.strings_HasPrefix lib_lays99 s p w
def lib_lays146_ren : Go.Shelf.Ren := ⟨fun | 146 => 111 | 221 => 144 | 268 => 166 | 138 => 167 | 143 => 99 | 195 => 188 | 197 => 189 | 218 => 190 | 219 => 136 | 260 => 204 | 217 => 159 | 225 => 140 | 224 => 139 | 267 => 160 | 266 => 183 | 314 => 184 | n => n,fun | 9 => 9 | 31 => 62 | 3 => 3 | 4 => 4 | 0 => 0 | 105 => 149 | 21 => 21 | 5 => 5 | 46 => 109 | 119 => 171 | 139 => 174 | 138 => 173 | 146 => 141 | 51 => 138 | n => n,fun | 1 => 0 | 3 => 4 | 4 => 5 | n => n⟩
theorem lib_lays146 : Go.Proofs.Lays.n146 Tryz.prog lib_lays146_ren := {
  mixed := by kernel_rfl
  f138 := Tryz.func167.trans (congrArg some (by kernel_rfl))
  f143 := Tryz.func99.trans (congrArg some (by kernel_rfl))
  f146 := Tryz.func111.trans (congrArg some (by kernel_rfl))
  f195 := Tryz.func188.trans (congrArg some (by kernel_rfl))
  f197 := Tryz.func189.trans (congrArg some (by kernel_rfl))
  f217 := Tryz.func159.trans (congrArg some (by kernel_rfl))
  f218 := Tryz.func190.trans (congrArg some (by kernel_rfl))
  f219 := Tryz.func136.trans (congrArg some (by kernel_rfl))
  f221 := Tryz.func144.trans (congrArg some (by kernel_rfl))
  f224 := Tryz.func139.trans (congrArg some (by kernel_rfl))
  f225 := Tryz.func140.trans (congrArg some (by kernel_rfl))
  f260 := Tryz.func204.trans (congrArg some (by kernel_rfl))
  f266 := Tryz.func183.trans (congrArg some (by kernel_rfl))
  f267 := Tryz.func160.trans (congrArg some (by kernel_rfl))
  f268 := Tryz.func166.trans (congrArg some (by kernel_rfl))
  f314 := Tryz.func184.trans (congrArg some (by kernel_rfl))
  t0 := Tryz.underlying0
  a0 := Tryz.isAgg0
  z0 := Tryz.sizeOf0
  v0 := Tryz.zeroValue0
  t3 := Tryz.underlying3
  a3 := Tryz.isAgg3
  z3 := Tryz.sizeOf3
  v3 := Tryz.zeroValue3
  t4 := Tryz.underlying4
  a4 := Tryz.isAgg4
  z4 := Tryz.sizeOf4
  v4 := Tryz.zeroValue4
  t5 := Tryz.underlying5
  a5 := Tryz.isAgg5
  z5 := Tryz.sizeOf5
  v5 := Tryz.zeroValue5
  t9 := Tryz.underlying9
  a9 := Tryz.isAgg9
  z9 := Tryz.sizeOf9
  v9 := Tryz.zeroValue9
  t21 := Tryz.underlying21
  a21 := Tryz.isAgg21
  z21 := Tryz.sizeOf21
  v21 := Tryz.zeroValue21
  t31 := Tryz.underlying62
  a31 := Tryz.isAgg62
  z31 := Tryz.sizeOf62
  v31 := Tryz.zeroValue62
  t46 := Tryz.underlying109
  a46 := Tryz.isAgg109
  z46 := Tryz.sizeOf109
  v46 := Tryz.zeroValue109
  t51 := Tryz.underlying138
  a51 := Tryz.isAgg138
  z51 := Tryz.sizeOf138
  v51 := Tryz.zeroValue138
  t105 := Tryz.underlying149
  a105 := Tryz.isAgg149
  z105 := Tryz.sizeOf149
  v105 := Tryz.zeroValue149
  t119 := Tryz.underlying171
  a119 := Tryz.isAgg171
  z119 := Tryz.sizeOf171
  t138 := Tryz.underlying173
  a138 := Tryz.isAgg173
  z138 := Tryz.sizeOf173
  v138 := Tryz.zeroValue173
  t139 := Tryz.underlying174
  a139 := Tryz.isAgg174
  z139 := Tryz.sizeOf174
  v139 := Tryz.zeroValue174
  t146 := Tryz.underlying141
  a146 := Tryz.isAgg141
  z146 := Tryz.sizeOf141
  v146 := Tryz.zeroValue141
  g1 := by kernel_rfl
  g3 := by kernel_rfl
  g4 := by kernel_rfl }
open Go.RowKit Go.Lib in
theorem lib_strings_Split (s sep : ByteArray) (m : Int) (w : World) (hs : s.size < 4294967281) (hm : w.cell? ⟨0,0,none⟩ = some (.int .i64 m)) (h1 : 1 ≤ sep.size) :
    Calls Tryz.prog 111 #[.string s,.string sep] w fun e w' =>
      e = .returned (.slice (some ⟨w.heap.size,0,none⟩) (Lib.countB s sep + 1) (Lib.countB s sep + 1)) ∧ w' = w.alloc (.cells ((Lib.splitB sep 0 (Lib.countB s sep) s).map Value.string).toArray 9) := Any.strings_Split lib_lays146 (by kernel_rfl) s sep m w hs hm h1
def lib_lays153_ren : Go.Shelf.Ren := ⟨fun | 153 => 56 | 152 => 101 | 226 => 102 | 227 => 103 | 228 => 104 | 137 => 137 | 119 => 138 | 224 => 139 | 225 => 140 | 217 => 159 | 266 => 183 | n => n,fun | 9 => 9 | 3 => 3 | 4 => 4 | 5 => 5 | 21 => 21 | 117 => 89 | 116 => 88 | 0 => 0 | 46 => 109 | 124 => 110 | n => n,fun | n => n⟩
theorem lib_lays153 : Go.Proofs.Lays.n153 Tryz.prog lib_lays153_ren := {
  mixed := by kernel_rfl
  f119 := Tryz.func138.trans (congrArg some (by kernel_rfl))
  f137 := Tryz.func137.trans (congrArg some (by kernel_rfl))
  f152 := Tryz.func101.trans (congrArg some (by kernel_rfl))
  f153 := Tryz.func56.trans (congrArg some (by kernel_rfl))
  f217 := Tryz.func159.trans (congrArg some (by kernel_rfl))
  f224 := Tryz.func139.trans (congrArg some (by kernel_rfl))
  f225 := Tryz.func140.trans (congrArg some (by kernel_rfl))
  f226 := Tryz.func102.trans (congrArg some (by kernel_rfl))
  f227 := Tryz.func103.trans (congrArg some (by kernel_rfl))
  f228 := Tryz.func104.trans (congrArg some (by kernel_rfl))
  f266 := Tryz.func183.trans (congrArg some (by kernel_rfl))
  t0 := Tryz.underlying0
  a0 := Tryz.isAgg0
  z0 := Tryz.sizeOf0
  v0 := Tryz.zeroValue0
  t3 := Tryz.underlying3
  a3 := Tryz.isAgg3
  z3 := Tryz.sizeOf3
  v3 := Tryz.zeroValue3
  t4 := Tryz.underlying4
  a4 := Tryz.isAgg4
  z4 := Tryz.sizeOf4
  v4 := Tryz.zeroValue4
  t5 := Tryz.underlying5
  a5 := Tryz.isAgg5
  z5 := Tryz.sizeOf5
  v5 := Tryz.zeroValue5
  t9 := Tryz.underlying9
  a9 := Tryz.isAgg9
  z9 := Tryz.sizeOf9
  v9 := Tryz.zeroValue9
  t21 := Tryz.underlying21
  a21 := Tryz.isAgg21
  z21 := Tryz.sizeOf21
  v21 := Tryz.zeroValue21
  t46 := Tryz.underlying109
  a46 := Tryz.isAgg109
  z46 := Tryz.sizeOf109
  v46 := Tryz.zeroValue109
  t116 := Tryz.underlying88
  a116 := Tryz.isAgg88
  z116 := Tryz.sizeOf88
  t117 := Tryz.underlying89
  a117 := Tryz.isAgg89
  z117 := Tryz.sizeOf89
  v117 := Tryz.zeroValue89
  t124 := Tryz.underlying110
  a124 := Tryz.isAgg110
  z124 := Tryz.sizeOf110
  v124 := Tryz.zeroValue110 }
def lib_lays150_ren : Go.Shelf.Ren := ⟨fun | 150 => 110 | 153 => 56 | 152 => 101 | 226 => 102 | 227 => 103 | 228 => 104 | 137 => 137 | 119 => 138 | 224 => 139 | 225 => 140 | 217 => 159 | 266 => 183 | n => n,fun | 9 => 9 | 4 => 4 | 3 => 3 | 5 => 5 | 21 => 21 | 117 => 89 | 116 => 88 | 0 => 0 | 46 => 109 | 124 => 110 | n => n,fun | n => n⟩
theorem lib_lays150 : Go.Proofs.Lays.n150 Tryz.prog lib_lays150_ren := {
  mixed := by kernel_rfl
  f119 := Tryz.func138.trans (congrArg some (by kernel_rfl))
  f137 := Tryz.func137.trans (congrArg some (by kernel_rfl))
  f150 := Tryz.func110.trans (congrArg some (by kernel_rfl))
  f152 := Tryz.func101.trans (congrArg some (by kernel_rfl))
  f153 := Tryz.func56.trans (congrArg some (by kernel_rfl))
  f217 := Tryz.func159.trans (congrArg some (by kernel_rfl))
  f224 := Tryz.func139.trans (congrArg some (by kernel_rfl))
  f225 := Tryz.func140.trans (congrArg some (by kernel_rfl))
  f226 := Tryz.func102.trans (congrArg some (by kernel_rfl))
  f227 := Tryz.func103.trans (congrArg some (by kernel_rfl))
  f228 := Tryz.func104.trans (congrArg some (by kernel_rfl))
  f266 := Tryz.func183.trans (congrArg some (by kernel_rfl))
  t0 := Tryz.underlying0
  a0 := Tryz.isAgg0
  z0 := Tryz.sizeOf0
  v0 := Tryz.zeroValue0
  t3 := Tryz.underlying3
  a3 := Tryz.isAgg3
  z3 := Tryz.sizeOf3
  v3 := Tryz.zeroValue3
  t4 := Tryz.underlying4
  a4 := Tryz.isAgg4
  z4 := Tryz.sizeOf4
  v4 := Tryz.zeroValue4
  t5 := Tryz.underlying5
  a5 := Tryz.isAgg5
  z5 := Tryz.sizeOf5
  v5 := Tryz.zeroValue5
  t9 := Tryz.underlying9
  a9 := Tryz.isAgg9
  z9 := Tryz.sizeOf9
  v9 := Tryz.zeroValue9
  t21 := Tryz.underlying21
  a21 := Tryz.isAgg21
  z21 := Tryz.sizeOf21
  v21 := Tryz.zeroValue21
  t46 := Tryz.underlying109
  a46 := Tryz.isAgg109
  z46 := Tryz.sizeOf109
  v46 := Tryz.zeroValue109
  t116 := Tryz.underlying88
  a116 := Tryz.isAgg88
  z116 := Tryz.sizeOf88
  t117 := Tryz.underlying89
  a117 := Tryz.isAgg89
  z117 := Tryz.sizeOf89
  v117 := Tryz.zeroValue89
  t124 := Tryz.underlying110
  a124 := Tryz.isAgg110
  z124 := Tryz.sizeOf110
  v124 := Tryz.zeroValue110 }
open Go.RowKit Go.Lib in
theorem lib_strings_IndexAny_laid (s chars : ByteArray) (w : World) (hs : s.size < 4294967281) (hcs : chars.size < 4294967281) (has : ∀ (j : Nat) b,s.data.toList[j]? = some b → b.toNat < 128) (hac : ∀ (j : Nat) b,chars.data.toList[j]? = some b → b.toNat < 128) :
    Calls Tryz.prog 56 #[.string s,.string chars] w fun e w' => e = .returned (.int .i64 (Lib.indexAny s.data.toList chars.data.toList)) ∧ RowKit.Below w.heap.size w w' := Any.strings_IndexAny_laid lib_lays153 (by kernel_rfl) s chars w hs hcs has hac
open Go.RowKit Go.Lib in
theorem lib_strings_ContainsAny_laid (s chars : ByteArray) (w : World) (hs : s.size < 4294967281) (hcs : chars.size < 4294967281) (has : ∀ (j : Nat) b,s.data.toList[j]? = some b → b.toNat < 128) (hac : ∀ (j : Nat) b,chars.data.toList[j]? = some b → b.toNat < 128) :
    Calls Tryz.prog 110 #[.string s,.string chars] w fun e w' => e = .returned (.bool (Lib.containsAny s.data.toList chars.data.toList)) ∧ RowKit.Below w.heap.size w w' := Any.strings_ContainsAny_laid lib_lays150 (by kernel_rfl) s chars w hs hcs has hac
theorem lib_laysC172 : Go.Proofs.LaysC.n172 Tryz.prog lib_lays172_ren := { lib_lays172 with
  t80 := Tryz.underlying101
  a80 := Tryz.isAgg101
  z80 := Tryz.sizeOf101
  v80 := Tryz.zeroValue101
  i0 := by kernel_rfl
  i2 := by kernel_rfl
  i3 := by kernel_rfl
  i4 := by kernel_rfl
  i5 := by kernel_rfl
  i9 := by kernel_rfl
  i20 := by kernel_rfl
  i21 := by kernel_rfl
  i37 := by kernel_rfl
  i46 := by kernel_rfl
  i51 := by kernel_rfl
  i53 := by kernel_rfl
  i75 := by kernel_rfl
  i76 := by kernel_rfl
  i80 := by kernel_rfl
  i85 := by kernel_rfl
  i127 := by kernel_rfl
  i143 := by kernel_rfl
  i145 := by kernel_rfl
  i167 := by kernel_rfl
  i168 := by kernel_rfl
  i171 := by kernel_rfl
  i173 := by kernel_rfl
  i175 := by kernel_rfl
  i210 := by kernel_rfl
  i212 := by kernel_rfl
  i232 := by kernel_rfl
  i233 := by kernel_rfl
  m15 := by kernel_rfl
  m16 := by kernel_rfl
  m17 := by kernel_rfl
  m18 := by kernel_rfl
  m19 := by kernel_rfl
  c0 := by kernel_rfl
  c2 := by kernel_rfl
  c3 := by kernel_rfl
  c4 := by kernel_rfl
  c5 := by kernel_rfl
  c9 := by kernel_rfl
  c20 := by kernel_rfl
  c21 := by kernel_rfl
  c37 := by kernel_rfl
  c46 := by kernel_rfl
  c51 := by kernel_rfl
  c53 := by kernel_rfl
  c75 := by kernel_rfl
  c76 := by kernel_rfl
  c80 := by kernel_rfl
  c85 := by kernel_rfl
  c127 := by kernel_rfl
  c143 := by kernel_rfl
  c145 := by kernel_rfl
  c167 := by kernel_rfl
  c168 := by kernel_rfl
  c171 := by kernel_rfl
  c173 := by kernel_rfl
  c175 := by kernel_rfl
  c210 := by kernel_rfl
  c212 := by kernel_rfl
  c213 := by kernel_rfl
  c232 := by kernel_rfl
  c233 := by kernel_rfl }
set_option maxRecDepth 100000
theorem Rel.pushStrs {P : Program} {w0 : World} {L : Nat → Nat → Prop} {E : Env} {a : Act} {w : World} {F : Lf → Nat → Prop} {loc : Nat → Nat × Nat} {M : Nat → Prop} (R : Rel w0 L ⟨P,E,a,w,F,loc,M⟩) {e : TypeId} (he : P.cellsOf e = 1) (zs : List (List UInt8)) (hz : zs.length ≤ 9223372036854775807) (hl : ∀ s,s ∈ zs → s.length ≤ 9223372036854775807) :
    ∃ F',Rel w0 L ⟨P,⟨E.sl ++ [.own e (rowsS zs)],E.ce ++ [none]⟩,{ tmps := a.tmps.push (.slice (some ⟨w.heap.size,0,none⟩) zs.length zs.length),defers := [] },w.alloc (.cells (zs.map fun s => vS s).toArray e),F',loc,M⟩ := by
  have hsz : a.tmps.size = E.sl.length := R.tmps
  have R1 := R.pad 1
  have hdead : ∀ e' xs,(E.pad 1).leaf ⟨false,E.sl.length,0⟩ ≠ .own e' xs := by
    intro e' xs h
    have h : ((E.sl ++ List.replicate 1 D.dead).getD E.sl.length .dead).leafOf 0 = .own e' xs := h
    rw [List.getD_eq_getElem?_getD,List.getElem?_append_right (Nat.le_refl _)] at h
    simp [D.leafOf,D.comps,D.leaves1] at h
  have hx : Ext w (w.alloc (.cells (zs.map fun s => vS s).toArray e)) := ⟨rfl,rfl,rfl,by rw [size_alloc]; omega,fun b hb => heap_alloc_old w _ hb⟩
  have R2 := R1.ext (w' := w.alloc (.cells (zs.map fun s => vS s).toArray e)) hx (fun p b => if p = ⟨false,E.sl.length,0⟩ then b = w.heap.size else F p b) (fun p => p = ⟨false,E.sl.length,0⟩)
    (fun q e' xs h hn => hdead e' xs (hn ▸ h)) (fun p hp => by funext b; simp [hp]) (fun p b hp hb => by
      rw [if_pos hp] at hb
      have h2 := heap_alloc_new w (.cells (zs.map fun s => vS s).toArray e)
      exact ⟨by show w.heap.size ≤ b; omega,by rw [hb]; exact (Array.getElem?_eq_some_iff.1 h2).1⟩) (fun p q b hp hq _ _ => hp.trans hq.symm)
  obtain ⟨F',R3⟩ := R2.put2 (q := ⟨false,E.sl.length,0⟩) (t := E.sl.length) (e := e) (zs := rowsS zs) (v := .slice (some ⟨w.heap.size,0,none⟩) zs.length zs.length) hdead (by
    show ((E.sl ++ List.replicate 1 D.dead).getD E.sl.length .dead).anyOwn = false
    rw [List.getD_eq_getElem?_getD,List.getElem?_append_right (Nat.le_refl _)]
    simp [D.anyOwn,D.comps,D.leaves1,D.isOwn]) (own_of_strs (cs := (zs.map fun s => vS s).toArray) (fr := (0,0)) he (heap_alloc_new w _) (by show (if (⟨false,E.sl.length,0⟩ : Lf) = _ then _ else _); rw [if_pos rfl]) (fun o ho h => by simp at h) (by simp) (Nat.le_refl _) hz hl (fun j s hj => by
      rw [Nat.zero_add,List.getElem?_toArray,List.getElem?_map,hj]; rfl))
  refine ⟨F',?_⟩
  have e1 : (E.sl ++ List.replicate 1 D.dead).set E.sl.length (.own e (rowsS zs)) = E.sl ++ [.own e (rowsS zs)] := by
    rw [List.set_append_right _ _ (Nat.le_refl _)]
    simp
  have e2 : (a.tmps ++ Array.replicate 1 undef).setIfInBounds E.sl.length (.slice (some ⟨w.heap.size,0,none⟩) zs.length zs.length) = a.tmps.push (.slice (some ⟨w.heap.size,0,none⟩) zs.length zs.length) := by
    rw [← hsz]
    exact set_push a.tmps _
  have R4 : Rel w0 L { P := P,E := ⟨(E.sl ++ List.replicate 1 D.dead).set E.sl.length (.own e (rowsS zs)),E.ce ++ List.replicate 1 none⟩,a := { tmps := (a.tmps ++ Array.replicate 1 undef).setIfInBounds E.sl.length (.slice (some ⟨w.heap.size,0,none⟩) zs.length zs.length),defers := [] },w := w.alloc (.cells (zs.map fun s => vS s).toArray e),F := F',loc := loc,M := M } := R3
  rw [e1,e2] at R4
  exact R4
theorem sem_callsT {P : Program} {f : FuncId} {Ein : Env} {r : Value} {d : D} (hent : ∀ args w,(callFunc f args).run P w = .ok (.enter f args) w) (hd : ∀ C t,SRel C t d r)
    (h : ∀ (w : World) (a : Act) (F : Lf → Nat → Prop) (loc : Nat → Nat × Nat) (M : Nat → Prop),Rel w (lentOf Ein F loc) ⟨P,Ein,a,w,F,loc,M⟩ → Calls P f a.tmps w fun e w' => e = .returned r ∧ RowKit.Below w.heap.size w w') :
    Sem P f Ein ⟨Ein.sl ++ [d],Ein.ce ++ [none]⟩ := by
  intro w a F loc M R
  refine .inl ⟨hent _ _,(h w a F loc M R).mono ?_⟩
  rintro e w' ⟨rfl,hb⟩
  refine ⟨r,rfl,F,loc,fun _ _ => rfl,?_⟩
  have hl : a.tmps.size = Ein.sl.length := R.tmps
  have R0 := R.drew (w' := w') ⟨hb.os,hb.tape,hb.output,hb.size,hb.block⟩
  have R1 := R0.pad 1
  have R2 := R1.put1 Ein.sl.length d r (by
    show ((Ein.sl ++ List.replicate 1 D.dead).getD Ein.sl.length .dead).anyOwn = false
    rw [List.getD_eq_getElem?_getD,List.getElem?_append_right (Nat.le_refl _)]
    simp [D.anyOwn,D.comps,D.leaves1,D.isOwn]) (hd _ _)
  have e1 : (Ein.sl ++ List.replicate 1 D.dead).set Ein.sl.length d = Ein.sl ++ [d] := by
    rw [List.set_append_right _ _ (Nat.le_refl _)]
    simp
  have e2 : (a.tmps ++ Array.replicate 1 undef).setIfInBounds Ein.sl.length r = a.tmps.push r := by
    rw [← hl]
    exact set_push a.tmps r
  have R3 : Rel w (lentOf Ein F loc) { P := P,E := ⟨(Ein.sl ++ List.replicate 1 D.dead).set Ein.sl.length d,Ein.ce ++ List.replicate 1 none⟩,a := { tmps := (a.tmps ++ Array.replicate 1 undef).setIfInBounds Ein.sl.length r,defers := [] },w := w',F := F,loc := loc,M := M } := R2
  rw [e1,e2] at R3
  exact R3
theorem srel_tup {vs : List Value} (h : ∀ v,v ∈ vs → scal v = true) (C : Ctx) (t : Nat) : SRel C t (.tup (vs.map .v)) (.tuple vs.toArray) := by
  refine .tup _ _ (by simp) fun i d hd => ?_
  rw [List.getElem?_map] at hd
  cases hv : vs[i]? with
  | none => rw [hv] at hd; cases hd
  | some v =>
    rw [hv] at hd
    simp only [Option.map_some,Option.some.injEq] at hd
    subst hd
    have hs := h v (List.mem_of_getElem? hv)
    have e : vs.toArray.getD i undef = v := by
      have hi := (List.getElem?_eq_some_iff.1 hv)
      obtain ⟨hi,hx⟩ := hi
      simp [Array.getD,hi,hx]
    rw [e]
    exact ⟨rfl,.leaf _ _ _ rfl (by cases v <;> first | rfl | simp [scal] at hs) (.v _ _ hs)⟩
theorem has_index (c : UInt8) (s : List UInt8) : decide (0 ≤ Lib.indexByte s c) = s.contains c := (Lib.contains_iff_indexByte s c).symm
theorem c54 (s : List UInt8) (c : UInt8) : Sem Tryz.prog 54 ⟨[.v (vS s),.v (vS [c])],[none,none]⟩ ⟨[.v (vS s),.v (vS [c]),.v (vB (s.contains c))],[none,none,none]⟩ := by
  refine sem_calls (Ein := ⟨[.v (vS s),.v (vS [c])],[none,none]⟩) (r := vB (s.contains c)) (enter_of Tryz.func54 rfl rfl) rfl rfl rfl ?_
  intro w a F loc M R
  have h0 := slot_of R (i := 0) (d := .v (vS s)) rfl rfl (by simp)
  have h1 := slot_of R (i := 1) (d := .v (vS [c])) rfl rfl (by simp)
  rw [args2 R.tmps]
  generalize a.tmps.getD 0 undef = v0 at h0
  generalize a.tmps.getD 1 undef = v1 at h1
  cases h1
  cases h0
  have h := lib_strings_Contains_one (ofL s) c w
  rw [show (ofL s).data.toList = s from rfl,has_index] at h
  exact h.mono fun e w' ⟨he,hw⟩ => ⟨he,hw ▸ RowKit.Below.refl _ _⟩
theorem below_drew (w : World) (n : Nat) : RowKit.Below w.heap.size w (w.drewN n) := by
  have x := ext_drewN w n
  exact ⟨x.os,x.tape,x.output,x.size,x.kept⟩
theorem maxLen {w0 : World} {L : Nat → Nat → Prop} {E : Env} {a : Act} {F : Lf → Nat → Prop} {loc : Nat → Nat × Nat} {M : Nat → Prop} (R : Rel w0 L ⟨Tryz.prog,E,a,w0,F,loc,M⟩) : ∃ m,w0.cell? ⟨0,0,none⟩ = some (.int .i64 m) := by
  obtain ⟨B,hB,hL,hg⟩ := R.glob
  obtain ⟨v,hv,m,rfl⟩ := (hg w0 (fun _ _ => rfl)).2 _ List.mem_cons_self 0 (by kernel_rfl)
  exact ⟨m,hv⟩
theorem upto_all {c : UInt8} {s : List UInt8} (h : s.contains c = false) : upto c s = s ∧ behind c s = [] := by
  have hn : ∀ b,b ∈ s → b ≠ c := by
    intro b hb e
    subst e
    have := List.contains_iff_mem.2 hb
    rw [h] at this; cases this
  refine ⟨upto_none c s hn,?_⟩
  unfold behind
  have : s.dropWhile (fun b => b != c) = [] := by
    clear h
    induction s with
    | nil => rfl
    | cons b l ih =>
      have hb := hn b List.mem_cons_self
      rw [List.dropWhile_cons,if_pos (by simpa using hb)]
      exact ih fun x hx => hn x (List.mem_cons_of_mem _ hx)
  rw [this]; rfl
theorem c57 (s : List UInt8) (c : UInt8) (hs : s.length < 4294967281) : Sem Tryz.prog 57 ⟨[.v (vS s),.v (vS [c])],[none,none]⟩ ⟨[.v (vS s),.v (vS [c]),.tup [.v (vS (upto c s)),.v (vS (behind c s)),.v (vB (s.contains c))]],[none,none,none]⟩ := by
  have hu : (upto c s).length ≤ s.length := by unfold upto; exact (List.takeWhile_sublist _).length_le
  have hb : (behind c s).length ≤ s.length := by
    unfold behind
    have := (List.dropWhile_sublist (l := s) fun b => b != c).length_le
    rw [List.length_drop]; omega
  refine sem_callsT (Ein := ⟨[.v (vS s),.v (vS [c])],[none,none]⟩) (r := .tuple [vS (upto c s),vS (behind c s),vB (s.contains c)].toArray) (enter_of Tryz.func57 rfl rfl) (srel_tup (vs := [vS (upto c s),vS (behind c s),vB (s.contains c)]) (by
    intro v hv
    simp only [List.mem_cons,List.not_mem_nil,or_false] at hv
    rcases hv with rfl | rfl | rfl
    · simp only [scal,decide_eq_true_eq]; show (upto c s).length ≤ _; omega
    · simp only [scal,decide_eq_true_eq]; show (behind c s).length ≤ _; omega
    · rfl)) ?_
  intro w a F loc M R
  have h0 := slot_of R (i := 0) (d := .v (vS s)) rfl rfl (by simp)
  have h1 := slot_of R (i := 1) (d := .v (vS [c])) rfl rfl (by simp)
  obtain ⟨m,hm⟩ := maxLen R
  rw [args2 R.tmps]
  generalize a.tmps.getD 0 undef = v0 at h0
  generalize a.tmps.getD 1 undef = v1 at h1
  cases h1
  cases h0
  have h := lib_strings_Cut (ofL s) (ofL [c]) m w hs hm
  rw [show (ofL s).data.toList = s from rfl,show (ofL [c]).data.toList = [c] from rfl,cut_one] at h
  refine h.mono ?_
  rintro e w' ⟨rfl,n,rfl⟩
  refine ⟨?_,below_drew w n⟩
  cases hc : s.contains c
  · obtain ⟨e1,e2⟩ := upto_all hc
    rw [e1,e2]; rfl
  · rfl
theorem c109 (s p : List UInt8) : Sem Tryz.prog 109 ⟨[.v (vS s),.v (vS p)],[none,none]⟩ ⟨[.v (vS s),.v (vS p),.v (vB (p.isPrefixOf s))],[none,none,none]⟩ := by
  refine sem_calls (Ein := ⟨[.v (vS s),.v (vS p)],[none,none]⟩) (r := vB (p.isPrefixOf s)) (enter_of Tryz.func109 rfl rfl) rfl rfl rfl ?_
  intro w a F loc M R
  have h0 := slot_of R (i := 0) (d := .v (vS s)) rfl rfl (by simp)
  have h1 := slot_of R (i := 1) (d := .v (vS p)) rfl rfl (by simp)
  rw [args2 R.tmps]
  generalize a.tmps.getD 0 undef = v0 at h0
  generalize a.tmps.getD 1 undef = v1 at h1
  cases h1
  cases h0
  exact (lib_strings_HasPrefix (ofL s) (ofL p) w).mono fun e w' ⟨he,hw⟩ => ⟨he,hw ▸ RowKit.Below.refl _ _⟩
def ascii (s : List UInt8) : Prop := ∀ (j : Nat) b,s[j]? = some b → b.toNat < 128
theorem c56 (s p : List UInt8) (hs : s.length < 4294967281) (hp : p.length < 4294967281) (hsa : ascii s) (ap : ascii p) : Sem Tryz.prog 56 ⟨[.v (vS s),.v (vS p)],[none,none]⟩ ⟨[.v (vS s),.v (vS p),.v (vI (Lib.indexAny s p))],[none,none,none]⟩ := by
  refine sem_calls (Ein := ⟨[.v (vS s),.v (vS p)],[none,none]⟩) (r := vI (Lib.indexAny s p)) (enter_of Tryz.func56 rfl rfl) rfl rfl rfl ?_
  intro w a F loc M R
  have h0 := slot_of R (i := 0) (d := .v (vS s)) rfl rfl (by simp)
  have h1 := slot_of R (i := 1) (d := .v (vS p)) rfl rfl (by simp)
  rw [args2 R.tmps]
  generalize a.tmps.getD 0 undef = v0 at h0
  generalize a.tmps.getD 1 undef = v1 at h1
  cases h1
  cases h0
  exact lib_strings_IndexAny_laid (ofL s) (ofL p) w hs hp hsa ap
theorem any_index (p : List UInt8) : ∀ s : List UInt8,Lib.containsAny s p = s.any fun b => p.contains b
  | [] => by simp [Lib.containsAny,Lib.indexAny]
  | b :: l => by
    have ih := any_index p l
    unfold Lib.containsAny at ih ⊢
    rw [Lib.indexAny,List.any_cons]
    have hge := Lib.indexAny_ge p l
    cases hb : p.contains b
    · rw [if_neg (by simp),Bool.false_or,← ih]
      by_cases h : Lib.indexAny l p = -1
      · rw [h]; simp
      · rw [if_neg (fun e => h (beq_iff_eq.1 e))]
        rw [decide_eq_decide]; omega
    · rw [if_pos rfl]; simp
theorem c110 (s p : List UInt8) (hs : s.length < 4294967281) (hp : p.length < 4294967281) (hsa : ascii s) (ap : ascii p) : Sem Tryz.prog 110 ⟨[.v (vS s),.v (vS p)],[none,none]⟩ ⟨[.v (vS s),.v (vS p),.v (vB (s.any fun b => p.contains b))],[none,none,none]⟩ := by
  refine sem_calls (Ein := ⟨[.v (vS s),.v (vS p)],[none,none]⟩) (r := vB (s.any fun b => p.contains b)) (enter_of Tryz.func110 rfl rfl) rfl rfl rfl ?_
  intro w a F loc M R
  have h0 := slot_of R (i := 0) (d := .v (vS s)) rfl rfl (by simp)
  have h1 := slot_of R (i := 1) (d := .v (vS p)) rfl rfl (by simp)
  rw [args2 R.tmps]
  generalize a.tmps.getD 0 undef = v0 at h0
  generalize a.tmps.getD 1 undef = v1 at h1
  cases h1
  cases h0
  have h := lib_strings_ContainsAny_laid (ofL s) (ofL p) w hs hp hsa ap
  rw [show (ofL s).data.toList = s from rfl,show (ofL p).data.toList = p from rfl,any_index] at h
  exact h
theorem split_rows (s : List UInt8) (c : UInt8) : ((Lib.splitB (ofL [c]) 0 (Lib.countB (ofL s) (ofL [c])) (ofL s)).map Value.string).toArray = ((spl c s).map fun x => vS x).toArray := by
  have h1 : (Lib.splitB (ofL [c]) 0 (Lib.countB (ofL s) (ofL [c])) (ofL s)).map (·.data.toList) = spl c s := by
    rw [Lib.splitB_data,show Lib.countB (ofL s) (ofL [c]) = s.count c from Lib.count_one c s]
    exact spl_split c s
  rw [← h1,List.map_map]
  rfl
theorem c111 (s : List UInt8) (c : UInt8) (hs : s.length < 4294967281) : Sem Tryz.prog 111 ⟨[.v (vS s),.v (vS [c])],[none,none]⟩ ⟨[.v (vS s),.v (vS [c]),.own 9 (rowsS (spl c s))],[none,none,none]⟩ := by
  intro w a F loc M R
  refine .inl ⟨enter_of Tryz.func111 rfl rfl _ _,?_⟩
  have h0 := slot_of R (i := 0) (d := .v (vS s)) rfl rfl (by simp)
  have h1 := slot_of R (i := 1) (d := .v (vS [c])) rfl rfl (by simp)
  obtain ⟨m,hm⟩ := maxLen R
  have ha := args2 R.tmps
  have hlen := spl_len c s
  have hcn := List.count_le_length (a := c) (l := s)
  obtain ⟨F',R'⟩ := R.pushStrs (e := 9) (by kernel_rfl) (spl c s) (by omega) (fun x hx => by have := spl_mem c s x hx; omega)
  have h := lib_strings_Split (ofL s) (ofL [c]) m w hs hm (Nat.le_refl 1)
  rw [split_rows,show Lib.countB (ofL s) (ofL [c]) = s.count c from Lib.count_one c s,← hlen] at h
  have ht : a.tmps = #[vS s,vS [c]] := by
    rw [ha]
    generalize a.tmps.getD 0 undef = v0 at h0
    generalize a.tmps.getD 1 undef = v1 at h1
    cases h1
    cases h0
    rfl
  rw [ht]
  refine h.mono ?_
  rintro e w' ⟨rfl,rfl⟩
  refine ⟨_,rfl,F',loc,fun _ _ => rfl,?_⟩
  rw [← ht]
  exact R'
end Go.Proofs.YtplagdnnnkdlnaaGreatDoor.Fw
/- Contracts: a path in its one form, the program's. -/
namespace Go.Proofs.YtplagdnnnkdlnaaGreatDoor.Fw
open Go
open Go.Proofs.Tryz
set_option maxRecDepth 100000
set_option maxHeartbeats 600000
set_option linter.unusedSimpArgs false
set_option linter.unusedVariables false
attribute [local congr] c_bnd c_slot c_cell c_all c_len c_chk c_asm c_opdR c_wp c_pwp c_pOps c_Done c_nx c_blk c_fin c_rowsR c_leafR c_opdsR c_coeLeaf c_coeLeaves c_lendLeaf c_lendLeaves c_coeCapt c_argR c_argsR c_boundR c_partsR c_srcR c_mfgo c_ite c_wpF c_OutF c_pHead c_pDraw
theorem vis_ascii {l : List UInt8} (h : (l.all fun b => visB b.toNat) = true) : ascii l := by
  intro j b hb
  have := List.all_eq_true.1 h b (List.mem_of_getElem? hb)
  unfold visB at this
  simp at this
  omega
def oD (e : TypeId) (b : Bool) (xs : List (List T)) : D := if b then .nil else .own e xs
theorem rowsS_snoc' {o : List (List UInt8)} {s : List UInt8} : rowsS o ++ [[T.v (vS s)]] = rowsS (o ++ [s]) := by simp [rowsS]
theorem rowsS_take {o : List (List UInt8)} {n : Nat} : (rowsS o).take n = rowsS (o.take n) := by simp [rowsS,List.map_take]
theorem oD_t {e : TypeId} {xs : List (List T)} : oD e true xs = .nil := id rfl
theorem oD_f {e : TypeId} {xs : List (List T)} : oD e false xs = .own e xs := id rfl
attribute [local go_sem] oD_t oD_f rowsS_length
theorem pct_pos {l : List UInt8} (h : [47].isPrefixOf l = true) : 1 ≤ (pct l).length := by
  cases l with
  | nil => cases h
  | cons a l =>
    rw [show a = 47 from (by simpa using h : 47 = a).symm]
    match l with
    | [] => decide
    | [b] => simp [pct]
    | b :: c :: l => rw [pct,if_neg (by simp)]; simp
section
variable (l : List UInt8)
theorem c60a (h1 : [47].isPrefixOf l = false) : Sem prog 60 ⟨[.v (vS l)],[none]⟩ ⟨[.dead,.v (vS [])],[none]⟩ := by
  refine sb 1 [.tm 2] func60 ?_
  refine call0 (c109 l [47]) ?_
  exact fz
theorem c60b (hl : l.length ≤ 9223372036854775807) (h1 : [47].isPrefixOf l = true) (h2 : (200 : Int) < (l.length : Int)) : Sem prog 60 ⟨[.v (vS l)],[none]⟩ ⟨[.dead,.v (vS [])],[none]⟩ := by
  refine sb 1 [.tm 2] func60 ?_
  refine call0 (c109 l [47]) ?_
  exact fz
theorem c60c (hl : l.length ≤ 9223372036854775807) (h1 : [47].isPrefixOf l = true) (h2 : ¬ (200 : Int) < (l.length : Int)) (h3 : (l.all fun b => visB b.toNat) = false) : Sem prog 60 ⟨[.v (vS l)],[none]⟩ ⟨[.dead,.v (vS [])],[none]⟩ := by
  refine sb 1 [.tm 2] func60 ?_
  refine call0 (c109 l [47]) ?_
  refine call0 (c52 l 53 visB rfl rfl c53 hl) ?_
  exact fz
theorem c60d (hl : l.length ≤ 9223372036854775807) (h1 : [47].isPrefixOf l = true) (h2 : ¬ (200 : Int) < (l.length : Int)) (h3 : (l.all fun b => visB b.toNat) = true) (h4 : (l.any fun b => [35,63].contains b) = true) : Sem prog 60 ⟨[.v (vS l)],[none]⟩ ⟨[.dead,.v (vS [])],[none]⟩ := by
  refine sb 1 [.tm 2] func60 ?_
  refine call0 (c109 l [47]) ?_
  refine call0 (c52 l 53 visB rfl rfl c53 hl) ?_
  have h5 := c110 l [35,63] (by omega) (by decide) (vis_ascii h3) (fun j b h => by match j,h with | 0,h => (injection h with h; subst h; decide) | 1,h => (injection h with h; subst h; decide) | n + 2,h => cases h)
  rw [h4] at h5
  refine call0 h5 ?_
  exact fz
theorem c60e (hl : l.length ≤ 9223372036854775807) (h1 : [47].isPrefixOf l = true) (h2 : ¬ (200 : Int) < (l.length : Int)) (h3 : (l.all fun b => visB b.toNat) = true) (h4 : (l.any fun b => [35,63].contains b) = false) : Sem prog 60 ⟨[.v (vS l)],[none]⟩ ⟨[.dead,.v (vS (47 :: Lib.join (normC (spl 47 ((pct l).drop 1))) [47]))],[none]⟩ := by
  refine sb 1 [.tm 2] func60 ?_
  refine call0 (c109 l [47]) ?_
  refine call0 (c52 l 53 visB rfl rfl c53 hl) ?_
  have h5 := c110 l [35,63] (by omega) (by decide) (vis_ascii h3) (fun j b h => by match j,h with | 0,h => (injection h with h; subst h; decide) | 1,h => (injection h with h; subst h; decide) | n + 2,h => cases h)
  rw [h4] at h5
  refine call0 h5 ?_
  refine call0 (c112 l (by omega)) ?_
  have hp : 1 ≤ (pct l).length := pct_pos h1
  refine And.intro hp ?_
  obtain ⟨h6,h7,h8,h9⟩ := cat_le (l := l) (by omega)
  have h10 := join_le (l := l) (by omega)
  have h11 := c111 ((pct l).drop 1) 47 (by have := pct_len l; rw [List.length_drop]; omega)
  have h12 := spl_ne 47 ((pct l).drop 1)
  refine call0 h11 ?_
  clear h11 hp h5
  generalize spl 47 ((pct l).drop 1) = g at h6 h7 h8 h9 h10 h12 ⊢
  with_reducible intro hg
  refine loop_on (fun s : Nat × Bool => pE 69 ([.dead,.dead,.dead,oD 9 s.2 (rowsS ((g.take s.1).foldl stepC [])),.own 9 (rowsS g)] ++ List.replicate 24 .dead ++ [.ali ⟨false,4,0⟩,.v (vI g.length),.v (vI s.1)])) [3,4,29,30,31] (fun s => s.1 ≤ g.length ∧ (s.2 = true → (g.take s.1).foldl stepC [] = [])) (fun s => g.length - s.1) (0,true) rfl ⟨by simp,fun _ => rfl⟩ ?_
  rintro ⟨i,b⟩ ⟨hi,hb⟩
  simp only at hi hb
  have hlo := foldC_len (g.take i) []
  rw [List.length_take,List.length_nil] at hlo
  by_cases hc : i < g.length
  · have hw := wrapN hc hg
    have h13 := rowsS_getD hc
    have hst := step_snoc hc
    generalize (g.take i).foldl stepC [] = o at hb hst hlo ⊢
    generalize g.getD i [] = s at hst h13
    cases e1 : s == [46]
    · cases e2 : s == [46,46]
      · have hs : stepC o s = o ++ [s] := by unfold stepC; rw [e1,e2]; rfl
        rw [hs] at hst
        clear hs
        cases b
        · refine Z ?_
          refine And.intro (by omega) ⟨(i + 1,false),?_,⟨hc,fun h => by cases h⟩,by simp only; omega⟩
          dsimp only
          rw [hst,oD_f,← rowsS_snoc']; rfl
        · rw [hb rfl] at hst ⊢
          refine Z ?_
          refine ⟨(i + 1,false),?_,⟨hc,fun h => by cases h⟩,by simp only; omega⟩
          dsimp only
          rw [hst]; rfl
      · have hs : stepC o s = o.take (o.length - 1) := by unfold stepC; rw [e1,e2]; rfl
        rw [hs] at hst
        clear hs
        cases b
        · have hm : (if (0 : Int) < IntKind.i64.wrap ((o.length : Int) - 1) then IntKind.i64.wrap ((o.length : Int) - 1) else 0) = ((o.length - 1 : Nat) : Int) := by
            rw [wrapI (by omega)]; split <;> omega
          have hol : o.length ≤ 9223372036854775807 := by omega
          refine Z ?_
          refine And.intro (by omega) ⟨(i + 1,false),?_,⟨hc,fun h => by cases h⟩,by simp only; omega⟩
          dsimp only
          rw [hst,oD_f,← rowsS_take]; rfl
        · have hm1 : IntKind.i64.wrap (-1) = -1 := by decide
          rw [hb rfl] at hst ⊢
          refine Z ?_
          refine ⟨(i + 1,true),?_,⟨hc,fun h => by rw [hst]; rfl⟩,by simp only; omega⟩
          rfl
    · have hs : stepC o s = o := by unfold stepC; rw [e1]; rfl
      rw [hs] at hst
      clear hs
      cases b
      · refine Z ?_
        refine ⟨(i + 1,false),?_,⟨hc,fun h => by cases h⟩,by simp only; omega⟩
        dsimp only
        rw [hst]; rfl
      · refine Z ?_
        refine ⟨(i + 1,true),?_,⟨hc,fun h => by rw [hst]; exact hb rfl⟩,by simp only; omega⟩
        rfl
  · have hi' : i = g.length := by omega
    rw [hi',List.take_length] at hb hlo
    rw [hi',List.take_length]
    have hw : IntKind.i64.wrap ((g.length : Int) - 1) = ((g.length - 1 : Nat) : Int) := by
      have : g.length ≠ 0 := fun h => h12 (List.length_eq_zero_iff.1 h)
      rw [wrapI (by omega)]; omega
    have hlt : g.length - 1 < g.length := by
      have : g.length ≠ 0 := fun h => h12 (List.length_eq_zero_iff.1 h)
      omega
    have h13 := rowsS_getD hlt
    unfold normC at h6 h7 h10 ⊢
    generalize g.foldl stepC [] = o at hb hlo h6 h7 h10 ⊢
    generalize g.getD (g.length - 1) [] = s at h6 h7 h10 h13 ⊢
    cases e1 : s == [46]
    · cases e2 : s == [46,46]
      · rw [dotsB,e1,e2,if_neg (by simp)] at h10 h7 ⊢
        have h14 := c113 o [47] (by omega) (by omega)
        cases b
        · refine Z ?_
          refine call0 h14 ?_
          exact ⟨by omega,fz⟩
        · rw [hb rfl] at h14 h10 ⊢
          refine Z ?_
          refine call0 h14 ?_
          exact ⟨by omega,fz⟩
      · rw [dotsB,e1,e2,if_pos (by simp)] at h10 h7 ⊢
        have h14 := c113 (o ++ [[]]) [47] (by omega) (by omega)
        rw [← rowsS_snoc'] at h14
        cases b
        · refine Z ?_
          refine And.intro (by omega) ?_
          refine call0 h14 ?_
          exact ⟨by omega,fz⟩
        · rw [hb rfl] at h14 h10 ⊢
          refine Z ?_
          refine call0 h14 ?_
          exact ⟨by have h : (Lib.join [[]] [47]).length ≤ 100000 := h10; omega,fz⟩
    · rw [dotsB,e1,if_pos (by simp)] at h10 h7 ⊢
      have h14 := c113 (o ++ [[]]) [47] (by omega) (by omega)
      rw [← rowsS_snoc'] at h14
      cases b
      · refine Z ?_
        refine And.intro (by omega) ?_
        refine call0 h14 ?_
        exact ⟨by omega,fz⟩
      · rw [hb rfl] at h14 h10 ⊢
        refine Z ?_
        refine call0 h14 ?_
        exact ⟨by have h : (Lib.join [[]] [47]).length ≤ 100000 := h10; omega,fz⟩
theorem c60 (hl : l.length ≤ 9223372036854775807) : Sem prog 60 ⟨[.v (vS l)],[none]⟩ ⟨[.dead,.v (vS (cleanB l))],[none]⟩ := by
  cases h1 : [47].isPrefixOf l
  · rw [cleanB,clean0,h1]; exact c60a l h1
  by_cases h2 : (200 : Int) < l.length
  · rw [cleanB,clean0,h1,decide_eq_false (by omega)]; exact c60b l hl h1 h2
  have h2' : decide (l.length ≤ 200) = true := decide_eq_true (by omega)
  cases h3 : l.all fun b => visB b.toNat
  · rw [cleanB,clean0,h1,h2',h3]; exact c60c l hl h1 h2 h3
  cases h4 : l.any fun b => [35,63].contains b
  · rw [cleanB,clean0,h1,h2',h3,h4]; exact c60e l hl h1 h2 h3 h4
  · rw [cleanB,clean0,h1,h2',h3,h4]; exact c60d l hl h1 h2 h3 h4
end
set_option maxRecDepth 100000
set_option maxHeartbeats 600000
theorem c129p (x y : UInt8) (hx : 0 ≤ hexI x.toNat) (hy : 0 ≤ hexI y.toNat) : Sem prog 129 ⟨[.v (vS [x,y])],[none]⟩ ⟨[.dead,.tup [.v (vI (hv x y)),.v (vB true)]],[none]⟩ := by
  have h := c129 [x,y] (by simp)
  have ha : ([x,y].all fun b => decide (0 ≤ hexI b.toNat)) = true := by simp [hx,hy]
  rw [ha,if_pos rfl] at h
  have e : valH [x,y] 0 = hv x y := by unfold hv; simp only [valH]; omega
  rw [e] at h
  exact h
theorem c129n (x y : UInt8) (hn : ¬ (0 ≤ hexI x.toNat ∧ 0 ≤ hexI y.toNat)) : Sem prog 129 ⟨[.v (vS [x,y])],[none]⟩ ⟨[.dead,.tup [.v (vI 0),.v (vB false)]],[none]⟩ := by
  have h := c129 [x,y] (by simp)
  have ha : ([x,y].all fun b => decide (0 ≤ hexI b.toNat)) = false := by
    cases e : ([x,y].all fun b => decide (0 ≤ hexI b.toNat))
    · rfl
    · simp at e; exact absurd e hn
  rw [ha,if_neg (show ¬ (false = true) from Bool.false_ne_true)] at h
  exact h
theorem two_at {l : List UInt8} {i : Nat} (h : i + 2 < l.length) : (l.drop (i + 1)).take (i + 3 - (i + 1)) = [l.getD (i + 1) 0,l.getD (i + 2) 0] := by
  rw [show i + 3 - (i + 1) = 2 from by omega,dropAt (i := i + 1) (by omega),dropAt (i := i + 1 + 1) (by omega)]
  rfl
theorem c87 (l : List UInt8) (hl : l.length ≤ 1048576) : Sem prog 87 ⟨[.v (vS l)],[none]⟩ ⟨[.dead,.v (vS (pct l))],[none]⟩ := by
  refine sem_fin (cfg := cfg 1) (ts := [.tm 2]) tbOk func87 rfl rfl rfl rfl (fun t h => by cases h) ?_
  have hL : l.length ≤ 9223372036854775807 := by omega
  have hpl := pct_len l
  simp only [go_sem,Nat.reduceSub,f87,cfg]
  refine loop_on (fun s : Nat × List UInt8 => ⟨[.v (vS l),.dead,.v (vS []),sd 5 (bytesRows s.2),.v (vI s.1),.dead,.dead,.dead,.dead,.dead,.dead,.dead,.dead,.dead,.dead,.dead,.dead,.dead,.dead,.dead,.dead,.dead,.dead,.dead,.dead,.dead,.dead,.dead,.dead,.dead,.dead,.dead,.dead,.dead,.dead,.dead,.dead,.dead,.dead,.dead,.dead,.dead,.dead,.dead,.dead,.dead,.dead,.dead,.dead,.dead,.dead,.dead,.dead,.dead,.dead,.dead,.dead,.dead,.dead,.dead,.dead,.dead,.dead,.dead,.dead,.dead,.dead,.dead,.dead,.dead,.dead,.dead,.dead,.dead,.dead],List.replicate 75 none⟩) [0,2,3,4] (fun s => s.1 ≤ l.length ∧ s.2 ++ pct (l.drop s.1) = pct l) (fun s => l.length - s.1) (0,[]) rfl ⟨by simp,by simp⟩ ?_
  rintro ⟨i,out⟩ ⟨hi,hsp⟩
  simp only at hi hsp
  have hol : out.length ≤ l.length := by
    have := congrArg List.length hsp
    rw [List.length_append] at this
    omega
  simp only
  generalize hacc : bytesRows out = acc
  cases acc with
  | nil =>
    have hlo : (1 : Nat) * 1 ≤ 140737488355328 := by omega
    have hlo3 : (3 : Nat) * 1 ≤ 140737488355328 := by omega
    have hla : (1 : Nat) ≤ 140737488355328 := by omega
    have hla3 : (3 : Nat) ≤ 140737488355328 := by omega
    simp only [go_sem,sd_nil]
    try (with_reducible intro hlen)
    by_cases hc : i < l.length
    · have hw := wrapN hc hL
      have w2 : IntKind.i64.wrap ((i : Int) + 2) = ((i + 2 : Nat) : Int) := by rw [wrapI (by omega)]; omega
      by_cases h37 : l.getD i 0 = 37
      · have e37 : (((l.getD i 0).toNat : Int) != 37) = false := by rw [h37]; decide
        by_cases hg : i + 2 < l.length
        · have hg1 : i + 1 < l.length := by omega
          have hg2 : ¬ (l.length ≤ i + 2) := by omega
          have hg3 : i + 3 ≤ l.length := by omega
          have hg4 : i + 1 ≤ i + 3 := by omega
          have w4 : IntKind.i64.wrap ((i : Int) + 3) = ((i + 3 : Nat) : Int) := by rw [wrapI (by omega)]; omega
          have w3 : IntKind.i64.wrap (((i + 2 : Nat) : Int) + 1) = ((i + 3 : Nat) : Int) := by rw [wrapI (by omega)]; omega
          have hsl := two_at hg
          by_cases hx : 0 ≤ hexI (l.getD (i + 1) 0).toNat ∧ 0 ≤ hexI (l.getD (i + 2) 0).toNat
          · have hle := hv_le _ _ hx.1 hx.2
            have m3 : IntKind.u8.wrap (hv (l.getD (i + 1) 0) (l.getD (i + 2) 0)) = hv (l.getD (i + 1) 0) (l.getD (i + 2) 0) := w8 hle
            cases hf : freeI (hv (l.getD (i + 1) 0) (l.getD (i + 2) 0))
            · have s1 := (upU_nat (l.getD (i + 1) 0)).symm
              have s2 := (upU_nat (l.getD (i + 2) 0)).symm
              simp only [go_sem,hc,hL,hw,w2,w4,e37,hg2,hg3,hg4,hsl]
              refine ev_call (c129p _ _ hx.1 hx.2) (retW0 rfl rfl rfl rfl) ?_
              simp only [go_sem,Nat.reduceAdd,Nat.reduceBNe,m3]
              refine ev_call (c130 _ hle.1 hle.2) (retW0 rfl rfl rfl rfl) ?_
              simp only [go_sem,Nat.reduceAdd,Nat.reduceBNe,hf]
              refine draw_intro 12 [[41,42,43,44,45,46,47,48,49,50,51],[40,42,43,44,45,46,47,48,49,50,51],[40,41,43,44,45,46,47,48,49,50,51],[40,41,44,45,46,47,48,49,50,51],[40,42,45,46,47,48,49,50,51],[40,41,42,43,46,47,48,49,50,51],[40,41,42,43,44,45,47,48,49,50,51],[40,41,42,43,44,45,46,48,49,50,51],[40,41,42,43,44,45,46,49,50,51],[40,41,42,43,44,45,47,50,51],[40,41,42,43,44,46,47,48,51],[40,41,42,43,44,46,47,48,49]] mixedOk rfl ?_
              simp only [go_sem,Nat.reduceLeDiff,Nat.reduceLT,Nat.reduceAdd,Nat.reduceMul,Nat.reduceBEq,hw,hg1]
              refine of_call (c131 _ (u0 _) (u255 _)) (retW0 rfl rfl rfl rfl) rfl rfl rfl ?_
              simp only [go_sem,Nat.reduceBEq,w2,hg]
              refine of_call (c131 _ (u0 _) (u255 _)) (retW0 rfl rfl rfl rfl) rfl rfl rfl ?_
              simp only [go_sem,Nat.reduceLT,Nat.reduceAdd,Nat.reduceMul,Nat.reduceBEq,Nat.reduceBNe,Nat.reduceEqDiff,reduceCtorEq,Nat.reduceDiv,Nat.reduceMod,s1,s2,hlo3,w2,w3]
              first
                | (refine ⟨(i + 3,out ++ pctP (l.getD (i + 1) 0) (l.getD (i + 2) 0)),?_,⟨by simp only; omega,?_⟩,by simp only; omega⟩
                   · rw [pctP_own3 _ _ hacc hf]; rfl
                   · rw [← hsp,pct_step3 hg h37 hx.1 hx.2]; simp)
                | trace_state
            · simp only [go_sem,hc,hL,hw,w2,w4,e37,hg2,hg3,hg4,hsl]
              refine ev_call (c129p _ _ hx.1 hx.2) (retW0 rfl rfl rfl rfl) ?_
              simp only [go_sem,Nat.reduceAdd,Nat.reduceBNe,m3]
              refine ev_call (c130 _ hle.1 hle.2) (retW0 rfl rfl rfl rfl) ?_
              simp only [go_sem,Nat.reduceLeDiff,Nat.reduceLT,Nat.reduceAdd,Nat.reduceMul,Nat.reduceBNe,Nat.reduceEqDiff,reduceCtorEq,Nat.reduceDiv,Nat.reduceMod,hf,m3,hlo,w2,w3]
              first
                | (refine ⟨(i + 3,out ++ pctP (l.getD (i + 1) 0) (l.getD (i + 2) 0)),?_,⟨by simp only; omega,?_⟩,by simp only; omega⟩
                   · rw [pctP_own1 _ _ hacc hx.1 hx.2 hf]; rfl
                   · rw [← hsp,pct_step3 hg h37 hx.1 hx.2]; simp)
                | trace_state
          · simp only [go_sem,hc,hL,hw,w2,w4,e37,hg2,hg3,hg4,hsl]
            refine ev_call (c129n _ _ hx) (retW0 rfl rfl rfl rfl) ?_
            simp only [go_sem,Nat.reduceLeDiff,Nat.reduceLT,Nat.reduceAdd,Nat.reduceMul,Nat.reduceBNe,Nat.reduceEqDiff,reduceCtorEq,Nat.reduceDiv,Nat.reduceMod,hc,hw,hlo]
            first
              | (refine ⟨(i + 1,out ++ [l.getD i 0]),?_,⟨hc,?_⟩,by simp only; omega⟩
                 · rw [snoc_own _ hacc]; rfl
                 · rw [← hsp,pct_step1 hc (fun h => hx ⟨h.2.2.1,h.2.2.2⟩)]; simp)
              | trace_state
        · have hg2 : l.length ≤ i + 2 := by omega
          simp only [go_sem,Nat.reduceLeDiff,Nat.reduceLT,Nat.reduceAdd,Nat.reduceMul,Nat.reduceBNe,Nat.reduceEqDiff,reduceCtorEq,Nat.reduceDiv,Nat.reduceMod,hlo,hc,hL,hw,e37,w2,hg2]
          first
            | (refine ⟨(i + 1,out ++ [l.getD i 0]),?_,⟨hc,?_⟩,by simp only; omega⟩
               · rw [snoc_own _ hacc]; rfl
               · rw [← hsp,pct_step1 hc (fun h => hg h.2.1)]; simp)
            | trace_state
      · have e37 : (((l.getD i 0).toNat : Int) != 37) = true := by
          rw [bne_iff_ne]; intro e; exact h37 (UInt8.toNat_inj.1 (by rw [show (37 : UInt8).toNat = 37 from rfl]; omega))
        simp only [go_sem,Nat.reduceLeDiff,Nat.reduceLT,Nat.reduceAdd,Nat.reduceMul,Nat.reduceBNe,Nat.reduceEqDiff,reduceCtorEq,Nat.reduceDiv,Nat.reduceMod,hlo,hc,hw,e37]
        first
          | (refine ⟨(i + 1,out ++ [l.getD i 0]),?_,⟨hc,?_⟩,by simp only; omega⟩
             · rw [snoc_own _ hacc]; rfl
             · rw [← hsp,pct_step1 hc (fun h => h37 h.1)]; simp)
          | trace_state
    · have he : i = l.length := by omega
      subst he
      have hsp2 : out = pct l := by rw [← hsp]; simp [pct]
      simp only [go_sem,Nat.reduceBNe,hc]
      first | (refine fin0 (.inr rfl) rfl rfl rfl ?_; rw [show pct l = [] by rw [← hsp2,← rowsBytes_bytesRows out,hacc]; rfl]; rfl) | trace_state
  | cons x xs =>
    have hlo : (xs.length + 1 + 1) * 1 ≤ 140737488355328 := by have h9 := congrArg List.length hacc; rw [bytesRows_length] at h9; simp only [List.length_cons] at h9; omega
    have hlo3 : (xs.length + 1 + 1 + 1 + 1) * 1 ≤ 140737488355328 := by have h9 := congrArg List.length hacc; rw [bytesRows_length] at h9; simp only [List.length_cons] at h9; omega
    have hla : (xs.length + 1 + 1) ≤ 140737488355328 := by have h9 := congrArg List.length hacc; rw [bytesRows_length] at h9; simp only [List.length_cons] at h9; omega
    have hla3 : (xs.length + 1 + 1 + 1 + 1) ≤ 140737488355328 := by have h9 := congrArg List.length hacc; rw [bytesRows_length] at h9; simp only [List.length_cons] at h9; omega
    simp only [go_sem,sd_cons]
    try (with_reducible intro hlen)
    by_cases hc : i < l.length
    · have hw := wrapN hc hL
      have w2 : IntKind.i64.wrap ((i : Int) + 2) = ((i + 2 : Nat) : Int) := by rw [wrapI (by omega)]; omega
      by_cases h37 : l.getD i 0 = 37
      · have e37 : (((l.getD i 0).toNat : Int) != 37) = false := by rw [h37]; decide
        by_cases hg : i + 2 < l.length
        · have hg1 : i + 1 < l.length := by omega
          have hg2 : ¬ (l.length ≤ i + 2) := by omega
          have hg3 : i + 3 ≤ l.length := by omega
          have hg4 : i + 1 ≤ i + 3 := by omega
          have w4 : IntKind.i64.wrap ((i : Int) + 3) = ((i + 3 : Nat) : Int) := by rw [wrapI (by omega)]; omega
          have w3 : IntKind.i64.wrap (((i + 2 : Nat) : Int) + 1) = ((i + 3 : Nat) : Int) := by rw [wrapI (by omega)]; omega
          have hsl := two_at hg
          by_cases hx : 0 ≤ hexI (l.getD (i + 1) 0).toNat ∧ 0 ≤ hexI (l.getD (i + 2) 0).toNat
          · have hle := hv_le _ _ hx.1 hx.2
            have m3 : IntKind.u8.wrap (hv (l.getD (i + 1) 0) (l.getD (i + 2) 0)) = hv (l.getD (i + 1) 0) (l.getD (i + 2) 0) := w8 hle
            cases hf : freeI (hv (l.getD (i + 1) 0) (l.getD (i + 2) 0))
            · have s1 := (upU_nat (l.getD (i + 1) 0)).symm
              have s2 := (upU_nat (l.getD (i + 2) 0)).symm
              simp only [go_sem,hc,hL,hw,w2,w4,e37,hg2,hg3,hg4,hsl]
              refine ev_call (c129p _ _ hx.1 hx.2) (retW0 rfl rfl rfl rfl) ?_
              simp only [go_sem,Nat.reduceAdd,Nat.reduceBNe,m3]
              refine ev_call (c130 _ hle.1 hle.2) (retW0 rfl rfl rfl rfl) ?_
              simp only [go_sem,Nat.reduceAdd,Nat.reduceBNe,hf]
              refine draw_intro 12 [[41,42,43,44,45,46,47,48,49,50,51],[40,42,43,44,45,46,47,48,49,50,51],[40,41,43,44,45,46,47,48,49,50,51],[40,41,44,45,46,47,48,49,50,51],[40,42,45,46,47,48,49,50,51],[40,41,42,43,46,47,48,49,50,51],[40,41,42,43,44,45,47,48,49,50,51],[40,41,42,43,44,45,46,48,49,50,51],[40,41,42,43,44,45,46,49,50,51],[40,41,42,43,44,45,47,50,51],[40,41,42,43,44,46,47,48,51],[40,41,42,43,44,46,47,48,49]] mixedOk rfl ?_
              simp only [go_sem,Nat.reduceLeDiff,Nat.reduceLT,Nat.reduceAdd,Nat.reduceMul,Nat.reduceBEq,hw,hg1]
              refine of_call (c131 _ (u0 _) (u255 _)) (retW0 rfl rfl rfl rfl) rfl rfl rfl ?_
              simp only [go_sem,Nat.reduceBEq,w2,hg]
              refine of_call (c131 _ (u0 _) (u255 _)) (retW0 rfl rfl rfl rfl) rfl rfl rfl ?_
              simp only [go_sem,Nat.reduceLT,Nat.reduceAdd,Nat.reduceMul,Nat.reduceBEq,Nat.reduceBNe,Nat.reduceEqDiff,reduceCtorEq,Nat.reduceDiv,Nat.reduceMod,s1,s2,hlo3,w2,w3]
              first
                | (refine ⟨(i + 3,out ++ pctP (l.getD (i + 1) 0) (l.getD (i + 2) 0)),?_,⟨by simp only; omega,?_⟩,by simp only; omega⟩
                   · rw [pctP_own3 _ _ hacc hf]; rfl
                   · rw [← hsp,pct_step3 hg h37 hx.1 hx.2]; simp)
                | trace_state
            · simp only [go_sem,hc,hL,hw,w2,w4,e37,hg2,hg3,hg4,hsl]
              refine ev_call (c129p _ _ hx.1 hx.2) (retW0 rfl rfl rfl rfl) ?_
              simp only [go_sem,Nat.reduceAdd,Nat.reduceBNe,m3]
              refine ev_call (c130 _ hle.1 hle.2) (retW0 rfl rfl rfl rfl) ?_
              simp only [go_sem,Nat.reduceLeDiff,Nat.reduceLT,Nat.reduceAdd,Nat.reduceMul,Nat.reduceBNe,Nat.reduceEqDiff,reduceCtorEq,Nat.reduceDiv,Nat.reduceMod,hf,m3,hlo,w2,w3]
              first
                | (refine ⟨(i + 3,out ++ pctP (l.getD (i + 1) 0) (l.getD (i + 2) 0)),?_,⟨by simp only; omega,?_⟩,by simp only; omega⟩
                   · rw [pctP_own1 _ _ hacc hx.1 hx.2 hf]; rfl
                   · rw [← hsp,pct_step3 hg h37 hx.1 hx.2]; simp)
                | trace_state
          · simp only [go_sem,hc,hL,hw,w2,w4,e37,hg2,hg3,hg4,hsl]
            refine ev_call (c129n _ _ hx) (retW0 rfl rfl rfl rfl) ?_
            simp only [go_sem,Nat.reduceLeDiff,Nat.reduceLT,Nat.reduceAdd,Nat.reduceMul,Nat.reduceBNe,Nat.reduceEqDiff,reduceCtorEq,Nat.reduceDiv,Nat.reduceMod,hc,hw,hlo]
            first
              | (refine ⟨(i + 1,out ++ [l.getD i 0]),?_,⟨hc,?_⟩,by simp only; omega⟩
                 · rw [snoc_own _ hacc]; rfl
                 · rw [← hsp,pct_step1 hc (fun h => hx ⟨h.2.2.1,h.2.2.2⟩)]; simp)
              | trace_state
        · have hg2 : l.length ≤ i + 2 := by omega
          simp only [go_sem,Nat.reduceLeDiff,Nat.reduceLT,Nat.reduceAdd,Nat.reduceMul,Nat.reduceBNe,Nat.reduceEqDiff,reduceCtorEq,Nat.reduceDiv,Nat.reduceMod,hlo,hc,hL,hw,e37,w2,hg2]
          first
            | (refine ⟨(i + 1,out ++ [l.getD i 0]),?_,⟨hc,?_⟩,by simp only; omega⟩
               · rw [snoc_own _ hacc]; rfl
               · rw [← hsp,pct_step1 hc (fun h => hg h.2.1)]; simp)
            | trace_state
      · have e37 : (((l.getD i 0).toNat : Int) != 37) = true := by
          rw [bne_iff_ne]; intro e; exact h37 (UInt8.toNat_inj.1 (by rw [show (37 : UInt8).toNat = 37 from rfl]; omega))
        simp only [go_sem,Nat.reduceLeDiff,Nat.reduceLT,Nat.reduceAdd,Nat.reduceMul,Nat.reduceBNe,Nat.reduceEqDiff,reduceCtorEq,Nat.reduceDiv,Nat.reduceMod,hlo,hc,hw,e37]
        first
          | (refine ⟨(i + 1,out ++ [l.getD i 0]),?_,⟨hc,?_⟩,by simp only; omega⟩
             · rw [snoc_own _ hacc]; rfl
             · rw [← hsp,pct_step1 hc (fun h => h37 h.1)]; simp)
          | trace_state
    · have he : i = l.length := by omega
      subst he
      have hsp2 : out = pct l := by rw [← hsp]; simp [pct]
      simp only [go_sem,Nat.reduceBNe,Nat.reduceDiv,Nat.reduceMod,hc,← hacc,rowsBytes_bytesRows]
      first | (refine fin0 (.inr rfl) rfl rfl rfl ?_; rw [← hsp2]; rfl) | trace_state
set_option maxRecDepth 100000
set_option maxHeartbeats 600000
def hostQ (n : Int) : Bool := isLowerB n || isDigitB n || (n == 45)
def goodP (p : List UInt8) : Bool := !(p == []) && p.all fun b => hostQ b.toNat
def hostB (l : List UInt8) : Bool := inB 1 60 l.length && (spl 46 l).all goodP
theorem host_all (l : List UInt8) : (spl 46 l).all goodP = ((l.all fun b => hostI b.toNat) && !((spl 46 l).contains [])) := by
  have h1 : (spl 46 l).all goodP = ((spl 46 l).all (fun p => p.all fun b => hostQ b.toNat) && (spl 46 l).all (fun p => !(p == []))) := by
    generalize spl 46 l = ps
    induction ps with
    | nil => rfl
    | cons p ps ih =>
      simp only [List.all_cons,ih,goodP]
      cases (p == []) <;> cases (p.all fun b => hostQ b.toNat) <;> simp
  have h2 : ∀ ps : List (List UInt8),ps.all (fun p => !(p == [])) = !(ps.contains []) := by
    intro ps
    induction ps with
    | nil => rfl
    | cons p ps ih =>
      simp only [List.all_cons,ih,List.contains_cons]
      rw [show (([] : List UInt8) == p) = (p == []) from Bool.beq_comm ..]
      cases (p == []) <;> simp
  rw [h1,h2,spl_all]
  congr 1
  congr 1
  funext b
  unfold hostI hostQ
  have h3 : (b == 46) = ((b.toNat : Int) == 46) := by
    rw [Bool.eq_iff_iff,beq_iff_eq,beq_iff_eq,← UInt8.toNat_inj]
    show b.toNat = 46 ↔ _
    omega
  rw [h3]
  cases isLowerB b.toNat <;> cases isDigitB b.toNat <;> cases ((b.toNat : Int) == 45) <;> cases ((b.toNat : Int) == 46) <;> rfl
theorem sd_spl (c : UInt8) (l : List UInt8) : sd 9 (rowsS (spl c l)) = .own 9 (rowsS (spl c l)) := by
  cases h : spl c l with
  | nil => exact absurd h (spl_ne c l)
  | cons x xs => rfl
theorem c86o (l : List UInt8) (c : UInt8) (hl : l.length ≤ 1048576) : Sem prog 86 ⟨[.v (vS l),.v (vC c.toNat)],[none,none]⟩ ⟨[.dead,.dead,.own 9 (rowsS (spl c l))],[none,none]⟩ := by
  have h := c86 l c hl
  rw [sd_spl] at h
  exact h
theorem c114a (l : List UInt8) (hl : l.length ≤ 1048576) (h : inB 1 60 l.length = false) : Sem prog 114 ⟨[.v (vS l)],[none]⟩ ⟨[.dead,.v (vB (false))],[none]⟩ := by
  refine sem_fin (cfg := cfg 1) (ts := [.tm 2]) tbOk func114 rfl rfl rfl rfl (fun t h => by cases h) ?_
  have hL : l.length ≤ 9223372036854775807 := by omega
  have h7 := c107 l.length 1 60
  rw [h] at h7
  simp only [go_sem,Nat.reduceAdd,Nat.reduceSub,f114,cfg,hL]
  refine ev_call h7 (retW0 rfl rfl rfl rfl) ?_
  simp only [go_sem,Nat.reduceAdd,reduceCtorEq]
  first | exact fin0 (.inr rfl) rfl rfl rfl rfl | trace_state
theorem c114b (l : List UInt8) (hl : l.length ≤ 1048576) (h : inB 1 60 l.length = true) (h2 : (l.all fun b => hostI b.toNat) = false) : Sem prog 114 ⟨[.v (vS l)],[none]⟩ ⟨[.dead,.v (vB (false))],[none]⟩ := by
  refine sem_fin (cfg := cfg 1) (ts := [.tm 2]) tbOk func114 rfl rfl rfl rfl (fun t h => by cases h) ?_
  have hL : l.length ≤ 9223372036854775807 := by omega
  have h7 := c107 l.length 1 60
  rw [h] at h7
  have h8 := c52 l 148 hostI rfl rfl c148 hL
  rw [h2] at h8
  simp only [go_sem,Nat.reduceAdd,Nat.reduceSub,f114,cfg,hL]
  refine ev_call h7 (retW0 rfl rfl rfl rfl) ?_
  simp only [go_sem,Nat.reduceAdd]
  refine ev_call h8 (retW0 rfl rfl rfl rfl) ?_
  simp only [go_sem,Nat.reduceAdd]
  first | exact fin0 (.inr rfl) rfl rfl rfl rfl | trace_state
theorem c114c (l : List UInt8) (hl : l.length ≤ 1048576) (h : inB 1 60 l.length = true) (h2 : (l.all fun b => hostI b.toNat) = true) : Sem prog 114 ⟨[.v (vS l)],[none]⟩ ⟨[.dead,.v (vB (!((spl 46 l).contains [])))],[none]⟩ := by
  refine sem_fin (cfg := cfg 1) (ts := [.tm 2]) tbOk func114 rfl rfl rfl rfl (fun t h => by cases h) ?_
  have hL : l.length ≤ 9223372036854775807 := by omega
  have h7 := c107 l.length 1 60
  rw [h] at h7
  have h8 := c52 l 148 hostI rfl rfl c148 hL
  rw [h2] at h8
  have hlen := spl_len 46 l
  have hcn := List.count_le_length (a := 46) (l := l)
  have h9 := c111 l 46 (by omega)
  have h10 := c78 (spl 46 l) [] (by omega)
  simp only [go_sem,Nat.reduceAdd,Nat.reduceSub,f114,cfg,hL]
  refine ev_call h7 (retW0 rfl rfl rfl rfl) ?_
  simp only [go_sem,Nat.reduceAdd]
  refine ev_call h8 (retW0 rfl rfl rfl rfl) ?_
  simp only [go_sem,Nat.reduceLeDiff,Nat.reduceAdd]
  refine ev_call h9 (retW0 rfl rfl rfl rfl) ?_
  simp only [go_sem,Nat.reduceAdd,Nat.reduceDiv,Nat.reduceMod]
  refine ev_call h10 (retW0 rfl rfl rfl rfl) ?_
  simp only [go_sem,Nat.reduceAdd,Nat.reduceBNe]
  first | exact fin0 (.inr rfl) rfl rfl rfl rfl | trace_state
theorem c114 (l : List UInt8) (hl : l.length ≤ 1048576) : Sem prog 114 ⟨[.v (vS l)],[none]⟩ ⟨[.dead,.v (vB (hostB l))],[none]⟩ := by
  unfold hostB
  rw [host_all]
  cases h : inB 1 60 l.length
  · exact c114a l hl h
  · cases h2 : l.all fun b => hostI b.toNat
    · exact c114b l hl h h2
    · exact c114c l hl h h2
theorem c88a (l : List UInt8) (hl : l.length ≤ 1048576) (h : inB 1 60 l.length = false) : Sem prog 88 ⟨[.v (vS l)],[none]⟩ ⟨[.dead,.v (vB (false))],[none]⟩ := by
  refine sem_fin (cfg := cfg 1) (ts := [.tm 2]) tbOk func88 rfl rfl rfl rfl (fun t h => by cases h) ?_
  have hL : l.length ≤ 9223372036854775807 := by omega
  have hb : ¬ (1 ≤ l.length ∧ l.length ≤ 60) := by
    intro hh; unfold inB at h; simp at h; omega
  simp only [go_sem,Nat.reduceSub,f88,cfg]
  repeat' ((first | with_reducible intro _ | split) <;> (try simp only [go_sem,reduceCtorEq, *]))
  all_goals first
    | exact fin0 (.inr rfl) rfl rfl rfl rfl
    | (exfalso; omega)
    | (exfalso; simp only [beq_eq_false_iff_ne,ne_eq] at *; omega)
    | trace_state
theorem c88b (l : List UInt8) (hl : l.length ≤ 1048576) (h : inB 1 60 l.length = true) : Sem prog 88 ⟨[.v (vS l)],[none]⟩ ⟨[.dead,.v (vB ((spl 46 l).all goodP))],[none]⟩ := by
  refine sem_fin (cfg := cfg 1) (ts := [.tm 2]) tbOk func88 rfl rfl rfl rfl (fun t h => by cases h) ?_
  have hL : l.length ≤ 9223372036854775807 := by omega
  have hb : 1 ≤ l.length ∧ l.length ≤ 60 := by
    unfold inB at h; simp at h; omega
  have z1 : ¬ ((l.length : Int) = 0) := by omega
  have z1b : ((l.length : Int) == 0) = false := by rw [beq_eq_false_iff_ne]; exact z1
  have z2 : ¬ ((60 : Int) < (l.length : Int)) := by omega
  have z3 : ¬ (60 < l.length) := by omega
  have hsl := spl_len 46 l
  have hcn := List.count_le_length (a := 46) (l := l)
  have hsm := spl_mem 46 l
  have h86 := c86o l 46 hl
  simp only [go_sem,Nat.reduceSub,f88,cfg,z1b,z2,hL]
  refine ev_call h86 (retW0 rfl rfl rfl rfl) ?_
  generalize spl 46 l = ps at hsl hsm ⊢
  have hps : ps.length ≤ 9223372036854775807 := by omega
  simp only [go_sem,Nat.reduceAdd,Nat.reduceBNe,Nat.reduceEqDiff,reduceCtorEq,Nat.reduceDiv,Nat.reduceMod]
  refine loop_on (fun i : Nat => ⟨[.v (vS l),.dead,.v (vB false),.own 9 (rowsS ps),.v (vI i),.dead,.dead,.dead,.dead,.dead,.dead,.dead,.dead,.dead,.dead,.dead,.dead,.dead,.dead,.dead,.dead,.dead,.dead,.dead,.dead,.dead,.dead,.dead,.dead,.dead,.dead,.dead,.dead,.dead,.dead,.dead,.dead,.dead,.dead,.dead,.dead,.dead,.dead,.dead,.dead,.dead,.dead,.dead,.dead,.dead,.dead,.dead,.dead,.dead,.dead,.dead,.dead,.dead,.dead],List.replicate 59 none⟩) [0,2,3,4] (fun i => i ≤ ps.length ∧ (ps.take i).all goodP = true) (fun i => ps.length - i) 0 rfl ⟨by omega,by simp⟩ ?_
  intro i ⟨hi,hall⟩
  simp only [go_sem,Nat.reduceDiv,Nat.reduceMod,rowsS_length]
  try (with_reducible intro hlen)
  by_cases hc : i < ps.length
  · have hw := wrapN hc hps
    have h1 := rowsS_getD hc
    have hpl : (ps.getD i []).length ≤ 1048576 := by
      have : ps.getD i [] ∈ ps := by rw [List.getD_eq_getElem?_getD,List.getElem?_eq_getElem hc]; exact List.getElem_mem hc
      have := hsm _ this; omega
    have hpL : (ps.getD i []).length ≤ 9223372036854775807 := by omega
    have hall1 := all_take_succ (p := goodP) (d := []) hc
    rw [hall] at hall1
    have hfa := fun hh => all_false_at (p := goodP) (d := []) hc hh
    generalize ps.getD i [] = p at hpl hpL h1 hall1 hfa
    cases hp : p == []
    · simp only [go_sem,Nat.reduceDiv,Nat.reduceMod,rowsS_length,hc,h1,hp]
      refine loop_on (fun k : Nat => ⟨[.v (vS l),.dead,.v (vB false),.own 9 (rowsS ps),.v (vI i),.v (vI k),.dead,.dead,.dead,.dead,.dead,.dead,.dead,.dead,.dead,.dead,.dead,.dead,.dead,.dead,.dead,.dead,.dead,.dead,.dead,.dead,.dead,.dead,.dead,.dead,.dead,.dead,.dead,.dead,.dead,.dead,.dead,.dead,.dead,.dead,.dead,.dead,.dead,.dead,.dead,.dead,.dead,.dead,.dead,.dead,.dead,.dead,.dead,.dead,.dead,.dead,.dead,.dead,.dead],List.replicate 59 none⟩) [0,2,3,4,5] (fun k => k ≤ p.length ∧ (p.take k).all (fun b => hostQ b.toNat) = true) (fun k => p.length - k) 0 rfl ⟨by omega,by simp⟩ ?_
      intro k ⟨hk,hkall⟩
      simp only [go_sem,Nat.reduceDiv,Nat.reduceMod,rowsS_length,hc,h1,hpL]
      by_cases hkc : k < p.length
      · have hkw := wrapN hkc hpL
        cases hq : hostQ (p.getD k 0).toNat
        · have hbad : goodP p = false := by
            unfold goodP; rw [all_false_at hkc hq]; simp
          rw [hfa hbad]
          unfold hostQ isLowerB at hq
          simp only [Bool.or_eq_false_iff,Bool.and_eq_false_iff,decide_eq_false_iff_not] at hq
          obtain ⟨⟨q1,q2⟩,q3⟩ := hq
          have q4 : (((p.getD k 0).toNat : Int) != 45) = true := by rw [bne,q3]; rfl
          simp only [go_sem,Nat.reduceBNe,Nat.reduceDiv,Nat.reduceMod,rowsS_length,hc,h1,hkc]
          by_cases q5 : 97 ≤ ((p.getD k 0).toNat : Int)
          · have q6 : ¬ (((p.getD k 0).toNat : Int) ≤ 122) := by rcases q1 with q1 | q1 <;> omega
            simp only [go_sem,q5,q6]
            refine ev_call (c84 _) (retW0 rfl rfl rfl rfl) ?_
            simp only [go_sem,Nat.reduceAdd,q2,q4]
            first | exact fin0 (.inr rfl) rfl rfl rfl rfl | trace_state
          · simp only [go_sem,q5]
            refine ev_call (c84 _) (retW0 rfl rfl rfl rfl) ?_
            simp only [go_sem,Nat.reduceAdd,q2,q4]
            first | exact fin0 (.inr rfl) rfl rfl rfl rfl | trace_state
        · have hnx : (p.take (k + 1)).all (fun b => hostQ b.toNat) = true := by rw [all_take_succ (d := 0) hkc,hkall,hq]; rfl
          unfold hostQ isLowerB at hq
          simp only [Bool.or_eq_true,Bool.and_eq_true,decide_eq_true_eq,beq_iff_eq] at hq
          simp only [go_sem,Nat.reduceBNe,Nat.reduceDiv,Nat.reduceMod,rowsS_length,hc,h1,hkc]
          by_cases q5 : 97 ≤ ((p.getD k 0).toNat : Int)
          · by_cases q6 : ((p.getD k 0).toNat : Int) ≤ 122
            · simp only [go_sem,Nat.reduceBNe,q5,q6,hkw]
              exact ⟨k + 1,rfl,⟨hkc,hnx⟩,by omega⟩
            · simp only [go_sem,q5,q6]
              refine ev_call (c84 _) (retW0 rfl rfl rfl rfl) ?_
              cases q7 : isDigitB ((p.getD k 0).toNat : Int)
              · have q8 : (((p.getD k 0).toNat : Int) != 45) = false := by
                  rw [q7] at hq; rw [bne_eq_false_iff_eq]; rcases hq with (hq | hq) | hq
                  · omega
                  · cases hq
                  · exact hq
                simp only [go_sem,Nat.reduceAdd,Nat.reduceBNe,q8,hkw]
                exact ⟨k + 1,rfl,⟨hkc,hnx⟩,by omega⟩
              · simp only [go_sem,Nat.reduceAdd,Nat.reduceBNe,hkw]
                exact ⟨k + 1,rfl,⟨hkc,hnx⟩,by omega⟩
          · simp only [go_sem,q5]
            refine ev_call (c84 _) (retW0 rfl rfl rfl rfl) ?_
            cases q7 : isDigitB ((p.getD k 0).toNat : Int)
            · have q8 : (((p.getD k 0).toNat : Int) != 45) = false := by
                rw [q7] at hq; rw [bne_eq_false_iff_eq]; rcases hq with (hq | hq) | hq
                · omega
                · cases hq
                · exact hq
              simp only [go_sem,Nat.reduceAdd,Nat.reduceBNe,q8,hkw]
              exact ⟨k + 1,rfl,⟨hkc,hnx⟩,by omega⟩
            · simp only [go_sem,Nat.reduceAdd,Nat.reduceBNe,hkw]
              exact ⟨k + 1,rfl,⟨hkc,hnx⟩,by omega⟩
      · simp only [go_sem,Nat.reduceBNe,hkc,hw]
        rw [List.take_of_length_le (by omega)] at hkall
        have hg : goodP p = true := by unfold goodP; rw [hp,hkall]; rfl
        exact ⟨i + 1,rfl,⟨hc,by rw [hall1,hg]; rfl⟩,by omega⟩
    · have hbad : goodP p = false := by unfold goodP; rw [hp]; rfl
      rw [hfa hbad]
      simp only [go_sem,Nat.reduceDiv,Nat.reduceMod,rowsS_length,hc,h1,hp]
      first | exact fin0 (.inr rfl) rfl rfl rfl rfl | trace_state
  · simp only [go_sem,hc]
    rw [List.take_of_length_le (by omega)] at hall
    rw [hall]
    first | exact fin0 (.inr rfl) rfl rfl rfl rfl | trace_state
theorem c88 (l : List UInt8) (hl : l.length ≤ 1048576) : Sem prog 88 ⟨[.v (vS l)],[none]⟩ ⟨[.dead,.v (vB (hostB l))],[none]⟩ := by
  unfold hostB
  cases h : inB 1 60 l.length
  · exact c88a l hl h
  · exact c88b l hl h
set_option maxRecDepth 100000
set_option maxHeartbeats 4000000
attribute [local go_sem] oD_t oD_f rowsS_length
def pre (g : List (List UInt8)) (i : Nat) : List (List UInt8) := if i = g.length then normC g else (g.take i).foldl stepC []
theorem pre_0 {g : List (List UInt8)} : pre g 0 = [] := by
  unfold pre
  split
  · rename_i h
    rw [List.length_eq_zero_iff.1 h.symm]; rfl
  · rfl
theorem pre_s {g : List (List UInt8)} {i : Nat} (h : i < g.length) : pre g (i + 1) = if (decide (i + 1 = g.length) && dotsB (g.getD i [])) = true then stepC (pre g i) (g.getD i []) ++ [[]] else stepC (pre g i) (g.getD i []) := by
  have e : pre g i = (g.take i).foldl stepC [] := if_neg (by omega)
  rw [e,← step_snoc h]
  unfold pre
  by_cases hl : i + 1 = g.length
  · rw [if_pos hl,decide_eq_true hl,Bool.true_and,hl,List.take_length]
    unfold normC
    rw [show g.length - 1 = i by omega]
  · rw [if_neg hl,decide_eq_false hl]; rfl
theorem pre_len {g : List (List UInt8)} {i : Nat} (h : i < g.length) : (pre g i).length ≤ i := by
  have e : pre g i = (g.take i).foldl stepC [] := if_neg (by omega)
  have := foldC_len (g.take i) []
  rw [List.length_take,List.length_nil] at this
  rw [e]; omega
theorem stepC_a {o : List (List UInt8)} {s : List UInt8} (h : (s == [46]) = true) : stepC o s = o := by unfold stepC; rw [if_pos h]
theorem stepC_b {o : List (List UInt8)} {s : List UInt8} (h : (s == [46]) = false) (h2 : (s == [46,46]) = true) : stepC o s = o.take (o.length - 1) := by unfold stepC; rw [h,h2]; rfl
theorem stepC_c {o : List (List UInt8)} {s : List UInt8} (h : (s == [46]) = false) (h2 : (s == [46,46]) = false) : stepC o s = o ++ [s] := by unfold stepC; rw [h,h2]; rfl
section
variable (l : List UInt8)
theorem c36a (hl : l.length ≤ 9223372036854775807) (h1 : ((l.length : Int) == 0) = true) : Sem prog 36 ⟨[.v (vS l)],[none]⟩ ⟨[.dead,.v (vS [])],[none]⟩ := by
  refine sb 1 [.tm 2] func36 ?_
  exact fz
theorem c36b (hl : l.length ≤ 9223372036854775807) (h1 : ((l.length : Int) == 0) = false) (h2 : (200 : Int) < (l.length : Int)) : Sem prog 36 ⟨[.v (vS l)],[none]⟩ ⟨[.dead,.v (vS [])],[none]⟩ := by
  refine sb 1 [.tm 2] func36 ?_
  exact fz
theorem c36c (hl : l.length ≤ 9223372036854775807) (h1 : ((l.length : Int) == 0) = false) (h2 : ¬ (200 : Int) < (l.length : Int)) (h3 : (((l.getD 0 0).toNat : Int) != 47) = true) : Sem prog 36 ⟨[.v (vS l)],[none]⟩ ⟨[.dead,.v (vS [])],[none]⟩ := by
  have h4 : 0 < l.length := by rw [beq_eq_false_iff_ne] at h1; omega
  have h4i : (0 : Int) < (l.length : Int) := by omega
  refine sb 1 [.tm 2] func36 ?_
  exact fz
theorem c36d (hl : l.length ≤ 9223372036854775807) (h1 : ((l.length : Int) == 0) = false) (h2 : ¬ (200 : Int) < (l.length : Int)) (h3 : (((l.getD 0 0).toNat : Int) != 47) = false) (h5 : (l.all fun b => visB b.toNat) = false) : Sem prog 36 ⟨[.v (vS l)],[none]⟩ ⟨[.dead,.v (vS [])],[none]⟩ := by
  have h4 : 0 < l.length := by rw [beq_eq_false_iff_ne] at h1; omega
  have h4i : (0 : Int) < (l.length : Int) := by omega
  have h6 := c32 l hl
  rw [h5] at h6
  refine sb 1 [.tm 2] func36 ?_
  refine call0 h6 ?_
  exact fz
theorem c36e (hl : l.length ≤ 9223372036854775807) (h1 : ((l.length : Int) == 0) = false) (h2 : ¬ (200 : Int) < (l.length : Int)) (h3 : (((l.getD 0 0).toNat : Int) != 47) = false) (h5 : (l.all fun b => visB b.toNat) = true) (R : List UInt8)
   (hR : ((l.any fun b => [35,63].contains b) = true → R = [])) (hR2 : ((l.any fun b => [35,63].contains b) = false → R = 47 :: Lib.join (normC (spl 47 ((pct l).drop 1))) [47])) : Sem prog 36 ⟨[.v (vS l)],[none]⟩ ⟨[.dead,.v (vS R)],[none]⟩ := by
  have h4 : 0 < l.length := by rw [beq_eq_false_iff_ne] at h1; omega
  have h4i : (0 : Int) < (l.length : Int) := by omega
  have h6 := c32 l hl
  rw [h5,decide_eq_true h4] at h6
  refine sb 1 [.tm 2] func36 ?_
  refine call0 h6 ?_
  clear h6
  refine loopZ (fun i : Nat => pE 114 [.v (vS l),.dead,.dead,.v (vI i)]) [0,3] (fun i => i ≤ l.length ∧ ((l.take i).any fun b => [35,63].contains b) = false) (fun i => l.length - i) 0 rfl ⟨by simp,by simp⟩ ?_
  intro i ⟨hi,hany⟩
  with_reducible intro _
  by_cases hc : i < l.length
  · have hw := wrapN hc hl
    have hs := any_take_succ (p := fun b => [35,63].contains b) (d := 0) hc
    rw [hany] at hs
    have hx : [35,63].contains (l.getD i 0) = ((((l.getD i 0).toNat : Int) == 35) || (((l.getD i 0).toNat : Int) == 63)) := by
      rw [Bool.eq_iff_iff]
      simp only [List.contains_cons,List.contains_nil,Bool.or_false,Bool.or_eq_true,beq_iff_eq,← UInt8.toNat_inj]
      show (l.getD i 0).toNat = 35 ∨ (l.getD i 0).toNat = 63 ↔ _
      omega
    cases e : [35,63].contains (l.getD i 0)
    · rw [e] at hx hs
      replace hx := hx.symm
      rw [Bool.or_eq_false_iff] at hx
      obtain ⟨x1,x2⟩ := hx
      refine Z ?_
      exact ⟨i + 1,rfl,⟨hc,by simpa using hs⟩,by omega⟩
    · rw [hR (any_true_at (d := 0) hc e)]
      rw [e] at hx
      replace hx := hx.symm
      cases x1 : ((l.getD i 0).toNat : Int) == 35
      · rw [x1,Bool.false_or] at hx
        refine Z ?_
        exact fz
      · refine Z ?_
        exact fz
  · have hany : (l.any fun b => [35,63].contains b) = false := by rw [List.take_of_length_le (by omega)] at hany; exact hany
    rw [hR2 hany]
    have hp : 1 ≤ (pct l).length := pct_pos (by
      cases l with
      | nil => simp at h4
      | cons a l =>
        rw [bne_eq_false_iff_eq] at h3
        have : a = 47 := by rw [← UInt8.toNat_inj]; show a.toNat = 47; have : ((a.toNat : Int)) = 47 := h3; omega
        rw [this]; simp)
    obtain ⟨h6,h7,h8,h9⟩ := cat_le (l := l) (by omega)
    have h11 := c86o ((pct l).drop 1) 47 (by have := pct_len l; rw [List.length_drop]; omega)
    have h12 := spl_ne 47 ((pct l).drop 1)
    refine Z ?_
    refine call0 (c87 l (by omega)) ?_
    refine call0 h11 ?_
    clear h11 hR hR2 hany hp
    generalize spl 47 ((pct l).drop 1) = g at h6 h7 h8 h9 h12 ⊢
    refine loopZ (fun s : Nat × Bool => pE 114 [.dead,.dead,.dead,.dead,.own 9 (rowsS g),oD 9 s.2 (rowsS (pre g s.1)),.v (vI s.1)]) [4,5,6] (fun s => s.1 ≤ g.length ∧ (s.2 = true → pre g s.1 = [])) (fun s => g.length - s.1) (0,true) rfl ⟨by simp,fun _ => pre_0⟩ ?_
    rintro ⟨i,b⟩ ⟨hi,hb⟩
    with_reducible intro hg
    dsimp only at hi hb
    by_cases hc2 : i < g.length
    · have hw := wrapN hc2 hg
      have h13 := rowsS_getD hc2
      have hps := pre_s hc2
      have hpl := pre_len hc2
      generalize pre g i = o at hb hps hpl ⊢
      generalize g.getD i [] = s at hps h13
      have hol : o.length ≤ 9223372036854775807 := by omega
      have hle : (((i + 1 : Nat) : Int) == (g.length : Int)) = decide (i + 1 = g.length) := by rw [Bool.eq_iff_iff,beq_iff_eq,decide_eq_true_eq]; omega
      generalize decide (i + 1 = g.length) = la at hle hps
      unfold dotsB at hps
      cases e1 : s == [46]
      · cases e2 : s == [46,46]
        · rw [e1,e2,stepC_c e1 e2] at hps
          replace hps : pre g (i + 1) = o ++ [s] := by cases la <;> exact hps
          cases b
          · refine Z ?_
            refine And.intro (by omega) ⟨(i + 1,false),?_,⟨hc2,fun h => by cases h⟩,by simp only; omega⟩
            dsimp only
            rw [hps,oD_f,← rowsS_snoc']; rfl
          · rw [hb rfl] at hps ⊢
            refine Z ?_
            refine ⟨(i + 1,false),?_,⟨hc2,fun h => by cases h⟩,by simp only; omega⟩
            dsimp only
            rw [hps]; rfl
        · rw [e1,e2,stepC_b e1 e2] at hps
          by_cases hz : o = []
          · subst hz
            cases la
            · replace hps : pre g (i + 1) = [] := hps
              cases b
              · refine Z ?_
                refine ⟨(i + 1,false),?_,⟨hc2,fun h => by cases h⟩,by simp only; omega⟩
                dsimp only
                rw [hps]; rfl
              · refine Z ?_
                refine ⟨(i + 1,true),?_,⟨hc2,fun _ => hps⟩,by simp only; omega⟩
                dsimp only
                rw [hps]; rfl
            · replace hps : pre g (i + 1) = [[]] := hps
              cases b
              · refine Z ?_
                refine ⟨(i + 1,false),?_,⟨hc2,fun h => by cases h⟩,by simp only; omega⟩
                dsimp only
                rw [hps]; rfl
              · refine Z ?_
                refine ⟨(i + 1,false),?_,⟨hc2,fun h => by cases h⟩,by simp only; omega⟩
                dsimp only
                rw [hps]; rfl
          · have hz1 : 0 < o.length := List.length_pos_iff.2 hz
            have hz2 : (0 : Int) < (o.length : Int) := by omega
            have hw2 : IntKind.i64.wrap ((o.length : Int) - 1) = ((o.length - 1 : Nat) : Int) := by rw [wrapI (by omega)]; omega
            have hz3 : o.length - 1 ≤ o.length := by omega
            cases b
            · cases la
              · replace hps : pre g (i + 1) = o.take (o.length - 1) := hps
                refine Z ?_
                refine ⟨(i + 1,false),?_,⟨hc2,fun h => by cases h⟩,by simp only; omega⟩
                dsimp only
                rw [hps,oD_f,← rowsS_take]; rfl
              · replace hps : pre g (i + 1) = o.take (o.length - 1) ++ [[]] := hps
                refine Z ?_
                refine And.intro (by simp only [List.length_take,rowsS_length]; omega) ⟨(i + 1,false),?_,⟨hc2,fun h => by cases h⟩,by simp only; omega⟩
                dsimp only
                rw [hps,oD_f,← rowsS_snoc',← rowsS_take]; rfl
            · exact absurd (hb rfl) hz
      · have e2 : (s == [46,46]) = false := by rw [beq_iff_eq] at e1; rw [e1]; rfl
        rw [e1,stepC_a e1] at hps
        cases la
        · replace hps : pre g (i + 1) = o := hps
          cases b
          · refine Z ?_
            refine ⟨(i + 1,false),?_,⟨hc2,fun h => by cases h⟩,by simp only; omega⟩
            dsimp only
            rw [hps]; rfl
          · rw [hb rfl] at hps ⊢
            refine Z ?_
            refine ⟨(i + 1,true),?_,⟨hc2,fun _ => hps⟩,by simp only; omega⟩
            dsimp only
            rw [hps]; rfl
        · replace hps : pre g (i + 1) = o ++ [[]] := hps
          cases b
          · refine Z ?_
            refine And.intro (by omega) ⟨(i + 1,false),?_,⟨hc2,fun h => by cases h⟩,by simp only; omega⟩
            dsimp only
            rw [hps,oD_f,← rowsS_snoc']; rfl
          · rw [hb rfl] at hps ⊢
            refine Z ?_
            refine ⟨(i + 1,false),?_,⟨hc2,fun h => by cases h⟩,by simp only; omega⟩
            dsimp only
            rw [hps]; rfl
    · have hpe : pre g i = normC g := by unfold pre; rw [if_pos (by omega)]
      rw [hpe] at hb ⊢
      refine Z ?_
      generalize normC g = o at hb h6 h7 ⊢
      have hol : o.length ≤ 9223372036854775807 := by omega
      have hof : ∀ k,(catC (o.take k)).length ≤ (catC o).length := by
        intro k
        have h := congrArg (fun x => (catC x).length) (List.take_append_drop k o)
        simp only [catC,List.flatMap_append,List.length_append] at h ⊢
        omega
      cases b
      · refine loopZ (fun k : Nat => pE 114 [.dead,.dead,.dead,.dead,.dead,.own 9 (rowsS o),.dead,.dead,.v (vS (catC (o.take k))),.v (vI k)]) [5,8,9] (fun k => k ≤ o.length) (fun k => o.length - k) 0 rfl (by simp) ?_
        intro k hk
        with_reducible intro _
        by_cases hc3 : k < o.length
        · have hw := wrapN hc3 hol
          have h13 := rowsS_getD hc3
          have hcs : catC (o.take (k + 1)) = catC (o.take k) ++ [47] ++ o.getD k [] := by
            rw [List.take_succ_eq_append_getElem hc3,catC,catC,List.flatMap_append,List.append_assoc]
            simp [List.getD_eq_getElem?_getD,hc3]
          have hc4 := hof (k + 1)
          rw [hcs] at hc4
          simp only [List.length_append,List.length_cons,List.length_nil] at hc4
          generalize o.getD k [] = s at h13 hcs hc4
          refine Z ?_
          refine ⟨by omega,by simp only [List.length_append,List.length_cons,List.length_nil]; omega,k + 1,?_,hc3,by omega⟩
          rw [hcs]; rfl
        · rw [List.take_of_length_le (by omega)]
          by_cases ho : o = []
          · subst ho
            refine Z ?_
            exact fz
          · have hne : (catC o == []) = false ∧ 47 :: Lib.join o [47] = catC o := by
              cases o with
              | nil => exact absurd rfl ho
              | cons x o => exact ⟨rfl,cat_join x o⟩
            rw [hne.2]
            replace hne := hne.1
            refine Z ?_
            exact fz
      · refine loopZ (fun k : Nat => pE 114 [.dead,.dead,.dead,.dead,.dead,.nil,.dead,.dead,.v (vS (catC (o.take k))),.v (vI k)]) [5,8,9] (fun k => k ≤ o.length) (fun k => o.length - k) 0 rfl (by simp) ?_
        intro k hk
        rw [hb rfl] at hk ⊢
        have hk0 : k = 0 := by simpa using hk
        subst hk0
        refine Z ?_
        exact fz
theorem c36 (hl : l.length ≤ 9223372036854775807) : Sem prog 36 ⟨[.v (vS l)],[none]⟩ ⟨[.dead,.v (vS (cleanB l))],[none]⟩ := by
  have hx : ∀ h : l ≠ [],[47].isPrefixOf l = !(((l.getD 0 0).toNat : Int) != 47) := by
    intro h
    cases l with
    | nil => exact absurd rfl h
    | cons a l =>
      have e : (47 == a) = !((a.toNat : Int) != 47) := by
        rw [Bool.eq_iff_iff,bne,Bool.not_not,beq_iff_eq,beq_iff_eq,← UInt8.toNat_inj]
        show 47 = a.toNat ↔ _
        omega
      rw [show [47].isPrefixOf (a :: l) = ((47 == a) && ([] : List UInt8).isPrefixOf l) from rfl,show ([] : List UInt8).isPrefixOf l = true by cases l <;> rfl,Bool.and_true]
      exact e
  cases h1 : (l.length : Int) == 0
  · have hne : l ≠ [] := fun h => by rw [h] at h1; cases h1
    replace hx := hx hne
    by_cases h2 : (200 : Int) < l.length
    · rw [cleanB,clean0,decide_eq_false (by omega : ¬ l.length ≤ 200),Bool.and_false,Bool.false_and,Bool.false_and]; exact c36b l hl h1 h2
    have h2' : decide (l.length ≤ 200) = true := decide_eq_true (by omega)
    cases h3 : ((l.getD 0 0).toNat : Int) != 47
    · rw [h3] at hx
      cases h4 : l.all fun b => visB b.toNat
      · rw [cleanB,clean0,hx,h2',h4]; exact c36d l hl h1 h2 h3 h4
      · refine c36e l hl h1 h2 h3 h4 _ (fun h => ?_) (fun h => ?_)
        · rw [cleanB,clean0,hx,h2',h4,h]; rfl
        · rw [cleanB,clean0,hx,h2',h4,h]; rfl
    · rw [h3] at hx
      rw [cleanB,clean0,hx]; exact c36c l hl h1 h2 h3
  · have hz : l = [] := by rw [beq_iff_eq] at h1; exact List.length_eq_zero_iff.1 (by omega)
    have := c36a l hl h1
    rw [hz] at this ⊢
    exact this
end
set_option maxRecDepth 100000
set_option maxHeartbeats 600000
def valD : List UInt8 → Nat → Nat
  | [],n => n
  | b :: l,n => valD l (10 * n + (b.toNat - 48))
theorem valD_snoc (l : List UInt8) (b : UInt8) : ∀ n,valD (l ++ [b]) n = 10 * valD l n + (b.toNat - 48) := by
  induction l with
  | nil => intro n; rfl
  | cons a l ih => intro n; exact ih _
theorem dig_nat {k : Nat} (h : k < 10) : (UInt8.ofNat (48 + k)).toNat = 48 + k := by
  rw [UInt8.toNat_ofNat',Nat.mod_eq_of_lt (by omega)]
theorem digs_all (u : Nat) : ∀ b,b ∈ Lib.decDigits u → 48 ≤ b.toNat ∧ b.toNat ≤ 57 := by
  induction u using Nat.strongRecOn with
  | _ u ih =>
    intro b hb
    by_cases h : u < 10
    · rw [decDigits_small h,List.mem_singleton] at hb
      rw [hb,dig_nat h]; omega
    · rw [decDigits_big h] at hb
      rcases List.mem_append.1 hb with hb | hb
      · exact ih _ (by omega) b hb
      · rw [List.mem_singleton] at hb
        rw [hb,dig_nat (by omega)]; omega
theorem valD_dec (u : Nat) : valD (Lib.decDigits u) 0 = u := by
  induction u using Nat.strongRecOn with
  | _ u ih =>
    by_cases h : u < 10
    · rw [decDigits_small h]
      show 10 * 0 + ((UInt8.ofNat (48 + u)).toNat - 48) = u
      rw [dig_nat h]; omega
    · rw [decDigits_big h,valD_snoc,ih _ (by omega),dig_nat (by omega)]; omega
theorem valD_le (l : List UInt8) : ∀ n,n ≤ valD l n := by
  induction l with
  | nil => intro n; exact Nat.le_refl _
  | cons b l ih => intro n; have := ih (10 * n + (b.toNat - 48)); show n ≤ valD l (10 * n + (b.toNat - 48)); omega
theorem parse_dig : ∀ (l : List UInt8) (acc : Nat),(∀ b,b ∈ l → 48 ≤ b.toNat ∧ b.toNat ≤ 57) → valD l acc < 1000000000000000000 → Lib.parseUint10 acc l = .ok (valD l acc)
  | [],acc,_,_ => rfl
  | b :: l,acc,h,hv => by
    have hb := h b List.mem_cons_self
    have hv : valD l (10 * acc + (b.toNat - 48)) < 1000000000000000000 := hv
    have hle := valD_le l (10 * acc + (b.toNat - 48))
    rw [Lib.parseUint10,if_pos hb,if_neg (by omega),if_neg (by omega),Nat.mul_comm acc 10,parse_dig l _ (fun x hx => h x (List.mem_cons_of_mem _ hx)) hv]
    rfl
theorem dec_ne (u : Nat) : Lib.decDigits u ≠ [] := by
  by_cases h : u < 10
  · rw [decDigits_small h]; simp
  · rw [decDigits_big h]; simp
theorem atoi_dec (u : Nat) (h : u < 1000000000000000000) : Lib.atoiAll (Lib.decDigits u) = .ok (u : Int) := by
  have hd := digs_all u
  have hp := parse_dig (Lib.decDigits u) 0 hd (by rw [valD_dec]; exact h)
  have hv := valD_dec u
  generalize hs : Lib.decDigits u = s at hd hp hv
  cases s with
  | nil => exact absurd hs (dec_ne u)
  | cons c r =>
    have hc := hd c List.mem_cons_self
    rw [Lib.atoiAll_plain c r (by omega) (by omega),Lib.parseMag,if_neg (by simp),hp,hv]
    show (if _ then _ else _) = _
    rw [if_neg (by omega)]
theorem dec_len15 {u : Nat} (h : u ≤ 999999999999999) : (Lib.decDigits u).length ≤ 15 := by
  have h0 : ∀ k u : Nat,u < 10 ^ (k + 1) → (Lib.decDigits u).length ≤ k + 1 := by
    intro k
    induction k with
    | zero => intro u hu; rw [decDigits_small (by simpa using hu)]; simp
    | succ k ih =>
      intro u hu
      by_cases h : u < 10
      · rw [decDigits_small h]; simp
      · rw [decDigits_big h]
        have := ih (u / 10) (by rw [Nat.pow_succ] at hu; omega)
        simp; omega
  exact h0 14 u (by omega)
def readD (s : List UInt8) : Option Nat := if valD s 0 ≤ 999999999999999 ∧ Lib.decDigits (valD s 0) = s then some (valD s 0) else none
theorem readD_iff {s : List UInt8} {n : Nat} : readD s = some n ↔ n ≤ 999999999999999 ∧ Lib.decDigits n = s := by
  unfold readD
  constructor
  · intro h
    split at h
    · injection h with h; subst h; assumption
    · cases h
  · rintro ⟨h1,rfl⟩
    rw [valD_dec,if_pos ⟨h1,rfl⟩]
theorem readD_none {s : List UInt8} (h : ∀ n,n ≤ 999999999999999 → Lib.decDigits n ≠ s) : readD s = none := by
  cases e : readD s with
  | none => rfl
  | some n => obtain ⟨h1,h2⟩ := readD_iff.1 e; exact absurd h2 (h n h1)
def decD (s : List UInt8) : D := .tup [.v (vI ((readD s).getD 0 : Nat)),.v (vB (readD s).isSome)]
theorem c108 (n : Nat) (hn : n ≤ 999999999999999) : Sem prog 108 ⟨[.v (vI n)],[none]⟩ ⟨[.dead,.v (vS (Lib.decDigits n))],[none]⟩ := by
  refine sem_fin (cfg := cfg 1) (ts := [.tm 2]) tbOk func108 rfl rfl rfl rfl (fun t h => by cases h) ?_
  have h7 := c107 n 0 999999999999999
  have hin : inB 0 999999999999999 n = true := by unfold inB; simp; omega
  rw [hin] at h7
  have h9 := c119 n (by omega) (by omega) (by rw [itoa_nat]; have := decDigits_len n; omega)
  rw [itoa_nat] at h9
  simp only [go_sem,Nat.reduceAdd,Nat.reduceSub,f108,cfg]
  refine ev_call h7 (retW0 rfl rfl rfl rfl) ?_
  simp only [go_sem,Nat.reduceAdd]
  refine ev_call h9 (retW0 rfl rfl rfl rfl) ?_
  simp only [go_sem,Nat.reduceAdd,Nat.reduceBNe]
  first | exact fin0 (.inr rfl) rfl rfl rfl rfl | trace_state
theorem c35a (l : List UInt8) (hl : l.length ≤ 1048576) (hlen : 1 ≤ l.length ∧ l.length ≤ 15) : Sem prog 35 ⟨[.v (vS l)],[none]⟩ ⟨[.dead,decD l],[none]⟩ := by
  refine sem_fin (cfg := cfg 1) (ts := [.tm 2,.tm 3]) tbOk func35 rfl rfl rfl rfl (fun t h => by cases h) ?_
  have hL : l.length ≤ 9223372036854775807 := by omega
  have z1 : ¬ ((l.length : Int) = 0) := by omega
  have z1b : ((l.length : Int) == 0) = false := by rw [beq_eq_false_iff_ne]; exact z1
  have z2 : ¬ ((15 : Int) < (l.length : Int)) := by omega
  have z3 : ¬ (15 < l.length) := by omega
  simp only [go_sem,Nat.reduceSub,f35,cfg,z1b,z2,hL]
  refine loop_on (fun i : Nat => ⟨[.v (vS l),.dead,.v (vI 0),.v (vB false),.v (vI (valD (l.take i) 0 : Nat)),.v (vI i),.dead,.dead,.dead,.dead,.dead,.dead,.dead,.dead,.dead,.dead,.dead,.dead,.dead,.dead,.dead,.dead,.dead,.dead,.dead,.dead,.dead,.dead,.dead,.dead,.dead,.dead,.dead,.dead,.dead,.dead,.dead,.dead],List.replicate 38 none⟩) [0,2,3,4,5] (fun i => i ≤ l.length ∧ (∀ b,b ∈ l.take i → 48 ≤ b.toNat ∧ b.toNat ≤ 57) ∧ valD (l.take i) 0 < 10 ^ i) (fun i => l.length - i) 0 rfl ⟨by omega,by simp,by simp [valD]⟩ ?_
  intro i ⟨hi,hall,hv1⟩
  have hv2 : valD (l.take i) 0 ≤ 999999999999999 := by
    have : (10 : Nat) ^ i ≤ 10 ^ 15 := Nat.pow_le_pow_right (by decide) (by omega)
    omega
  generalize hvv : valD (l.take i) 0 = v at hv1 hv2 ⊢
  simp only [go_sem]
  try (with_reducible intro hlen)
  by_cases hc : i < l.length
  · have hw := wrapN hc hL
    have hsn : valD (l.take (i + 1)) 0 = 10 * v + ((l.getD i 0).toNat - 48) := by rw [take_snoc hc,valD_snoc,hvv]
    cases hd : isDigitB (l.getD i 0).toNat
    · have hd' := (digit_no _).1 hd
      have hno : readD l = none := readD_none (by
        intro n _ e
        have hm : l.getD i 0 ∈ l := by
          rw [List.getD_eq_getElem?_getD,List.getElem?_eq_getElem hc]; exact List.getElem_mem hc
        rw [← e] at hm
        have := digs_all n _ hm
        rw [e] at this
        omega)
      simp only [go_sem,hc]
      refine ev_call (c84 _) (retW0 rfl rfl rfl rfl) ?_
      simp only [go_sem,Nat.reduceAdd,hd]
      first | (refine fin0 (.inr rfl) rfl rfl rfl ?_; unfold decD; rw [hno]; rfl) | trace_state
    · have hd' := (digit_iff _).1 hd
      have m1 : IntKind.i64.wrap ((v : Int) * 10) = (v : Int) * 10 := wrapI (by omega)
      have m2 : IntKind.u8.wrap (((l.getD i 0).toNat : Int) - 48) = ((l.getD i 0).toNat : Int) - 48 := w8 (by have := u255 (l.getD i 0); omega)
      have m3 : IntKind.i64.wrap (((l.getD i 0).toNat : Int) - 48) = ((l.getD i 0).toNat : Int) - 48 := wrapI (by have := u255 (l.getD i 0); omega)
      have m4 : IntKind.i64.wrap ((v : Int) * 10 + (((l.getD i 0).toNat : Int) - 48)) = ((valD (l.take (i + 1)) 0 : Nat) : Int) := by
        rw [wrapI (by have := u255 (l.getD i 0); omega),hsn]; omega
      simp only [go_sem,hc]
      refine ev_call (c84 _) (retW0 rfl rfl rfl rfl) ?_
      simp only [go_sem,Nat.reduceAdd,Nat.reduceBNe,hd,hc,m1,m2,m3,m4,hw]
      refine ⟨i + 1,by first | rfl | trace_state,⟨hc,?_,?_⟩,by omega⟩
      · rw [take_snoc hc]
        intro b hb
        rcases List.mem_append.1 hb with hb | hb
        · exact hall b hb
        · rw [List.mem_singleton] at hb; rw [hb]; omega
      · rw [hsn,Nat.pow_succ]; omega
  · have he : i = l.length := by omega
    subst he
    rw [List.take_length] at hvv hall
    have h85 := c85 v hv2
    cases hq : (Lib.decDigits v == l)
    · have hno : readD l = none := by
        unfold readD
        rw [hvv,if_neg]
        rintro ⟨_,e⟩
        rw [e] at hq
        simp at hq
      simp only [go_sem,hc]
      refine ev_call h85 (retW0 rfl rfl rfl rfl) ?_
      simp only [go_sem,Nat.reduceAdd,hq]
      first | (refine fin0 (.inr rfl) rfl rfl rfl ?_; unfold decD; rw [hno]; rfl) | trace_state
    · have hyes : readD l = some v := readD_iff.2 ⟨hv2,beq_iff_eq.1 hq⟩
      simp only [go_sem,hc]
      refine ev_call h85 (retW0 rfl rfl rfl rfl) ?_
      simp only [go_sem,Nat.reduceAdd,Nat.reduceBNe,hq]
      first | (refine fin0 (.inr rfl) rfl rfl rfl ?_; unfold decD; rw [hyes]; rfl) | trace_state
theorem c35b (l : List UInt8) (hl : l.length ≤ 1048576) (hlen : ¬ (1 ≤ l.length ∧ l.length ≤ 15)) : Sem prog 35 ⟨[.v (vS l)],[none]⟩ ⟨[.dead,decD l],[none]⟩ := by
  refine sem_fin (cfg := cfg 1) (ts := [.tm 2,.tm 3]) tbOk func35 rfl rfl rfl rfl (fun t h => by cases h) ?_
  have hL : l.length ≤ 9223372036854775807 := by omega
  have hno : readD l = none := readD_none (by
    intro n hn e
    have h1 := dec_len15 hn
    have h2 := dec_ne n
    rw [e] at h1 h2
    exact hlen ⟨by cases l with | nil => exact absurd rfl h2 | cons => simp,h1⟩)
  unfold decD
  rw [hno]
  simp only [go_sem,Nat.reduceSub,f35,cfg]
  repeat' ((first | with_reducible intro _ | split) <;> (try simp only [go_sem,reduceCtorEq, *]))
  all_goals first
    | exact fin0 (.inr rfl) rfl rfl rfl rfl
    | (exfalso; omega)
    | (exfalso; simp only [beq_eq_false_iff_ne,ne_eq] at *; omega)
    | trace_state
theorem c35 (l : List UInt8) (hl : l.length ≤ 1048576) : Sem prog 35 ⟨[.v (vS l)],[none]⟩ ⟨[.dead,decD l],[none]⟩ := by
  by_cases h : 1 ≤ l.length ∧ l.length ≤ 15
  · exact c35a l hl h
  · exact c35b l hl h
set_option maxRecDepth 100000
set_option maxHeartbeats 4000000
def fs26_0 : List (List Nat) := [[4,5,6,7,8,9,10,11,2],[5,6,7,8,9,10,11,2],[3,6,7,8,9,10,11,2],[3,4,5,7,8,9,10,11,2],[3,4,5,8,9,10,11,2],[3,4,6,9,10,11,2],[3,4,5,6,7,8,10,11,2],[3,4,5,6,8,11,2],[3,4,5,6,7,9,2],[]]
attribute [go_sem] fs26_0
def fs48_0 : List (List Nat) := [[4,5,6,7,8,9,10,11,12,13,14,2],[5,6,7,8,9,10,11,12,13,14,2],[3,6,7,8,9,10,11,12,13,14,2],[3,4,5,7,8,9,10,11,12,13,14,2],[3,4,5,8,9,10,11,12,13,14,2],[3,4,6,9,10,11,12,13,14,2],[3,4,5,6,7,8,10,11,12,13,14,2],[3,4,5,6,7,8,11,12,13,14,2],[3,4,5,6,7,9,12,13,14,2],[3,4,5,6,7,8,9,10,11,13,14,2],[3,4,5,6,8,9,10,11,14,2],[3,4,5,6,7,8,9,10,12,2],[]]
attribute [go_sem] fs48_0
def fs61_0 : List (List Nat) := [[4,5,6,7,8,9,10,11,12,13,14,15,16,17,18,19,20,21,22,23,24,25],[5,6,7,8,9,10,11,12,13,14,15,16,17,18,19,20,21,22,23,24,25],[3,6,7,8,9,10,11,12,13,14,15,16,17,18,19,20,21,22,23,24,25],[3,4,7,8,9,10,11,12,13,14,15,16,17,18,19,20,21,22,23,24,25],[3,4,8,9,10,11,12,13,14,15,16,17,18,19,20,21,22,23,24,25],[3,4,5,6,9,10,11,12,13,14,15,16,17,18,19,20,21,22,23,24,25],[3,4,5,6,10,11,12,13,14,15,16,17,18,19,20,21,22,23,24,25],[3,4,5,6,8,11,12,13,14,15,16,17,18,19,20,21,22,23,24,25],[3,4,5,6,8,9,12,13,14,15,16,17,18,19,20,21,22,23,24,25],[3,4,5,6,8,9,10,13,14,15,16,17,18,19,20,21,22,23,24,25],[3,4,5,6,7,8,9,11,14,15,16,17,18,19,20,21,22,23,24,25],[3,4,5,6,7,8,9,10,11,12,15,16,17,18,19,20,21,22,23,24,25],[3,4,5,6,7,8,9,10,11,12,16,17,18,19,20,21,22,23,24,25],[3,4,5,6,7,8,9,10,11,12,14,17,18,19,20,21,22,23,24,25],[3,4,5,6,7,8,9,10,11,12,14,15,18,19,20,21,22,23,24,25],[3,4,5,6,7,8,9,10,11,12,14,15,16,19,20,21,22,23,24,25],[3,4,5,6,7,8,9,10,11,12,13,14,15,16,17,20,21,22,23,24,25],[3,4,5,6,7,8,9,10,11,12,13,14,15,16,17,21,22,23,24,25],[3,4,5,6,7,8,9,10,11,12,13,14,15,16,17,19,22,23,24,25],[3,4,5,6,7,8,9,10,11,12,13,14,15,16,17,19,20,21,23,24,25],[3,4,5,6,7,8,9,10,11,12,13,14,15,16,17,19,20,21,24,25],[3,4,5,6,7,8,9,10,11,12,13,14,15,16,17,19,20,22,25],[3,4,5,6,7,8,9,10,11,12,13,14,15,16,17,19,20,21,22,23]]
attribute [go_sem] fs61_0
def fs37_0 : List (List Nat) := [[4,5,6,7,8,9,10,11,12,13,14,15,16,17,18,19,20,21,22,23,24,25,26,27,28,29,30,31,32,33,34,35,36,37,38,39],[5,6,7,8,9,10,11,12,13,14,15,16,17,18,19,20,21,22,23,24,25,26,27,28,29,30,31,32,33,34,35,36,37,38,39],[3,6,7,8,9,10,11,12,13,14,15,16,17,18,19,20,21,22,23,24,25,26,27,28,29,30,31,32,33,34,35,36,37,38,39],[3,4,7,8,9,10,11,12,13,14,15,16,17,18,19,20,21,22,23,24,25,26,27,28,29,30,31,32,33,34,35,36,37,38,39],[3,4,8,9,10,11,12,13,14,15,16,17,18,19,20,21,22,23,24,25,26,27,28,29,30,31,32,33,34,35,36,37,38,39],[3,4,5,6,9,10,11,12,13,14,15,16,17,18,19,20,21,22,23,24,25,26,27,28,29,30,31,32,33,34,35,36,37,38,39],[3,4,5,6,10,11,12,13,14,15,16,17,18,19,20,21,22,23,24,25,26,27,28,29,30,31,32,33,34,35,36,37,38,39],[3,4,5,6,8,11,12,13,14,15,16,17,18,19,20,21,22,23,24,25,26,27,28,29,30,31,32,33,34,35,36,37,38,39],[3,4,5,6,8,9,12,13,14,15,16,17,18,19,20,21,22,23,24,25,26,27,28,29,30,31,32,33,34,35,36,37,38,39],[3,4,5,6,8,9,10,13,14,15,16,17,18,19,20,21,22,23,24,25,26,27,28,29,30,31,32,33,34,35,36,37,38,39],[3,4,5,6,7,8,9,10,11,14,15,16,17,18,19,20,21,22,23,24,25,26,27,28,29,30,31,32,33,34,35,36,37,38,39],[3,4,5,6,7,8,9,10,11,15,16,17,18,19,20,21,22,23,24,25,26,27,28,29,30,31,32,33,34,35,36,37,38,39],[3,4,5,6,7,8,9,10,11,13,16,17,18,19,20,21,22,23,24,25,26,27,28,29,30,31,32,33,34,35,36,37,38,39],[3,4,5,6,7,8,9,10,11,13,14,17,18,19,20,21,22,23,24,25,26,27,28,29,30,31,32,33,34,35,36,37,38,39],[3,4,5,6,7,8,9,10,11,13,14,15,18,19,20,21,22,23,24,25,26,27,28,29,30,31,32,33,34,35,36,37,38,39],[3,4,5,6,7,8,9,10,11,12,13,14,15,16,19,20,21,22,23,24,25,26,27,28,29,30,31,32,33,34,35,36,37,38,39],[3,4,5,6,7,8,9,10,11,12,13,14,15,16,20,21,22,23,24,25,26,27,28,29,30,31,32,33,34,35,36,37,38,39],[3,4,5,6,7,8,9,10,11,12,13,14,15,16,18,21,22,23,24,25,26,27,28,29,30,31,32,33,34,35,36,37,38,39],[3,4,5,6,7,8,9,10,11,12,13,14,15,16,18,19,22,23,24,25,26,27,28,29,30,31,32,33,34,35,36,37,38,39],[3,4,5,6,7,8,9,10,11,12,13,14,15,16,18,19,20,23,24,25,26,27,28,29,30,31,32,33,34,35,36,37,38,39],[3,4,5,6,7,8,9,10,11,12,13,14,15,16,17,18,19,20,21,24,25,26,27,28,29,30,31,32,33,34,35,36,37,38,39],[3,4,5,6,7,8,9,10,11,12,13,14,15,16,17,18,19,20,21,25,26,27,28,29,30,31,32,33,34,35,36,37,38,39],[3,4,5,6,7,8,9,10,11,12,13,14,15,16,17,18,19,20,21,23,26,27,28,29,30,31,32,33,34,35,36,37,38,39],[3,4,5,6,7,8,9,10,11,12,13,14,15,16,17,18,19,20,21,23,24,25,27,28,29,30,31,32,33,34,35,36,37,38,39],[3,4,5,6,7,8,9,10,11,12,13,14,15,16,17,18,19,20,21,23,24,25,28,29,30,31,32,33,34,35,36,37,38,39],[3,4,5,6,7,8,9,10,11,12,13,14,15,16,17,18,19,20,21,23,24,26,29,30,31,32,33,34,35,36,37,38,39],[3,4,5,6,7,8,9,10,11,12,13,14,15,16,17,18,19,20,21,23,24,25,26,27,30,31,32,33,34,35,36,37,38,39],[3,4,5,6,7,8,9,10,11,12,13,14,15,16,17,18,19,20,21,22,23,24,26,27,28,31,32,33,34,35,36,37,38,39],[3,4,5,6,7,8,9,10,11,12,13,14,15,16,17,18,19,20,21,22,23,24,25,26,27,28,29,32,33,34,35,36,37,38,39],[3,4,5,6,7,8,9,10,11,12,13,14,15,16,17,18,19,20,21,22,23,24,25,26,27,28,29,33,34,35,36,37,38,39],[3,4,5,6,7,8,9,10,11,12,13,14,15,16,17,18,19,20,21,22,23,24,25,26,27,28,29,31,34,35,36,37,38,39],[3,4,5,6,7,8,9,10,11,12,13,14,15,16,17,18,19,20,21,22,23,24,25,26,27,28,29,31,32,35,36,37,38,39],[3,4,5,6,7,8,9,10,11,12,13,14,15,16,17,18,19,20,21,22,23,24,25,26,27,28,29,30,31,32,33,36,37,38,39],[3,4,5,6,7,8,9,10,11,12,13,14,15,16,17,18,19,20,21,22,23,24,25,26,27,28,29,30,31,32,33,37,38,39],[3,4,5,6,7,8,9,10,11,12,13,14,15,16,17,18,19,20,21,22,23,24,25,26,27,28,29,30,31,32,33,35,38,39],[3,4,5,6,7,8,9,10,11,12,13,14,15,16,17,18,19,20,21,22,23,24,25,26,27,28,29,31,32,33,35,36,39],[3,4,5,6,7,8,9,10,11,12,13,14,15,16,17,18,19,20,21,22,23,24,25,26,27,28,29,31,32,33,34,35,36,37]]
attribute [go_sem] fs37_0
def fs37_1 : List (List Nat) := [[41,42,43,44,45,46,47,48,49,50,51,52,53,54,55,56,57,58,59,60,61,62],[42,43,44,45,46,47,48,49,50,51,52,53,54,55,56,57,58,59,60,61,62],[40,43,44,45,46,47,48,49,50,51,52,53,54,55,56,57,58,59,60,61,62],[40,41,44,45,46,47,48,49,50,51,52,53,54,55,56,57,58,59,60,61,62],[40,41,42,45,46,47,48,49,50,51,52,53,54,55,56,57,58,59,60,61,62],[40,41,42,43,46,47,48,49,50,51,52,53,54,55,56,57,58,59,60,61,62],[40,41,42,43,47,48,49,50,51,52,53,54,55,56,57,58,59,60,61,62],[40,41,42,43,45,48,49,50,51,52,53,54,55,56,57,58,59,60,61,62],[40,41,42,43,45,46,49,50,51,52,53,54,55,56,57,58,59,60,61,62],[40,41,42,43,44,45,46,47,50,51,52,53,54,55,56,57,58,59,60,61,62],[40,41,42,43,44,45,46,47,51,52,53,54,55,56,57,58,59,60,61,62],[40,41,42,43,44,45,46,47,49,52,53,54,55,56,57,58,59,60,61,62],[40,41,42,43,44,45,46,47,49,50,53,54,55,56,57,58,59,60,61,62],[40,41,42,43,45,46,47,49,50,51,54,55,56,57,58,59,60,61,62],[40,41,42,43,45,46,47,48,49,50,51,52,55,56,57,58,59,60,61,62],[40,41,42,43,44,45,46,47,48,49,50,52,53,56,57,58,59,60,61,62],[40,41,42,43,44,45,46,47,48,49,50,51,52,53,54,57,58,59,60,61,62],[40,41,42,43,44,45,46,47,48,49,50,51,52,53,54,58,59,60,61,62],[40,41,42,43,44,45,46,47,48,49,50,51,52,53,54,56,59,60,61,62],[40,41,42,43,44,45,46,47,48,49,50,51,52,53,54,56,57,58,60,61,62],[40,41,42,43,44,45,46,47,48,49,50,51,52,53,54,56,57,58,61,62],[40,41,42,43,44,45,46,47,48,49,50,51,52,53,54,56,57,59,62],[40,41,42,43,44,45,46,47,48,49,50,51,52,53,54,56,57,58,59,60]]
attribute [go_sem] fs37_1
def portB (p : Nat) : List UInt8 := if ((p : Int) == 80) = true then [] else 58 :: Lib.decDigits p
def queryB (q : List UInt8) (b : Bool) : List UInt8 := if b then 63 :: q else []
def httpB : List UInt8 := [104,116,116,112,58,47,47]
def urlT (ho : List UInt8) (p : Nat) (pa q : List UInt8) (b : Bool) : List UInt8 := httpB ++ ho ++ portB p ++ (pa ++ queryB q b)
abbrev urlD (ho : List UInt8) (p : Nat) (pa q : List UInt8) (b : Bool) : D := .agg [.v (vS ho),.v (vI p),.v (vS pa),.v (vS q),.v (vB b)]
theorem port_len (p : Nat) (h : p ≤ 999999999999999) : (portB p).length ≤ 16 := by
  have := dec_len15 h
  unfold portB
  split <;> simp <;> omega
theorem query_len (q : List UInt8) (b : Bool) : (queryB q b).length ≤ q.length + 1 := by unfold queryB; split <;> simp
section
variable (ho : List UInt8) (p : Nat) (pa q : List UInt8) (b : Bool)
theorem c79 (hp : p ≤ 999999999999999) : Sem prog 79 ⟨[urlD ho p pa q b],[none]⟩ ⟨[.dead,.v (vS (portB p))],[none]⟩ := by
  unfold portB
  have h1 := dec_len15 hp
  have h2 := c119 p (by omega) (by omega) (by rw [itoa_nat]; omega)
  rw [itoa_nat] at h2
  cases h : (p : Int) == 80
  · refine sb 1 [.tm 2] func79 ?_
    refine call0 h2 ?_
    exact sid fz
  · refine sb 1 [.tm 2] func79 ?_
    exact fz
theorem c47 (hp : p ≤ 999999999999999) : Sem prog 47 ⟨[urlD ho p pa q b],[none]⟩ ⟨[.dead,.v (vS (portB p))],[none]⟩ := by
  unfold portB
  have h1 := dec_len15 hp
  cases h : (p : Int) == 80
  · refine sb 1 [.tm 2] func47 ?_
    refine call0 (c85 p hp) ?_
    exact sid fz
  · refine sb 1 [.tm 2] func47 ?_
    exact fz
theorem c80 (h1 : pa.length ≤ 1048576) (h2 : q.length ≤ 1048576) : Sem prog 80 ⟨[urlD ho p pa q b],[none]⟩ ⟨[.dead,.v (vS (pa ++ queryB q b))],[none]⟩ := by
  cases b
  · rw [show pa ++ queryB q false = pa from List.append_nil _]
    refine sb 1 [.tm 2] func80 ?_
    exact fz
  · rw [show pa ++ queryB q true = pa ++ [63] ++ q by simp [queryB]]
    refine sb 1 [.tm 2] func80 ?_
    exact sid (sid fz)
theorem c97 (h2 : q.length ≤ 1048576) : Sem prog 97 ⟨[urlD ho p pa q b],[none]⟩ ⟨[.dead,.v (vS (queryB q b))],[none]⟩ := by
  cases b
  · refine sb 1 [.tm 2] func97 ?_
    exact fz
  · refine sb 1 [.tm 2] func97 ?_
    exact sid fz
theorem c26 (h0 : ho.length ≤ 1048576) (hp : p ≤ 999999999999999) (h1 : pa.length ≤ 1048576) (h2 : q.length ≤ 1048576) : Sem prog 26 ⟨[urlD ho p pa q b],[none]⟩ ⟨[.dead,.v (vS (urlT ho p pa q b))],[none]⟩ := by
  have h3 := port_len p hp
  have h4 := query_len q b
  have h5 := c79 ho p pa q b hp
  have h6 := c80 ho p pa q b h1 h2
  have h7 : (7 + ho.length) ≤ 9223372036854775807 := by omega
  refine sb 1 [.tm 2] func26 ?_
  refine draw_intro 10 fs26_0 mixedOk rfl ?_
  refine Z ?_
  refine drawn0 h5 ?_
  refine sid ?_
  refine drawn0 h6 ?_
  exact sid fz
theorem urlT_len (hp : p ≤ 999999999999999) : (urlT ho p pa q b).length ≤ 24 + ho.length + pa.length + q.length := by
  have h3 := port_len p hp
  have h4 := query_len q b
  simp only [urlT,httpB,List.length_append,List.length_cons,List.length_nil]
  omega
theorem c48 (h0 : ho.length ≤ 1048576) (hp : p ≤ 999999999999999) (h1 : pa.length ≤ 1048576) (h2 : q.length ≤ 1048576) : Sem prog 48 ⟨[urlD ho p pa q b],[none]⟩ ⟨[.dead,.v (vS (urlT ho p pa q b))],[none]⟩ := by
  have h3 := port_len p hp
  have h4 := query_len q b
  have h7 : (7 + ho.length) ≤ 9223372036854775807 := by omega
  have e : urlT ho p pa q b = httpB ++ ho ++ portB p ++ pa ++ queryB q b := (List.append_assoc _ _ _).symm
  rw [e]
  refine sb 1 [.tm 2] func48 ?_
  refine draw_intro 13 fs48_0 mixedOk rfl ?_
  refine Z ?_
  refine drawn0 (c47 ho p pa q b hp) ?_
  refine sid (sid ?_)
  refine drawn0 (c97 ho p pa q b h2) ?_
  exact sid fz
def urlB : Bool := hostB ho && inB 1 65535 p && !(pa == []) && (cleanB pa == pa) && ((q.all fun c => visB c.toNat) && !(q.contains 35) && (b || q == [])) && decide (((urlT ho p pa q b).length : Int) ≤ 200)
theorem urlT_le (h0 : ho.length ≤ 1048576) (hp : p ≤ 999999999999999) (h1 : pa.length ≤ 1048576) (h2 : q.length ≤ 1048576) : (urlT ho p pa q b).length ≤ 9223372036854775807 := by
  have := urlT_len ho p pa q b hp
  omega
theorem c61 (h0 : ho.length ≤ 1048576) (hp : p ≤ 999999999999999) (h1 : pa.length ≤ 1048576) (h2 : q.length ≤ 1048576) : Sem prog 61 ⟨[urlD ho p pa q b],[none]⟩ ⟨[.dead,.v (vB (urlB ho p pa q b))],[none]⟩ := by
  unfold urlB
  have hu := fun b => urlT_le ho p pa q b h0 hp h1 h2
  refine sb 1 [.tm 2] func61 ?_
  refine draw_intro 23 fs61_0 mixedOk rfl ?_
  refine Z ?_
  refine drawn0 (c114 ho h0) ?_
  refine bc (hostB ho) (fun e1 => ?_) fun e1 => ?_
  · refine Z ?_
    exact fzs
  refine Z ?_
  refine drawn0 (c107 p 1 65535) ?_
  refine bc (inB 1 65535 p) (fun e2 => ?_) fun e2 => ?_
  · refine Z ?_
    exact fzs
  refine bc (pa == []) (fun e3 => ?_) fun e3 => ?_
  · refine Z ?_
    refine drawn0 (c60 pa (by omega)) ?_
    refine bc (cleanB pa == pa) (fun e4 => ?_) fun e4 => ?_
    · refine Z ?_
      exact fzs
    refine Z ?_
    refine call0 (c52 q 53 visB rfl rfl c53 (by omega)) ?_
    refine bc (q.all fun c => visB c.toNat) (fun e5 => ?_) fun e5 => ?_
    · refine Z ?_
      exact fzs
    refine Z ?_
    refine call0 (c54 q 35) ?_
    refine bc (q.contains 35) (fun e6 => ?_) fun e6 => ?_
    · refine bc b (fun e7 => ?_) fun e7 => ?_
      · subst e7
        refine bc (q == []) (fun e8 => ?_) fun e8 => ?_
        · refine Z ?_
          exact fzs
        · refine Z ?_
          refine call0 (c26 ho p pa q false h0 hp h1 h2) ?_
          exact fzs
      · subst e7
        refine Z ?_
        refine call0 (c26 ho p pa q true h0 hp h1 h2) ?_
        exact fzs
    · refine Z ?_
      exact fzs
  · refine Z ?_
    exact fzs
theorem in_t {a c n : Int} (h : inB a c n = true) : ¬ n < a ∧ ¬ c < n := by unfold inB at h; simp at h; omega
theorem in_f {a c n : Int} (h : inB a c n = false) : n < a ∨ (¬ n < a ∧ c < n) := by unfold inB at h; simp at h; omega
theorem upto_eq {c : UInt8} {s : List UInt8} : (upto c s == s) = !(s.contains c) := by
  cases h : s.contains c
  · rw [(upto_all h).1]; simp
  · rw [Bool.not_true,beq_eq_false_iff_ne]
    intro e
    have hm : c ∈ upto c s := by rw [e]; exact List.contains_iff_mem.1 h
    have := List.all_eq_true.1 (List.all_takeWhile (p := fun b => b != c) (l := s)) c hm
    simp at this
theorem c37 (h0 : ho.length ≤ 1048576) (hp : p ≤ 999999999999999) (h1 : pa.length ≤ 1048576) (h2 : q.length ≤ 1048576) : Sem prog 37 ⟨[urlD ho p pa q b],[none]⟩ ⟨[.dead,.v (vB (urlB ho p pa q b))],[none]⟩ := by
  unfold urlB
  have hu := fun b => urlT_le ho p pa q b h0 hp h1 h2
  have hq : q.length ≤ 9223372036854775807 := by omega
  refine sb 1 [.tm 2] func37 ?_
  refine draw_intro 37 fs37_0 mixedOk rfl ?_
  refine Z ?_
  refine drawn0 (c88 ho h0) ?_
  refine bc (hostB ho) (fun e1 => ?_) fun e1 => ?_
  · refine Z ?_
    exact fzs
  refine bc (inB 1 65535 p) (fun e2 => ?_) fun e2 => ?_
  · refine Or.elim (in_f e2) (fun p1 => ?_) fun p1 => ?_
    · refine Z ?_
      exact fzs
    · refine Z ?_
      exact fzs
  have pp := in_t e2
  refine bc (pa == []) (fun e3 => ?_) fun e3 => ?_
  · refine Z ?_
    refine drawn0 (c36 pa (by omega)) ?_
    refine bc (cleanB pa == pa) (fun e4 => ?_) fun e4 => ?_
    · refine Z ?_
      exact fzs
    refine bc b (fun e7 => ?_) fun e7 => ?_
    · refine bc (q == []) (fun e8 => ?_) fun e8 => ?_
      · refine Z ?_
        exact fzs
      · have z : q = [] := beq_iff_eq.1 e8
        refine Z ?_
        refine draw_intro 23 fs37_1 mixedOk rfl ?_
        have hup : upto 35 [] = [] := rfl
        have hu0 := urlT_le ho p pa [] false h0 hp h1 (by decide)
        refine Z ?_
        refine drawn0 (c33 [] 35 (by decide)) ?_
        refine call0 (c48 ho p pa [] false h0 hp h1 (by decide)) ?_
        exact fzs
    · refine Z ?_
      refine draw_intro 23 fs37_1 mixedOk rfl ?_
      have hup : (upto 35 q == q) = !(q.contains 35) := upto_eq
      refine bc (decide ((200 : Int) < q.length)) (fun e9 => ?_) fun e9 => ?_
      · have e9' : ¬ (200 : Int) < q.length := of_decide_eq_false e9
        refine bc (q == []) (fun e8 => ?_) fun e8 => ?_
        · have hne : 0 < q.length := by rw [beq_eq_false_iff_ne] at e8; exact List.length_pos_iff.2 e8
          refine Z ?_
          refine drawn0 (c32 q hq) ?_
          refine bc (q.all fun c => visB c.toNat) (fun e5 => ?_) fun e5 => ?_
          · refine Z ?_
            exact fzs
          · refine Z ?_
            refine drawn0 (c33 q 35 (by omega)) ?_
            refine bc (q.contains 35) (fun e6 => ?_) fun e6 => ?_
            · refine Z ?_
              refine call0 (c48 ho p pa q true h0 hp h1 h2) ?_
              exact fzs
            · refine Z ?_
              exact fzs
        · have z : q = [] := beq_iff_eq.1 e8
          have hup : upto 35 [] = [] := rfl
          have hu0 := urlT_le ho p pa [] true h0 hp h1 (by decide)
          refine Z ?_
          refine drawn0 (c33 [] 35 (by decide)) ?_
          refine call0 (c48 ho p pa [] true h0 hp h1 (by decide)) ?_
          exact fzs
      · have e9' : (200 : Int) < q.length := of_decide_eq_true e9
        have hbig : ¬ ((urlT ho p pa q true).length : Int) ≤ 200 := by
          simp only [urlT,queryB,List.length_append,if_true,List.length_cons]
          omega
        refine Z ?_
        exact fzs
  · refine Z ?_
    exact fzs
end
end Go.Proofs.YtplagdnnnkdlnaaGreatDoor.Fw
/- Plain law: an address read. -/
namespace Go.Proofs.YtplagdnnnkdlnaaGreatDoor.Fw
open Go
set_option linter.unusedVariables false
theorem upto_le (c : UInt8) (s : List UInt8) : (upto c s).length ≤ s.length := (List.takeWhile_sublist _).length_le
theorem upto_cons_eq {c : UInt8} {s : List UInt8} : upto c (c :: s) = [] := by simp [upto]
theorem upto_cons_ne {c b : UInt8} {s : List UInt8} (h : b ≠ c) : upto c (b :: s) = b :: upto c s := by simp [upto,h]
theorem behind_cons_eq {c : UInt8} {s : List UInt8} : behind c (c :: s) = s := by simp [behind]
theorem behind_cons_ne {c b : UInt8} {s : List UInt8} (h : b ≠ c) : behind c (b :: s) = behind c s := by simp [behind,h]
theorem upto_take (c : UInt8) : ∀ s : List UInt8,s.take (upto c s).length = upto c s
  | [] => rfl
  | b :: s => by
    by_cases h : b = c
    · subst h; rw [upto_cons_eq]; rfl
    · rw [upto_cons_ne h,List.length_cons,List.take_succ_cons,upto_take c s]
theorem upto_lt (c : UInt8) : ∀ s : List UInt8,s.contains c = decide ((upto c s).length < s.length)
  | [] => by simp [upto]
  | b :: s => by
    by_cases h : b = c
    · subst h; rw [upto_cons_eq]; simp
    · rw [upto_cons_ne h,List.contains_cons,upto_lt c s]
      have : (c == b) = false := by rw [beq_eq_false_iff_ne]; exact fun e => h e.symm
      rw [this,Bool.false_or]
      simp
theorem behind_drop (c : UInt8) : ∀ s : List UInt8,behind c s = s.drop ((upto c s).length + 1)
  | [] => by simp [behind]
  | b :: s => by
    by_cases h : b = c
    · subst h; rw [behind_cons_eq,upto_cons_eq]; rfl
    · rw [behind_cons_ne h,upto_cons_ne h,behind_drop c s,List.length_cons,List.drop_succ_cons]
def authB (r : List UInt8) : List UInt8 := upto 47 (upto 63 r)
theorem auth_front (r : List UInt8) : (authB r).length ≤ (upto 63 r).length := upto_le _ _
theorem auth_le (r : List UInt8) : (authB r).length ≤ r.length := Nat.le_trans (auth_front r) (upto_le _ _)
theorem index_auth : ∀ r : List UInt8,Lib.indexAny r [47,63] = if (authB r).length < r.length then ((authB r).length : Int) else -1
  | [] => by simp [Lib.indexAny,authB,upto]
  | b :: r => by
    have ih := index_auth r
    rw [Lib.indexAny]
    by_cases h1 : b = 63
    · subst h1
      rw [if_pos (by decide),authB,upto_cons_eq]; simp [upto]
    by_cases h2 : b = 47
    · subst h2
      rw [if_pos (by decide),authB,upto_cons_ne h1,upto_cons_eq]; simp
    have e : authB (b :: r) = b :: authB r := by rw [authB,upto_cons_ne h1,upto_cons_ne h2]; rfl
    rw [if_neg (by simp [h1,h2]),ih,e]
    simp only [List.length_cons]
    split
    · rw [if_neg (by rw [beq_iff_eq]; omega),if_pos (by omega)]; rfl
    · rw [if_pos (by simp),if_neg (by omega)]
theorem auth_take (r : List UInt8) : r.take (authB r).length = authB r := by
  have h1 := upto_take 63 r
  have h2 := upto_take 47 (upto 63 r)
  have h3 := auth_front r
  calc r.take (authB r).length = (r.take (upto 63 r).length).take (authB r).length := by rw [List.take_take,Nat.min_eq_left h3]
    _ = authB r := by rw [h1]; exact h2
theorem upto_drop (c : UInt8) : ∀ (n : Nat) (s : List UInt8),n ≤ (upto c s).length → upto c (s.drop n) = (upto c s).drop n
  | 0,s,_ => rfl
  | n + 1,[],h => by simp [upto]
  | n + 1,b :: s,h => by
    by_cases hb : b = c
    · subst hb; rw [upto_cons_eq] at h; simp at h
    · rw [upto_cons_ne hb] at h ⊢
      rw [List.drop_succ_cons,List.drop_succ_cons,upto_drop c n s (by simpa using h)]
structure Adr where
  ho : List UInt8
  p : Nat
  pa : List UInt8
  q : List UInt8
  b : Bool
def headB (s : List UInt8) : Bool := decide (s.length ≤ 200) && (s.all fun b => visB b.toNat) && !(s.contains 35) && decide (7 ≤ s.length) && (foldB (s.take 7) == httpB)
theorem auth_parts (r : List UInt8) : upto 63 (r.drop (authB r).length) = (upto 63 r).drop (authB r).length ∧ (r.drop (authB r).length).contains 63 = decide ((upto 63 r).length < r.length) ∧ behind 63 (r.drop (authB r).length) = r.drop ((upto 63 r).length + 1) := by
  have h1 := auth_front r
  have h2 := upto_le 63 r
  have h3 := upto_drop 63 (authB r).length r h1
  refine ⟨h3,?_,?_⟩
  · rw [upto_lt,h3,List.length_drop,List.length_drop,decide_eq_decide]; omega
  · rw [behind_drop,h3,List.length_drop,List.drop_drop]
    congr 1; omega
def portR (au : List UInt8) : Option Nat := if au.contains 58 = true then readD (behind 58 au) else some 80
def pathR (r : List UInt8) : List UInt8 := if (authB r).length < (upto 63 r).length then cleanB ((upto 63 r).drop (authB r).length) else [47]
def hasR (r : List UInt8) : Bool := decide ((upto 63 r).length < r.length)
def queryR (r : List UInt8) : List UInt8 := if hasR r then r.drop ((upto 63 r).length + 1) else []
def hostR (r : List UInt8) : List UInt8 := foldB (upto 58 (authB r))
def readU (s : List UInt8) : Option Adr := if headB s = true then
  match portR (authB (s.drop 7)) with
  | none => none
  | some p => if urlB (hostR (s.drop 7)) p (pathR (s.drop 7)) (queryR (s.drop 7)) (hasR (s.drop 7)) = true then some ⟨hostR (s.drop 7),p,pathR (s.drop 7),queryR (s.drop 7),hasR (s.drop 7)⟩ else none
  else none
end Go.Proofs.YtplagdnnnkdlnaaGreatDoor.Fw
/- Contracts: ReadDec, over strconv.Atoi. -/
namespace Go.Proofs.YtplagdnnnkdlnaaGreatDoor.Fw
open Go Go.Proofs Go.Shelf
open Go.RowKit (Below)
set_option maxRecDepth 100000
set_option linter.unusedVariables false
set_option linter.unusedSimpArgs false
theorem errVars {w0 : World} {L : Nat → Nat → Prop} {E : Env} {a : Act} {F : Lf → Nat → Prop} {loc : Nat → Nat × Nat} {M : Nat → Prop} (R : Rel w0 L ⟨Tryz.prog,E,a,w0,F,loc,M⟩) :
    (∃ ev,w0.cell? ⟨1,0,none⟩ = some ev ∧ (ev = .nilIface ∨ ∃ te pe,ev = .iface te pe)) ∧ ∃ ev,w0.cell? ⟨2,0,none⟩ = some ev ∧ (ev = .nilIface ∨ ∃ te pe,ev = .iface te pe) := by
  obtain ⟨B,hB,hL,hg⟩ := R.glob
  have h := (hg w0 (fun _ _ => rfl)).2
  exact ⟨h _ (List.mem_cons_of_mem _ List.mem_cons_self) 1 (by kernel_rfl),h _ (List.mem_cons_of_mem _ (List.mem_cons_of_mem _ List.mem_cons_self)) 2 (by kernel_rfl)⟩
theorem glob_at {w0 w1 : World} {L : Nat → Nat → Prop} {E : Env} {a : Act} {F : Lf → Nat → Prop} {loc : Nat → Nat × Nat} {M : Nat → Prop} (R : Rel w0 L ⟨Tryz.prog,E,a,w0,F,loc,M⟩) (h : Below w0.heap.size w0 w1) : GlobOk Tryz.prog w1 := by
  obtain ⟨B,hB,hL,hg⟩ := R.glob
  exact hg w1 fun b hb => h.block b (by omega)
theorem calls107 (n : Int) (w : World) (hg : GlobOk Tryz.prog w) : Calls Tryz.prog 107 #[.int .i64 n,.int .i64 0,.int .i64 999999999999999] w fun e w' => e = .returned (.bool (inB 0 999999999999999 n)) ∧ Below w.heap.size w w' := by
  refine calls_of_sem (ds := [.v (vI n),.v (vI 0),.v (vI 999999999999999)]) (c107 n 0 999999999999999) (enter_of Tryz.func107 rfl rfl) hg rfl ?_ rfl
  intro i d h
  match i,h with
  | 0,h => cases h; exact .comp _ _ rfl (.leaf _ _ _ rfl rfl (.v _ _ rfl))
  | 1,h => cases h; exact .comp _ _ rfl (.leaf _ _ _ rfl rfl (.v _ _ rfl))
  | 2,h => cases h; exact .comp _ _ rfl (.leaf _ _ _ rfl rfl (.v _ _ rfl))
  | n + 3,h => simp at h
theorem calls108 (n : Nat) (hn : n ≤ 999999999999999) (w : World) (hg : GlobOk Tryz.prog w) : Calls Tryz.prog 108 #[.int .i64 (n : Int)] w fun e w' => e = .returned (.string (ofL (Lib.decDigits n))) ∧ Below w.heap.size w w' := by
  refine calls_of_sem (ds := [.v (vI n)]) (c108 n hn) (enter_of Tryz.func108 rfl rfl) hg rfl ?_ rfl
  intro i d h
  match i,h with
  | 0,h => cases h; exact .comp _ _ rfl (.leaf _ _ _ rfl rfl (.v _ _ rfl))
  | n + 1,h => simp at h
theorem calls59_bad (s : List UInt8) (hl : s.length ≤ 1048576) (n1 : Lib.atoiAll s ≠ .range) (n2 : ∀ v,Lib.atoiAll s ≠ .ok v) (ev : Value) (w : World) (hv : w.cell? ⟨1,0,none⟩ = some ev) (hev : ev = .nilIface ∨ ∃ te pe,ev = .iface te pe) :
    Calls Tryz.prog 59 #[.string (ofL s)] w fun e w' => e = .returned (.tuple #[.int .i64 0,.bool false]) ∧ Below w.heap.size w w' := by
  cases h : Lib.atoiAll s with
  | range => exact absurd h n1
  | ok v => exact absurd h (n2 v)
  | _ =>
    go_enter Tryz.func59,Tryz.ntmps59
    go_wp2_with (go_at_call 106; refine (Any.strconv_Atoi_syntax lib_laysC172 (ofL s) (by show s.length ≤ _; omega) h ev _ ?_ hev).mono ?_)
    · exact hv
    rintro e W1 ⟨N,rfl,-,-,hb⟩
    go_wp2
    go_ret2
    exact ⟨rfl,hb⟩
theorem calls59_range (s : List UInt8) (hl : s.length ≤ 1048576) (h : Lib.atoiAll s = .range) (ev : Value) (w : World) (hv : w.cell? ⟨2,0,none⟩ = some ev) (hev : ev = .nilIface ∨ ∃ te pe,ev = .iface te pe) :
    Calls Tryz.prog 59 #[.string (ofL s)] w fun e w' => e = .returned (.tuple #[.int .i64 0,.bool false]) ∧ Below w.heap.size w w' := by
  go_enter Tryz.func59,Tryz.ntmps59
  go_wp2_with (go_at_call 106; refine (Any.strconv_Atoi_range lib_laysC172 (ofL s) (by show s.length ≤ _; omega) h ev _ ?_ hev).mono ?_)
  · exact hv
  rintro e W1 ⟨N,rfl,-,-,hb⟩
  go_wp2
  go_ret2
  exact ⟨rfl,hb⟩
theorem below_bytes {w w' : World} {T : TypeId} (h : w' = w ∨ ∃ t,w' = Lib.bytesWorld w T t) : Below w.heap.size w w' := by
  rcases h with rfl | ⟨t,rfl⟩
  · exact Below.refl _ _
  · exact Lib.bytesWorld_below _ _ _
theorem calls59_out (s : List UInt8) (hl : s.length ≤ 1048576) (v : Int) (h : Lib.atoiAll s = .ok v) (hn : inB 0 999999999999999 v = false) (w : World) (hg : ∀ w',Below w.heap.size w w' → GlobOk Tryz.prog w') :
    Calls Tryz.prog 59 #[.string (ofL s)] w fun e w' => e = .returned (.tuple #[.int .i64 0,.bool false]) ∧ Below w.heap.size w w' := by
  go_enter Tryz.func59,Tryz.ntmps59
  go_wp2_with (go_at_call 106; refine (Any.strconv_Atoi_ok lib_laysC172 (ofL s) (by show s.length ≤ _; omega) v h _).mono ?_)
  rintro e W1 ⟨rfl,hW⟩
  have hb := below_bytes hW
  have h7 := calls107 v W1 (hg _ hb)
  rw [hn] at h7
  go_wp2_with (go_at_call 107; refine h7.mono ?_)
  rintro e W2 ⟨rfl,hb2⟩
  have hb3 := hb.trans (hb2.mono hb.size)
  go_wp2
  go_ret2
  exact ⟨rfl,hb3⟩
theorem calls59_in (s : List UInt8) (hl : s.length ≤ 1048576) (n : Nat) (h : Lib.atoiAll s = .ok (n : Int)) (hn : n ≤ 999999999999999) (hne : ((ofL (Lib.decDigits n)).toList == (ofL s).toList) = false) (w : World) (hg : ∀ w',Below w.heap.size w w' → GlobOk Tryz.prog w') :
    Calls Tryz.prog 59 #[.string (ofL s)] w fun e w' => e = .returned (.tuple #[.int .i64 0,.bool false]) ∧ Below w.heap.size w w' := by
  have hin : inB 0 999999999999999 n = true := by unfold inB; simp; omega
  go_enter Tryz.func59,Tryz.ntmps59
  go_wp2_with (go_at_call 106; refine (Any.strconv_Atoi_ok lib_laysC172 (ofL s) (by show s.length ≤ _; omega) n h _).mono ?_)
  rintro e W1 ⟨rfl,hW⟩
  have hb := below_bytes hW
  have h7 := calls107 n W1 (hg _ hb)
  rw [hin] at h7
  go_wp2_with (go_at_call 107; refine h7.mono ?_)
  rintro e W2 ⟨rfl,hb2⟩
  have hb3 := hb.trans (hb2.mono hb.size)
  have h8 := calls108 n hn W2 (hg _ hb3)
  go_wp2_with (go_at_call 108; refine h8.mono ?_)
  rintro e W3 ⟨rfl,hb4⟩
  have hb5 := hb3.trans (hb4.mono hb3.size)
  go_wp2
  go_ret2
  exact ⟨rfl,hb5⟩
theorem calls59_ok (n : Nat) (hn : n ≤ 999999999999999) (w : World) (hg : ∀ w',Below w.heap.size w w' → GlobOk Tryz.prog w') :
    Calls Tryz.prog 59 #[.string (ofL (Lib.decDigits n))] w fun e w' => e = .returned (.tuple #[.int .i64 n,.bool true]) ∧ Below w.heap.size w w' := by
  have hin : inB 0 999999999999999 n = true := by unfold inB; simp; omega
  have hlen := dec_len15 hn
  have h := atoi_dec n (by omega)
  go_enter Tryz.func59,Tryz.ntmps59
  go_wp2_with (go_at_call 106; refine (Any.strconv_Atoi_ok lib_laysC172 (ofL (Lib.decDigits n)) (by show (Lib.decDigits n).length ≤ _; omega) n h _).mono ?_)
  rintro e W1 ⟨rfl,hW⟩
  have hb := below_bytes hW
  have h7 := calls107 n W1 (hg _ hb)
  rw [hin] at h7
  go_wp2_with (go_at_call 107; refine h7.mono ?_)
  rintro e W2 ⟨rfl,hb2⟩
  have hb3 := hb.trans (hb2.mono hb.size)
  have h8 := calls108 n hn W2 (hg _ hb3)
  go_wp2_with (go_at_call 108; refine h8.mono ?_)
  rintro e W3 ⟨rfl,hb4⟩
  have hb5 := hb3.trans (hb4.mono hb3.size)
  go_wp2
  go_ret2
  exact ⟨rfl,hb5⟩
theorem calls59_none (s : List UInt8) (hl : s.length ≤ 1048576) (h : readD s = none) (w : World) (hg : ∀ w',Below w.heap.size w w' → GlobOk Tryz.prog w') (he : (∃ ev,w.cell? ⟨1,0,none⟩ = some ev ∧ (ev = .nilIface ∨ ∃ te pe,ev = .iface te pe)) ∧ ∃ ev,w.cell? ⟨2,0,none⟩ = some ev ∧ (ev = .nilIface ∨ ∃ te pe,ev = .iface te pe)) :
    Calls Tryz.prog 59 #[.string (ofL s)] w fun e w' => e = .returned (.tuple #[.int .i64 0,.bool false]) ∧ Below w.heap.size w w' := by
  obtain ⟨⟨e1,h1,h2⟩,e2,h3,h4⟩ := he
  by_cases n1 : Lib.atoiAll s = .range
  · exact calls59_range s hl n1 e2 w h3 h4
  by_cases n2 : ∀ v,Lib.atoiAll s ≠ .ok v
  · exact calls59_bad s hl n1 n2 e1 w h1 h2
  · obtain ⟨v,ha⟩ : ∃ v,Lib.atoiAll s = .ok v := Classical.byContradiction fun h => n2 fun v hv => h ⟨v,hv⟩
    cases hi : inB 0 999999999999999 v
    · exact calls59_out s hl v ha hi w hg
    · unfold inB at hi
      simp only [Bool.and_eq_true,decide_eq_true_eq] at hi
      obtain ⟨n,rfl⟩ : ∃ n : Nat,v = n := ⟨v.toNat,by omega⟩
      refine calls59_in s hl n ha (by omega) ?_ w hg
      have hne : Lib.decDigits n ≠ s := fun e => by
        have := readD_iff.2 ⟨show n ≤ 999999999999999 by omega,e⟩
        rw [h] at this; cases this
      cases hq : (ofL (Lib.decDigits n)).toList == (ofL s).toList
      · rfl
      · exact absurd (by have := beq_iff_eq.1 hq; rw [ByteArray.toList_eq,ByteArray.toList_eq] at this; exact this) hne
theorem c59 (s : List UInt8) (hl : s.length ≤ 1048576) : Sem Tryz.prog 59 ⟨[.v (vS s)],[none]⟩ ⟨[.v (vS s),decD s],[none,none]⟩ := by
  have hd : decD s = .tup ([vI ((readD s).getD 0 : Nat),vB (readD s).isSome].map .v) := rfl
  rw [hd]
  refine sem_callsT (Ein := ⟨[.v (vS s)],[none]⟩) (r := .tuple [vI ((readD s).getD 0 : Nat),vB (readD s).isSome].toArray) (enter_of Tryz.func59 rfl rfl) (srel_tup (by
    intro v hv
    simp only [List.mem_cons,List.not_mem_nil,or_false] at hv
    rcases hv with rfl | rfl <;> rfl)) ?_
  intro w a F loc M R
  have h0 := slot_of R (i := 0) (d := .v (vS s)) rfl rfl (by simp)
  have hv := errVars R
  have hg := fun w' (hb : Below w.heap.size w w') => glob_at R hb
  rw [args1 R.tmps]
  generalize a.tmps.getD 0 undef = v0 at h0
  cases h0
  cases hr : readD s with
  | none => exact calls59_none s hl hr w hg hv
  | some n =>
    obtain ⟨h1,rfl⟩ := readD_iff.1 hr
    exact calls59_ok n h1 w hg
end Go.Proofs.YtplagdnnnkdlnaaGreatDoor.Fw
/- Contracts: an address read. -/
namespace Go.Proofs.YtplagdnnnkdlnaaGreatDoor.Fw
open Go
open Go.Proofs.Tryz
set_option maxRecDepth 100000
set_option maxHeartbeats 4000000
set_option linter.unusedSimpArgs false
set_option linter.unusedVariables false
attribute [local congr] c_bnd c_slot c_cell c_all c_len c_chk c_asm c_opdR c_wp c_pwp c_pOps c_Done c_nx c_blk c_fin c_rowsR c_leafR c_opdsR c_coeLeaf c_coeLeaves c_lendLeaf c_lendLeaves c_coeCapt c_argR c_argsR c_boundR c_partsR c_srcR c_mfgo c_ite c_wpF c_OutF c_pHead c_pHeadN c_pDraw
def fs25_0 : List (List Nat) := [[7,8,9,10,2],[8,9,10,2],[6,7,9,10,2],[6,7,10,2],[6,8,2],[]]
attribute [go_sem] fs25_0
def fs16_0 : List (List Nat) := [[7,8,9,10,2],[8,9,10,2],[6,7,9,10,2],[6,7,10,2],[6,8,2],[]]
attribute [go_sem] fs16_0
abbrev zeroU : D := .agg [.v (vS []),.v (vI 0),.v (vS []),.v (vS []),.v (vB false)]
def resU : Option Adr → D
  | none => .tup [zeroU,.v (vB false)]
  | some a => .tup [urlD a.ho a.p a.pa a.q a.b,.v (vB true)]
section
variable {s : List UInt8}
theorem ru_head (h : headB s = false) : readU s = none := by unfold readU; rw [h]; rfl
variable {r : List UInt8} (hr : s.drop 7 = r)
include hr
theorem ru_port (h : portR (authB r) = none) : readU s = none := by
  subst hr
  unfold readU
  rw [h]
  split <;> rfl
theorem ru_no {p : Nat} (h : portR (authB r) = some p) (hu : urlB (hostR r) p (pathR r) (queryR r) (hasR r) = false) : readU s = none := by
  subst hr
  unfold readU
  rw [h]
  simp only [hu]
  split <;> rfl
theorem ru_some {p : Nat} (h0 : headB s = true) (h : portR (authB r) = some p) (hu : urlB (hostR r) p (pathR r) (queryR r) (hasR r) = true) : readU s = some ⟨hostR r,p,pathR r,queryR r,hasR r⟩ := by
  subst hr
  unfold readU
  rw [h0,h]
  simp only [hu,if_true]
end
theorem c58 (s : List UInt8) (hs : s.length ≤ 1048576) : Sem prog 58 ⟨[.v (vS s)],[none]⟩ ⟨[.dead,.agg [.v (vS []),.v (vI 0),.v (vS (upto 63 s)),.v (vS (behind 63 s)),.v (vB (s.contains 63))]],[none]⟩ := by
  refine sb 1 [.ce 2 37] func58 ?_
  refine call0 (c57 s 63 (by omega)) ?_
  exact fz
theorem clean_slash : cleanB [47] = [47] := by decide +kernel
theorem cleanB_le (l : List UInt8) : (cleanB l).length ≤ 100001 := clean_len l
theorem path_len (r : List UInt8) : (pathR r).length ≤ 100001 := by
  unfold pathR
  split
  · exact clean_len _
  · decide
theorem query_le (r : List UInt8) : (queryR r).length ≤ r.length := by unfold queryR; split <;> simp
theorem readD_le {s : List UInt8} {n : Nat} (h : readD s = some n) : n ≤ 999999999999999 := (readD_iff.1 h).1
theorem opt_or {α : Type} (o : Option α) : o = none ∨ ∃ n,o = some n := by cases o; exact .inl rfl; exact .inr ⟨_,rfl⟩
theorem idx_or (r : List UInt8) : (Lib.indexAny r [47,63] = ((authB r).length : Int) ∧ ¬ ((authB r).length : Int) < 0) ∨ (Lib.indexAny r [47,63] = -1 ∧ r.length = (authB r).length ∧ r.drop (authB r).length = []) := by
  have h := auth_le r
  rw [index_auth]
  split
  · exact .inl ⟨rfl,by omega⟩
  · have e : r.length = (authB r).length := by omega
    exact .inr ⟨rfl,e,by rw [← e,List.drop_length]⟩
theorem query_eq (r : List UInt8) : r.drop ((upto 63 r).length + 1) = queryR r := by
  unfold queryR hasR
  split
  · rfl
  · rename_i h
    exact List.drop_eq_nil_of_le (by simp at h; omega)
theorem c20t (r : List UInt8) (s : List UInt8) (hr : s.drop 7 = r) (g0 : headB s = true) (h1 : s.length ≤ 200) (h2 : (s.all fun b => visB b.toNat) = true) (h3 : s.contains 35 = false) (h4 : 7 ≤ s.length) (h5 : (foldB (s.take 7) == httpB) = true) :
    Sem prog 20 ⟨[.v (vS s)],[none]⟩ ⟨[.dead,resU (readU s)],[none]⟩ := by
  have hl : s.length ≤ 9223372036854775807 := by omega
  have k1 : ¬ (200 : Int) < s.length := by omega
  have k2 : ¬ (s.length : Int) < 7 := by omega
  have hrl : r.length ≤ 200 := by rw [← hr,List.length_drop]; omega
  have hall := upto_le 63 r
  have hau := auth_le r
  have hae : (authB r).length ≤ 9223372036854775807 := by omega
  have hpl := path_len r
  have hql := query_le r
  have x2 := c52 s 53 visB rfl rfl c53 hl
  rw [h2] at x2
  have x3 := c54 s 35
  rw [h3] at x3
  have hfl : (foldB (upto 58 (authB r))).length ≤ 200 := by have := upto_le 58 (authB r); unfold foldB; rw [List.length_map]; omega
  have hol : (hostR r).length ≤ 200 := hfl
  have htr : r.take (s.length - 7) = r := List.take_of_length_le (by rw [← hr,List.length_drop]; omega)
  have hra : ascii r := by
    intro j b hb
    refine vis_ascii h2 (j + 7) b ?_
    rw [← hr,List.getElem?_drop,Nat.add_comm] at hb; exact hb
  have x7 := c56 r [47,63] (by omega) (by decide) hra (fun j b h => by match j,h with | 0,h => (injection h with h; subst h; decide) | 1,h => (injection h with h; subst h; decide) | n + 2,h => cases h)
  have x8 := c57 (authB r) 58 (by omega)
  have x9 := c58 (r.drop (authB r).length) (by rw [List.length_drop]; omega)
  obtain ⟨a1,a2,a3⟩ := auth_parts r
  rw [a1,a2,a3,query_eq,← hasR] at x9
  have ht := auth_take r
  have x10 : Sem prog 55 ⟨[.v (vS (upto 58 (authB r)))],[none]⟩ ⟨[.dead,.v (vS (hostR r))],[none]⟩ := c55 (upto 58 (authB r)) (by have := upto_le 58 (authB r); omega)
  have hbl : (behind 58 (authB r)).length ≤ 1048576 := by rw [behind_drop,List.length_drop]; omega
  have x11 := c59 (behind 58 (authB r)) hbl
  unfold decD at x11
  have h5 : (foldB (s.take 7) == [104,116,116,112,58,47,47]) = true := h5
  refine sb 1 [.ce 2 37,.tm 3] func20 ?_
  refine call0 x2 ?_
  refine call0 x3 ?_
  refine call0 (c55 (s.take 7) (by rw [List.length_take]; omega)) ?_
  clear x2 x3 h2 h3 a1 a2 a3
  refine call0 x7 ?_
  refine Or.elim (idx_or r) (fun hx => ?_) (fun hx => ?_)
  · refine Z ?_
    refine call0 x8 ?_
    refine call0 x9 ?_
    refine call0 x10 ?_
    clear x7 x8 x9 x10 h5 h4 k1 k2 ht
    refine bc ((authB r).contains 58) (fun c1 => ?_) fun c1 => ?_
    · have qp : portR (authB r) = some 80 := by unfold portR; rw [c1]; rfl
      refine Z ?_
      refine bc (decide ((authB r).length < (upto 63 r).length)) (fun f1 => ?_) fun f1 => ?_
      · have f2 : ((upto 63 r).drop (authB r).length == []) = true := by rw [beq_iff_eq]; exact List.drop_eq_nil_of_le (by simpa using f1)
        have f3 : pathR r = [47] := by unfold pathR; rw [if_neg (by simpa using f1)]
        have hu := c61 (hostR r) 80 (pathR r) (queryR r) (hasR r) (by omega) (by omega) (by omega) (by omega)
        have c6 : Sem prog 60 ⟨[.v (vS [47])],[none]⟩ ⟨[.dead,.v (vS (pathR r))],[none]⟩ := by rw [f3]; have h := c60 [47] (by decide); rw [clean_slash] at h; exact h
        clear f3
        refine Z ?_
        refine call0 c6 ?_
        refine bc (urlB (hostR r) 80 (pathR r) (queryR r) (hasR r)) (fun u1 => ?_) fun u1 => ?_
        · rw [u1] at hu
          refine call0 hu ?_
          rw [ru_no hr qp u1]
          exact fz
        · rw [u1] at hu
          refine call0 hu ?_
          rw [ru_some hr g0 qp u1]
          exact fz
      · have f2 : ((upto 63 r).drop (authB r).length == []) = false := by rw [beq_eq_false_iff_ne]; intro h; have := congrArg List.length h; simp at this; simp at f1; omega
        have f3 : pathR r = cleanB ((upto 63 r).drop (authB r).length) := by unfold pathR; rw [if_pos (by simpa using f1)]
        have hu := c61 (hostR r) 80 (pathR r) (queryR r) (hasR r) (by omega) (by omega) (by omega) (by omega)
        have c6 := c60 ((upto 63 r).drop (authB r).length) (by rw [List.length_drop]; omega)
        rw [← f3] at c6
        clear f3
        refine Z ?_
        refine call0 c6 ?_
        refine bc (urlB (hostR r) 80 (pathR r) (queryR r) (hasR r)) (fun u1 => ?_) fun u1 => ?_
        · rw [u1] at hu
          refine call0 hu ?_
          rw [ru_no hr qp u1]
          exact fz
        · rw [u1] at hu
          refine call0 hu ?_
          rw [ru_some hr g0 qp u1]
          exact fz
    · have qp : portR (authB r) = readD (behind 58 (authB r)) := by unfold portR; rw [c1]; rfl
      refine Or.elim (opt_or (readD (behind 58 (authB r)))) (fun o1 => ?_) (fun o1 => ?_)
      · rw [o1] at qp x11
        refine Z ?_
        refine call0 x11 ?_
        rw [ru_port hr qp]
        exact fz
      · obtain ⟨n,o1⟩ := o1
        rw [o1] at qp x11
        have hn := readD_le o1
        refine Z ?_
        refine call0 x11 ?_
        refine bc (decide ((authB r).length < (upto 63 r).length)) (fun f1 => ?_) fun f1 => ?_
        · have f2 : ((upto 63 r).drop (authB r).length == []) = true := by rw [beq_iff_eq]; exact List.drop_eq_nil_of_le (by simpa using f1)
          have f3 : pathR r = [47] := by unfold pathR; rw [if_neg (by simpa using f1)]
          have hu := c61 (hostR r) n (pathR r) (queryR r) (hasR r) (by omega) (by omega) (by omega) (by omega)
          have c6 : Sem prog 60 ⟨[.v (vS [47])],[none]⟩ ⟨[.dead,.v (vS (pathR r))],[none]⟩ := by rw [f3]; have h := c60 [47] (by decide); rw [clean_slash] at h; exact h
          clear f3
          refine Z ?_
          refine call0 c6 ?_
          refine bc (urlB (hostR r) n (pathR r) (queryR r) (hasR r)) (fun u1 => ?_) fun u1 => ?_
          · rw [u1] at hu
            refine call0 hu ?_
            rw [ru_no hr qp u1]
            exact fz
          · rw [u1] at hu
            refine call0 hu ?_
            rw [ru_some hr g0 qp u1]
            exact fz
        · have f2 : ((upto 63 r).drop (authB r).length == []) = false := by rw [beq_eq_false_iff_ne]; intro h; have := congrArg List.length h; simp at this; simp at f1; omega
          have f3 : pathR r = cleanB ((upto 63 r).drop (authB r).length) := by unfold pathR; rw [if_pos (by simpa using f1)]
          have hu := c61 (hostR r) n (pathR r) (queryR r) (hasR r) (by omega) (by omega) (by omega) (by omega)
          have c6 := c60 ((upto 63 r).drop (authB r).length) (by rw [List.length_drop]; omega)
          rw [← f3] at c6
          clear f3
          refine Z ?_
          refine call0 c6 ?_
          refine bc (urlB (hostR r) n (pathR r) (queryR r) (hasR r)) (fun u1 => ?_) fun u1 => ?_
          · rw [u1] at hu
            refine call0 hu ?_
            rw [ru_no hr qp u1]
            exact fz
          · rw [u1] at hu
            refine call0 hu ?_
            rw [ru_some hr g0 qp u1]
            exact fz
  · rw [hx.2.2] at x9
    have hx4 : ∀ n,([] : List UInt8).take n = [] := fun n => List.take_nil
    refine Z ?_
    refine call0 x8 ?_
    refine call0 x9 ?_
    refine call0 x10 ?_
    clear x7 x8 x9 x10 h5 h4 k1 k2 ht
    refine bc ((authB r).contains 58) (fun c1 => ?_) fun c1 => ?_
    · have qp : portR (authB r) = some 80 := by unfold portR; rw [c1]; rfl
      refine Z ?_
      refine bc (decide ((authB r).length < (upto 63 r).length)) (fun f1 => ?_) fun f1 => ?_
      · have f2 : ((upto 63 r).drop (authB r).length == []) = true := by rw [beq_iff_eq]; exact List.drop_eq_nil_of_le (by simpa using f1)
        have f3 : pathR r = [47] := by unfold pathR; rw [if_neg (by simpa using f1)]
        have hu := c61 (hostR r) 80 (pathR r) (queryR r) (hasR r) (by omega) (by omega) (by omega) (by omega)
        have c6 : Sem prog 60 ⟨[.v (vS [47])],[none]⟩ ⟨[.dead,.v (vS (pathR r))],[none]⟩ := by rw [f3]; have h := c60 [47] (by decide); rw [clean_slash] at h; exact h
        clear f3
        refine Z ?_
        refine call0 c6 ?_
        refine bc (urlB (hostR r) 80 (pathR r) (queryR r) (hasR r)) (fun u1 => ?_) fun u1 => ?_
        · rw [u1] at hu
          refine call0 hu ?_
          rw [ru_no hr qp u1]
          exact fz
        · rw [u1] at hu
          refine call0 hu ?_
          rw [ru_some hr g0 qp u1]
          exact fz
      · have f2 : ((upto 63 r).drop (authB r).length == []) = false := by rw [beq_eq_false_iff_ne]; intro h; have := congrArg List.length h; simp at this; simp at f1; omega
        have f3 : pathR r = cleanB ((upto 63 r).drop (authB r).length) := by unfold pathR; rw [if_pos (by simpa using f1)]
        have hu := c61 (hostR r) 80 (pathR r) (queryR r) (hasR r) (by omega) (by omega) (by omega) (by omega)
        have c6 := c60 ((upto 63 r).drop (authB r).length) (by rw [List.length_drop]; omega)
        rw [← f3] at c6
        clear f3
        refine Z ?_
        refine call0 c6 ?_
        refine bc (urlB (hostR r) 80 (pathR r) (queryR r) (hasR r)) (fun u1 => ?_) fun u1 => ?_
        · rw [u1] at hu
          refine call0 hu ?_
          rw [ru_no hr qp u1]
          exact fz
        · rw [u1] at hu
          refine call0 hu ?_
          rw [ru_some hr g0 qp u1]
          exact fz
    · have qp : portR (authB r) = readD (behind 58 (authB r)) := by unfold portR; rw [c1]; rfl
      refine Or.elim (opt_or (readD (behind 58 (authB r)))) (fun o1 => ?_) (fun o1 => ?_)
      · rw [o1] at qp x11
        refine Z ?_
        refine call0 x11 ?_
        rw [ru_port hr qp]
        exact fz
      · obtain ⟨n,o1⟩ := o1
        rw [o1] at qp x11
        have hn := readD_le o1
        refine Z ?_
        refine call0 x11 ?_
        refine bc (decide ((authB r).length < (upto 63 r).length)) (fun f1 => ?_) fun f1 => ?_
        · have f2 : ((upto 63 r).drop (authB r).length == []) = true := by rw [beq_iff_eq]; exact List.drop_eq_nil_of_le (by simpa using f1)
          have f3 : pathR r = [47] := by unfold pathR; rw [if_neg (by simpa using f1)]
          have hu := c61 (hostR r) n (pathR r) (queryR r) (hasR r) (by omega) (by omega) (by omega) (by omega)
          have c6 : Sem prog 60 ⟨[.v (vS [47])],[none]⟩ ⟨[.dead,.v (vS (pathR r))],[none]⟩ := by rw [f3]; have h := c60 [47] (by decide); rw [clean_slash] at h; exact h
          clear f3
          refine Z ?_
          refine call0 c6 ?_
          refine bc (urlB (hostR r) n (pathR r) (queryR r) (hasR r)) (fun u1 => ?_) fun u1 => ?_
          · rw [u1] at hu
            refine call0 hu ?_
            rw [ru_no hr qp u1]
            exact fz
          · rw [u1] at hu
            refine call0 hu ?_
            rw [ru_some hr g0 qp u1]
            exact fz
        · have f2 : ((upto 63 r).drop (authB r).length == []) = false := by rw [beq_eq_false_iff_ne]; intro h; have := congrArg List.length h; simp at this; simp at f1; omega
          have f3 : pathR r = cleanB ((upto 63 r).drop (authB r).length) := by unfold pathR; rw [if_pos (by simpa using f1)]
          have hu := c61 (hostR r) n (pathR r) (queryR r) (hasR r) (by omega) (by omega) (by omega) (by omega)
          have c6 := c60 ((upto 63 r).drop (authB r).length) (by rw [List.length_drop]; omega)
          rw [← f3] at c6
          clear f3
          refine Z ?_
          refine call0 c6 ?_
          refine bc (urlB (hostR r) n (pathR r) (queryR r) (hasR r)) (fun u1 => ?_) fun u1 => ?_
          · rw [u1] at hu
            refine call0 hu ?_
            rw [ru_no hr qp u1]
            exact fz
          · rw [u1] at hu
            refine call0 hu ?_
            rw [ru_some hr g0 qp u1]
            exact fz
theorem c20 (s : List UInt8) (hl : s.length ≤ 1048576) : Sem prog 20 ⟨[.v (vS s)],[none]⟩ ⟨[.dead,resU (readU s)],[none]⟩ := by
  have hL : s.length ≤ 9223372036854775807 := by omega
  have x2 := c52 s 53 visB rfl rfl c53 hL
  have x3 := c54 s 35
  by_cases h1 : s.length ≤ 200
  · have k1 : ¬ (200 : Int) < s.length := by omega
    cases h2 : s.all fun b => visB b.toNat
    · rw [ru_head (by unfold headB; rw [h2]; simp)]
      rw [h2] at x2
      refine sb 1 [.ce 2 37,.tm 3] func20 ?_
      refine call0 x2 ?_
      exact fz
    rw [h2] at x2
    cases h3 : s.contains 35
    · rw [h3] at x3
      by_cases h4 : 7 ≤ s.length
      · have k2 : ¬ (s.length : Int) < 7 := by omega
        cases h5 : foldB (s.take 7) == httpB
        · rw [ru_head (by unfold headB; rw [h5]; simp)]
          have h5 : (foldB (s.take 7) == [104,116,116,112,58,47,47]) = false := h5
          refine sb 1 [.ce 2 37,.tm 3] func20 ?_
          refine call0 x2 ?_
          refine call0 x3 ?_
          refine call0 (c55 (s.take 7) (by rw [List.length_take]; omega)) ?_
          exact fz
        · exact c20t (s.drop 7) s rfl (by unfold headB; rw [h2,h3,h5,decide_eq_true h1,decide_eq_true h4]; rfl) h1 h2 h3 h4 h5
      · rw [ru_head (by unfold headB; rw [decide_eq_false h4]; simp)]
        have k2 : (s.length : Int) < 7 := by omega
        refine sb 1 [.ce 2 37,.tm 3] func20 ?_
        refine call0 x2 ?_
        refine call0 x3 ?_
        exact fz
    · rw [ru_head (by unfold headB; rw [h3]; simp)]
      rw [h3] at x3
      refine sb 1 [.ce 2 37,.tm 3] func20 ?_
      refine call0 x2 ?_
      refine call0 x3 ?_
      exact fz
  · have k1 : (200 : Int) < s.length := by omega
    rw [ru_head (by unfold headB; rw [decide_eq_false h1]; simp)]
    refine sb 1 [.ce 2 37,.tm 3] func20 ?_
    exact fz
theorem c12t (r : List UInt8) (s : List UInt8) (hr : s.drop 7 = r) (g0 : headB s = true) (h1 : s.length ≤ 200) (h2 : (s.all fun b => visB b.toNat) = true) (h3 : s.contains 35 = false) (h4 : 8 ≤ s.length) (h5 : (foldB (s.take 7) == httpB) = true) :
    Sem prog 12 ⟨[.v (vS s)],[none]⟩ ⟨[.dead,resU (readU s)],[none]⟩ := by
  have hl : s.length ≤ 9223372036854775807 := by omega
  have k1 : ¬ (200 : Int) < s.length := by omega
  have k2 : ¬ (s.length : Int) < 8 := by omega
  have k3 : 7 ≤ s.length := by omega
  have hrl : r.length ≤ 200 := by rw [← hr,List.length_drop]; omega
  have hr2 : r.length ≤ 9223372036854775807 := by omega
  have hall := upto_le 63 r
  have hal2 : (upto 63 r).length ≤ 9223372036854775807 := by omega
  have haf := auth_front r
  have hau := auth_le r
  have hae : (authB r).length ≤ 9223372036854775807 := by omega
  have hhl := upto_le 58 (authB r)
  have hhe : (upto 58 (authB r)).length ≤ 9223372036854775807 := by omega
  have hpl := path_len r
  have hql := query_le r
  have x2 := c32 s hl
  rw [h2,decide_eq_true (by omega : 0 < s.length)] at x2
  have hup : (upto 35 s == s) = true := by rw [upto_eq,h3]; rfl
  have hol : (hostR r).length ≤ 200 := by unfold hostR foldB; rw [List.length_map]; omega
  have htr : r.take (s.length - 7) = r := List.take_of_length_le (by rw [← hr,List.length_drop]; omega)
  have x6 : Sem prog 33 ⟨[.v (vS (upto 63 r)),.v (vC (47 : UInt8).toNat)],[none,none]⟩ ⟨[.dead,.dead,.v (vS (authB r))],[none,none]⟩ := c33 (upto 63 r) 47 (by omega)
  have x8 : Sem prog 34 ⟨[.v (vS (upto 58 (authB r)))],[none]⟩ ⟨[.dead,.v (vS (hostR r))],[none]⟩ := c34 (upto 58 (authB r)) (by omega)
  have x11 := c35 ((authB r).drop ((upto 58 (authB r)).length + 1)) (by rw [List.length_drop]; omega)
  rw [← behind_drop] at x11
  unfold decD at x11
  have h5 : (foldB (s.take 7) == [104,116,116,112,58,47,47]) = true := h5
  refine sb 1 [.ce 2 37,.tm 3] func12 ?_
  refine call0 x2 ?_
  refine call0 (c33 s 35 (by omega)) ?_
  refine call0 (c34 (s.take 7) (by rw [List.length_take]; omega)) ?_
  refine call0 (c33 r 63 (by omega)) ?_
  refine call0 x6 ?_
  refine call0 (c33 (authB r) 58 (by omega)) ?_
  refine call0 x8 ?_
  clear x2 x6 x8 h2 h3 hup
  refine Or.elim (Nat.lt_or_ge (upto 58 (authB r)).length (authB r).length) (fun c1 => ?_) fun c1 => ?_
  · have c2 : (authB r).contains 58 = true := by rw [upto_lt]; exact decide_eq_true c1
    have qp : portR (authB r) = readD (behind 58 (authB r)) := by unfold portR; rw [c2]; rfl
    have w1 : IntKind.i64.wrap (((upto 58 (authB r)).length : Int) + 1) = (((upto 58 (authB r)).length + 1 : Nat) : Int) := wrapN c1 (by omega)
    have w2 : (upto 58 (authB r)).length + 1 ≤ (authB r).length := c1
    rw [behind_drop] at x11 qp
    refine Z ?_
    refine Or.elim (opt_or (readD ((authB r).drop ((upto 58 (authB r)).length + 1)))) (fun o1 => ?_) (fun o1 => ?_)
    · rw [o1] at qp x11
      refine call0 x11 ?_
      rw [ru_port hr qp]
      exact fz
    · obtain ⟨n,o1⟩ := o1
      rw [o1] at qp x11
      have hn := readD_le o1
      refine call0 x11 ?_
      have hu := c37 (hostR r) n (pathR r) (queryR r) (hasR r) (by omega) (by omega) (by omega) (by omega)
      refine Or.elim (Nat.lt_or_ge (authB r).length (upto 63 r).length) (fun f1 => ?_) fun f1 => ?_
      · have f2 : pathR r = cleanB ((upto 63 r).drop (authB r).length) := by unfold pathR; rw [if_pos f1]
        have c6 := c36 ((upto 63 r).drop (authB r).length) (by rw [List.length_drop]; omega)
        rw [← f2] at c6
        clear f2
        have f1' := Nat.le_of_lt f1
        refine Z ?_
        refine call0 c6 ?_
        refine Or.elim (Nat.lt_or_ge (upto 63 r).length r.length) (fun f3 => ?_) fun f3 => ?_
        · have f4 : hasR r = true := by unfold hasR; exact decide_eq_true f3
          have f5 : queryR r = r.drop ((upto 63 r).length + 1) := (query_eq r).symm
          have w1 : IntKind.i64.wrap (((upto 63 r).length : Int) + 1) = (((upto 63 r).length + 1 : Nat) : Int) := wrapN f3 (by omega)
          have w2 : (upto 63 r).length + 1 ≤ r.length := f3
          refine Z ?_
          refine bc (urlB (hostR r) n (pathR r) (queryR r) (hasR r)) (fun u1 => ?_) fun u1 => ?_
          · rw [u1,f4,f5] at hu
            refine call0 hu ?_
            rw [ru_no hr qp u1]
            exact fz
          · rw [u1,f4,f5] at hu
            refine call0 hu ?_
            rw [ru_some hr g0 qp u1,f4,f5]
            exact fz
        · replace f3 := Nat.not_lt.2 f3
          have f4 : hasR r = false := by unfold hasR; exact decide_eq_false f3
          have f5 : queryR r = [] := by unfold queryR; rw [f4]; rfl
          refine Z ?_
          refine bc (urlB (hostR r) n (pathR r) (queryR r) (hasR r)) (fun u1 => ?_) fun u1 => ?_
          · rw [u1,f4,f5] at hu
            refine call0 hu ?_
            rw [ru_no hr qp u1]
            exact fz
          · rw [u1,f4,f5] at hu
            refine call0 hu ?_
            rw [ru_some hr g0 qp u1,f4,f5]
            exact fz
      · replace f1 := Nat.not_lt.2 f1
        have f2 : pathR r = [47] := by unfold pathR; rw [if_neg f1]
        refine Z ?_
        refine Or.elim (Nat.lt_or_ge (upto 63 r).length r.length) (fun f3 => ?_) fun f3 => ?_
        · have f4 : hasR r = true := by unfold hasR; exact decide_eq_true f3
          have f5 : queryR r = r.drop ((upto 63 r).length + 1) := (query_eq r).symm
          have w1 : IntKind.i64.wrap (((upto 63 r).length : Int) + 1) = (((upto 63 r).length + 1 : Nat) : Int) := wrapN f3 (by omega)
          have w2 : (upto 63 r).length + 1 ≤ r.length := f3
          refine Z ?_
          refine bc (urlB (hostR r) n (pathR r) (queryR r) (hasR r)) (fun u1 => ?_) fun u1 => ?_
          · rw [u1,f4,f5,f2] at hu
            refine call0 hu ?_
            rw [ru_no hr qp u1]
            exact fz
          · rw [u1,f4,f5,f2] at hu
            refine call0 hu ?_
            rw [ru_some hr g0 qp u1,f4,f5,f2]
            exact fz
        · replace f3 := Nat.not_lt.2 f3
          have f4 : hasR r = false := by unfold hasR; exact decide_eq_false f3
          have f5 : queryR r = [] := by unfold queryR; rw [f4]; rfl
          refine Z ?_
          refine bc (urlB (hostR r) n (pathR r) (queryR r) (hasR r)) (fun u1 => ?_) fun u1 => ?_
          · rw [u1,f4,f5,f2] at hu
            refine call0 hu ?_
            rw [ru_no hr qp u1]
            exact fz
          · rw [u1,f4,f5,f2] at hu
            refine call0 hu ?_
            rw [ru_some hr g0 qp u1,f4,f5,f2]
            exact fz
  · replace c1 := Nat.not_lt.2 c1
    have c2 : (authB r).contains 58 = false := by rw [upto_lt]; exact decide_eq_false c1
    have qp : portR (authB r) = some 80 := by unfold portR; rw [c2]; rfl
    refine Z ?_
    have hu := c37 (hostR r) 80 (pathR r) (queryR r) (hasR r) (by omega) (by omega) (by omega) (by omega)
    refine Or.elim (Nat.lt_or_ge (authB r).length (upto 63 r).length) (fun f1 => ?_) fun f1 => ?_
    · have f2 : pathR r = cleanB ((upto 63 r).drop (authB r).length) := by unfold pathR; rw [if_pos f1]
      have c6 := c36 ((upto 63 r).drop (authB r).length) (by rw [List.length_drop]; omega)
      rw [← f2] at c6
      clear f2
      have f1' := Nat.le_of_lt f1
      refine Z ?_
      refine call0 c6 ?_
      refine Or.elim (Nat.lt_or_ge (upto 63 r).length r.length) (fun f3 => ?_) fun f3 => ?_
      · have f4 : hasR r = true := by unfold hasR; exact decide_eq_true f3
        have f5 : queryR r = r.drop ((upto 63 r).length + 1) := (query_eq r).symm
        have w1 : IntKind.i64.wrap (((upto 63 r).length : Int) + 1) = (((upto 63 r).length + 1 : Nat) : Int) := wrapN f3 (by omega)
        have w2 : (upto 63 r).length + 1 ≤ r.length := f3
        refine Z ?_
        refine bc (urlB (hostR r) 80 (pathR r) (queryR r) (hasR r)) (fun u1 => ?_) fun u1 => ?_
        · rw [u1,f4,f5] at hu
          refine call0 hu ?_
          rw [ru_no hr qp u1]
          exact fz
        · rw [u1,f4,f5] at hu
          refine call0 hu ?_
          rw [ru_some hr g0 qp u1,f4,f5]
          exact fz
      · replace f3 := Nat.not_lt.2 f3
        have f4 : hasR r = false := by unfold hasR; exact decide_eq_false f3
        have f5 : queryR r = [] := by unfold queryR; rw [f4]; rfl
        refine Z ?_
        refine bc (urlB (hostR r) 80 (pathR r) (queryR r) (hasR r)) (fun u1 => ?_) fun u1 => ?_
        · rw [u1,f4,f5] at hu
          refine call0 hu ?_
          rw [ru_no hr qp u1]
          exact fz
        · rw [u1,f4,f5] at hu
          refine call0 hu ?_
          rw [ru_some hr g0 qp u1,f4,f5]
          exact fz
    · replace f1 := Nat.not_lt.2 f1
      have f2 : pathR r = [47] := by unfold pathR; rw [if_neg f1]
      refine Z ?_
      refine Or.elim (Nat.lt_or_ge (upto 63 r).length r.length) (fun f3 => ?_) fun f3 => ?_
      · have f4 : hasR r = true := by unfold hasR; exact decide_eq_true f3
        have f5 : queryR r = r.drop ((upto 63 r).length + 1) := (query_eq r).symm
        have w1 : IntKind.i64.wrap (((upto 63 r).length : Int) + 1) = (((upto 63 r).length + 1 : Nat) : Int) := wrapN f3 (by omega)
        have w2 : (upto 63 r).length + 1 ≤ r.length := f3
        refine Z ?_
        refine bc (urlB (hostR r) 80 (pathR r) (queryR r) (hasR r)) (fun u1 => ?_) fun u1 => ?_
        · rw [u1,f4,f5,f2] at hu
          refine call0 hu ?_
          rw [ru_no hr qp u1]
          exact fz
        · rw [u1,f4,f5,f2] at hu
          refine call0 hu ?_
          rw [ru_some hr g0 qp u1,f4,f5,f2]
          exact fz
      · replace f3 := Nat.not_lt.2 f3
        have f4 : hasR r = false := by unfold hasR; exact decide_eq_false f3
        have f5 : queryR r = [] := by unfold queryR; rw [f4]; rfl
        refine Z ?_
        refine bc (urlB (hostR r) 80 (pathR r) (queryR r) (hasR r)) (fun u1 => ?_) fun u1 => ?_
        · rw [u1,f4,f5,f2] at hu
          refine call0 hu ?_
          rw [ru_no hr qp u1]
          exact fz
        · rw [u1,f4,f5,f2] at hu
          refine call0 hu ?_
          rw [ru_some hr g0 qp u1,f4,f5,f2]
          exact fz
theorem ru_short {s : List UInt8} (h : s.length ≤ 7) : readU s = none := ru_no (r := []) (List.drop_eq_nil_of_le h) (p := 80) (by decide) (by unfold urlB; rw [show hostB (hostR []) = false by decide]; rfl)
theorem c12 (s : List UInt8) (hl : s.length ≤ 1048576) : Sem prog 12 ⟨[.v (vS s)],[none]⟩ ⟨[.dead,resU (readU s)],[none]⟩ := by
  have hL : s.length ≤ 9223372036854775807 := by omega
  by_cases h1 : s.length ≤ 200
  · have k1 : ¬ (200 : Int) < s.length := by omega
    by_cases h4 : 8 ≤ s.length
    · have k2 : ¬ (s.length : Int) < 8 := by omega
      have k3 : 7 ≤ s.length := by omega
      have x2 := c32 s hL
      rw [decide_eq_true (by omega : 0 < s.length)] at x2
      cases h2 : s.all fun b => visB b.toNat
      · rw [ru_head (by unfold headB; rw [h2]; simp)]
        rw [h2] at x2
        refine sb 1 [.ce 2 37,.tm 3] func12 ?_
        refine call0 x2 ?_
        exact fz
      rw [h2] at x2
      cases h3 : s.contains 35
      · cases h5 : foldB (s.take 7) == httpB
        · rw [ru_head (by unfold headB; rw [h5]; simp)]
          have h5 : (foldB (s.take 7) == [104,116,116,112,58,47,47]) = false := h5
          have hup : (upto 35 s == s) = true := by rw [upto_eq,h3]; rfl
          refine sb 1 [.ce 2 37,.tm 3] func12 ?_
          refine call0 x2 ?_
          refine call0 (c33 s 35 (by omega)) ?_
          refine call0 (c34 (s.take 7) (by rw [List.length_take]; omega)) ?_
          exact fz
        · exact c12t (s.drop 7) s rfl (by unfold headB; rw [h2,h3,h5,decide_eq_true h1,decide_eq_true k3]; rfl) h1 h2 h3 h4 h5
      · rw [ru_head (by unfold headB; rw [h3]; simp)]
        have hup : (upto 35 s == s) = false := by rw [upto_eq,h3]; rfl
        refine sb 1 [.ce 2 37,.tm 3] func12 ?_
        refine call0 x2 ?_
        refine call0 (c33 s 35 (by omega)) ?_
        exact fz
    · rw [ru_short (by omega)]
      have k2 : (s.length : Int) < 8 := by omega
      refine sb 1 [.ce 2 37,.tm 3] func12 ?_
      exact fz
  · have k1 : (200 : Int) < s.length := by omega
    rw [ru_head (by unfold headB; rw [decide_eq_false h1]; simp)]
    refine sb 1 [.ce 2 37,.tm 3] func12 ?_
    exact fz
section
variable (ho : List UInt8) (p : Nat) (pa q : List UInt8) (b : Bool) (h0 : ho.length ≤ 1048576) (hp : p ≤ 999999999999999) (h1 : pa.length ≤ 1048576) (h2 : q.length ≤ 1048576) (hu : urlB ho p pa q b = true)
include h0 hp h1 h2 hu
theorem c25 : Sem prog 25 ⟨[urlD ho p pa q b],[none]⟩ ⟨[.dead,.v (vS (ho ++ portB p))],[none]⟩ := by
  have h3 := port_len p hp
  have hx := c61 ho p pa q b h0 hp h1 h2
  rw [hu] at hx
  refine sb 1 [.tm 2] func25 ?_
  refine call0 hx ?_
  refine draw_intro 6 fs25_0 mixedOk rfl ?_
  refine Z ?_
  refine drawn0 (c79 ho p pa q b hp) ?_
  exact sid fz
theorem c16 : Sem prog 16 ⟨[urlD ho p pa q b],[none]⟩ ⟨[.dead,.v (vS (ho ++ portB p))],[none]⟩ := by
  have h3 := port_len p hp
  have hx := c37 ho p pa q b h0 hp h1 h2
  rw [hu] at hx
  refine sb 1 [.tm 2] func16 ?_
  refine call0 hx ?_
  refine draw_intro 6 fs16_0 mixedOk rfl ?_
  refine Z ?_
  refine drawn0 (c47 ho p pa q b hp) ?_
  exact sid fz
theorem c17 : Sem prog 17 ⟨[urlD ho p pa q b],[none]⟩ ⟨[.dead,.v (vS (urlT ho p pa q b))],[none]⟩ := by
  have hx := c37 ho p pa q b h0 hp h1 h2
  rw [hu] at hx
  refine sb 1 [.tm 2] func17 ?_
  refine call0 hx ?_
  refine call0 (c48 ho p pa q b h0 hp h1 h2) ?_
  exact fz
end
end Go.Proofs.YtplagdnnnkdlnaaGreatDoor.Fw
/- Contracts: words, names of hops. -/
namespace Go.Proofs.YtplagdnnnkdlnaaGreatDoor.Fw
open Go
open Go.Proofs.Tryz
set_option maxRecDepth 100000
set_option maxHeartbeats 600000
set_option linter.unusedSimpArgs false
set_option linter.unusedVariables false
attribute [local congr] c_bnd c_slot c_cell c_all c_len c_chk c_asm c_opdR c_wp c_pwp c_pOps c_Done c_nx c_blk c_fin c_rowsR c_leafR c_opdsR c_coeLeaf c_coeLeaves c_lendLeaf c_lendLeaves c_coeCapt c_argR c_argsR c_boundR c_partsR c_srcR c_mfgo c_ite c_wpF c_OutF c_pHead c_pDraw
def connN : List UInt8 := [99,111,110,110,101,99,116,105,111,110]
def hopN : List (List UInt8) := [[99,111,110,110,101,99,116,105,111,110],[107,101,101,112,45,97,108,105,118,101],[112,114,111,120,121,45,99,111,110,110,101,99,116,105,111,110],[116,101],[116,114,97,105,108,101,114],[116,114,97,110,115,102,101,114,45,101,110,99,111,100,105,110,103],[117,112,103,114,97,100,101]]
def wordsB (name : List UInt8) (l : List Fld) : List (List UInt8) := elB (joinB (valsB name l))
theorem addE_mem {out : List (List UInt8)} {e s : List UInt8} (h : s ∈ addE out e) : s ∈ out ∨ s = e := by
  unfold addE at h
  split at h
  · exact .inl h
  · simpa using h
theorem elGo_mem (s : List UInt8) : ∀ (n : Nat) (fr : Nat) (q : Bool) (i : Nat) (out : List (List UInt8)),s.length + 2 - i ≤ n → (∀ x,x ∈ out → x.length ≤ s.length) → (∀ x,x ∈ elGo s fr q i out → x.length ≤ s.length)
  | 0,fr,q,i,out,hn,h => by
    rw [elGo_end (by omega)]
    intro x hx
    rcases addE_mem hx with h1 | h1
    · exact h x h1
    · rw [h1]; have := trimB_len (s.drop fr); rw [List.length_drop] at this; omega
  | n + 1,fr,q,i,out,hn,h => by
    by_cases hi : i < s.length
    · by_cases hq : s.getD i 0 = 34
      · rw [elGo_q hi hq]; exact elGo_mem s n _ _ _ _ (by omega) h
      · by_cases hb : q = true ∧ s.getD i 0 = 92
        · obtain ⟨rfl,hb⟩ := hb
          rw [elGo_b hi hq hb]; exact elGo_mem s n _ _ _ _ (by omega) h
        · by_cases hc : q = false ∧ s.getD i 0 = 44
          · obtain ⟨rfl,hc⟩ := hc
            rw [elGo_c hi hq hc]
            refine elGo_mem s n _ _ _ _ (by omega) ?_
            intro x hx
            rcases addE_mem hx with h1 | h1
            · exact h x h1
            · rw [h1]; have := trimB_len ((s.drop fr).take (i - fr)); rw [List.length_take,List.length_drop] at this; omega
          · rw [elGo_n hi hq hb hc]; exact elGo_mem s n _ _ _ _ (by omega) h
    · rw [elGo_end hi]
      intro x hx
      rcases addE_mem hx with h1 | h1
      · exact h x h1
      · rw [h1]; have := trimB_len (s.drop fr); rw [List.length_drop] at this; omega
theorem elGo_len (s : List UInt8) : ∀ (n : Nat) (fr : Nat) (q : Bool) (i : Nat) (out : List (List UInt8)),s.length + 2 - i ≤ n → (elGo s fr q i out).length ≤ out.length + (s.length - i) + 1
  | 0,fr,q,i,out,hn => by
    rw [elGo_end (by omega)]
    have := addE_len out (trimB (s.drop fr))
    omega
  | n + 1,fr,q,i,out,hn => by
    by_cases hi : i < s.length
    · by_cases hq : s.getD i 0 = 34
      · rw [elGo_q hi hq]; have := elGo_len s n fr (!q) (i + 1) out (by omega); omega
      · by_cases hb : q = true ∧ s.getD i 0 = 92
        · obtain ⟨rfl,hb⟩ := hb
          rw [elGo_b hi hq hb]; have := elGo_len s n fr true (i + 2) out (by omega); omega
        · by_cases hc : q = false ∧ s.getD i 0 = 44
          · obtain ⟨rfl,hc⟩ := hc
            rw [elGo_c hi hq hc]
            have h1 := elGo_len s n (i + 1) false (i + 1) (addE out (trimB ((s.drop fr).take (i - fr)))) (by omega)
            have h2 := addE_len out (trimB ((s.drop fr).take (i - fr)))
            omega
          · rw [elGo_n hi hq hb hc]; have := elGo_len s n fr q (i + 1) out (by omega); omega
    · rw [elGo_end hi]
      have := addE_len out (trimB (s.drop fr))
      omega
theorem words_le {name : List UInt8} {l : List Fld} (h : fieldsB l = true) : (wordsB name l).length ≤ 3841 ∧ ∀ x,x ∈ wordsB name l → x.length ≤ 3840 := by
  have hj := joined_len (name := name) h
  unfold wordsB
  generalize joinB (valsB name l) = s at hj
  constructor
  · have := elGo_len s (s.length + 2) 0 false 0 [] (by omega)
    simp only [List.length_nil] at this
    unfold elB
    omega
  · intro x hx
    have := elGo_mem s (s.length + 2) 0 false 0 [] (by omega) (fun _ h => by cases h) x hx
    omega
theorem c125 (l : List Fld) (hl : Small l) (name : List UInt8) (hn : name.length ≤ 9223372036854775807) (h : fieldsB l = true) : Sem prog 125 ⟨[.imm 45 (rowsF l),.v (vS name)],[none,none]⟩ ⟨[.dead,.dead,sd 9 (rowsS (wordsB name l))],[none,none]⟩ := by
  refine sem_fin (cfg := cfg 2) (ts := [.tm 4]) tbOk func125 rfl rfl rfl rfl (fun t h => by cases h) ?_
  have hj := joined_len (name := name) h
  have hc1 := c72 l hl name hn h
  have hc2 := c155 (joinB (valsB name l)) (by omega)
  have hw : wordsB name l = elB (joinB (valsB name l)) := rfl
  rw [hw]
  simp only [go_sem,Nat.reduceSub,f125,cfg]
  refine ev_call hc1 (retW0 rfl rfl rfl rfl) ?_
  simp only [go_sem,Nat.reduceAdd]
  generalize elB (joinB (valsB name l)) = W at hc2
  cases hr : rowsS W with
  | nil =>
    rw [hr] at hc2
    refine ev_call hc2 (retW0 rfl rfl rfl rfl) ?_
    simp only [go_sem,Nat.reduceAdd,Nat.reduceBNe,sd_nil]
    first | exact fin0 (.inr rfl) rfl rfl rfl rfl | trace_state
  | cons x xs =>
    rw [hr] at hc2
    refine ev_call hc2 (retW0 rfl rfl rfl rfl) ?_
    simp only [go_sem,Nat.reduceAdd,Nat.reduceBNe,Nat.reduceEqDiff,reduceCtorEq,Nat.reduceDiv,Nat.reduceMod,sd_cons]
    first | exact fin0 (.inr rfl) rfl rfl rfl rfl | trace_state
theorem c95 (l : List Fld) (hl : Small l) (name : List UInt8) (hn : name.length ≤ 9223372036854775807) (h : fieldsB l = true) : Sem prog 95 ⟨[.imm 45 (rowsF l),.v (vS name)],[none,none]⟩ ⟨[.dead,.dead,sd 9 (rowsS (wordsB name l))],[none,none]⟩ := by
  refine sem_fin (cfg := cfg 2) (ts := [.tm 4]) tbOk func95 rfl rfl rfl rfl (fun t h => by cases h) ?_
  have hj := joined_len (name := name) h
  have hc1 := c50 l hl name hn h
  have hc2 := c135 (joinB (valsB name l)) (by omega)
  have hw : wordsB name l = elB (joinB (valsB name l)) := rfl
  rw [hw]
  simp only [go_sem,Nat.reduceSub,f95,cfg]
  refine ev_call hc1 (retW0 rfl rfl rfl rfl) ?_
  simp only [go_sem,Nat.reduceAdd]
  generalize elB (joinB (valsB name l)) = W at hc2
  cases hr : rowsS W with
  | nil =>
    rw [hr] at hc2
    refine ev_call hc2 (retW0 rfl rfl rfl rfl) ?_
    simp only [go_sem,Nat.reduceAdd,Nat.reduceBNe,sd_nil]
    first | exact fin0 (.inr rfl) rfl rfl rfl rfl | trace_state
  | cons x xs =>
    rw [hr] at hc2
    refine ev_call hc2 (retW0 rfl rfl rfl rfl) ?_
    simp only [go_sem,Nat.reduceAdd,Nat.reduceBNe,Nat.reduceEqDiff,reduceCtorEq,Nat.reduceDiv,Nat.reduceMod,sd_cons]
    first | exact fin0 (.inr rfl) rfl rfl rfl rfl | trace_state
set_option maxRecDepth 100000
set_option maxHeartbeats 600000
def tokW (ws : List (List UInt8)) : List (List UInt8) := (ws.filter tokenI).map foldB
theorem tokW_hit {ws : List (List UInt8)} {i : Nat} (h : i < ws.length) (hb : tokenI (ws.getD i []) = true) : tokW (ws.take (i + 1)) = tokW (ws.take i) ++ [foldB (ws.getD i [])] := by
  have : [ws.getD i []].filter tokenI = [ws.getD i []] := by rw [List.filter_cons,if_pos hb]; rfl
  rw [take_at (d := []) h,tokW,List.filter_append,this,List.map_append]; rfl
theorem tokW_miss {ws : List (List UInt8)} {i : Nat} (h : i < ws.length) (hb : tokenI (ws.getD i []) = false) : tokW (ws.take (i + 1)) = tokW (ws.take i) := by
  have : [ws.getD i []].filter tokenI = [] := by rw [List.filter_cons,if_neg (by rw [hb]; simp)]; rfl
  rw [take_at (d := []) h,tokW,List.filter_append,this,List.append_nil]; rfl
theorem tokW_len (ws : List (List UInt8)) : (tokW ws).length ≤ ws.length := by unfold tokW; rw [List.length_map]; exact List.length_filter_le _ _
def hopI (ws : List (List UInt8)) : List (List UInt8) := Lib.compact (sortB (hopN ++ tokW ws))
theorem fold_len (l : List UInt8) : (foldB l).length = l.length := by simp [foldB]
theorem rowsS_app (a b : List (List UInt8)) : rowsS (a ++ b) = rowsS a ++ rowsS b := by simp [rowsS]
theorem hop_rows (s : List UInt8) (acc : List (List UInt8)) : rowsS (hopN ++ (acc ++ [s])) = rowsS (hopN ++ acc) ++ [[.v (vS s)]] := by rw [← List.append_assoc,rowsS_snoc]
theorem hop_ne (acc : List (List UInt8)) : rowsS (hopN ++ acc) ≠ [] := rowsS_ne (by simp [hopN])
theorem elem_le {ws : List (List UInt8)} (h : ∀ x,x ∈ ws → x.length ≤ 3840) {i : Nat} (hi : i < ws.length) : (ws.getD i []).length ≤ 9223372036854775807 := by
  rw [List.getD_eq_getElem?_getD,List.getElem?_eq_getElem hi]
  have := h _ (List.getElem_mem hi)
  simp only [Option.getD_some]
  omega
theorem tokW_le {ws : List (List UInt8)} (h : ∀ x,x ∈ ws → x.length ≤ 3840) : ∀ s,s ∈ hopN ++ tokW ws → s.length ≤ 9223372036854775807 := by
  intro s hs
  rcases List.mem_append.1 hs with h1 | h1
  · have : ∀ x,x ∈ hopN → x.length ≤ 30 := by decide
    have := this s h1
    omega
  · unfold tokW at h1
    obtain ⟨x,hx,rfl⟩ := List.mem_map.1 h1
    rw [fold_len]
    have := h x (List.mem_filter.1 hx).1
    omega
theorem c75n (l : List Fld) (hl : Small l) (h : fieldsB l = false) : Sem prog 75 ⟨[.imm 45 (rowsF l)],[none]⟩ ⟨[.dead,.nil],[none]⟩ := by
  refine sem_fin (cfg := cfg 1) (ts := [.tm 2]) tbOk func75 rfl rfl rfl rfl (fun t h => by cases h) ?_
  simp only [go_sem,Nat.reduceSub,f75,cfg]
  refine ev_call (c62 l hl) (retW0 rfl rfl rfl rfl) ?_
  simp only [go_sem,Nat.reduceAdd,h]
  first | exact fin0 (.inr rfl) rfl rfl rfl rfl | trace_state
theorem c75 (l : List Fld) (hl : Small l) (h : fieldsB l = true) : Sem prog 75 ⟨[.imm 45 (rowsF l)],[none]⟩ ⟨[.dead,.own 9 (rowsS (hopI (wordsB connN l)))],[none]⟩ := by
  refine sem_fin (cfg := cfg 1) (ts := [.tm 2]) tbOk func75 rfl rfl rfl rfl (fun t h => by cases h) ?_
  simp only [go_sem,Nat.reduceSub,f75,cfg]
  refine ev_call (c62 l hl) (retW0 rfl rfl rfl rfl) ?_
  simp only [go_sem,Nat.reduceLeDiff,Nat.reduceLT,Nat.reduceAdd,Nat.reduceMul,Nat.reduceBNe,Nat.reduceEqDiff,reduceCtorEq,Nat.reduceDiv,Nat.reduceMod,h]
  have h80 := c125 l hl connN (by decide) h
  obtain ⟨hw1,hw2⟩ := words_le (name := connN) h
  generalize wordsB connN l = ws at h80 hw1 hw2 ⊢
  have hws : ws.length ≤ 9223372036854775807 := by omega
  cases hr : rowsS ws with
  | nil =>
    have hz : ws = [] := by
      cases ws with
      | nil => rfl
      | cons => simp [rowsS] at hr
    subst hz
    refine ev_call h80 (retW0 rfl rfl rfl rfl) ?_
    simp only [go_sem,Nat.reduceAdd,sd_nil,rowsS,List.map_nil]
    refine loop_on (fun i : Nat => ⟨[.dead,.dead,.nil,.own 9 (rowsS (hopN ++ tokW [])),.dead,.dead,.dead,.dead,.dead,.dead,.dead,.nil,.v (vI 0),.v (vI 0),.dead,.dead,.dead,.dead,.dead,.dead,.dead,.dead,.dead,.dead,.dead,.dead,.dead,.dead,.dead],List.replicate 29 none⟩) [2,3,11,12,13] (fun i => True) (fun i => 0) 0 rfl trivial ?_
    intro i hi
    have hc : ¬ ((0 : Int) < 0) := by omega
    have ws0 : True := trivial
    generalize hWW : ([] : List (List UInt8)) = ws at hw1 hw2 ⊢
    simp only [go_sem,Nat.reduceDiv,Nat.reduceMod,hc]
    refine ev_call (c126 (hopN ++ tokW ws) (by rw [List.length_append]; have : hopN.length = 7 := rfl; have := tokW_len ws; omega) (tokW_le hw2)) (retW1 rfl rfl rfl rfl rfl rfl) ?_
    simp only [go_sem,Nat.reduceAdd,Nat.reduceEqDiff,Nat.reduceDiv,Nat.reduceMod]
    refine ev_call (c127 (sortB (hopN ++ tokW ws)) (by rw [sortB_len,List.length_append]; have : hopN.length = 7 := rfl; have := tokW_len ws; omega) (fun s hs => tokW_le hw2 s (sortB_mem.1 hs))) (retWm rfl rfl rfl rfl rfl rfl) ?_
    simp only [go_sem,Nat.reduceAdd,Nat.reduceBNe,Nat.reduceEqDiff,Nat.reduceDiv,Nat.reduceMod]
    first | exact fin0 (.inr rfl) rfl rfl rfl rfl | trace_state
  | cons x xs =>
    rw [hr,sd_cons] at h80
    refine ev_call h80 (retW0 rfl rfl rfl rfl) ?_
    have hlx : (x :: xs).length = ws.length := by rw [← hr,rowsS_length]
    rw [← hr]
    simp only [go_sem,Nat.reduceAdd,Nat.reduceDiv,Nat.reduceMod,rowsS_length,hws]
    refine loop_on (fun i : Nat => ⟨[.dead,.dead,.nil,.own 9 (rowsS (hopN ++ tokW (ws.take i))),.dead,.dead,.dead,.dead,.dead,.dead,.dead,.own 9 (rowsS ws),.v (vI ws.length),.v (vI i),.dead,.dead,.dead,.dead,.dead,.dead,.dead,.dead,.dead,.dead,.dead,.dead,.dead,.dead,.dead],List.replicate 29 none⟩) [2,3,11,12,13] (fun i => i ≤ ws.length) (fun i => ws.length - i) 0 rfl (by omega) ?_
    intro i hi
    simp only [go_sem]
    refine Or.elim (Classical.em (i < ws.length)) (fun hc => ?_) fun hc => ?_
    · have hw := wrapN hc hws
      have hci : ((i : Int) < (ws.length : Int)) := by omega
      have g1 := rowsS_getD hc
      have g2 := elem_le hw2 hc
      have g3 := tokW_len (ws.take i)
      have g4 : (ws.take i).length ≤ 3841 := by rw [List.length_take]; omega
      have g5 : (hopN ++ tokW (ws.take i)).length + 1 ≤ 9223372036854775807 := by rw [List.length_append]; have : hopN.length = 7 := rfl; omega
      have g6 : (hopN ++ tokW (ws.take i)).length ≤ 4000 := by rw [List.length_append]; have : hopN.length = 7 := rfl; omega
      have h69 := c116 (ws.getD i []) g2
      have h52 := c55 (ws.getD i []) g2
      cases hb : tokenI (ws.getD i [])
      · rw [hb] at h69
        have ht := tokW_miss hc hb
        simp only [go_sem,Nat.reduceBNe,Nat.reduceDiv,Nat.reduceMod,rowsS_length,hc,hci,g1]
        refine ev_call h69 (retW0 rfl rfl rfl rfl) ?_
        simp only [go_sem,Nat.reduceAdd,hw]
        first | exact ⟨i + 1,by rw [ht]; rfl,hc,by omega⟩ | trace_state
      · rw [hb] at h69
        have ht := tokW_hit hc hb
        simp only [go_sem,Nat.reduceBNe,Nat.reduceDiv,Nat.reduceMod,rowsS_length,hc,hci,g1]
        refine ev_call h69 (retW0 rfl rfl rfl rfl) ?_
        simp only [go_sem,Nat.reduceLeDiff,Nat.reduceLT,Nat.reduceAdd,Nat.reduceMul]
        refine ev_call h52 (retW0 rfl rfl rfl rfl) ?_
        simp only [go_sem,Nat.reduceAdd,Nat.reduceMul,Nat.reduceBNe,Nat.reduceEqDiff,Nat.reduceDiv,Nat.reduceMod,rowsS_length,hw]
        repeat' with_reducible refine And.intro (by omega) ?_
        first | exact ⟨i + 1,by rw [ht,hop_rows]; rfl,hc,by omega⟩ | trace_state
    · have he : i = ws.length := by omega
      subst he
      rw [List.take_of_length_le (Nat.le_refl _)]
      simp only [go_sem,Nat.reduceDiv,Nat.reduceMod,hc]
      refine ev_call (c126 (hopN ++ tokW ws) (by rw [List.length_append]; have : hopN.length = 7 := rfl; have := tokW_len ws; omega) (tokW_le hw2)) (retW1 rfl rfl rfl rfl rfl rfl) ?_
      simp only [go_sem,Nat.reduceAdd,Nat.reduceEqDiff,Nat.reduceDiv,Nat.reduceMod]
      refine ev_call (c127 (sortB (hopN ++ tokW ws)) (by rw [sortB_len,List.length_append]; have : hopN.length = 7 := rfl; have := tokW_len ws; omega) (fun s hs => tokW_le hw2 s (sortB_mem.1 hs))) (retWm rfl rfl rfl rfl rfl rfl) ?_
      simp only [go_sem,Nat.reduceAdd,Nat.reduceBNe,Nat.reduceEqDiff,Nat.reduceDiv,Nat.reduceMod]
      first | exact fin0 (.inr rfl) rfl rfl rfl rfl | trace_state
set_option maxRecDepth 100000
set_option maxHeartbeats 600000
def insB : List (List UInt8) → List UInt8 → List (List UInt8)
  | [],s => [s]
  | x :: l,s => if ltB s x = true then s :: x :: l else x :: insB l s
def dnB (l : List (List UInt8)) (s : List UInt8) (i : Nat) : Bool := (l.take i).any fun x => ltB s x
def stB (l : List (List UInt8)) (s : List UInt8) (i : Nat) : List (List UInt8) := if dnB l s i = true then insB (l.take i) s else l.take i
def putB (l : List (List UInt8)) (s : List UInt8) : List (List UInt8) := if l.contains s = true then l else insB l s
theorem insB_any {s x : List UInt8} : ∀ {l : List (List UInt8)},l.any (fun y => ltB s y) = true → insB (l ++ [x]) s = insB l s ++ [x]
  | [],h => by simp at h
  | y :: l,h => by
    by_cases hy : ltB s y = true
    · simp [insB,hy]
    · have h : l.any (fun y => ltB s y) = true := by simpa [hy] using h
      simp [insB,hy,insB_any h]
theorem insB_none {s : List UInt8} : ∀ {l : List (List UInt8)},l.any (fun y => ltB s y) = false → insB l s = l ++ [s]
  | [],_ => rfl
  | y :: l,h => by
    rw [List.any_cons,Bool.or_eq_false_iff] at h
    simp [insB,h.1,insB_none h.2]
theorem insB_here {s x : List UInt8} (hx : ltB s x = true) : ∀ {l : List (List UInt8)},l.any (fun y => ltB s y) = false → insB (l ++ [x]) s = l ++ [s] ++ [x]
  | [],_ => by simp [insB,hx]
  | y :: l,h => by
    rw [List.any_cons,Bool.or_eq_false_iff] at h
    simp [insB,h.1,insB_here hx h.2]
theorem insB_mem {s x : List UInt8} : ∀ {l : List (List UInt8)},x ∈ insB l s ↔ x = s ∨ x ∈ l
  | [] => by simp [insB]
  | y :: l => by
    unfold insB
    split
    · simp
    · rw [List.mem_cons,insB_mem,List.mem_cons]; grind
theorem insB_len (s : List UInt8) : ∀ (l : List (List UInt8)),(insB l s).length = l.length + 1
  | [] => rfl
  | y :: l => by
    unfold insB
    split
    · rfl
    · rw [List.length_cons,insB_len s l]; rfl
theorem putB_mem {l : List (List UInt8)} {s x : List UInt8} : x ∈ putB l s ↔ x = s ∨ x ∈ l := by
  unfold putB
  split
  · rename_i h
    rw [List.contains_iff_mem] at h
    constructor
    · exact .inr
    · rintro (rfl | h2)
      · exact h
      · exact h2
  · exact insB_mem
theorem putB_len (l : List (List UInt8)) (s : List UInt8) : (putB l s).length ≤ l.length + 1 := by
  unfold putB
  split
  · omega
  · rw [insB_len]; exact Nat.le_refl _
theorem dnB_succ {l : List (List UInt8)} {s : List UInt8} {i : Nat} (h : i < l.length) : dnB l s (i + 1) = (dnB l s i || ltB s (l.getD i [])) := by
  unfold dnB
  rw [take_at (d := []) h,List.any_append]
  simp only [List.any_cons,List.any_nil,Bool.or_false]
theorem stB_done {l : List (List UInt8)} {s : List UInt8} {i : Nat} (h : i < l.length) (hd : dnB l s i = true) : stB l s (i + 1) = stB l s i ++ [l.getD i []] := by
  unfold stB
  rw [dnB_succ h,hd,Bool.true_or,if_pos rfl,if_pos rfl,take_at (d := []) h]
  exact insB_any hd
theorem stB_here {l : List (List UInt8)} {s : List UInt8} {i : Nat} (h : i < l.length) (hd : dnB l s i = false) (hx : ltB s (l.getD i []) = true) : stB l s (i + 1) = stB l s i ++ [s] ++ [l.getD i []] := by
  unfold stB
  rw [dnB_succ h,hd,hx,Bool.or_true,if_pos rfl,if_neg (by simp),take_at (d := []) h]
  exact insB_here hx hd
theorem stB_not {l : List (List UInt8)} {s : List UInt8} {i : Nat} (h : i < l.length) (hd : dnB l s i = false) (hx : ltB s (l.getD i []) = false) : stB l s (i + 1) = stB l s i ++ [l.getD i []] := by
  unfold stB
  rw [dnB_succ h,hd,hx,Bool.or_false,if_neg (by simp),if_neg (by simp),take_at (d := []) h]
theorem stB_len (l : List (List UInt8)) (s : List UInt8) (i : Nat) : (stB l s i).length ≤ i + 1 := by
  unfold stB
  split
  · rw [insB_len,List.length_take]; omega
  · rw [List.length_take]; omega
theorem c96 (l : List (List UInt8)) (s : List UInt8) (hl : l.length ≤ 1048576) : Sem prog 96 ⟨[.own 9 (rowsS l),.v (vS s)],[none,none]⟩ ⟨[.dead,.dead,.own 9 (rowsS (putB l s))],[none,none]⟩ := by
  refine sem_fin (cfg := cfg 2) (ts := [.tm 4]) tbOk func96 rfl rfl rfl rfl (fun t h => by cases h) ?_
  have hl9 : l.length ≤ 9223372036854775807 := by omega
  have h33 := c46 l s hl9
  simp only [go_sem,Nat.reduceSub,Nat.reduceDiv,Nat.reduceMod,f96,cfg]
  refine ev_call h33 (retW0 rfl rfl rfl rfl) ?_
  cases hcn : l.contains s
  case true =>
    have hp : putB l s = l := by unfold putB; rw [if_pos hcn]
    rw [hp]
    simp only [go_sem,Nat.reduceAdd,Nat.reduceBNe,Nat.reduceEqDiff,reduceCtorEq,Nat.reduceDiv,Nat.reduceMod]
    first | exact fin0 (.inr rfl) rfl rfl rfl rfl | trace_state
  have hp : putB l s = insB l s := by unfold putB; rw [if_neg (by rw [hcn]; simp)]
  rw [hp]
  simp only [go_sem,Nat.reduceAdd]
  refine loop_on (fun i : Nat => ⟨[.own 9 (rowsS l),.v (vS s),.dead,.dead,.nil,sd 9 (rowsS (stB l s i)),.v (vB (dnB l s i)),.v (vI i),.dead,.dead,.dead,.dead,.dead,.dead,.dead,.dead,.dead,.dead,.dead,.dead,.dead,.dead,.dead,.dead,.dead,.dead,.dead,.dead,.dead,.dead,.dead,.dead,.dead,.dead,.dead,.dead,.dead,.dead,.dead,.dead,.dead,.dead,.dead,.dead,.dead,.dead],List.replicate 46 none⟩) [0,1,4,5,6,7] (fun i => i ≤ l.length) (fun i => l.length - i) 0 rfl (by omega) ?_
  intro i hi
  have hsl := stB_len l s i
  have hend : i = l.length → (dnB l s i = true → rowsS (stB l s i) = rowsS (insB l s)) ∧ (dnB l s i = false → rowsS (stB l s i) ++ [[.v (vS s)]] = rowsS (insB l s)) := by
    intro e
    subst e
    unfold stB dnB
    rw [List.take_length]
    refine ⟨fun h => by rw [if_pos h],fun h => by rw [if_neg (by rw [h]; simp),insB_none h,rowsS_snoc]⟩
  have hrl := rowsS_length (stB l s i)
  generalize hacc : rowsS (stB l s i) = acc at hend hrl ⊢
  simp only [go_sem,Nat.reduceDiv,Nat.reduceMod,rowsS_length,hl9]
  try (with_reducible intro hlen)
  refine Or.elim (Classical.em (i < l.length)) (fun hc => ?_) fun hc => ?_
  · have hw := wrapN hc hl9
    have hci : ((i : Int) < (l.length : Int)) := by omega
    have g1 := rowsS_getD hc
    cases acc with
    | nil =>
      have hle1 : True := trivial
      have hle2 : True := trivial
      cases hd : dnB l s i
      · cases hx : ltB s (l.getD i [])
        · have hnd : dnB l s (i + 1) = false := by rw [dnB_succ hc,hd,hx]; rfl
          have hst := stB_not hc hd hx
          simp only [go_sem,Nat.reduceLeDiff,Nat.reduceLT,Nat.reduceAdd,Nat.reduceMul,Nat.reduceBNe,Nat.reduceEqDiff,reduceCtorEq,Nat.reduceDiv,Nat.reduceMod,rowsS_length,sd_nil,hc,hci,g1,hx]
          repeat' with_reducible refine And.intro (by (try simp only [List.length_append,List.length_cons,List.length_nil]); omega) ?_
          try simp only [go_sem,hw]
          repeat' with_reducible refine And.intro (by (try simp only [List.length_append,List.length_cons,List.length_nil]); omega) ?_
          try simp only [go_sem,Nat.reduceLeDiff,Nat.reduceLT,Nat.reduceAdd,Nat.reduceSub,Nat.reduceMul,Nat.reduceBEq,Nat.reduceBNe,Nat.reduceEqDiff,reduceCtorEq,reduceIte,Int.reduceLT,Int.reduceLE,Int.reduceAdd,Int.reduceSub,Int.reduceNeg,Int.reduceEq,Int.reduceBEq,Int.reduceBNe,Int.reduceToNat,Nat.reduceDiv,Nat.reduceMod,f96,cfg,rowsF_length,rowsS_length,sd_nil,sd_cons,hl9,hc,hci,g1,hd,hx,hw,hle1,hle2]
          first | exact ⟨i + 1,by rw [hnd,hst,rowsS_snoc,hacc]; rfl,hc,by omega⟩ | trace_state
        · have hnd : dnB l s (i + 1) = true := by rw [dnB_succ hc,hd,hx]; rfl
          have hst := stB_here hc hd hx
          simp only [go_sem,Nat.reduceLeDiff,Nat.reduceLT,Nat.reduceAdd,Nat.reduceMul,Nat.reduceBNe,Nat.reduceEqDiff,reduceCtorEq,Nat.reduceDiv,Nat.reduceMod,rowsS_length,sd_nil,hc,hci,g1,hx]
          repeat' with_reducible refine And.intro (by (try simp only [List.length_append,List.length_cons,List.length_nil]); omega) ?_
          try simp only [go_sem,hw]
          repeat' with_reducible refine And.intro (by (try simp only [List.length_append,List.length_cons,List.length_nil]); omega) ?_
          try simp only [go_sem,Nat.reduceLeDiff,Nat.reduceLT,Nat.reduceAdd,Nat.reduceSub,Nat.reduceMul,Nat.reduceBEq,Nat.reduceBNe,Nat.reduceEqDiff,reduceCtorEq,reduceIte,Int.reduceLT,Int.reduceLE,Int.reduceAdd,Int.reduceSub,Int.reduceNeg,Int.reduceEq,Int.reduceBEq,Int.reduceBNe,Int.reduceToNat,Nat.reduceDiv,Nat.reduceMod,f96,cfg,rowsF_length,rowsS_length,sd_nil,sd_cons,hl9,hc,hci,g1,hd,hx,hw,hle1,hle2]
          first | exact ⟨i + 1,by rw [hnd,hst,rowsS_snoc,rowsS_snoc,hacc]; rfl,hc,by omega⟩ | trace_state
      · have hnd : dnB l s (i + 1) = true := by rw [dnB_succ hc,hd]; rfl
        have hst := stB_done hc hd
        simp only [go_sem,Nat.reduceLeDiff,Nat.reduceLT,Nat.reduceAdd,Nat.reduceMul,Nat.reduceBNe,Nat.reduceEqDiff,reduceCtorEq,Nat.reduceDiv,Nat.reduceMod,rowsS_length,sd_nil,hc,hci,g1]
        repeat' with_reducible refine And.intro (by (try simp only [List.length_append,List.length_cons,List.length_nil]); omega) ?_
        try simp only [go_sem,hw]
        first | exact ⟨i + 1,by rw [hnd,hst,rowsS_snoc,hacc]; rfl,hc,by omega⟩ | trace_state
    | cons x xs =>
      have hlx : xs.length + 1 = (stB l s i).length := hrl
      have hle1 : xs.length + 1 + 1 ≤ 9223372036854775807 := by omega
      have hle2 : xs.length + 1 + 1 + 1 ≤ 9223372036854775807 := by omega
      cases hd : dnB l s i
      · cases hx : ltB s (l.getD i [])
        · have hnd : dnB l s (i + 1) = false := by rw [dnB_succ hc,hd,hx]; rfl
          have hst := stB_not hc hd hx
          simp only [go_sem,Nat.reduceLeDiff,Nat.reduceLT,Nat.reduceAdd,Nat.reduceMul,Nat.reduceBNe,Nat.reduceEqDiff,reduceCtorEq,Nat.reduceDiv,Nat.reduceMod,rowsS_length,sd_cons,hc,hci,g1,hx]
          repeat' with_reducible refine And.intro (by (try simp only [List.length_append,List.length_cons,List.length_nil]); omega) ?_
          try simp only [go_sem,hw]
          repeat' with_reducible refine And.intro (by (try simp only [List.length_append,List.length_cons,List.length_nil]); omega) ?_
          try simp only [go_sem,Nat.reduceLeDiff,Nat.reduceLT,Nat.reduceAdd,Nat.reduceSub,Nat.reduceMul,Nat.reduceBEq,Nat.reduceBNe,Nat.reduceEqDiff,reduceCtorEq,reduceIte,Int.reduceLT,Int.reduceLE,Int.reduceAdd,Int.reduceSub,Int.reduceNeg,Int.reduceEq,Int.reduceBEq,Int.reduceBNe,Int.reduceToNat,Nat.reduceDiv,Nat.reduceMod,f96,cfg,rowsF_length,rowsS_length,sd_nil,sd_cons,hl9,hc,hci,g1,hd,hx,hw,hle1,hle2]
          first | exact ⟨i + 1,by rw [hnd,hst,rowsS_snoc,hacc]; rfl,hc,by omega⟩ | trace_state
        · have hnd : dnB l s (i + 1) = true := by rw [dnB_succ hc,hd,hx]; rfl
          have hst := stB_here hc hd hx
          simp only [go_sem,Nat.reduceLeDiff,Nat.reduceLT,Nat.reduceAdd,Nat.reduceMul,Nat.reduceBNe,Nat.reduceEqDiff,reduceCtorEq,Nat.reduceDiv,Nat.reduceMod,rowsS_length,sd_cons,hc,hci,g1,hx]
          repeat' with_reducible refine And.intro (by (try simp only [List.length_append,List.length_cons,List.length_nil]); omega) ?_
          try simp only [go_sem,hw]
          repeat' with_reducible refine And.intro (by (try simp only [List.length_append,List.length_cons,List.length_nil]); omega) ?_
          try simp only [go_sem,Nat.reduceLeDiff,Nat.reduceLT,Nat.reduceAdd,Nat.reduceSub,Nat.reduceMul,Nat.reduceBEq,Nat.reduceBNe,Nat.reduceEqDiff,reduceCtorEq,reduceIte,Int.reduceLT,Int.reduceLE,Int.reduceAdd,Int.reduceSub,Int.reduceNeg,Int.reduceEq,Int.reduceBEq,Int.reduceBNe,Int.reduceToNat,Nat.reduceDiv,Nat.reduceMod,f96,cfg,rowsF_length,rowsS_length,sd_nil,sd_cons,hl9,hc,hci,g1,hd,hx,hw,hle1,hle2]
          first | exact ⟨i + 1,by rw [hnd,hst,rowsS_snoc,rowsS_snoc,hacc]; rfl,hc,by omega⟩ | trace_state
      · have hnd : dnB l s (i + 1) = true := by rw [dnB_succ hc,hd]; rfl
        have hst := stB_done hc hd
        simp only [go_sem,Nat.reduceLeDiff,Nat.reduceLT,Nat.reduceAdd,Nat.reduceMul,Nat.reduceBNe,Nat.reduceEqDiff,reduceCtorEq,Nat.reduceDiv,Nat.reduceMod,rowsS_length,sd_cons,hc,hci,g1]
        repeat' with_reducible refine And.intro (by (try simp only [List.length_append,List.length_cons,List.length_nil]); omega) ?_
        try simp only [go_sem,hw]
        first | exact ⟨i + 1,by rw [hnd,hst,rowsS_snoc,hacc]; rfl,hc,by omega⟩ | trace_state
  · have he := hend (by omega)
    have hci : ¬ ((i : Int) < (l.length : Int)) := by omega
    cases hd : dnB l s i
    · rw [← he.2 hd]
      cases acc with
      | nil =>
        simp only [go_sem,Nat.reduceLeDiff,Nat.reduceLT,Nat.reduceAdd,Nat.reduceMul,Nat.reduceBNe,Nat.reduceEqDiff,reduceCtorEq,Nat.reduceDiv,Nat.reduceMod,sd_nil,hc]
        first | exact fin0 (.inr rfl) rfl rfl rfl rfl | trace_state
      | cons x xs =>
        have hlx : xs.length + 1 = (stB l s i).length := hrl
        have hle1 : xs.length + 1 + 1 ≤ 9223372036854775807 := by omega
        simp only [go_sem,Nat.reduceLeDiff,Nat.reduceLT,Nat.reduceAdd,Nat.reduceMul,Nat.reduceBNe,Nat.reduceEqDiff,reduceCtorEq,Nat.reduceDiv,Nat.reduceMod,sd_cons,hc]
        repeat' with_reducible refine And.intro (by omega) ?_
        try simp only [go_sem]
        first | exact fin0 (.inr rfl) rfl rfl rfl rfl | trace_state
    · rw [← he.1 hd]
      cases acc with
      | nil =>
        exfalso
        have h0 : (stB l s i).length = 0 := hrl.symm
        unfold stB at h0
        rw [if_pos hd,insB_len] at h0
        omega
      | cons x xs =>
        simp only [go_sem,Nat.reduceAdd,Nat.reduceBNe,Nat.reduceEqDiff,reduceCtorEq,Nat.reduceDiv,Nat.reduceMod,sd_cons,hc]
        first | exact fin0 (.inr rfl) rfl rfl rfl rfl | trace_state
def hopF (ws : List (List UInt8)) : List (List UInt8) := (tokW ws).foldl putB hopN
theorem hopF_snoc {ws : List (List UInt8)} {i : Nat} (h : i < ws.length) (hb : tokenI (ws.getD i []) = true) : hopF (ws.take (i + 1)) = putB (hopF (ws.take i)) (foldB (ws.getD i [])) := by
  unfold hopF
  rw [tokW_hit h hb,List.foldl_append]; rfl
theorem hopF_miss {ws : List (List UInt8)} {i : Nat} (h : i < ws.length) (hb : tokenI (ws.getD i []) = false) : hopF (ws.take (i + 1)) = hopF (ws.take i) := by
  unfold hopF
  rw [tokW_miss h hb]
theorem foldl_put_len : ∀ (ts l : List (List UInt8)),(ts.foldl putB l).length ≤ l.length + ts.length
  | [],l => by simp
  | t :: ts,l => by
    have h1 := foldl_put_len ts (putB l t)
    have h2 := putB_len l t
    simp only [List.foldl_cons,List.length_cons]
    omega
theorem hopF_len (ws : List (List UInt8)) : (hopF ws).length ≤ 7 + ws.length := by
  have h1 := foldl_put_len (tokW ws) hopN
  have h2 := tokW_len ws
  have : hopN.length = 7 := rfl
  unfold hopF
  omega
theorem foldl_put_mem {x : List UInt8} : ∀ (ts l : List (List UInt8)),x ∈ ts.foldl putB l ↔ x ∈ l ∨ x ∈ ts
  | [],l => by simp
  | t :: ts,l => by
    rw [List.foldl_cons,foldl_put_mem ts,putB_mem,List.mem_cons]; grind
theorem hop_same (ws : List (List UInt8)) (x : List UInt8) : (hopF ws).contains x = (hopI ws).contains x := by
  rw [Bool.eq_iff_iff,List.contains_iff_mem,List.contains_iff_mem]
  unfold hopF hopI
  rw [foldl_put_mem,compact_mem,sortB_mem,List.mem_append]
theorem hopF_ne (ws : List (List UInt8)) : 7 ≤ (hopF ws).length := by
  have : ∀ (ts l : List (List UInt8)),l.length ≤ (ts.foldl putB l).length := by
    intro ts
    induction ts with
    | nil => exact fun l => Nat.le_refl _
    | cons t ts ih =>
      intro l
      refine Nat.le_trans ?_ (ih _)
      unfold putB
      split
      · exact Nat.le_refl _
      · rw [insB_len]; omega
  exact this (tokW ws) hopN
theorem c45n (l : List Fld) (hl : Small l) (h : fieldsB l = false) : Sem prog 45 ⟨[.imm 45 (rowsF l)],[none]⟩ ⟨[.dead,.nil],[none]⟩ := by
  refine sem_fin (cfg := cfg 1) (ts := [.tm 2]) tbOk func45 rfl rfl rfl rfl (fun t h => by cases h) ?_
  simp only [go_sem,Nat.reduceSub,f45,cfg]
  refine ev_call (c38 l hl) (retW0 rfl rfl rfl rfl) ?_
  simp only [go_sem,Nat.reduceAdd,h]
  first | exact fin0 (.inr rfl) rfl rfl rfl rfl | trace_state
theorem c45 (l : List Fld) (hl : Small l) (h : fieldsB l = true) : Sem prog 45 ⟨[.imm 45 (rowsF l)],[none]⟩ ⟨[.dead,.own 9 (rowsS (hopF (wordsB connN l)))],[none]⟩ := by
  refine sem_fin (cfg := cfg 1) (ts := [.tm 2]) tbOk func45 rfl rfl rfl rfl (fun t h => by cases h) ?_
  simp only [go_sem,Nat.reduceSub,f45,cfg]
  refine ev_call (c38 l hl) (retW0 rfl rfl rfl rfl) ?_
  simp only [go_sem,Nat.reduceLeDiff,Nat.reduceLT,Nat.reduceAdd,Nat.reduceMul,Nat.reduceBNe,Nat.reduceEqDiff,reduceCtorEq,Nat.reduceDiv,Nat.reduceMod,h]
  have h64 := c95 l hl connN (by decide) h
  obtain ⟨hw1,hw2⟩ := words_le (name := connN) h
  generalize wordsB connN l = ws at h64 hw1 hw2 ⊢
  have hws : ws.length ≤ 9223372036854775807 := by omega
  cases hr : rowsS ws with
  | nil =>
    have hz : ws = [] := by
      cases ws with
      | nil => rfl
      | cons => simp [rowsS] at hr
    subst hz
    refine ev_call h64 (retW0 rfl rfl rfl rfl) ?_
    simp only [go_sem,Nat.reduceAdd,Nat.reduceBNe,sd_nil,rowsS,List.map_nil]
    refine loop_on (fun i : Nat => ⟨[.imm 45 (rowsF l),.dead,.nil,.own 9 (rowsS (hopF [])),.nil,.v (vI 0),.dead,.dead,.dead,.dead,.dead,.dead,.dead,.dead,.dead,.dead,.dead,.dead,.dead,.dead,.dead,.dead,.dead,.dead,.dead,.dead,.dead,.dead,.dead,.dead,.dead],List.replicate 31 none⟩) [0,2,3,4,5] (fun i => True) (fun i => 0) 0 rfl trivial ?_
    intro i hi
    simp only [go_sem,Nat.reduceAdd,Nat.reduceBNe,Nat.reduceEqDiff,reduceCtorEq,Int.reduceLT,Nat.reduceDiv,Nat.reduceMod]
    first | exact fin0 (.inr rfl) rfl rfl rfl rfl | trace_state
  | cons x xs =>
    rw [hr,sd_cons] at h64
    refine ev_call h64 (retW0 rfl rfl rfl rfl) ?_
    rw [← hr]
    simp only [go_sem,Nat.reduceAdd,Nat.reduceBNe,Nat.reduceEqDiff,reduceCtorEq,Nat.reduceDiv,Nat.reduceMod]
    refine loop_on (fun i : Nat => ⟨[.imm 45 (rowsF l),.dead,.nil,.own 9 (rowsS (hopF (ws.take i))),.own 9 (rowsS ws),.v (vI i),.dead,.dead,.dead,.dead,.dead,.dead,.dead,.dead,.dead,.dead,.dead,.dead,.dead,.dead,.dead,.dead,.dead,.dead,.dead,.dead,.dead,.dead,.dead,.dead,.dead],List.replicate 31 none⟩) [0,2,3,4,5] (fun i => i ≤ ws.length) (fun i => ws.length - i) 0 rfl (by omega) ?_
    intro i hi
    simp only [go_sem,Nat.reduceDiv,Nat.reduceMod,rowsS_length,hws]
    try (with_reducible intro hlen)
    refine Or.elim (Classical.em (i < ws.length)) (fun hc => ?_) fun hc => ?_
    · have hw := wrapN hc hws
      have hci : ((i : Int) < (ws.length : Int)) := by omega
      have g1 := rowsS_getD hc
      have g2 := elem_le hw2 hc
      have g3 := hopF_len (ws.take i)
      have g4 : (ws.take i).length ≤ 3841 := by rw [List.length_take]; omega
      have h56 := c89 (ws.getD i []) g2
      rw [token_eq] at h56
      have h34 := c34 (ws.getD i []) g2
      have h65 := c96 (hopF (ws.take i)) (foldB (ws.getD i [])) (by omega)
      cases hb : tokenI (ws.getD i [])
      · rw [hb] at h56
        have ht := hopF_miss hc hb
        simp only [go_sem,Nat.reduceDiv,Nat.reduceMod,rowsS_length,hc,hci,g1]
        refine ev_call h56 (retW0 rfl rfl rfl rfl) ?_
        simp only [go_sem,Nat.reduceAdd,Nat.reduceBNe,hw]
        first | exact ⟨i + 1,by rw [ht]; rfl,hc,by omega⟩ | trace_state
      · rw [hb] at h56
        have ht := hopF_snoc hc hb
        simp only [go_sem,Nat.reduceDiv,Nat.reduceMod,rowsS_length,hc,hci,g1]
        refine ev_call h56 (retW0 rfl rfl rfl rfl) ?_
        simp only [go_sem,Nat.reduceAdd,Nat.reduceDiv,Nat.reduceMod,rowsS_length,hci,g1]
        refine ev_call h34 (retW0 rfl rfl rfl rfl) ?_
        simp only [go_sem,Nat.reduceAdd,Nat.reduceDiv,Nat.reduceMod]
        refine ev_call h65 (retWm rfl rfl rfl rfl rfl rfl) ?_
        simp only [go_sem,Nat.reduceAdd,Nat.reduceBNe,Nat.reduceEqDiff,reduceCtorEq,Nat.reduceDiv,Nat.reduceMod,hw]
        first | exact ⟨i + 1,by rw [ht]; rfl,hc,by omega⟩ | trace_state
    · have he : i = ws.length := by omega
      have hci : ¬ ((i : Int) < (ws.length : Int)) := by omega
      subst he
      rw [List.take_of_length_le (Nat.le_refl _)]
      simp only [go_sem,Nat.reduceAdd,Nat.reduceBNe,Nat.reduceEqDiff,reduceCtorEq,Nat.reduceDiv,Nat.reduceMod,hc]
      first | exact fin0 (.inr rfl) rfl rfl rfl rfl | trace_state
set_option maxRecDepth 100000
set_option maxHeartbeats 600000
def keepF (p : List UInt8 → Bool) (l : List Fld) : List Fld := l.filter fun q => p q.1
theorem keepF_hit {p : List UInt8 → Bool} {l : List Fld} {i : Nat} (h : i < l.length) (hb : p (l.getD i ([],[])).1 = true) : keepF p (l.take (i + 1)) = keepF p (l.take i) ++ [l.getD i ([],[])] := by
  have : [l.getD i ([],[])].filter (fun q => p q.1) = [l.getD i ([],[])] := by rw [List.filter_cons,if_pos hb]; rfl
  rw [take_at (d := ([],[])) h,keepF,List.filter_append,this]; rfl
theorem keepF_miss {p : List UInt8 → Bool} {l : List Fld} {i : Nat} (h : i < l.length) (hb : p (l.getD i ([],[])).1 = false) : keepF p (l.take (i + 1)) = keepF p (l.take i) := by
  have : [l.getD i ([],[])].filter (fun q => p q.1) = [] := by rw [List.filter_cons,if_neg (by rw [hb]; simp)]; rfl
  rw [take_at (d := ([],[])) h,keepF,List.filter_append,this,List.append_nil]; rfl
theorem keepF_le (p : List UInt8 → Bool) (l : List Fld) (i : Nat) : (rowsF (keepF p (l.take i))).length ≤ i := by
  rw [rowsF_length]
  refine Nat.le_trans (List.length_filter_le _ _) ?_
  rw [List.length_take]; omega
def e2eB (l : List Fld) : List Fld := if fieldsB l = true then keepF (fun n => !(hopI (wordsB connN l)).contains (foldB n)) l else []
theorem c76n (f : FuncId) (ls : List D) (l : List Fld) (hl : Small l) (h : fieldsB l = false) : Sem prog 76 ⟨[.imm 45 (rowsF l),.clo f [.rptr ls]],[none,none]⟩ ⟨[.dead,.dead,.nil],[none,none]⟩ := by
  refine sem_fin (cfg := cfg 2) (ts := [.tm 4]) tbOk func76 rfl rfl rfl rfl (fun t h => by cases h) ?_
  simp only [go_sem,Nat.reduceSub,f76,cfg]
  refine ev_call (c62 l hl) (retW0 rfl rfl rfl rfl) ?_
  simp only [go_sem,Nat.reduceAdd,h]
  first | exact fin0 (.inr rfl) rfl rfl rfl rfl | trace_state
theorem c76k (f : FuncId) (ls : List D) (p : List UInt8 → Bool) (hp : pts f = [9,9]) (hm0 : md f 0 = 0) (hm1 : md f 1 = 0) (hf : ∀ n : List UInt8,n.length ≤ 9223372036854775807 → Sem prog f ⟨[.v (vS n),.rptr ls],[none,none]⟩ ⟨[.dead,.dead,.v (vB (p n))],[none,none]⟩) (l : List Fld) (hl : Small l) (h : fieldsB l = true) : Sem prog 76 ⟨[.imm 45 (rowsF l),.clo f [.rptr ls]],[none,none]⟩ ⟨[.dead,.dead,sd 45 (rowsF (keepF p l))],[none,none]⟩ := by
  refine sem_fin (cfg := cfg 2) (ts := [.tm 4]) tbOk func76 rfl rfl rfl rfl (fun t h => by cases h) ?_
  simp only [go_sem,Nat.reduceSub,f76,cfg]
  refine ev_call (c62 l hl) (retW0 rfl rfl rfl rfl) ?_
  simp only [go_sem,Nat.reduceAdd,rowsF_length,h]
  have hs : l.length ≤ 9223372036854775807 := hl.1
  have h20 := fields_len h
  try simp only [go_sem,hs]
  refine loop_on (fun i : Nat => ⟨[.imm 45 (rowsF l),.clo f [.rptr ls],.dead,.dead,.nil,sd 45 (rowsF (keepF p (l.take i))),.dead,.dead,.dead,.dead,.dead,.imm 45 (rowsF l),.v (vI l.length),.v (vI i),.dead,.dead,.dead,.dead,.dead,.dead,.dead,.dead,.dead,.dead,.dead,.dead,.dead],List.replicate 27 none⟩) [0,1,4,5,11,12,13] (fun i => i ≤ l.length) (fun i => l.length - i) 0 rfl (by omega) ?_
  intro i hi
  have hle := keepF_le p l i
  have hend : i = l.length → keepF p (l.take i) = keepF p l := fun e => by rw [e,List.take_length]
  generalize hacc : rowsF (keepF p (l.take i)) = acc at hle ⊢
  simp only [go_sem]
  cases acc with
  | nil =>
    try simp only [go_sem]
    by_cases hc : i < l.length
    · have hw := wrapN hc hs
      have h1 := rowsF_getD hc
      have hsm := hl.at hc
      simp only [go_sem,Nat.reduceLeDiff,Nat.reduceLT,Nat.reduceAdd,rowsF_length,sd_nil,hc,h1,hp,hm0,hm1]
      refine ev_call (hf _ hsm.1) (retW0 rfl rfl rfl rfl) ?_
      cases hb : p (l.getD i ([],[])).1
      · simp only [go_sem,Nat.reduceAdd,hw]
        exact ⟨i + 1,by rw [keepF_miss hc hb,hacc]; rfl,hc,by omega⟩
      · simp only [go_sem,Nat.reduceLeDiff,Nat.reduceLT,Nat.reduceAdd,Nat.reduceMul,Nat.reduceBNe,Nat.reduceEqDiff,reduceCtorEq,Nat.reduceDiv,Nat.reduceMod,hw]
        have hb1 : (1 : Nat) * 32 ≤ 140737488355328 := by omega
        try simp only [go_sem,Nat.reduceLeDiff,Nat.reduceLT,Nat.reduceAdd,Nat.reduceSub,Nat.reduceMul,Nat.reduceBEq,Nat.reduceBNe,Nat.reduceEqDiff,reduceCtorEq,reduceIte,Int.reduceLT,Int.reduceLE,Int.reduceAdd,Int.reduceSub,Int.reduceNeg,Int.reduceEq,Int.reduceBEq,Int.reduceBNe,Int.reduceToNat,Nat.reduceDiv,Nat.reduceMod,f76,cfg,rowsF_length,rowsS_length,sd_nil,sd_cons,List.length_append,hs,hc,h1,hb,hw,hb1]
        first | exact ⟨i + 1,by rw [keepF_hit hc hb,rowsF_snoc,hacc]; rfl,hc,by omega⟩ | trace_state
    · have he := hend (by omega)
      rw [he] at hacc
      simp only [go_sem,Nat.reduceBNe,sd_nil,hc]
      first | (refine fin0 (.inr rfl) rfl rfl rfl ?_; rw [hacc]; rfl) | trace_state
  | cons x xs =>
    try simp only [go_sem]
    by_cases hc : i < l.length
    · have hw := wrapN hc hs
      have h1 := rowsF_getD hc
      have hsm := hl.at hc
      simp only [go_sem,Nat.reduceLeDiff,Nat.reduceLT,Nat.reduceAdd,rowsF_length,sd_cons,hc,h1,hp,hm0,hm1]
      refine ev_call (hf _ hsm.1) (retW0 rfl rfl rfl rfl) ?_
      cases hb : p (l.getD i ([],[])).1
      · simp only [go_sem,Nat.reduceAdd,hw]
        exact ⟨i + 1,by rw [keepF_miss hc hb,hacc]; rfl,hc,by omega⟩
      · simp only [go_sem,Nat.reduceLeDiff,Nat.reduceLT,Nat.reduceAdd,Nat.reduceMul,Nat.reduceBNe,Nat.reduceEqDiff,reduceCtorEq,Nat.reduceDiv,Nat.reduceMod,hw]
        have hb1 : (xs.length + 1 + 1) * 32 ≤ 140737488355328 := by simp only [List.length_cons] at hle; omega
        try simp only [go_sem,hb1]
        first | exact ⟨i + 1,by rw [keepF_hit hc hb,rowsF_snoc,hacc]; rfl,hc,by omega⟩ | trace_state
    · have he := hend (by omega)
      rw [he] at hacc
      simp only [go_sem,Nat.reduceAdd,Nat.reduceBNe,Nat.reduceEqDiff,reduceCtorEq,Nat.reduceDiv,Nat.reduceMod,sd_cons,hc]
      first | (refine fin0 (.inr rfl) rfl rfl rfl ?_; rw [hacc]; rfl) | trace_state
theorem c77 (hs : List (List UInt8)) (hh : hs.length ≤ 9223372036854775807) (n : List UInt8) (hn : n.length ≤ 9223372036854775807) : Sem prog 77 ⟨[.v (vS n),.rptr [.imm 9 (rowsS hs)]],[none,none]⟩ ⟨[.dead,.dead,.v (vB (!hs.contains (foldB n)))],[none,none]⟩ := by
  refine sem_fin (cfg := cfg 2) (ts := [.tm 3]) tbOk func77 rfl rfl rfl rfl (fun t h => by cases h) ?_
  simp only [go_sem,Nat.reduceSub,f77,cfg, *]
  repeat' ((first | refine draw_intro 6 [[5,6,7,8,3],[4,6,7,8,3],[4,7,8,3],[5,8,3],[4,5,6,3],[]] mixedOk rfl ?_ | refine ev_call (c55 n hn) (retW0 rfl rfl rfl rfl) ?_ | refine of_call (c55 n hn) (retW0 rfl rfl rfl rfl) rfl rfl rfl ?_ | refine ev_call (c78 hs (foldB n) hh) (retW0 rfl rfl rfl rfl) ?_ | refine of_call (c78 hs (foldB n) hh) (retW0 rfl rfl rfl rfl) rfl rfl rfl ?_ | split) <;> (try simp only [go_sem,Nat.reduceAdd,Nat.reduceBEq,Nat.reduceBNe, *]))
  all_goals
    first | exact fin0 (.inr rfl) rfl rfl rfl rfl | trace_state
theorem hopI_len (ws : List (List UInt8)) : (hopI ws).length ≤ 7 + ws.length := by
  unfold hopI
  have h1 := Lib.compact_length_le (sortB (hopN ++ tokW ws))
  have h2 := tokW_len ws
  rw [sortB_len,List.length_append] at h1
  have : hopN.length = 7 := rfl
  omega
theorem rowsS_has {hs : List (List UInt8)} (h : hs ≠ []) : ∃ x xs,rowsS hs = x :: xs := by
  cases hs with
  | nil => exact absurd rfl h
  | cons x xs => exact ⟨_,_,rfl⟩
theorem c24 (l : List Fld) (hl : Small l) : Sem prog 24 ⟨[.imm 45 (rowsF l)],[none]⟩ ⟨[.dead,sd 45 (rowsF (e2eB l))],[none]⟩ := by
  refine sem_fin (cfg := cfg 1) (ts := [.tm 2]) tbOk func24 rfl rfl rfl rfl (fun t h => by cases h) ?_
  cases h : fieldsB l
  · have he : e2eB l = [] := by unfold e2eB; rw [if_neg (by rw [h]; simp)]
    rw [he]
    simp only [go_sem,Nat.reduceSub,f24,cfg]
    refine ev_call (c75n l hl h) (retW0 rfl rfl rfl rfl) ?_
    simp only [go_sem,Nat.reduceLeDiff,Nat.reduceLT,Nat.reduceAdd]
    refine ev_call (c76n 77 [.nil] l hl h) (retW0 rfl rfl rfl rfl) ?_
    simp only [go_sem,Nat.reduceAdd,Nat.reduceBNe]
    first | exact fin0 (.inr rfl) rfl rfl rfl rfl | trace_state
  · have he : e2eB l = keepF (fun n => !(hopI (wordsB connN l)).contains (foldB n)) l := by unfold e2eB; rw [if_pos h]
    rw [he]
    have h48 := c75 l hl h
    obtain ⟨hw1,hw2⟩ := words_le (name := connN) h
    have hlen := hopI_len (wordsB connN l)
    generalize hopI (wordsB connN l) = hs at h48 hlen ⊢
    have h50 := c77 hs (by omega)
    have h49 := c76k 77 [.imm 9 (rowsS hs)] (fun n => !hs.contains (foldB n)) rfl rfl rfl h50 l hl h
    simp only [go_sem,Nat.reduceSub,f24,cfg]
    refine ev_call h48 (retW0 rfl rfl rfl rfl) ?_
    simp only [go_sem,Nat.reduceLeDiff,Nat.reduceLT,Nat.reduceAdd,Nat.reduceEqDiff,reduceCtorEq,Nat.reduceDiv,Nat.reduceMod]
    generalize rowsF (keepF (fun n => !hs.contains (foldB n)) l) = R at h49 ⊢
    cases R with
    | nil =>
      rw [sd_nil] at h49
      refine ev_call h49 (retW0 rfl rfl rfl rfl) ?_
      simp only [go_sem,Nat.reduceAdd,Nat.reduceBNe]
      first | exact fin0 (.inr rfl) rfl rfl rfl rfl | trace_state
    | cons y ys =>
      rw [sd_cons] at h49
      refine ev_call h49 (retW0 rfl rfl rfl rfl) ?_
      simp only [go_sem,Nat.reduceAdd,Nat.reduceBNe,Nat.reduceEqDiff,reduceCtorEq,Nat.reduceDiv,Nat.reduceMod]
      first | exact fin0 (.inr rfl) rfl rfl rfl rfl | trace_state
theorem c15 (l : List Fld) (hl : Small l) : Sem prog 15 ⟨[.imm 45 (rowsF l)],[none]⟩ ⟨[.dead,sd 45 (rowsF (e2eB l))],[none]⟩ := by
  refine sem_fin (cfg := cfg 1) (ts := [.tm 2]) tbOk func15 rfl rfl rfl rfl (fun t h => by cases h) ?_
  have hs : l.length ≤ 9223372036854775807 := hl.1
  cases h : fieldsB l
  · have he : e2eB l = [] := by unfold e2eB; rw [if_neg (by rw [h]; simp)]
    rw [he]
    simp only [go_sem,Nat.reduceSub,f15,cfg]
    refine ev_call (c45n l hl h) (retW0 rfl rfl rfl rfl) ?_
    simp only [go_sem,Nat.reduceAdd,Nat.reduceBNe]
    first | exact fin0 (.inr rfl) rfl rfl rfl rfl | trace_state
  have h20 := fields_len h
  have he : e2eB l = keepF (fun n => !(hopF (wordsB connN l)).contains (foldB n)) l := by
    unfold e2eB
    rw [if_pos h]
    congr 1
    funext n
    rw [hop_same]
  rw [he]
  have h32 := c45 l hl h
  obtain ⟨hw1,hw2⟩ := words_le (name := connN) h
  have hlen := hopF_len (wordsB connN l)
  have hne := hopF_ne (wordsB connN l)
  generalize hopF (wordsB connN l) = hp at h32 hlen hne ⊢
  have hz : ((hp.length : Int) == 0) = false := by rw [beq_eq_false_iff_ne]; omega
  have hp9 : hp.length ≤ 9223372036854775807 := by omega
  simp only [go_sem,Nat.reduceSub,f15,cfg]
  refine ev_call h32 (retW0 rfl rfl rfl rfl) ?_
  simp only [go_sem,Nat.reduceAdd,Nat.reduceBNe,Nat.reduceEqDiff,reduceCtorEq,Nat.reduceDiv,Nat.reduceMod,rowsS_length,hz,hp9]
  try (with_reducible intro hlen3)
  try simp only [go_sem]
  generalize hP : (fun n : List UInt8 => !hp.contains (foldB n)) = p
  have hpp : ∀ n,p n = !hp.contains (foldB n) := fun n => by rw [← hP]
  refine loop_on (fun i : Nat => ⟨[.imm 45 (rowsF l),.dead,.nil,sd 45 (rowsF (keepF p (l.take i))),.own 9 (rowsS hp),.v (vI i),.dead,.dead,.dead,.dead,.dead,.dead,.dead,.dead,.dead,.dead,.dead,.dead,.dead,.dead,.dead,.dead,.dead,.dead,.dead,.dead,.dead,.dead,.dead,.dead,.dead,.dead,.dead,.dead],List.replicate 34 none⟩) [0,2,3,4,5] (fun i => i ≤ l.length) (fun i => l.length - i) 0 rfl (by omega) ?_
  intro i hi
  have hle := keepF_le p l i
  have hend : i = l.length → keepF p (l.take i) = keepF p l := fun e => by rw [e,List.take_length]
  have keepF_hit : ∀ {i : Nat},i < l.length → (!hp.contains (foldB (l.getD i ([],[])).1)) = true → keepF p (l.take (i + 1)) = keepF p (l.take i) ++ [l.getD i ([],[])] := fun h1 h2 => keepF_hit h1 ((hpp _).trans h2)
  have keepF_miss : ∀ {i : Nat},i < l.length → (!hp.contains (foldB (l.getD i ([],[])).1)) = false → keepF p (l.take (i + 1)) = keepF p (l.take i) := fun h1 h2 => keepF_miss h1 ((hpp _).trans h2)
  generalize hacc : rowsF (keepF p (l.take i)) = acc at hle ⊢
  simp only [go_sem,rowsF_length,hs]
  try (with_reducible intro hlen4)
  cases acc with
  | nil =>
    try simp only [go_sem]
    by_cases hc : i < l.length
    · have hw := wrapN hc hs
      have h1 := rowsF_getD hc
      have hsm := hl.at hc
      have h34 := c34 _ hsm.1
      have h33 := c46 hp (foldB (l.getD i ([],[])).1) (by omega)
      simp only [go_sem,Nat.reduceLeDiff,Nat.reduceAdd,rowsF_length,sd_nil,hc,h1]
      refine ev_call h34 (retW0 rfl rfl rfl rfl) ?_
      simp only [go_sem,Nat.reduceAdd,Nat.reduceDiv,Nat.reduceMod]
      refine ev_call h33 (retW0 rfl rfl rfl rfl) ?_
      cases hb : hp.contains (foldB (l.getD i ([],[])).1)
      · have hb2 : (!hp.contains (foldB (l.getD i ([],[])).1)) = true := by rw [hb]; rfl
        simp only [go_sem,Nat.reduceLeDiff,Nat.reduceLT,Nat.reduceAdd,Nat.reduceMul,Nat.reduceBNe,Nat.reduceEqDiff,reduceCtorEq,Nat.reduceDiv,Nat.reduceMod,rowsF_length,hc,h1,hw]
        have hb1 : (1 : Nat) * 32 ≤ 140737488355328 := by omega
        try simp only [go_sem,Nat.reduceLeDiff,Nat.reduceLT,Nat.reduceAdd,Nat.reduceSub,Nat.reduceMul,Nat.reduceBEq,Nat.reduceBNe,Nat.reduceEqDiff,reduceCtorEq,reduceIte,Int.reduceLT,Int.reduceLE,Int.reduceAdd,Int.reduceSub,Int.reduceNeg,Int.reduceEq,Int.reduceBEq,Int.reduceBNe,Int.reduceToNat,Nat.reduceDiv,Nat.reduceMod,f15,cfg,rowsF_length,rowsS_length,sd_nil,sd_cons,List.length_append,hs,hc,h1,hb,hw,hb1]
        first | exact ⟨i + 1,by rw [keepF_hit hc hb2,rowsF_snoc,hacc]; rfl,hc,by omega⟩ | trace_state
      · have hb2 : (!hp.contains (foldB (l.getD i ([],[])).1)) = false := by rw [hb]; rfl
        simp only [go_sem,Nat.reduceAdd,Nat.reduceBNe,hw]
        exact ⟨i + 1,by rw [keepF_miss hc hb2,hacc]; rfl,hc,by omega⟩
    · have he := hend (by omega)
      rw [he] at hacc
      simp only [go_sem,Nat.reduceBNe,sd_nil,hc]
      first | (refine fin0 (.inr rfl) rfl rfl rfl ?_; rw [hacc]; rfl) | trace_state
  | cons x xs =>
    try simp only [go_sem]
    by_cases hc : i < l.length
    · have hw := wrapN hc hs
      have h1 := rowsF_getD hc
      have hsm := hl.at hc
      have h34 := c34 _ hsm.1
      have h33 := c46 hp (foldB (l.getD i ([],[])).1) (by omega)
      simp only [go_sem,Nat.reduceLeDiff,Nat.reduceAdd,rowsF_length,sd_cons,hc,h1]
      refine ev_call h34 (retW0 rfl rfl rfl rfl) ?_
      simp only [go_sem,Nat.reduceAdd,Nat.reduceDiv,Nat.reduceMod]
      refine ev_call h33 (retW0 rfl rfl rfl rfl) ?_
      cases hb : hp.contains (foldB (l.getD i ([],[])).1)
      · have hb2 : (!hp.contains (foldB (l.getD i ([],[])).1)) = true := by rw [hb]; rfl
        simp only [go_sem,Nat.reduceLeDiff,Nat.reduceLT,Nat.reduceAdd,Nat.reduceMul,Nat.reduceBNe,Nat.reduceEqDiff,reduceCtorEq,Nat.reduceDiv,Nat.reduceMod,rowsF_length,hc,h1,hw]
        have hb1 : (xs.length + 1 + 1) * 32 ≤ 140737488355328 := by simp only [List.length_cons] at hle; omega
        try simp only [go_sem,hb1]
        first | exact ⟨i + 1,by rw [keepF_hit hc hb2,rowsF_snoc,hacc]; rfl,hc,by omega⟩ | trace_state
      · have hb2 : (!hp.contains (foldB (l.getD i ([],[])).1)) = false := by rw [hb]; rfl
        simp only [go_sem,Nat.reduceAdd,Nat.reduceBNe,hw]
        exact ⟨i + 1,by rw [keepF_miss hc hb2,hacc]; rfl,hc,by omega⟩
    · have he := hend (by omega)
      rw [he] at hacc
      simp only [go_sem,Nat.reduceAdd,Nat.reduceBNe,Nat.reduceEqDiff,reduceCtorEq,Nat.reduceDiv,Nat.reduceMod,sd_cons,hc]
      first | (refine fin0 (.inr rfl) rfl rfl rfl ?_; rw [hacc]; rfl) | trace_state
set_option maxRecDepth 100000
set_option maxHeartbeats 600000
def msgZ : D := .agg [.v (vS []),.v (vS []),.v (vI 0),.v (vS []),.v (vB false),.nil,.v (vS [])]
def resM (me ta : List UInt8) (st : Int) (re : List UInt8) (ba : Bool) (bo : List UInt8) : Option (List Fld) → D
  | none => .tup [msgZ,.v (vB false)]
  | some x => .tup [.agg [.v (vS me),.v (vS ta),.v (vI st),.v (vS re),.v (vB ba),.own 45 (rowsF x),.v (vS bo)],.v (vB true)]
theorem optD_none : optD none = .nil := id rfl
theorem optD_some {x : List Fld} : optD (some x) = .own 45 (rowsF x) := id rfl
def delB (me ta : List UInt8) (st : Int) (re : List UInt8) (ba : Bool) (l : List Fld) (bo name : List UInt8) : Option (List Fld) :=
  if (msgB me ta st re ba l bo && (me == [])) = true then
    match addB (e2eB l) name with
    | none => none
    | some x => if msgB me ta st re ba x bo = true then some x else none
  else none
theorem small_filter {l : List Fld} (h : Small l) (p : Fld → Bool) : Small (l.filter p) :=
  ⟨Nat.le_trans (List.length_filter_le _ _) h.1,fun q hq => h.2 q (List.mem_filter.1 hq).1⟩
theorem small_e2e {l : List Fld} (h : Small l) : Small (e2eB l) := by
  unfold e2eB keepF
  split
  · exact small_filter h _
  · exact ⟨by simp,fun q hq => by cases hq⟩
theorem withB_some {l x : List Fld} {f : Fld} (h : withB l f = some x) : x = withoutB f.1 l ++ [f] ∧ fieldB f = true := by
  unfold withB at h
  split at h
  · rename_i hc
    injection h with h
    simp only [Bool.and_eq_true] at hc
    exact ⟨h.symm,hc.1.2⟩
  · cases h
theorem addB_some {l x : List Fld} {name : List UInt8} (hl : Small l) (h : addB l name = some x) : Small x ∧ 0 < x.length ∧ x.length ≤ 1048576 := by
  have hx : ∃ f : Fld,x = withoutB f.1 l ++ [f] ∧ fieldB f = true ∧ fieldsB l = true := by
    unfold addB at h
    split at h
    · rename_i hc
      obtain ⟨h1,h2⟩ := withB_some h
      simp only [Bool.and_eq_true] at hc
      exact ⟨_,h1,h2,hc.1⟩
    · cases h
  obtain ⟨f,rfl,hf,hfs⟩ := hx
  have hfl := fieldB_le hf
  have hs : Small (withoutB f.1 l) := small_filter hl _
  have hn := fields_len hfs
  have hw := wo_len f.1 l
  refine ⟨⟨by rw [List.length_append]; simp; omega,fun q hq => ?_⟩,by simp,by rw [List.length_append]; simp; omega⟩
  rcases List.mem_append.1 hq with h1 | h1
  · exact hs.2 q h1
  · rw [List.mem_singleton] at h1
    rw [h1]
    omega
theorem c27n (h44 : H44) (me ta : List UInt8) (st : Int) (re : List UInt8) (ba : Bool) (l : List Fld) (bo : List UInt8) (h1 : me.length ≤ 9223372036854775807) (h2 : ta.length ≤ 9223372036854775807) (h3 : re.length ≤ 9223372036854775807) (h4 : bo.length ≤ 9223372036854775807) (hl : Small l) (h : msgB me ta st re ba l bo = false) : Sem prog 27 ⟨[.agg [.v (vS me),.v (vS ta),.v (vI st),.v (vS re),.v (vB ba),.own 45 (rowsF l),.v (vS bo)]],[none]⟩ ⟨[.dead,.tup [msgZ,.v (vB false)]],[none]⟩ := by
  refine sem_fin (cfg := cfg 1) (ts := [.ce 2 28,.tm 3]) tbOk func27 rfl rfl rfl rfl (fun t h => by cases h) ?_
  have h16 := c21 h44 me ta st re ba l bo h1 h2 h3 h4 hl
  rw [h] at h16
  simp only [go_sem,Nat.reduceLeDiff,Nat.reduceLT,Nat.reduceAdd,Nat.reduceSub,Nat.reduceEqDiff,reduceCtorEq,Nat.reduceDiv,Nat.reduceMod,f27,cfg]
  refine ev_call h16 (retW0 rfl rfl rfl rfl) ?_
  simp only [go_sem,Nat.reduceAdd]
  first | exact fin0 (.inr rfl) rfl rfl rfl rfl | trace_state
theorem c27y (h44 : H44) (me ta : List UInt8) (st : Int) (re : List UInt8) (ba : Bool) (l : List Fld) (bo : List UInt8) (h1 : me.length ≤ 9223372036854775807) (h2 : ta.length ≤ 9223372036854775807) (h3 : re.length ≤ 9223372036854775807) (h4 : bo.length ≤ 9223372036854775807) (hl : Small l) (h : msgB me ta st re ba l bo = true) : Sem prog 27 ⟨[.agg [.v (vS me),.v (vS ta),.v (vI st),.v (vS re),.v (vB ba),.own 45 (rowsF l),.v (vS bo)]],[none]⟩ ⟨[.dead,.tup [.agg [.v (vS me),.v (vS ta),.v (vI st),.v (vS re),.v (vB ba),.own 45 (rowsF l),.v (vS bo)],.v (vB true)]],[none]⟩ := by
  refine sem_fin (cfg := cfg 1) (ts := [.ce 2 28,.tm 3]) tbOk func27 rfl rfl rfl rfl (fun t h => by cases h) ?_
  have h16 := c21 h44 me ta st re ba l bo h1 h2 h3 h4 hl
  rw [h] at h16
  simp only [go_sem,Nat.reduceLeDiff,Nat.reduceLT,Nat.reduceAdd,Nat.reduceSub,Nat.reduceEqDiff,reduceCtorEq,Nat.reduceDiv,Nat.reduceMod,f27,cfg]
  refine ev_call h16 (retW0 rfl rfl rfl rfl) ?_
  simp only [go_sem,Nat.reduceAdd,Nat.reduceEqDiff,reduceCtorEq,Nat.reduceDiv,Nat.reduceMod]
  first | exact fin0 (.inr rfl) rfl rfl rfl rfl | trace_state
end Go.Proofs.YtplagdnnnkdlnaaGreatDoor.Fw
/- Framework, part Bd: code whose operations are computed but for the last one of a region. -/
namespace Go.Proofs.YtplagdnnnkdlnaaGreatDoor.Fw
open Go
set_option linter.unusedVariables false
theorem pOps_app {P : Program} {cfg : Cfg} (hop : OpOk P cfg) {w0 : World} {L : Nat → Nat → Prop} {ops : Array Oper} {Q : Go.Exit → Act → World → Prop} {K : Env → Prop} {rest : List Oper} :
    ∀ (l : List Oper) (C : Ctx),Rel w0 L C → C.P = P → pOps P cfg ops.toList l C.E K → (∀ C',Rel w0 L C' → C'.P = P → (∀ t,t < cfg.np → C'.loc t = C.loc t) → KeepA cfg C C' → K C'.E → wpList P ops Q rest C'.a C'.w) → wpList P ops Q (l ++ rest) C.a C.w
  | [],C,R,hP,h,hQ => hQ C R hP (fun _ _ => rfl) (KeepA.refl cfg C) h
  | o :: os,C,R,hP,h,hQ => by
    subst hP
    simp only [pOps] at h
    rw [List.cons_append]
    unfold wpList
    unfold opG at h
    cases hkp : kept cfg o.dst with
    | true => rw [hkp] at h; exact h.elim
    | false =>
    rw [hkp] at h
    simp only [Bool.false_eq_true,if_false] at h
    have hkd : ∀ t,cfg.keep t = true → o.dst ≠ some t := by
      intro t ht hd
      unfold kept at hkp
      rw [hd] at hkp
      simp only at hkp
      rw [ht] at hkp; cases hkp
    have hn : Nxt w0 L cfg.np C (fun E' => pOps C.P cfg ops.toList os E' K) (fun a' w' => (∃ v,a'.tmps = (C.a.put o.dst v).tmps) → wpList C.P ops Q (os ++ rest) a' w') := by
      intro C' R' hPM hl' hK' hv
      obtain ⟨v,hv⟩ := hv
      injection hPM with hP' hM'
      have hk1 : KeepA cfg C C' := ⟨fun t ht => by rw [hv]; exact put_keep (hkd t ht),hM'⟩
      exact pOps_app hop os C' R' hP' hK' fun C2 R2 hP2 hl2 hk2 hK2 => hQ C2 R2 hP2 (fun t ht => (hl2 t ht).trans (hl' t ht)) (hk1.trans hk2) hK2
    split at h
    · rename_i hg
      rw [if_pos (wanted_none hg)]
      exact .inl (wp_dst (hop w0 L C R rfl _ _ hn Q o h))
    · rename_i j want hg
      split at h
      · rename_i t ht
        simp only [Rdr.wp] at h
        split at h
        · rename_i b hb
          have hy : yielded ops C.a.tmps j = some b := by
            have hsl : C.E.sl[t]? = some (.v (.bool b)) := by
              rw [List.getD_eq_getElem?_getD] at hb
              cases hx : C.E.sl[t]? with
              | none => rw [hx] at hb; simp at hb
              | some y => rw [hx] at hb; simp at hb; rw [hb]
            have hs := R.slot t _ hsl
            have hlt : t < C.a.tmps.size := by rw [R.tmps]; exact (List.getElem?_eq_some_iff.1 hsl).1
            have hv : C.a.tmps.getD t undef = .bool b := by
              generalize C.a.tmps.getD t undef = v at hs
              cases hs with
              | comp _ _ _ hc => cases hc with | leaf _ _ a b c => cases c with | v _ _ => rfl
            have ht' : (ops[j]?).bind (·.dst) = some t := by rw [← ht,Array.getElem?_toList]
            unfold yielded
            rw [ht']
            simp only [Option.bind_some]
            rw [Array.getElem?_eq_getElem hlt]
            have : C.a.tmps[t] = .bool b := by rw [← hv]; simp [Array.getD,hlt]
            rw [this]
          split at h
          · rename_i hw
            rw [if_pos (by simp [Region.wanted,hg,hy,hw])]
            exact .inl (wp_dst (hop w0 L C R rfl _ _ hn Q o h))
          · rename_i hw
            rw [if_neg (by simp [Region.wanted,hg,hy,hw])]
            exact wrS_done R hn (.refl _) h (VRel.undef _) ⟨_,rfl⟩
        · rename_i hb
          have hsl : C.E.sl[t]? = some (.tup []) := by
            rw [List.getD_eq_getElem?_getD] at hb
            cases hx : C.E.sl[t]? with
            | none => rw [hx] at hb; simp at hb
            | some y => rw [hx] at hb; simp at hb; rw [hb]
          have hs := R.slot t _ hsl
          have hlt : t < C.a.tmps.size := by rw [R.tmps]; exact (List.getElem?_eq_some_iff.1 hsl).1
          have hv : ∀ b,C.a.tmps.getD t Go.undef ≠ .bool b := by
            intro b hb
            rw [hb] at hs
            cases hs with
            | comp _ _ ht _ => simp [D.isTup] at ht
          have ht' : (ops[j]?).bind (·.dst) = some t := by rw [← ht,Array.getElem?_toList]
          have hy : yielded ops C.a.tmps j = none := by
            unfold yielded
            rw [ht']
            simp only [Option.bind_some]
            rw [Array.getElem?_eq_getElem hlt]
            have e : C.a.tmps[t] = C.a.tmps.getD t Go.undef := by simp [Array.getD,hlt]
            rw [e]
            split
            · rename_i b he
              injection he with he
              exact absurd he (hv b)
            · rfl
          rw [if_neg (by simp [Region.wanted,hg,hy])]
          exact wrS_done R hn (.refl _) h (VRel.undef _) ⟨_,rfl⟩
        · exact h.elim
      · exact h.elim
theorem pLast_go {P : Program} {cfg : Cfg} (hop : OpOk P cfg) {w0 : World} {L : Nat → Nat → Prop} {ops : Array Oper} {Q : Go.Exit → Act → World → Prop} {K : Env → Prop} {n : Nat} {fs : List (List Nat)} (hok : drawOk ops.toList n fs = true) (hn1 : n + 1 = ops.size) :
    ∀ (fuel : Nat) (l : List Nat) (k : Nat) (listed : Array Bool) (C : Ctx),Rel w0 L C → C.P = P →
      l.Pairwise (· < ·) → (∀ i,i ∈ l → i < n) → n ≤ k → k ≤ ops.size → (l ≠ [] → k = n) → fuel = l.length + (ops.size - k) →
      (∀ i,i < ops.size → (listed.getD i true = false ↔ (i ∈ l ∨ k ≤ i)) ∧ (listed.getD i false = true ↔ ¬ (i ∈ l ∨ k ≤ i))) →
      listed.size = ops.size →
      (∀ j o,ops[j]? = some o → listed.getD j false = true → ∀ h,h ∈ befs o → listed.getD h false = true) →
      SeqH P cfg ops.toList fs l C.E K → k = n →
      (∀ C',Rel w0 L C' → C'.P = P → (∀ t,t < cfg.np → C'.loc t = C.loc t) → KeepA cfg C C' → K C'.E → wpOp P ops Q n (Q .normal) C'.a C'.w) → wpAny P .any ops Q fuel listed C.a C.w := by
  simp only [drawOk,Bool.and_eq_true,decide_eq_true_eq,List.all_eq_true,List.mem_range] at hok
  obtain ⟨⟨⟨⟨⟨k1,k2⟩,k3⟩,k4⟩,k5⟩,k6⟩ := hok
  have hsz : ops.toList.length = ops.size := by simp
  have bef_lt : ∀ i o j,ops[i]? = some o → j ∈ befs o → j < i := by
    intro i o j ho hj
    have hi : i < ops.toList.length := by rw [hsz]; exact (Array.getElem?_eq_some_iff.1 ho).1
    have := k3 i hi
    rw [show ops.toList[i]? = some o by rw [Array.getElem?_toList]; exact ho] at this
    have this : ((befs o).all fun j => decide (j < i)) = true := this
    rw [List.all_eq_true] at this
    simpa using this j hj
  have indep : ∀ i j oi fi t,i < n → j < n → j ≠ i → ops[i]? = some oi → fs[i]? = some fi → j ∉ befs oi → dstAt ops.toList j = some t → fi.contains t = true := by
    intro i j oi fi t hi hj hne ho hf hb hd
    have := k4 i hi
    rw [show ops.toList[i]? = some oi by rw [Array.getElem?_toList]; exact ho,hf] at this
    have this : ((List.range n).all fun j => decide (j = i) || (befs oi).contains j || match dstAt ops.toList j with | some t => fi.contains t | none => false) = true := this
    rw [List.all_eq_true] at this
    have := this j (List.mem_range.2 hj)
    simpa [hne,hb,hd] using this
  intro fuel
  induction fuel with
  | zero =>
    intro l k listed C R hP hsort hln hnk hks hkn hfu hli hlsz hdn hS hkn2 hQ
    exfalso
    omega
  | succ fuel ih =>
    intro l k listed C R hP hsort hln hnk hks hkn hfu hli hlsz hdn hS hkn2 hQ
    have step : ∀ (i : Nat) (o : Oper) (K' : Env → Prop),ops[i]? = some o → i < ops.size → (opG cfg ops.toList o).wp C.E (Done P K' C.E) →
        (∀ C',Rel w0 L C' → C'.P = P → (∀ t,t < cfg.np → C'.loc t = C.loc t) → KeepA cfg C C' → K' C'.E → wpAny P .any ops Q fuel (listed.setIfInBounds i true) C'.a C'.w) → wpOp P ops Q i (wpAny P .any ops Q fuel (listed.setIfInBounds i true)) C.a C.w := by
      intro i o K' ho hi h hnx
      unfold wpOp
      rw [ho]
      exact opG_sound hop R hP h hnx
    have setT : ∀ i j,i < ops.size → (listed.setIfInBounds i true).getD j true = if j = i then true else listed.getD j true := by
      intro i j hi
      rw [Array.getD_eq_getD_getElem?,Array.getD_eq_getD_getElem?]
      by_cases h : j = i
      · subst h; rw [Array.getElem?_setIfInBounds_self_of_lt (by rw [hlsz]; exact hi)]; simp
      · rw [Array.getElem?_setIfInBounds_ne (fun e => h e.symm),if_neg h]
    have setF : ∀ i j,i < ops.size → (listed.setIfInBounds i true).getD j false = if j = i then true else listed.getD j false := by
      intro i j hi
      rw [Array.getD_eq_getD_getElem?,Array.getD_eq_getD_getElem?]
      by_cases h : j = i
      · subst h; rw [Array.getElem?_setIfInBounds_self_of_lt (by rw [hlsz]; exact hi)]; simp
      · rw [Array.getElem?_setIfInBounds_ne (fun e => h e.symm),if_neg h]
    have down : ∀ i o,ops[i]? = some o → i < ops.size → (∀ j,j ∈ befs o → listed.getD j false = true) → ∀ j o',ops[j]? = some o' → (listed.setIfInBounds i true).getD j false = true → ∀ h,h ∈ befs o' → (listed.setIfInBounds i true).getD h false = true := by
      intro i o ho hi hb j o' ho' hj h hh
      rw [setF i j hi] at hj
      rw [setF i h hi]
      by_cases hji : j = i
      · subst hji
        rw [ho] at ho'; injection ho' with ho'; subst ho'
        split
        · rfl
        · exact hb h hh
      · rw [if_neg hji] at hj
        split
        · rfl
        · exact hdn j o' ho' hj h hh
    refine ⟨fun hre => ?_,fun i hi => ?_⟩
    · -- something is ready
      exfalso
      have : ∃ i,i < ops.size ∧ (i ∈ l ∨ k ≤ i) ∧ ∀ j,j < i → ¬ (j ∈ l ∨ k ≤ j) := by
        have hex : ∃ i,i < ops.size ∧ (i ∈ l ∨ k ≤ i) := by
          cases l with
          | nil => exact ⟨k,by simp at hfu; omega,.inr (Nat.le_refl _)⟩
          | cons x xs => exact ⟨x,by have := hln x List.mem_cons_self; omega,.inl List.mem_cons_self⟩
        obtain ⟨i,hi⟩ := hex
        induction i using Nat.strongRecOn with
        | _ i ihi =>
          by_cases h : ∃ j,j < i ∧ (j ∈ l ∨ k ≤ j)
          · obtain ⟨j,h1,h2⟩ := h
            exact ihi j h1 ⟨by omega,h2⟩
          · exact ⟨i,hi.1,hi.2,fun j hj hh => h ⟨j,hj,hh⟩⟩
      obtain ⟨i,hi,hmem,hmin⟩ := this
      have : i ∈ Region.ready .any ops listed := by
        refine ready_spec.2 ⟨ops[i],Array.getElem?_eq_getElem hi,(hli i hi).1.2 hmem,fun j hj => ?_⟩
        have hlt := bef_lt i _ j (Array.getElem?_eq_getElem hi) hj
        exact (hli j (by omega)).2.2 (hmin j hlt)
      rw [hre] at this
      simp at this
    · obtain ⟨o,ho,hu,hb⟩ := ready_spec.1 hi
      have his : i < ops.size := (Array.getElem?_eq_some_iff.1 ho).1
      rcases (hli i his).1.1 hu with hil | hik
      · -- one of the head
        have hin := hln i hil
        have hkn' : k = n := hkn (by intro h; rw [h] at hil; simp at hil)
        subst hkn'
        obtain ⟨l1,l2,rfl⟩ := List.append_of_mem hil
        have hpw := List.pairwise_append.1 hsort
        have hlt1 : ∀ a,a ∈ l1 → a < i := fun a ha => hpw.2.2 a ha i List.mem_cons_self
        have hlt2 : ∀ a,a ∈ l2 → i < a := fun a ha => (List.pairwise_cons.1 hpw.2.1).1 a ha
        obtain ⟨o',fb,t,d,c,e1,e2,e3,e4⟩ := seqH_front l1 C.E (by
          intro a ha oa oi fa fi ta ti g1 g2 g3 g4 g5 g6
          have hai := hlt1 a ha
          have han : a < k := by omega
          have g1' : ops[a]? = some oa := by rw [← Array.getElem?_toList]; exact g1
          have g2' : ops[i]? = some oi := by rw [← Array.getElem?_toList]; exact g2
          rw [ho] at g2'; injection g2' with g2'; subst g2'
          have hna : a ∉ befs o := by
            intro h
            have := hb a h
            exact (hli a (by omega)).2.1 this (.inl (by simp [ha]))
          have hni : i ∉ befs oa := by
            intro h
            have := bef_lt a oa i g1' h
            omega
          exact ⟨indep i a o fi ta hin han (by omega) ho g4 hna (by simp [dstAt,g1,g5]),indep a i oa fa ti han hin (by omega) g1' g3 hni (by simp [dstAt,g2,g6])⟩) hS
        have e1' : ops[i]? = some o' := by rw [← Array.getElem?_toList]; exact e1
        rw [ho] at e1'; injection e1' with e1'; subst e1'
        have hnd : (l1 ++ i :: l2).Nodup := hsort.imp (fun h => Nat.ne_of_lt h)
        refine step i o (fun E => SeqH P cfg ops.toList fs (l1 ++ l2) E K) ho his (e3.2.2 C.E ⟨rfl,fun _ _ => ⟨rfl,rfl⟩⟩ _ e4) ?_
        intro C' R' hP' hl' hk' hK'
        refine ih (l1 ++ l2) k _ C' R' hP' ?_ ?_ hnk hks (fun _ => rfl) ?_ ?_ (by simpa using hlsz) (down i o ho his hb) hK' rfl ?_
        · exact hsort.sublist (by simp)
        · intro j hj; exact hln j (by simp at hj ⊢; rcases hj with h | h <;> simp [h])
        · simp at hfu ⊢; omega
        · intro j hj
          rw [setT i j his,setF i j his]
          have hli' := hli j hj
          have hmem : ∀ x,x ≠ i → (x ∈ l1 ++ i :: l2 ↔ x ∈ l1 ++ l2) := by intro x hx; simp [hx]
          by_cases hji : j = i
          · subst hji
            have hnin : j ∉ l1 ++ l2 := by
              intro h
              rcases List.mem_append.1 h with h | h
              · have := hlt1 j h; omega
              · have := hlt2 j h; omega
            rw [if_pos rfl,if_pos rfl]
            refine ⟨⟨fun h => (by cases h),fun h => ?_⟩,⟨fun _ h => ?_,fun _ => rfl⟩⟩
            · rcases h with h | h
              · exact absurd h hnin
              · omega
            · rcases h with h | h
              · exact hnin h
              · omega
          · rw [if_neg hji,if_neg hji]
            rw [hli'.1,hli'.2,hmem j hji]
            exact ⟨Iff.rfl,Iff.rfl⟩
        · intro C2 R2 hP2 hl2 hk2 hK2
          exact hQ C2 R2 hP2 (fun t ht => (hl2 t ht).trans (hl' t ht)) (hk'.trans hk2) hK2
      · -- one of the tail: the first, and the head is done
        have hun : ∀ j,j ∈ befs o → ¬ (j ∈ l ∨ k ≤ j) := fun j hj h => by
          have hlt := bef_lt i o j ho hj
          exact (hli j (by omega)).2.1 (hb j hj) h
        have hik' : i = k := by
          by_cases h : i = k
          · exact h
          · exfalso
            have := k6 i (by rw [hsz]; exact his)
            rw [show ops.toList[i]? = some o by rw [Array.getElem?_toList]; exact ho] at this
            have h2 : i - 1 ∈ befs o := by
              rcases Bool.or_eq_true _ _ ▸ this with h | h
              · have := of_decide_eq_true h; omega
              · simpa using h
            exact hun _ h2 (.inr (by omega))
        subst hik'
        have hl0 : l = [] := by
          cases hl : l with
          | nil => rfl
          | cons x xs =>
            exfalso
            have hkn' := hkn (by rw [hl]; simp)
            subst hkn'
            rcases (by simpa using k5 : i = ops.size ∨ _) with h | h
            · omega
            · -- from each of the head a road leads on
              have road : ∀ m h,i - h = m → h ∈ l → False := by
                intro m
                induction m using Nat.strongRecOn with
                | _ m ihm =>
                  intro h0 hm hh
                  have hlt := hln h0 hh
                  have := h h0 hlt
                  obtain ⟨j,hj,hj2⟩ := this
                  cases hoj : ops[j]? with
                  | none => rw [hoj] at hj2; simp at hj2
                  | some oj =>
                    rw [hoj] at hj2
                    have hj2 : h0 ∈ befs oj := by simpa using hj2
                    have hlt2 := bef_lt j oj h0 hoj hj2
                    by_cases hji : j = i
                    · subst hji
                      rw [ho] at hoj; injection hoj with hoj; subst hoj
                      exact hun h0 hj2 (.inl hh)
                    · have hjs : j < ops.size := (Array.getElem?_eq_some_iff.1 hoj).1
                      have hjl : j ∈ l := by
                        by_cases hlj : listed.getD j false = true
                        · have := hdn j oj hoj hlj h0 hj2
                          exact absurd (.inl hh) ((hli h0 (by omega)).2.1 this)
                        · have : j ∈ l ∨ i ≤ j := by
                            by_cases hc : j ∈ l ∨ i ≤ j
                            · exact hc
                            · exact absurd ((hli j hjs).2.2 hc) hlj
                          rcases this with h | h
                          · exact h
                          · omega
                      exact ihm (i - j) (by omega) j rfl hjl
              exact road _ x rfl (by rw [hl]; simp)
        subst hl0
        subst hkn2
        refine wpOp_mono ?_ (hQ C R hP (fun _ _ => rfl) (KeepA.refl cfg C) hS)
        intro a' w' hq
        have hf0 : fuel = 0 := by simp at hfu; omega
        subst hf0
        refine ⟨?_,hq⟩
        rw [List.eq_nil_iff_forall_not_mem]
        intro j hj
        obtain ⟨oj,h1,h2,_⟩ := ready_spec.1 hj
        have hjs : j < ops.size := (Array.getElem?_eq_some_iff.1 h1).1
        rw [setT i j his] at h2
        by_cases hji : j = i
        · rw [if_pos hji] at h2; cases h2
        · rw [if_neg hji] at h2
          rcases (hli j hjs).1.1 h2 with h | h
          · simp at h
          · omega
theorem region_last {P : Program} {cfg : Cfg} (hop : OpOk P cfg) {w0 : World} {L : Nat → Nat → Prop} {id : Nat} {ops : Array Oper} {Q : Go.Exit → Act → World → Prop} {K : Env → Prop} {C : Ctx} {l : List Oper} {o : Oper} (ho : ops.toList = l ++ [o]) (hg : o.guard = none) (R : Rel w0 L C) (hP : C.P = P)
    (h : pOps P cfg ops.toList l C.E K) (hQ : ∀ C',Rel w0 L C' → C'.P = P → (∀ t,t < cfg.np → C'.loc t = C.loc t) → KeepA cfg C C' → K C'.E → o.wp P C'.a C'.w (Q .normal) Q) : (Code.region id ops false).wp P Q C.a C.w := by
  refine wp_region_list ?_
  rw [ho]
  refine pOps_app hop l C R hP h fun C' R' hP' hl' hk' hK => ?_
  unfold wpList
  rw [if_pos (wanted_none hg)]
  exact .inl (Oper.wp_mono (fun _ _ h => h) (hQ C' R' hP' hl' hk' hK))
theorem draw_last {P : Program} {cfg : Cfg} (hop : OpOk P cfg) {w0 : World} {L : Nat → Nat → Prop} {id : Nat} {ops : Array Oper} {Q : Go.Exit → Act → World → Prop} {K : Env → Prop} {C : Ctx} (hm : P.follows .mixedOrders = true) (n : Nat) (fs : List (List Nat)) (hok : drawOk ops.toList n fs = true) (hn1 : n + 1 = ops.size) {o : Oper} (ho : ops[n]? = some o) (hg : o.guard = none) (R : Rel w0 L C) (hP : C.P = P)
    (h : pHead P cfg ops.toList ((ops.toList.take n).zip fs) C.E K) (hQ : ∀ C',Rel w0 L C' → C'.P = P → (∀ t,t < cfg.np → C'.loc t = C.loc t) → KeepA cfg C C' → K C'.E → o.wp P C'.a C'.w (Q .normal) Q) : (Code.region id ops true).wp P Q C.a C.w := by
  have hok' := hok
  simp only [drawOk,Bool.and_eq_true,decide_eq_true_eq,List.all_eq_true,List.mem_range] at hok'
  obtain ⟨⟨⟨⟨⟨k1,k2⟩,k3⟩,k4⟩,k5⟩,k6⟩ := hok'
  have hsz : ops.toList.length = ops.size := by simp
  have R1 := R.drew (w' := { C.w with drawn := C.w.drawn + 1 }) ⟨rfl,rfl,rfl,Nat.le_refl _,fun _ _ => rfl⟩
  have hzl : ((ops.toList.take n).zip fs).length = n := by simp; omega
  have hseq := seqH_of (fs := fs) ((ops.toList.take n).zip fs) 0 C.E (by
    intro i x hx
    rw [Nat.zero_add]
    obtain ⟨h1,h2⟩ := List.getElem?_zip_eq_some.1 hx
    refine ⟨?_,h2⟩
    have hi : i < n := by
      have := (List.getElem?_eq_some_iff.1 hx).1
      omega
    rw [List.getElem?_take_of_lt hi] at h1
    exact h1) h
  rw [hzl] at hseq
  refine wp_region_any hm ?_
  refine pLast_go hop hok hn1 ops.size (List.range' 0 n) n _ { C with w := { C.w with drawn := C.w.drawn + 1 } } R1 hP ?_ ?_ (Nat.le_refl _) (by omega) (fun _ => rfl) (by simp; omega) ?_ (by simp) ?_ hseq rfl ?_
  · exact List.pairwise_lt_range'
  · intro i hi; rw [List.mem_range'_1] at hi; omega
  · intro i hi
    have e1 : (Array.replicate ops.size false).getD i true = false := by simp [Array.getD,hi]
    have e2 : (Array.replicate ops.size false).getD i false = false := by simp [Array.getD,hi]
    rw [e1,e2,List.mem_range'_1]
    refine ⟨⟨fun _ => by omega,fun _ => rfl⟩,⟨fun h => (by cases h),fun h => absurd (by omega) h⟩⟩
  · intro j o ho hj
    have hjs : j < ops.size := (Array.getElem?_eq_some_iff.1 ho).1
    have e2 : (Array.replicate ops.size false).getD j false = false := by simp [Array.getD,hjs]
    rw [e2] at hj; cases hj
  · intro C' R' hP' hl' hk' hK'
    unfold wpOp
    rw [ho]
    simp only
    rw [if_pos (wanted_none hg)]
    exact .inl (hQ C' R' hP' hl' hk' hK')
end Go.Proofs.YtplagdnnnkdlnaaGreatDoor.Fw
