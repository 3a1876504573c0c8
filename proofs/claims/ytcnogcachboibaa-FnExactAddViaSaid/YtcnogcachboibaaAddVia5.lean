/- The law FnExactAddVia returns true for all arguments, and the arguments read as they did. Conditions: none beyond the row's own. -/
import Derived.Test.YtcnogcachboibaaRows
import Derived.WalkKit
import Derived.ProofKit
import Derived.OpenShut
import Derived.ShutString
import Derived.ChangeOld
import Derived.Below
import Derived.Carry
import Derived.SizedLaws
import Derived.Test.YtcnogcachboibaaAddVia4
namespace Go.Proofs.Ytcnogcachboibaa.fnExactAddVia
open Go.ChangeShapes Go.WideShapes Go.ChangeAt Go.RowKit Go.Proofs.Ytcnogcachboibaa.Fw
set_option linter.unusedVariables false
theorem own : ownKnob Try.prog.godebug = none := by kernel_rfl
theorem laidOut : laidOutB Try.prog = true := by kernel_rfl
theorem shStr : ShT Try.prog 9 [.str] := .str _ Try.underlying9 (by kernel_rfl)
theorem shField : ShT Try.prog 52 [.str, .str] := by
  refine .struct 52 _ [[.str], [.str]] Try.underlying52 (by kernel_rfl) rfl ?_ ?_
  · intro i f s hf hs
    match i, hf, hs with
    | 0, hf, hs => injection hf with hf; injection hs with hs; subst hf; subst hs; exact ⟨rfl, by kernel_rfl⟩
    | 1, hf, hs => injection hf with hf; injection hs with hs; subst hf; subst hs; exact ⟨rfl, by kernel_rfl⟩
    | n + 2, hf, hs => simp at hs
  · intro i f s hf hs
    match i, hf, hs with
    | 0, hf, hs => injection hf with hf; injection hs with hs; subst hf; subst hs; exact shStr
    | 1, hf, hs => injection hf with hf; injection hs with hs; subst hf; subst hs; exact shStr
    | n + 2, hf, hs => simp at hs
theorem shFields : ShT Try.prog 37 [.sl 52 [.str, .str]] := .slice _ _ _ Try.underlying37 (by kernel_rfl) (by decide) (fun _ => rfl) shField
theorem rows_of : ∀ (xs : List (List T)), xs.length ≤ 9223372036854775807 → (∀ r, r ∈ xs → WTs [.str, .str] r) → ∃ l : List Fld, xs = rowsF l ∧ Small l := by
  have key : ∀ (xs : List (List T)), (∀ r, r ∈ xs → WTs [.str, .str] r) → ∃ l : List Fld, xs = rowsF l ∧ ∀ p, p ∈ l → p.1.length ≤ 9223372036854775807 ∧ p.2.length ≤ 9223372036854775807 := by
    intro xs
    induction xs with
    | nil => intro _; exact ⟨[], rfl, fun p hp => by simp at hp⟩
    | cons r xs ih =>
      intro h
      obtain ⟨l, rfl, hl⟩ := ih fun r hr => h r (List.mem_cons_of_mem _ hr)
      obtain ⟨t0, r', rfl, h0, hr⟩ := (h r List.mem_cons_self).cons
      obtain ⟨t1, r'', rfl, h1, hr⟩ := hr.cons
      obtain rfl := hr.nil
      obtain ⟨a, rfl, ha⟩ := h0.str_inv
      obtain ⟨b, rfl, hb⟩ := h1.str_inv
      refine ⟨(a, b) :: l, rfl, fun p hp => ?_⟩
      rcases List.mem_cons.1 hp with rfl | hp
      · exact ⟨ha, hb⟩
      · exact hl p hp
  intro xs hx h
  obtain ⟨l, rfl, hl⟩ := key xs h
  exact ⟨l, rfl, by rw [rowsF_length] at hx; exact hx, hl⟩

theorem walk (v0 v1 : Value) (W : World) (t0 t1 : T) (w0 : WT (.sl 52 [.str, .str]) t0) (w1 : WT .str t1)
    (hr0 : ∀ (n : Nat) (ds : List D) (args : Array Value) (i : Nat), SRel (C0 Try.prog ⟨ds, List.replicate n none⟩ args W) i t0.toD v0)
    (hr1 : ∀ (n : Nat) (ds : List D) (args : Array Value) (i : Nat), SRel (C0 Try.prog ⟨ds, List.replicate n none⟩ args W) i t1.toD v1) :
    Calls Try.prog 4 #[v0, v1] W fun e W' => e = .returned (.bool true) ∧ Below W.heap.size W W' := by
  obtain ⟨xs, rfl, hx, hxs⟩ := w0.sl_inv
  obtain ⟨l, rfl, hl⟩ := rows_of xs hx hxs
  obtain ⟨s, rfl, hs⟩ := w1.str_inv
  refine calls_of_sem (ds := [.imm 52 (rowsF l), .v (vS s)]) (c4 l hl s hs) (enter_of Try.func4 rfl rfl) rfl ?_ rfl
  intro i x hx
  match i, hx with
  | 0, hx => injection hx with hx; subst hx; exact hr0 _ _ _ _
  | 1, hx => injection hx with hx; subst hx; exact hr1 _ _ _ _
  | n + 2, hx => simp at hx

set_option maxRecDepth 100000 in
theorem lifted (os : Os) (started : os.Started) (H : Type) (enc : TypeId × Value → H) :
    ReturnsInHanded {} Try.checked os 4 .any (Rows.fnExactAddViaSpec.pre6 enc Try.prog Try.f4 Rows.fnExactAddViaRow.domain false) (Rows.fnExactAddViaSpec.post enc Try.prog Try.f4 false true false false) := by
  refine returnsInHanded_of_change_sized (C := Try.checked) own started (by kernel_rfl) Try.func4
    (ChangeSpec.witness6 (enc := enc) (C := Try.checked) false ⟨#[], #[.slice none 0 0, .string ByteArray.empty], []⟩ 8 (by kernel_rfl) (by kernel_rfl) (by kernel_rfl) (by kernel_rfl)) ?_
  intro W base args ds gs before hval0 hW hcnd hsz0 _
  have hval : ∀ (j : Nat) t v, Try.f4.params[j]? = some t → args[j]? = some v → Value.okWide Try.prog W .any base t v := hval0
  have hW' := hW
  obtain ⟨p, q, hA0, hV, rfl, hfz, hnd⟩ := hW
  have hA : DataW.TrodAll enc Try.prog W 0 (fun _ => true) true Try.f4.params.toList args.toList ds p := hA0
  rw [Try.params4] at hA hval
  obtain ⟨v0, vs0, d0, ds0, p0, q0, hargs, rfl, rfl, h0, r0⟩ := trodAll_cons hA
  obtain ⟨v1, vs1, d1, ds1, p1, q1, rfl, rfl, rfl, h1, r1⟩ := trodAll_cons r0
  obtain ⟨rfl, rfl, rfl⟩ := trodAll_nil r1
  obtain rfl : args = #[v0, v1] := by cases args; simp_all
  obtain ⟨rfl, rfl⟩ := trodVars_none hV
  obtain ⟨a0, n0, c0, e0⟩ := okWide_slice Try.underlying37 (hval 0 37 v0 rfl rfl)
  obtain ⟨s1, e1⟩ := okWide_string Try.underlying9 (hval 1 9 v1 rfl rfl)
  obtain ⟨t0, w0, hr0⟩ := arg_one shFields (by rw [e0]; rfl) h0
  obtain ⟨t1, w1, hr1⟩ := arg_one shStr (by rw [e1]; rfl) h1
  have lt0 : ∀ x ∈ p0, x.block < W.heap.size := by obtain ⟨m, hm⟩ := h0; exact DataW.trod_lt m _ _ _ hm
  have lt1 : ∀ x ∈ p1, x.block < W.heap.size := by obtain ⟨m, hm⟩ := h1; exact DataW.trod_lt m _ _ _ hm
  clear hA0 hval0 hsz0
  refine (walk v0 v1 W t0 t1 w0 w1 hr0 hr1).mono fun e W' ⟨he, bel⟩ => ?_
  subst he
  exact ⟨_, rfl, _, _, _, [], _, [], hW', trodAll_mk1 (shut_bool Try.underlying4 _), trodAll_cons_mk (Below.trod laidOut (by kernel_rfl) (of_decide_eq_true (by kernel_rfl)) h0 bel lt0) (trodAll_cons_mk (Below.trod laidOut (by kernel_rfl) (of_decide_eq_true (by kernel_rfl)) h1 bel lt1) trodAll_mk0), rfl, bel.frame _, fun h => by cases h⟩
theorem over : Rows.fnExactAddViaRow.holds Try.pinned (OpenSpec.ofChange Rows.fnExactAddViaSpec) :=
  OpenClaim.holds_of_wide 4 Try.f4 rfl rfl rfl rfl rfl rfl rfl ⟨rfl, rfl, rfl, rfl, rfl⟩ rfl rfl rfl rfl rfl (by kernel_rfl) Try.func4 (by kernel_rfl)
    (of_decide_eq_true (by kernel_rfl)) (by unfold Func.isWrapper; first | (rw [if_pos (by decide +kernel)]; kernel_rfl) | (rw [if_neg (by decide +kernel)]; exact ⟨rfl, rfl⟩))
    (fun os started H enc _ => lifted os started H enc)
theorem proved : Rows.FnExactAddViaSaid := over
end Go.Proofs.Ytcnogcachboibaa.fnExactAddVia
namespace Go.Proofs.Ytcnogcachboibaa
/-- The row, under a short name, for the claim. -/
theorem fnExactAddVia_holds : Rows.FnExactAddViaSaid := fnExactAddVia.proved
end Go.Proofs.Ytcnogcachboibaa
