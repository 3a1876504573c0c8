/- The law FnExactPlainNew returns true for every argument, and the argument reads as it did. Conditions: none beyond the row's own. -/
import Derived.Test.YtcnogcachboibaaRows
import Derived.Test.YtcnogcachboibaaFbI
import Derived.Test.YtcnogcachboibaaFwArg
import Derived.WalkKit
import Derived.ProofKit
import Derived.OpenShut
import Derived.ShutString
import Derived.ChangeOld
import Derived.Below
import Derived.Carry
import Derived.SizedLaws
namespace Go.Proofs.Ytcnogcachboibaa.fnExactPlainNew
open Go.ChangeShapes Go.WideShapes Go.ChangeAt Go.RowKit Go.Proofs.Ytcnogcachboibaa.Fw
set_option linter.unusedVariables false
theorem own : ownKnob Try.prog.godebug = none := by kernel_rfl
theorem laidOut : laidOutB Try.prog = true := by kernel_rfl
theorem shInt : ShT Try.prog 3 [.int .i64] := .int _ _ Try.underlying3 (by kernel_rfl)
theorem shStr : ShT Try.prog 9 [.str] := .str _ Try.underlying9 (by kernel_rfl)
theorem shConf : ShT Try.prog 23 [.int .i64, .int .i64, .int .i64, .int .i64, .str] := by
  refine .struct 23 _ [[.int .i64], [.int .i64], [.int .i64], [.int .i64], [.str]] Try.underlying23 (by kernel_rfl) rfl ?_ ?_
  · intro i f s hf hs
    match i, hf, hs with
    | 0, hf, hs => injection hf with hf; injection hs with hs; subst hf; subst hs; exact ⟨rfl, by kernel_rfl⟩
    | 1, hf, hs => injection hf with hf; injection hs with hs; subst hf; subst hs; exact ⟨rfl, by kernel_rfl⟩
    | 2, hf, hs => injection hf with hf; injection hs with hs; subst hf; subst hs; exact ⟨rfl, by kernel_rfl⟩
    | 3, hf, hs => injection hf with hf; injection hs with hs; subst hf; subst hs; exact ⟨rfl, by kernel_rfl⟩
    | 4, hf, hs => injection hf with hf; injection hs with hs; subst hf; subst hs; exact ⟨rfl, by kernel_rfl⟩
    | n + 5, hf, hs => simp at hs
  · intro i f s hf hs
    match i, hf, hs with
    | 0, hf, hs => injection hf with hf; injection hs with hs; subst hf; subst hs; exact shInt
    | 1, hf, hs => injection hf with hf; injection hs with hs; subst hf; subst hs; exact shInt
    | 2, hf, hs => injection hf with hf; injection hs with hs; subst hf; subst hs; exact shInt
    | 3, hf, hs => injection hf with hf; injection hs with hs; subst hf; subst hs; exact shInt
    | 4, hf, hs => injection hf with hf; injection hs with hs; subst hf; subst hs; exact shStr
    | n + 5, hf, hs => simp at hs

theorem walk (v0 : Value) (W : World) (l : List T) (hl : WTs [.int .i64, .int .i64, .int .i64, .int .i64, .str] l)
    (hr : ∀ (n : Nat) (ds : List D) (args : Array Value) (i : Nat), SRel (C0 Try.prog ⟨ds, List.replicate n none⟩ args W) i (.agg (l.map T.toD)) v0) :
    Calls Try.prog 3 #[v0] W fun e W' => e = .returned (.bool true) ∧ Below W.heap.size W W' := by
  obtain ⟨t0, l, rfl, h0, hl⟩ := hl.cons
  obtain ⟨t1, l, rfl, h1, hl⟩ := hl.cons
  obtain ⟨t2, l, rfl, h2, hl⟩ := hl.cons
  obtain ⟨t3, l, rfl, h3, hl⟩ := hl.cons
  obtain ⟨t4, l, rfl, h4, hl⟩ := hl.cons
  obtain rfl := hl.nil
  obtain ⟨a, rfl, _⟩ := h0.int_inv
  obtain ⟨b, rfl, _⟩ := h1.int_inv
  obtain ⟨c, rfl, _⟩ := h2.int_inv
  obtain ⟨d, rfl, _⟩ := h3.int_inv
  obtain ⟨s, rfl, hs⟩ := h4.str_inv
  refine calls_of_sem (ds := [.agg [.v (vI a), .v (vI b), .v (vI c), .v (vI d), .v (vS s)]]) (c3 a b c d s hs) (enter_of Try.func3 rfl rfl) rfl ?_ rfl
  intro i x hx
  match i, hx with
  | 0, hx => injection hx with hx; subst hx; exact hr _ _ _ _
  | n + 1, hx => simp at hx

set_option maxRecDepth 100000 in
theorem lifted (os : Os) (started : os.Started) (H : Type) (enc : TypeId × Value → H) :
    ReturnsInHanded {} Try.checked os 3 .any (Rows.fnExactPlainNewSpec.pre6 enc Try.prog Try.f3 Rows.fnExactPlainNewRow.domain false) (Rows.fnExactPlainNewSpec.post enc Try.prog Try.f3 false true false false) := by
  refine returnsInHanded_of_change_sized (C := Try.checked) own started (by kernel_rfl) Try.func3
    (ChangeSpec.witness6 (enc := enc) (C := Try.checked) false ⟨#[], #[.agg #[.int .i64 0, .int .i64 0, .int .i64 0, .int .i64 0, .string ByteArray.empty]], []⟩ 8 (by kernel_rfl) (by kernel_rfl) (by kernel_rfl) (by kernel_rfl)) ?_
  intro W base args ds gs before hval0 hW hcnd hsz0 _
  have hval : ∀ (j : Nat) t v, Try.f3.params[j]? = some t → args[j]? = some v → Value.okWide Try.prog W .any base t v := hval0
  have hW' := hW
  obtain ⟨p, q, hA0, hV, rfl, hfz, hnd⟩ := hW
  have hA : DataW.TrodAll enc Try.prog W 0 (fun _ => true) true Try.f3.params.toList args.toList ds p := hA0
  rw [Try.params3] at hA hval
  obtain ⟨v0, vs0, d0, ds0, p0, q0, hargs, rfl, rfl, h0, r0⟩ := trodAll_cons hA
  obtain ⟨rfl, rfl, rfl⟩ := trodAll_nil r0
  obtain rfl : args = #[v0] := by cases args; simp_all
  obtain ⟨rfl, rfl⟩ := trodVars_none hV
  obtain ⟨l, hl, hr⟩ := arg_agg shConf Try.underlying23 (by decide) (hval 0 23 v0 rfl rfl) h0
  have lt0 : ∀ x ∈ p0, x.block < W.heap.size := by obtain ⟨m, hm⟩ := h0; exact DataW.trod_lt m _ _ _ hm
  clear hA0 hval0 hsz0
  refine (walk v0 W l hl hr).mono fun e W' ⟨he, bel⟩ => ?_
  subst he
  exact ⟨_, rfl, _, _, _, [], _, [], hW', trodAll_mk1 (shut_bool Try.underlying4 _), trodAll_cons_mk (Below.trod laidOut (by kernel_rfl) (of_decide_eq_true (by kernel_rfl)) h0 bel lt0) trodAll_mk0, rfl, bel.frame _, fun h => by cases h⟩
theorem over : Rows.fnExactPlainNewRow.holds Try.pinned (OpenSpec.ofChange Rows.fnExactPlainNewSpec) :=
  OpenClaim.holds_of_wide 3 Try.f3 rfl rfl rfl rfl rfl rfl rfl ⟨rfl, rfl, rfl, rfl, rfl⟩ rfl rfl rfl rfl rfl (by kernel_rfl) Try.func3 (by kernel_rfl)
    (of_decide_eq_true (by kernel_rfl)) (by unfold Func.isWrapper; first | (rw [if_pos (by decide +kernel)]; kernel_rfl) | (rw [if_neg (by decide +kernel)]; exact ⟨rfl, rfl⟩))
    (fun os started H enc _ => lifted os started H enc)
theorem proved : Rows.FnExactPlainNewSaid := over
end Go.Proofs.Ytcnogcachboibaa.fnExactPlainNew
namespace Go.Proofs.Ytcnogcachboibaa
/-- The row, under a short name, for the claim. -/
theorem fnExactPlainNew_holds : Rows.FnExactPlainNewSaid := fnExactPlainNew.proved
end Go.Proofs.Ytcnogcachboibaa
