/- Framework, part Arg: an argument of a row, as the contract of a law takes it. -/
import Derived.Test.YtcnogcachboibaaFwRead
namespace Go.Proofs.Ytcnogcachboibaa.Fw
open Go
set_option linter.unusedVariables false

theorem lrel_of_rd {P : Program} {E : Env} {args : Array Value} {w : World} {t : T} {v : Value} {p : Lf} (hE : ∀ (t : Nat) (ds : List D), E.ce[t]? ≠ some (some ds)) (h : RdT P w (fun _ => True) t v) : LRel (C0 P E args w) p t.toD v := by
  cases t with
  | v x =>
    cases h with
    | v _ hx => exact .v _ _ hx
  | sl e xs => exact rd_imm hE h
theorem toD_leafy (t : T) : t.toD.leafy = true := by cases t <;> rfl
theorem noE {n : Nat} {ds : List D} : ∀ (t : Nat) (l : List D), (⟨ds, List.replicate n none⟩ : Env).ce[t]? ≠ some (some l) := by
  intro t l h
  have h : (List.replicate n none)[t]? = some (some l) := h
  rw [List.getElem?_replicate] at h
  split at h <;> simp at h

section
variable {H : Type} {enc : TypeId × Value → H} {P : Program} {w : World} {base : Nat} {spare : Nat → Bool} {held : Bool}
theorem arg_agg {t : TypeId} {fa : Array Field} {fs : List Sh} {r : Reach} {b0 : Nat} {v : Value} {d : DataW H} {ps : List MemPlace} (hs : ShT P t fs) (hu : P.underlying t = some (.struct fa)) (h64 : fs.length ≤ 64)
    (hv : Value.okWide P w r b0 t v) (h : DataW.Trod enc P w base spare held t v d ps) :
    ∃ l : List T, WTs fs l ∧ ∀ (n : Nat) (ds : List D) (args : Array Value) (i : Nat), SRel (C0 P ⟨ds, List.replicate n none⟩ args w) i (.agg (l.map T.toD)) v := by
  obtain ⟨cs, rfl, hcs⟩ := WideShapes.okWide_struct hu hv
  obtain ⟨fuel, h⟩ := h
  obtain ⟨l, h1, h2, h3⟩ := read_trod hs h
  have h1 : cs.toList.length = fs.length := h1
  refine ⟨l, h2, fun n ds args i => .comp _ _ rfl (.agg _ _ _ (by simp [h2.1, ← h1]) (by simp [h2.1]; omega) fun j x hx => ?_)⟩
  rw [List.getElem?_map] at hx
  cases hj : l[j]? with
  | none => rw [hj] at hx; simp at hx
  | some t0 =>
    rw [hj] at hx
    simp only [Option.map_some, Option.some.injEq] at hx
    subst hx
    obtain ⟨v0, g1, g2, g3⟩ := h3 j t0 hj
    have g1 : cs.toList[j]? = some v0 := g1
    have e : cs.getD j undef = v0 := by
      rw [arrGetD]
      have : cs[j]? = some v0 := by simpa using g1
      rw [this]; rfl
    rw [e]
    exact ⟨toD_leafy _, g2, lrel_of_rd noE g3⟩
theorem arg_one {t : TypeId} {f : Sh} {v : Value} {d : DataW H} {ps : List MemPlace} (hs : ShT P t [f]) (hv : one v = true) (h : DataW.Trod enc P w base spare held t v d ps) :
    ∃ t0 : T, WT f t0 ∧ ∀ (n : Nat) (ds : List D) (args : Array Value) (i : Nat), SRel (C0 P ⟨ds, List.replicate n none⟩ args w) i t0.toD v := by
  obtain ⟨fuel, h⟩ := h
  obtain ⟨l, h1, h2, h3⟩ := read_trod hs h
  obtain ⟨t0, l', rfl, h4, h5⟩ := h2.cons
  obtain rfl := h5.nil
  obtain ⟨v0, g1, g2, g3⟩ := h3 0 t0 rfl
  have ev : v.cells.toList = [v] := by cases v <;> first | rfl | simp [one] at hv
  rw [ev] at g1
  injection g1 with g1
  subst g1
  refine ⟨t0, h4, fun n ds args i => .comp _ _ ?_ (.leaf _ _ _ (toD_leafy _) g2 (lrel_of_rd noE g3))⟩
  cases t0 <;> rfl
end

theorem enter_of {P : Program} {f : FuncId} {fn : Func} (hf : P.funcs[f]? = some fn) (hname : (fn.name == "runtime.NumGoroutine") = false) (hb : fn.body.isNone = false) (args : Array Value) (w : World) : (callFunc f args).run P w = .ok (.enter f args) w := by
  simp only [callFunc, Sem.run_bind, run_program, Result.andThen_ok, hf, hname, hb, Bool.false_eq_true, if_false, Sem.run_pure]
end Go.Proofs.Ytcnogcachboibaa.Fw
