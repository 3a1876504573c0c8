/- Framework, part Row: a contract at a call from outside, with nothing lent. -/
import Derived.Test.YtcnogcachboibaaFwSem
import Derived.Below
namespace Go.Proofs.Ytcnogcachboibaa.Fw
open Go
set_option linter.unusedVariables false

/-- The context of arguments that are read alone. -/
def C0 (P : Program) (E : Env) (args : Array Value) (w : World) : Ctx := { P, E, a := { tmps := args, defers := [] }, w, F := fun _ _ => False, loc := fun _ => (0, 0), M := fun _ => True }
theorem Rel.start {P : Program} {ds : List D} {args : Array Value} {w : World} (hl : args.size = ds.length) (h : ∀ (i : Nat) (d : D), ds[i]? = some d → SRel (C0 P ⟨ds, List.replicate ds.length none⟩ args w) i d (args.getD i undef)) :
    Rel w (lentOf ⟨ds, List.replicate ds.length none⟩ (fun _ _ => False) (fun _ => (0, 0))) (C0 P ⟨ds, List.replicate ds.length none⟩ args w) := by
  have hnl : ∀ t ds', ¬ (C0 P ⟨ds, List.replicate ds.length none⟩ args w).live t ds' := by
    intro t ds' h
    have h : (List.replicate ds.length none)[t]? = some (some ds') := h
    rw [List.getElem?_replicate] at h
    split at h <;> simp at h
  exact ⟨hl, rfl, h, fun t ds' hl => absurd hl (hnl t ds'), fun _ _ _ h => h.elim, fun _ _ _ _ h => absurd h (hnl _ _), fun _ _ _ _ h => h.elim, fun _ _ h => h.elim, fun _ _ h => h.elim,
    fun _ _ h => absurd h (hnl _ _), ⟨rfl, rfl, rfl, Nat.le_refl _, fun _ _ _ => rfl, fun b cs e fr h => ⟨cs, h, rfl, fun _ _ => rfl⟩⟩, fun _ _ => trivial, fun _ _ _ => trivial⟩

/-- A block reads as data wherever all may be read. -/
theorem rd_imm {P : Program} {E : Env} {args : Array Value} {w : World} {e : TypeId} {xs : List (List T)} {v : Value} {p : Lf} (hE : ∀ (t : Nat) (ds : List D), E.ce[t]? ≠ some (some ds)) (h : RdT P w (fun _ => True) (.sl e xs) v) : LRel (C0 P E args w) p (.imm e xs) v := by
  refine .imm _ _ _ _ (h.mono fun b _ hb => ⟨⟨?_, trivial⟩, rfl⟩)
  rintro (⟨p, hp⟩ | ⟨t, ds, hl, _⟩)
  · exact hp
  · exact hE t ds hl

theorem calls_of_sem {P : Program} {f : FuncId} {ds : List D} {args : Array Value} {w : World} {Eout : Env} {r : Value} (hs : Sem P f ⟨ds, List.replicate ds.length none⟩ Eout) (hent : ∀ args w, (callFunc f args).run P w = .ok (.enter f args) w)
    (hl : args.size = ds.length) (h : ∀ (i : Nat) (d : D), ds[i]? = some d → SRel (C0 P ⟨ds, List.replicate ds.length none⟩ args w) i d (args.getD i undef)) (hr : Eout.sl[ds.length]? = some (.v r)) :
    Calls P f args w fun e w' => e = .returned r ∧ RowKit.Below w.heap.size w w' := by
  have := hs w { tmps := args, defers := [] } (fun _ _ => False) (fun _ => (0, 0)) (fun _ => True) (Rel.start hl h)
  rcases this with ⟨_, hc⟩ | ⟨v, w', hx, _⟩
  · refine Calls.mono hc ?_
    rintro e w' ⟨v, rfl, F', loc', hloc, R⟩
    have hnl : ∀ b o, ¬ lentOf ⟨ds, List.replicate ds.length none⟩ (fun _ _ => False) (fun _ => (0, 0)) b o := by
      rintro b o (⟨p, hp⟩ | ⟨t, ds', h, _⟩)
      · exact hp
      · have h : (List.replicate ds.length none)[t]? = some (some ds') := h
        rw [List.getElem?_replicate] at h
        split at h <;> simp at h
    refine ⟨?_, R.frame.os, R.frame.tape, R.frame.output, R.frame.size, fun b hb => R.frame.kept b hb (hnl b)⟩
    have hv := R.slot _ _ hr
    have ev : ({ tmps := args.push v, defers := [] } : Act).tmps.getD ds.length undef = v := by
      show (args.push v).getD ds.length undef = v
      rw [← hl, arrGetD]; simp
    have hv : SRel _ ds.length (.v r) (({ tmps := args.push v, defers := [] } : Act).tmps.getD ds.length undef) := hv
    rw [ev] at hv
    cases hv with
    | comp _ _ _ hc => cases hc with | leaf _ _ a b c => cases c; rfl
  · rw [hent] at hx; cases hx
end Go.Proofs.Ytcnogcachboibaa.Fw
