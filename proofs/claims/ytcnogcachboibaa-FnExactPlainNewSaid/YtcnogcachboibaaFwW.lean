/- Framework, part W: code. -/
import Derived.Test.YtcnogcachboibaaFwV
import Derived.Tactics
import Derived.LoopN
namespace Go.Proofs.Ytcnogcachboibaa.Fw
open Go
set_option linter.unusedVariables false

def kept (cfg : Cfg) (dst : Option Tmp) : Bool := match dst with | some t => cfg.keep t | none => false
def dropSl (m : Nat) (l : List D) : List D := l.take m ++ List.replicate (l.length - m) .dead
def dropCe (m : Nat) (l : List (Option (List D))) : List (Option (List D)) := l.take m ++ List.replicate (l.length - m) none
/-- What is left of a leaf when the slots and the cells from m on are forgotten. -/
def fgB (m : Nat) (p : Lf) (d : D) : D := if m ≤ p.t then .dead else if d.crefs.any (fun c => decide (m ≤ c)) then .dead else killB (fun q => decide (m ≤ q.t)) d
/-- The slots and the cells from m on are forgotten, and what hangs on them. -/
def Env.forget (m : Nat) (E : Env) : Env := ⟨dropSl m (E.mapP (fgB m)).sl, dropCe m (E.mapP (fgB m)).ce⟩
theorem dropSl_length (m : Nat) (l : List D) : (dropSl m l).length = l.length := by simp [dropSl]; omega
theorem dropSl_get {m t : Nat} {l : List D} : (t < m → (dropSl m l)[t]? = l[t]?) ∧ (m ≤ t → ∀ d, (dropSl m l)[t]? = some d → d = .dead) := by
  refine ⟨fun h => ?_, fun h d hd => ?_⟩
  · unfold dropSl
    by_cases ht : t < l.length
    · rw [List.getElem?_append_left (by simp; omega), List.getElem?_take_of_lt h]
    · rw [List.getElem?_append_right (by simp; omega), List.getElem?_replicate, List.getElem?_eq_none (by omega)]
      rw [if_neg (by simp; omega)]
  · unfold dropSl at hd
    rw [List.getElem?_append_right (by simp; omega), List.getElem?_replicate] at hd
    split at hd
    · injection hd with hd; exact hd.symm
    · cases hd
theorem dropCe_get {m t : Nat} {l : List (Option (List D))} : (t < m → (dropCe m l)[t]? = l[t]?) ∧ (m ≤ t → ∀ d, (dropCe m l)[t]? = some d → d = none) := by
  refine ⟨fun h => ?_, fun h d hd => ?_⟩
  · unfold dropCe
    by_cases ht : t < l.length
    · rw [List.getElem?_append_left (by simp; omega), List.getElem?_take_of_lt h]
    · rw [List.getElem?_append_right (by simp; omega), List.getElem?_replicate, List.getElem?_eq_none (by omega)]
      rw [if_neg (by simp; omega)]
  · unfold dropCe at hd
    rw [List.getElem?_append_right (by simp; omega), List.getElem?_replicate] at hd
    split at hd
    · injection hd with hd; exact hd.symm
    · cases hd
theorem Rel.fg {w0 : World} {L : Nat → Nat → Prop} {C : Ctx} (R : Rel w0 L C) (m : Nat) : Rel w0 L { C with E := C.E.mapP (fgB m) } := by
  have hg : ∀ (p : Lf) (d : D), d.leafy = true → (fgB m p d).leafy = true := by
    intro p d h
    unfold fgB
    split
    · rfl
    · split
      · rfl
      · exact killB_leafy _ d h
  have s := Same.ofMap R (fgB m) C.F hg (fun p b h => ⟨p, h⟩) (fun q => q) (fun q => m ≤ q.t) (by
    intro q e xs hq hl
    rw [hl]
    simp [lf1, fgB, hq, killB, D.crefs])
  refine R.mapP _ C.F hg ?_ (fun p b h => ⟨p, h⟩) R.disj
  intro p d h1 h2 h3 hv
  unfold fgB
  split
  · exact .dead _ _
  · split
    · exact .dead _ _
    · rcases killB_cases (fun q => decide (m ≤ q.t)) d with h | ⟨h, hq⟩
      · simp only [h]; exact .dead _ _
      · simp only [h]
        by_cases ho : d.isOwn = true
        · cases d <;> simp [D.isOwn] at ho
          cases hv with
          | own _ _ _ h => exact .own _ _ _ _ h
        · have := LRel.same s hv p (by simpa using ho) ⟨fun q h => by have := hq q h; simpa using this, fun t ht => by simp⟩
          rwa [D.re_id] at this
theorem Rel.drop {w0 : World} {L : Nat → Nat → Prop} {C : Ctx} (R : Rel w0 L C) (m : Nat) (H : ∀ p e xs, C.E.leaf p = .own e xs → ¬ m ≤ p.t) (Hc : ∀ p t, t ∈ (C.E.leaf p).crefs → ¬ m ≤ t) : Rel w0 L { C with E := ⟨dropSl m C.E.sl, dropCe m C.E.ce⟩ } := by
  have hlive : ∀ t ds, ({ C with E := ⟨dropSl m C.E.sl, dropCe m C.E.ce⟩ } : Ctx).live t ds → C.live t ds ∧ t < m := by
    intro t ds h
    have h : (dropCe m C.E.ce)[t]? = some (some ds) := h
    by_cases ht : t < m
    · rw [dropCe_get.1 ht] at h; exact ⟨h, ht⟩
    · have := dropCe_get.2 (by omega) _ h; cases this
  have hleaf : ∀ q e xs, C.E.leaf q = .own e xs → (⟨dropSl m C.E.sl, dropCe m C.E.ce⟩ : Env).leaf q = C.E.leaf q := by
    rintro ⟨c, t, k⟩ e xs h
    have ht : t < m := by have := H _ _ _ h; simp only at this; omega
    cases c with
    | true =>
      show ((((dropCe m C.E.ce).getD t none).getD []).getD k .dead) = (((C.E.ce.getD t none).getD []).getD k .dead)
      rw [List.getD_eq_getElem?_getD (l := dropCe m C.E.ce), List.getD_eq_getElem?_getD (l := C.E.ce), dropCe_get.1 ht]
    | false =>
      show ((dropSl m C.E.sl).getD t .dead).leafOf k = (C.E.sl.getD t .dead).leafOf k
      rw [List.getD_eq_getElem?_getD, List.getD_eq_getElem?_getD, dropSl_get.1 ht]
  have s : Same C { C with E := ⟨dropSl m C.E.sl, dropCe m C.E.ce⟩ } (fun q => q) (fun _ => False) (fun t => m ≤ t) := by
    refine ⟨rfl, fun b hb _ => ⟨?_, rfl⟩, fun q e xs _ hl => ⟨xs, (hleaf q e xs hl).trans hl, rfl, rfl, fun i j e' ys hg => ⟨hg, fun b o n cap v _ hv => hv⟩⟩, fun t ds hb hl => ⟨ds, ?_, rfl, rfl⟩, fun _ h => h⟩
    · rintro (⟨p, hp⟩ | ⟨t, ds, hl, e⟩)
      · exact hb (.inl ⟨p, hp⟩)
      · exact hb (.inr ⟨t, ds, (hlive t ds hl).1, e⟩)
    · show (dropCe m C.E.ce)[t]? = _
      rw [dropCe_get.1 (by omega)]; exact hl
  have go1 : ∀ p d v, C.E.leaf p = d → LRel C p d v → LRel { C with E := ⟨dropSl m C.E.sl, dropCe m C.E.ce⟩ } p d v := by
    intro p d v hpd hv
    by_cases ho : d.isOwn = true
    · cases d <;> simp [D.isOwn] at ho
      cases hv with
      | own _ _ _ h => exact .own _ _ _ _ h
    · have := LRel.same s hv p (by simpa using ho) ⟨fun q h => by simp, fun t ht => Hc p t (by rw [hpd]; exact ht)⟩
      rwa [D.re_id] at this
  refine ⟨by show C.a.tmps.size = (dropSl m C.E.sl).length; rw [dropSl_length]; exact R.tmps, R.defers, ?_, ?_, R.disj, ?_, ?_, R.fbound, R.flent, ?_, R.frame, R.mnew, R.mL⟩
  · intro t d hd
    have hd : (dropSl m C.E.sl)[t]? = some d := hd
    by_cases ht : t < m
    · rw [dropSl_get.1 ht] at hd
      have h0 := R.slot t d hd
      exact h0.tr' fun k x v hat hv => go1 _ _ _ (h0.at hd k x hat) hv
    · rw [dropSl_get.2 (by omega) d hd]
      exact .comp _ _ rfl (.dead _ _)
  · intro t ds hl
    have hl0 := (hlive t ds hl).1
    obtain ⟨cs, e, fr, a1, a2, a3, a4⟩ := (R.cell t ds hl0).out
    refine ⟨cs, e, fr, a1, a2, a3, fun i d hd => ?_⟩
    obtain ⟨b1, b2, b3⟩ := a4 i d hd
    refine ⟨b1, b2, go1 _ _ _ ?_ b3⟩
    show ((C.E.ce.getD t none).getD []).getD i .dead = d
    rw [show C.E.ce.getD t none = some ds by rw [List.getD_eq_getElem?_getD, show C.E.ce[t]? = some (some ds) from hl0]; rfl]
    simp [List.getD_eq_getElem?_getD, hd]
  · intro t ds t' ds' h1 h2 he
    exact R.cdisj t ds t' ds' (hlive _ _ h1).1 (hlive _ _ h2).1 he
  · intro t ds p h1 hp
    exact R.fcd t ds p (hlive _ _ h1).1 hp
  · intro t ds h1 hb i hi
    exact R.clent t ds (hlive _ _ h1).1 hb i hi
theorem killB_crefs (b : Lf → Bool) (d : D) : ∀ t, t ∈ (killB b d).crefs → t ∈ d.crefs := by
  intro t ht
  cases d <;> simp only [killB] at ht <;> first | exact ht | (split at ht <;> first | exact ht | simp [D.crefs] at ht)
theorem Rel.forget {w0 : World} {L : Nat → Nat → Prop} {C : Ctx} (R : Rel w0 L C) (m : Nat) : Rel w0 L { C with E := C.E.forget m } := by
  have hg : ∀ (p : Lf) (d : D), d.leafy = true → (fgB m p d).leafy = true := by
    intro p d h
    unfold fgB
    split
    · rfl
    · split
      · rfl
      · exact killB_leafy _ d h
  refine (R.fg m).drop m ?_ ?_
  · intro p e xs h hm
    have h : (C.E.mapP (fgB m)).leaf p = .own e xs := h
    rw [mapP_leaf R _ hg] at h
    cases hd : C.E.leaf p <;> rw [hd] at h <;> simp [lf1, fgB, hm] at h
  · intro p t ht hm
    have ht : t ∈ ((C.E.mapP (fgB m)).leaf p).crefs := ht
    rw [mapP_leaf R _ hg] at ht
    have key : ∀ d, t ∈ (fgB m p d).crefs → False := by
      intro d h
      unfold fgB at h
      split at h
      · simp [D.crefs] at h
      · split at h
        · simp [D.crefs] at h
        · rename_i h1 h2
          have := killB_crefs _ d t h
          exact h2 (List.any_eq_true.2 ⟨t, this, by simpa using hm⟩)
    cases hd : C.E.leaf p <;> rw [hd] at ht <;> first | exact key _ ht | simp [lf1, D.crefs] at ht
/-- The same, or something forgotten. -/
def Wk (E E' : Env) : Prop := E' = E ∨ EWk E E' ∨ ∃ m, E' = E.forget m
theorem Rel.weak' {w0 : World} {L : Nat → Nat → Prop} {C : Ctx} (R : Rel w0 L C) {E' : Env} (h : Wk C.E E') : Rel w0 L { C with E := E' } := by
  rcases h with rfl | h | ⟨m, rfl⟩
  · exact R
  · exact R.weak h
  · exact R.forget m
def opG (cfg : Cfg) (ops : List Oper) (o : Oper) : Rdr Stp :=
  if kept cfg o.dst then .fail else
  match o.guard with
  | none => opR cfg o
  | some (j, want) => match (ops[j]?).bind (·.dst) with
    | some t => .slot t fun
      | .v (.bool b) => if b = want then opR cfg o else wrS o.dst (.tup [])
      | .tup [] => wrS o.dst (.tup [])
      | _ => .fail
    | none => .fail
def pOps (P : Program) (cfg : Cfg) (ops : List Oper) : List Oper → Env → (Env → Prop) → Prop
  | [], E, K => K E
  | o :: os, E, K => (opG cfg ops o).wp E (Done P (fun E' => pOps P cfg ops os E' K) E)
def condR (c : Operand) : Rdr Bool := opdR c fun | .v (.bool b) => .ret b | _ => .fail
def Exit.blk (id : Nat) (Q : Go.Exit → Env → Prop) : Go.Exit → Env → Prop
  | .exit id', E => if id' = id then Q .normal E else Q (.exit id') E
  | e, E => Q e E
def Exit.nx (K : Env → Prop) (Q : Go.Exit → Env → Prop) : Go.Exit → Env → Prop
  | .normal, E => K E
  | e, E => Q e E
def pwp (P : Program) (cfg : Cfg) : Code → Env → (Go.Exit → Env → Prop) → Prop
  | .skip, E, Q => Q .normal E
  | .seq x y, E, Q => pwp P cfg x E (Exit.nx (fun E' => pwp P cfg y E' Q) Q)
  | .region _ ops draw, E, Q => draw = false ∧ pOps P cfg ops.toList ops.toList E (Q .normal)
  | .cond c x y, E, Q => (condR c).wp E fun b => if b = true then pwp P cfg x E Q else pwp P cfg y E Q
  | .block id c, E, Q => pwp P cfg c E (Exit.blk id Q)
  | .loop c, E, Q => ∃ (I : Env → Prop) (μ : Env → Nat), (∃ E0, Wk E E0 ∧ I E0) ∧ ∀ E, I E → pwp P cfg c E (Exit.nx (fun E' => ∃ E'', Wk E' E'' ∧ I E'' ∧ μ E'' < μ E) Q)
  | .exit id, E, Q => Q (.exit id) E
  | .ret, E, Q => Q .ret E
  | _, _, _ => False
end Go.Proofs.Ytcnogcachboibaa.Fw
