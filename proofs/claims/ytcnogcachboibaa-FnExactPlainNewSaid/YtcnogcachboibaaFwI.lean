/- Framework, part I: operations that only make a value. -/
import Derived.Test.YtcnogcachboibaaFwH
import Derived.Tactics
namespace Go.Proofs.Ytcnogcachboibaa.Fw
open Go
set_option linter.unusedVariables false

/-- What a function's call does to its arguments' environment (the result is one slot more). -/
def lentOf (E : Env) (F : Lf → Nat → Prop) (loc : Nat → Nat × Nat) (b o : Nat) : Prop :=
  (∃ p, F p b) ∨ ∃ t ds, E.ce[t]? = some (some ds) ∧ (loc t).1 = b ∧ (loc t).2 ≤ o ∧ o < (loc t).2 + ds.length
/-- A function is called and comes back: one of the program's, or one that the model itself carries out. -/
def Runs (P : Program) (f : FuncId) (args : Array Value) (w : World) (Rt : Value → World → Prop) : Prop :=
  ((callFunc f args).run P w = .ok (.enter f args) w ∧ Calls P f args w fun e w' => ∃ v, e = .returned v ∧ Rt v w') ∨ ∃ v w', (callFunc f args).run P w = .ok (.value v) w' ∧ Rt v w'
def Sem (P : Program) (f : FuncId) (Ein Eout : Env) : Prop :=
  ∀ (w : World) (a : Act) (F : Lf → Nat → Prop) (loc : Nat → Nat × Nat) (M : Nat → Prop), Rel w (lentOf Ein F loc) ⟨P, Ein, a, w, F, loc, M⟩ →
    Runs P f a.tmps w fun v w' => ∃ F' loc', (∀ t, t < Ein.sl.length → loc' t = loc t) ∧
      Rel w (lentOf Ein F loc) ⟨P, Eout, { tmps := a.tmps.push v, defers := [] }, w', F', loc', M⟩

/-- A value as it is handed about: it owns nothing. -/
def VRel (C : Ctx) (d : D) (v : Value) : Prop := d.anyOwn = false ∧ ∀ t, SRel C t d v

theorem VRel.leaf {C : Ctx} {d : D} {v : Value} (h1 : d.leafy = true) (h2 : one v = true) (h3 : d.isOwn = false) (h : ∀ p, LRel C p d v) : VRel C d v := by
  refine ⟨?_, fun t => .comp _ _ (by cases d <;> first | rfl | simp [D.leafy] at h1) (.leaf _ _ _ h1 h2 (h _))⟩
  have e1 : d.comps = [d] := by cases d <;> first | rfl | simp [D.leafy] at h1
  simp [D.anyOwn, e1, leafy_leaves1 h1, h3]
theorem VRel.v {C : Ctx} {x : Value} (h : scal x = true) : VRel C (.v x) x :=
  .leaf rfl (by cases x <;> first | rfl | simp [scal] at h) rfl fun p => .v _ _ h
theorem VRel.dead {C : Ctx} (v : Value) : VRel C .dead v := ⟨rfl, fun t => .comp _ _ rfl (.dead _ _)⟩
theorem VRel.agg {C : Ctx} {ds : List D} {vs : Array Value} (h1 : ds.length = vs.size) (h2 : ds.length ≤ 64)
    (h : ∀ (i : Nat) (d : D), ds[i]? = some d → d.leafy = true ∧ d.isOwn = false ∧ one (vs.getD i undef) = true ∧ ∀ p, LRel C p d (vs.getD i undef)) : VRel C (.agg ds) (.agg vs) := by
  refine ⟨?_, fun t => .comp _ _ rfl (.agg _ _ _ h1 h2 fun i d hd => ⟨(h i d hd).1, (h i d hd).2.2.1, (h i d hd).2.2.2 _⟩)⟩
  have e : (D.agg ds).anyOwn = ds.any D.isOwn := by simp [D.anyOwn, D.comps, D.leaves1]
  rw [e]
  by_cases hh : ds.any D.isOwn = true
  · rw [List.any_eq_true] at hh
    obtain ⟨x, hx, ho⟩ := hh
    obtain ⟨i, hi, rfl⟩ := List.mem_iff_getElem.1 hx
    rw [(h i _ (List.getElem?_eq_getElem hi)).2.1] at ho
    cases ho
  · simpa using hh

theorem constLeaf_cases (x : Value) (hx : one x = true) : (constLeaf x).leafy = true ∧ (constLeaf x).isOwn = false ∧ ∀ (C : Ctx) p, LRel C p (constLeaf x) x := by
  unfold constLeaf
  split
  · exact ⟨rfl, rfl, fun C p => .nil _⟩
  · split
    · rename_i h; exact ⟨rfl, rfl, fun C p => .v _ _ h⟩
    · exact ⟨rfl, rfl, fun C p => .dead _ _⟩

theorem constD_rel (C : Ctx) (v : Value) : VRel C (constD v) v := by
  unfold constD
  split
  · rename_i cs
    split
    · rename_i h
      simp only [Bool.and_eq_true, List.all_eq_true, decide_eq_true_eq] at h
      refine .agg (by simp) (by simpa using h.2) ?_
      intro i d hd
      rw [List.getElem?_map] at hd
      cases hx : cs.toList[i]? with
      | none => rw [hx] at hd; simp at hd
      | some x =>
        rw [hx] at hd
        have : d = constLeaf x := by simpa using hd.symm
        subst this
        have hg : cs.getD i undef = x := by rw [← arr_list_getD]; exact getD_some hx
        have h1 := h.1 x (List.mem_of_getElem? hx)
        obtain ⟨a1, a2, a3⟩ := constLeaf_cases x h1
        rw [hg]
        exact ⟨a1, a2, h1, fun p => a3 C p⟩
    · exact .dead _
  · rename_i h
    by_cases h1 : one v = true
    · obtain ⟨a1, a2, a3⟩ := constLeaf_cases v h1
      exact .leaf a1 h1 a2 fun p => a3 C p
    · have : constLeaf v = .dead := by
        cases v <;> simp [one] at h1 <;> simp [constLeaf, scal]
      rw [this]; exact .dead _

theorem mvLeaf_cases (p : Lf) (d : D) : (mvLeaf p d = d ∧ d.isOwn = false) ∨ (∃ e xs, d = .own e xs ∧ mvLeaf p d = .ali p) := by
  cases d <;> first | exact .inl ⟨rfl, rfl⟩ | exact .inr ⟨_, _, rfl, rfl⟩

theorem LRel.any {C : Ctx} {p : Lf} {d : D} {v : Value} (h : LRel C p d v) (ho : d.isOwn = false) (p' : Lf) : LRel C p' d v := by
  cases h with
  | own => simp [D.isOwn] at ho
  | dead => exact .dead _ _
  | v => exact .v _ _ (by assumption)
  | nil => exact .nil _
  | imm => exact .imm _ _ _ _ (by assumption)
  | ali => exact .ali _ _ _ _ (by assumption)
  | sub => exact .sub _ _ _ _ _ _ (by assumption) (by assumption) (by assumption)
  | ela => exact .ela _ _ _ _ _ _ _ _ _ _ _ _ _ (by assumption) (by assumption) (by assumption) (by assumption)
  | cref => exact .cref _ _ _ _ (by assumption) (by assumption)
  | eref => exact .eref _ _ _ _ _ _ _ _ _ _ (by assumption) (by assumption) (by assumption)
  | rptr ds b o cs ce fr X h1 h2 h3 h4 h5 =>
    refine .rptr _ _ _ _ _ _ _ X h1 h2 h3 h4 fun i d hd => ?_
    have := h4 i d hd
    have h := h5 i d hd
    generalize X i = xi at h
    cases d <;> simp [D.pure] at this
    · cases h with | v _ h => exact .v _ _ h
    · cases h with | nil => exact .nil _
    · cases h with | imm _ _ _ h => exact .imm _ _ _ _ h
  | clo f ds vs h1 h2 h3 =>
    refine .clo _ _ _ _ h1 h2 fun i d hd => ?_
    have := h2 i d hd
    have h := h3 i d hd
    generalize vs.getD i undef = vi at h
    cases d <;> simp [D.capt] at this
    · cases h with | v _ h => exact .v _ _ h
    · cases h with | nil => exact .nil _
    · cases h with | imm _ _ _ h => exact .imm _ _ _ _ h
    · cases h with | cref _ _ _ h1 h2 => exact .cref _ _ _ _ h1 h2
    · cases h with
      | rptr ds b o cs ce fr X h1 h2 h3 h4 h5 =>
        refine .rptr _ _ _ _ _ _ _ X h1 h2 h3 h4 fun i d hd => ?_
        have := h4 i d hd
        have h := h5 i d hd
        generalize X i = xi at h
        cases d <;> simp [D.pure] at this
        · cases h with | v _ h => exact .v _ _ h
        · cases h with | nil => exact .nil _
        · cases h with | imm _ _ _ h => exact .imm _ _ _ _ h

/-- A leaf that is read out of its place owns nothing any more. -/
theorem mvLeaf_rel {C : Ctx} {p : Lf} {d : D} (hl : C.E.leaf p = d) (h : LRel C p d (C.cv p)) : (mvLeaf p d).isOwn = false ∧ ∀ p', LRel C p' (mvLeaf p d) (C.cv p) := by
  rcases mvLeaf_cases p d with ⟨h1, h2⟩ | ⟨e, xs, rfl, h2⟩
  · rw [h1]; exact ⟨h2, fun p' => h.any h2 p'⟩
  · rw [h2]; exact ⟨rfl, fun p' => .ali p' p e xs hl⟩
theorem mvLeaf_leafy {p : Lf} {d : D} (h : d.leafy = true) : (mvLeaf p d).leafy = true := by
  rcases mvLeaf_cases p d with ⟨h1, h2⟩ | ⟨e, xs, rfl, h2⟩
  · rw [h1]; exact h
  · rw [h2]; rfl

theorem mvList_get (c : Bool) (t : Nat) : ∀ (ds : List D) (k i : Nat), (mvList c t k ds)[i]? = (ds[i]?).map (mvLeaf ⟨c, t, k + i⟩)
  | [], k, i => by simp [mvList]
  | d :: ds, k, 0 => by simp [mvList]
  | d :: ds, k, i + 1 => by
    simp only [mvList, List.getElem?_cons_succ]
    rw [mvList_get c t ds (k + 1) i]
    congr 2; rw [Nat.add_assoc, Nat.add_comm 1 i]
theorem mvList_length (c : Bool) (t : Nat) : ∀ (ds : List D) (k : Nat), (mvList c t k ds).length = ds.length
  | [], _ => rfl
  | d :: ds, k => by simp [mvList, mvList_length c t ds]

/-- A component read out of its slot. -/
theorem mvComp_rel {C : Ctx} {t k : Nat} {d : D} {v : Value} (h : CRel C t k d v) (hcv : ∀ j, j < 64 → C.cv ⟨false, t, k + j⟩ = (vleaves1 v).getD j undef)
    (hl : ∀ j x, j < 64 → d.leaves1[j]? = some x → C.E.leaf ⟨false, t, k + j⟩ = x) : VRel C (mvComp t k d) v := by
  cases h with
  | dead => exact .dead _
  | agg ds vs h1 h2 h =>
    simp only [mvComp]
    refine .agg (by rw [mvList_length]; exact h1) (by rw [mvList_length]; exact h2) ?_
    intro i d' hd'
    rw [mvList_get] at hd'
    cases hx : ds[i]? with
    | none => rw [hx] at hd'; simp at hd'
    | some x =>
      rw [hx] at hd'
      have : d' = mvLeaf ⟨false, t, k + i⟩ x := by simpa using hd'.symm
      subst this
      obtain ⟨a1, a2, a3⟩ := h i x hx
      have hi : i < 64 := by have := (List.getElem?_eq_some_iff.1 hx).1; omega
      have e := hcv i hi
      simp only [vleaves1] at e
      rw [arr_list_getD] at e
      rw [← e] at a3 a2 ⊢
      obtain ⟨b1, b2⟩ := mvLeaf_rel (hl i x hi (by simpa [D.leaves1] using hx)) a3
      exact ⟨mvLeaf_leafy a1, b1, a2, b2⟩
  | leaf _ _ ha hb hc =>
    have e1 : mvComp t k d = mvLeaf ⟨false, t, k⟩ d := by cases d <;> first | rfl | simp [D.leafy] at ha
    have e2 : vleaves1 v = [v] := by cases v <;> first | rfl | simp [one] at hb
    have e := hcv 0 (by omega)
    rw [e2] at e
    have e : C.cv ⟨false, t, k⟩ = v := by simpa using e
    rw [e1, ← e]
    rw [← e] at hb hc
    obtain ⟨b1, b2⟩ := mvLeaf_rel (hl 0 d (by omega) (by rw [leafy_leaves1 ha]; rfl)) hc
    exact .leaf (mvLeaf_leafy ha) hb b1 b2

theorem asMove_rel {w0 : World} {L : Nat → Nat → Prop} {C : Ctx} (R : Rel w0 L C) (t : Nat) (ht : (C.E.sl.getD t .dead).isTup = false) : VRel C (asMove t (C.E.sl.getD t .dead)) (C.a.tmps.getD t undef) := by
  cases h : C.E.sl[t]? with
  | none =>
    have : C.E.sl.getD t .dead = .dead := by rw [List.getD_eq_getElem?_getD, h]; rfl
    rw [this]; exact .dead _
  | some d =>
    rw [getD_some h] at ht ⊢
    have hs := R.slot t d h
    generalize hv : C.a.tmps.getD t undef = v at hs
    cases hs with
    | tup => simp [D.isTup] at ht
    | comp _ _ _ hc =>
      by_cases hdd : d = .dead
      · subst hdd; exact .dead _
      · refine mvComp_rel hc (fun j hj => cv_comp hv (hc.notTuple hdd) j hj) fun j x hj hx => ?_
        rw [leaf_slot _ _ _ _ h]
        exact (At.comp d (0 + j) x ht (by omega) (by simpa using hx)).leafOf

/-- What an operand is. -/
theorem opdR_wp {w0 : World} {L : Nat → Nat → Prop} {C : Ctx} (R : Rel w0 L C) {α : Type} {x : Operand} {k : D → Rdr α} {Q : α → Prop} (h : (opdR x k).wp C.E Q) :
    ∃ d, (k d).wp C.E Q ∧ (d.isTup = false → VRel C d (C.a.eval x)) := by
  cases x with
  | tmp t =>
    refine ⟨_, h, fun ht => ?_⟩
    refine asMove_rel R t ?_
    have : ∀ d : D, (asMove t d).isTup = d.isTup := by
      intro d
      cases d <;> first | rfl
    rw [this] at ht; exact ht
  | const v => exact ⟨_, h, fun _ => constD_rel C v⟩
  | func f =>
    refine ⟨_, h, fun _ => .leaf rfl rfl rfl fun p => ?_⟩
    exact .clo p f [] #[] rfl (fun i d hd => by simp at hd) (fun i d hd => by simp at hd)
  | global g => exact h.elim
end Go.Proofs.Ytcnogcachboibaa.Fw
