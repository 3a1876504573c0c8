/- Framework, part F: the ghost steps one by one; a slot that is written. -/
import Derived.Test.YtcnogcachboibaaFwE
namespace Go.Proofs.Ytcnogcachboibaa.Fw
open Go
set_option linter.unusedVariables false

theorem SRel.leafAt {C : Ctx} {t : Nat} {d : D} {v : Value} (h : SRel C t d v) (hv : C.a.tmps.getD t undef = v) {k : Nat} {x : D} (hx : At d k x) (hn : x ≠ .dead) :
    x.leafy = true ∧ LRel C ⟨false, t, k⟩ x (C.cv ⟨false, t, k⟩) := by
  have comp : ∀ (k0 : Nat) (c : D) (v : Value), CRel C t k0 c v → (∀ j, j < 64 → C.cv ⟨false, t, k0 + j⟩ = (vleaves1 v).getD j undef) → ∀ j, c.leaves1[j]? = some x → j < 64 →
      x.leafy = true ∧ LRel C ⟨false, t, k0 + j⟩ x (C.cv ⟨false, t, k0 + j⟩) := by
    intro k0 c v hc hcv j hj h64
    cases hc with
    | dead =>
      exfalso; apply hn
      cases j with
      | zero => simpa [D.leaves1] using hj.symm
      | succ n => simp [D.leaves1] at hj
    | agg ds vs hl h64' h =>
      simp only [D.leaves1] at hj
      obtain ⟨a1, a2, a3⟩ := h j x hj
      have e := hcv j h64
      simp only [vleaves1] at e
      rw [arr_list_getD] at e
      rw [e]; exact ⟨a1, a3⟩
    | leaf _ _ ha hb hc =>
      rw [leafy_leaves1 ha] at hj
      cases j with
      | succ n => simp at hj
      | zero =>
        have e1 : vleaves1 v = [v] := by cases v <;> first | rfl | simp [one] at hb
        have e := hcv 0 (by omega)
        rw [e1] at e
        have e : C.cv ⟨false, t, k0⟩ = v := by simpa using e
        have hx : c = x := by simpa using hj
        subst hx
        simp only [Nat.add_zero]
        rw [e]; exact ⟨ha, hc⟩
  cases hx with
  | comp _ _ _ ht hk hx =>
    cases h with
    | tup => simp [D.isTup] at ht
    | comp _ _ _ hc =>
      by_cases hdd : d = .dead
      · subst hdd
        exfalso; apply hn
        cases k with
        | zero => simpa [D.leaves1] using hx.symm
        | succ n => simp [D.leaves1] at hx
      · have := comp 0 d v hc (fun j hj => cv_comp hv (hc.notTuple hdd) j hj) k hx hk
        simpa using this
  | tup cs i j c _ hc hj hx =>
    cases h with
    | comp _ _ ht _ => simp [D.isTup] at ht
    | tup _ vs hl hs => exact comp (64 * i) c _ (hs i c hc).2 (fun j hj => cv_tup hv i j hj) j hx hj

theorem Rel.leaf {w0 : World} {L : Nat → Nat → Prop} {C : Ctx} (R : Rel w0 L C) (p : Lf) (hn : C.E.leaf p ≠ .dead) : (C.E.leaf p).leafy = true ∧ LRel C p (C.E.leaf p) (C.cv p) := by
  obtain ⟨c, t, k⟩ := p
  cases c with
  | false =>
    cases h : C.E.sl[t]? with
    | none => exact absurd (leaf_none_slot _ _ _ h) hn
    | some d =>
      have e := leaf_slot _ _ k _ h
      rw [e] at hn ⊢
      exact (R.slot t d h).leafAt rfl (leafOf_at d k hn) hn
  | true =>
    cases h : C.E.ce[t]? with
    | none => exfalso; apply hn; simp [Env.leaf, List.getD_eq_getElem?_getD, h]
    | some o =>
      cases o with
      | none => exfalso; apply hn; simp [Env.leaf, List.getD_eq_getElem?_getD, h]
      | some ds =>
        have e := leaf_cell _ _ k _ h
        rw [e] at hn ⊢
        have hk : k < ds.length := by
          by_cases hk : k < ds.length
          · exact hk
          · exfalso; apply hn; rw [List.getD_eq_getElem?_getD, List.getElem?_eq_none (by omega)]; rfl
        have hd : ds[k]? = some ds[k] := List.getElem?_eq_getElem hk
        rw [getD_some hd]
        obtain ⟨cs, e', fr, a1, a2, a3, a4⟩ := (R.cell t ds h).out
        obtain ⟨b1, b2, b3⟩ := a4 k _ hd
        rw [cell_cv a1]
        exact ⟨b1, b3⟩

theorem Rel.ownLeaf {w0 : World} {L : Nat → Nat → Prop} {C : Ctx} (R : Rel w0 L C) {p : Lf} {e : TypeId} {xs : List (List T)} (h : C.E.leaf p = .own e xs) : OwnT C.P C.w (.sl e xs) (C.cv p) (C.F p) := by
  have := (R.leaf p (by rw [h]; simp)).2
  rw [h] at this
  cases this with
  | own _ _ _ h => exact h

theorem lf1_own (g : Lf → D → D) (p : Lf) (e : TypeId) (xs : List (List T)) : lf1 g p (.own e xs) = g p (.own e xs) := rfl

/-- What a leafwise change has to show so that all that names rows still does. -/
theorem Same.ofMap {w0 : World} {L : Nat → Nat → Prop} {C : Ctx} (R : Rel w0 L C) (g : Lf → D → D) (F' : Lf → Nat → Prop) (hg : ∀ p d, d.leafy = true → (g p d).leafy = true)
    (hF : ∀ p b, F' p b → ∃ q, C.F q b) (ren : Lf → Lf) (bad : Lf → Prop)
    (h : ∀ q e xs, ¬ bad q → C.E.leaf q = .own e xs → lf1 g (ren q) (C.E.leaf (ren q)) = .own e xs ∧ C.cv (ren q) = C.cv q) :
    Same C { C with E := C.E.mapP g, F := F' } ren bad (fun _ => False) := by
  have hlv : ∀ t ds, C.live t ds → ({ C with E := C.E.mapP g, F := F' } : Ctx).live t (mapLv (fun j => lf1 g ⟨true, t, j⟩) 0 ds) := by
    intro t ds h
    show (C.E.mapP g).ce[t]? = _
    simp only [Env.mapP]
    rw [mapCe_get, show C.E.ce[t]? = some (some ds) from h]
    simp
  have hlive : ∀ t ds', ({ C with E := C.E.mapP g, F := F' } : Ctx).live t ds' → ∃ ds, C.live t ds := by
    intro t ds' h
    have h2 : (C.E.mapP g).ce[t]? = some (some ds') := h
    simp only [Env.mapP] at h2
    rw [mapCe_get] at h2
    cases h3 : C.E.ce[t]? with
    | none => rw [h3] at h2; simp at h2
    | some o =>
      cases o with
      | none => rw [h3] at h2; simp at h2
      | some ds => exact ⟨ds, h3⟩
  refine ⟨rfl, fun b hb _ => ⟨?_, rfl⟩, ?_, ?_, fun _ h => h⟩
  · rintro (⟨p, hp⟩ | ⟨t, ds', hl, hb'⟩)
    · obtain ⟨q, hq⟩ := hF p b hp
      exact hb (.inl ⟨q, hq⟩)
    · obtain ⟨ds, h1⟩ := hlive t ds' hl
      exact hb (.inr ⟨t, ds, h1, hb'⟩)
  · intro q e xs hq hl
    obtain ⟨h1, h2⟩ := h q e xs hq hl
    exact ⟨xs, by show (C.E.mapP g).leaf (ren q) = _; rw [mapP_leaf R g hg]; exact h1, rfl, h2, fun i j e' ys hg => ⟨hg, fun b o n cap v _ hv => hv⟩⟩
  · intro t ds _ hl
    exact ⟨_, hlv t ds hl, mapLv_length .., rfl⟩

theorem killB_leafy (b : Lf → Bool) (d : D) (h : d.leafy = true) : (killB b d).leafy = true := by
  cases d <;> simp only [killB] <;> first | exact h | (split <;> rfl)
theorem killB_cases (b : Lf → Bool) (d : D) : killB b d = .dead ∨ (killB b d = d ∧ ∀ q, d.base = some q → b q = false) := by
  have one : ∀ (q : Lf) (d : D), d.base = some q → killB b d = (if b q then .dead else d) → killB b d = .dead ∨ (killB b d = d ∧ ∀ q, d.base = some q → b q = false) := by
    intro q d h1 h2
    by_cases hb : b q = true
    · left; rw [h2, if_pos hb]
    · right; refine ⟨by rw [h2, if_neg hb], fun q' h => ?_⟩
      rw [h1] at h; injection h with h; subst h; simpa using hb
  cases d with
  | ali p => exact one p _ rfl rfl
  | sub p lo hi => exact one p _ rfl rfl
  | ela p i j => exact one p _ rfl rfl
  | eref p i j => exact one p _ rfl rfl
  | _ => exact .inr ⟨rfl, fun q hq => by simp [D.base] at hq⟩

/-- What hangs on the leaves of b dies, and they with it. -/
theorem Rel.kill {w0 : World} {L : Nat → Nat → Prop} {C : Ctx} (R : Rel w0 L C) (b : Lf → Bool) : Rel w0 L { C with E := C.E.kill b } := by
  have hg : ∀ (p : Lf) (d : D), d.leafy = true → (if b p then D.dead else killB b d).leafy = true := by
    intro p d h; split
    · rfl
    · exact killB_leafy b d h
  have s := Same.ofMap R (fun p d => if b p then D.dead else killB b d) C.F hg (fun p b h => ⟨p, h⟩) (fun q => q) (fun q => b q = true) (by
    intro q e xs hq hl
    rw [hl]
    have : b q = false := by simpa using hq
    simp [lf1, this, killB])
  refine R.mapP _ C.F hg ?_ (fun p b h => ⟨p, h⟩) R.disj
  intro p d h1 h2 h3 hv
  by_cases hb : b p = true
  · simp only [hb, if_true]; exact .dead _ _
  · simp only [hb]
    rcases killB_cases b d with h | ⟨h, hq⟩
    · simp only [h]; exact .dead _ _
    · simp only [h]
      by_cases ho : d.isOwn = true
      · cases d <;> simp [D.isOwn] at ho
        cases hv with
        | own _ _ _ h => exact .own _ _ _ _ h
      · have := LRel.same s hv p (by simpa using ho) ⟨fun q h => by simp [hq q h], fun t ht => by simp⟩
        rwa [D.re_id] at this

theorem re_leafy (g : Lf → Lf) (d : D) (h : d.leafy = true) : (d.re g).leafy = true := by cases d <;> first | exact h | rfl
theorem re_own (g : Lf → Lf) (e : TypeId) (xs : List (List T)) : (D.own e xs).re g = .own e xs := rfl

/-- The owner's place is taken by an exact alias. -/
theorem Rel.swap {w0 : World} {L : Nat → Nat → Prop} {C : Ctx} (R : Rel w0 L C) {q p : Lf} {E' : Env} (h : C.E.swap q p = some E') (hp : C.E.leaf p = .ali q) :
    ∃ F', Rel w0 L { C with E := E', F := F' } := by
  unfold Env.swap at h
  split at h
  case h_2 => cases h
  rename_i e xs hq
  split at h
  · cases h
  rename_i hne
  injection h with h
  subst h
  refine ⟨fun r => if r = p then C.F q else if r = q then fun _ => False else C.F r, ?_⟩
  have hg : ∀ (r : Lf) (d : D), d.leafy = true → (if r = q then D.ali p else if r = p then .own e xs else reB q p d).leafy = true := by
    intro r d hd; split
    · rfl
    · split
      · rfl
      · exact re_leafy _ d hd
  have hcv : C.cv p = C.cv q := by
    have := (R.leaf p (by rw [hp]; simp)).2
    rw [hp] at this
    generalize C.cv p = v at this
    cases this with
    | ali => rfl
  have hF : ∀ r b, (fun r => if r = p then C.F q else if r = q then fun _ => False else C.F r) r b → ∃ q, C.F q b := by
    intro r b h
    split at h
    · exact ⟨_, h⟩
    · split at h
      · exact h.elim
      · exact ⟨_, h⟩
  have s := Same.ofMap R (fun r d => if r = q then D.ali p else if r = p then .own e xs else reB q p d) _ hg hF (fun r => if r = q then p else r) (fun _ => False) (by
    intro r e' xs' _ hl
    by_cases hr : r = q
    · subst hr
      rw [hq] at hl
      injection hl with h1 h2
      subst h1; subst h2
      simp only [if_true]
      rw [hp]
      refine ⟨?_, hcv⟩
      show (if p = r then D.ali p else if p = p then D.own e xs else reB r p (.ali r)) = _
      rw [if_neg (fun h => hne h.symm), if_pos rfl]
    · simp only [if_neg hr]
      rw [hl]
      refine ⟨?_, by trivial⟩
      have hrp : r ≠ p := by intro h; subst h; rw [hp] at hl; cases hl
      show (if r = q then D.ali p else if r = p then D.own e xs else reB q p (.own e' xs')) = _
      rw [if_neg hr, if_neg hrp]; rfl)
  refine R.mapP _ _ hg ?_ hF ?_
  · intro r d h1 h2 h3 hv
    by_cases hr : r = q
    · subst hr
      rw [if_pos rfl]
      have : LRel { C with E := C.E.mapP fun r' d => if r' = r then D.ali p else if r' = p then .own e xs else reB r p d, F := fun r' => if r' = p then C.F r else if r' = r then fun _ => False else C.F r' } r (.ali p) _ :=
        .ali r p e xs (by
          show (C.E.mapP _).leaf p = _
          rw [mapP_leaf R _ hg, hp]
          show (if p = r then D.ali p else if p = p then D.own e xs else _) = _
          rw [if_neg (fun h => hne h.symm), if_pos rfl])
      have e2 : Ctx.cv { C with E := C.E.mapP fun r' d => if r' = r then D.ali p else if r' = p then .own e xs else reB r p d, F := fun r' => if r' = p then C.F r else if r' = r then fun _ => False else C.F r' } p = C.cv p := rfl
      rw [e2, hcv] at this
      exact this
    · rw [if_neg hr]
      by_cases hrp : r = p
      · subst hrp
        rw [if_pos rfl]
        refine .own _ _ _ _ ?_
        show OwnT C.P C.w _ _ (if r = r then C.F q else _)
        rw [if_pos rfl, hcv]
        exact R.ownLeaf hq
      · rw [if_neg hrp]
        by_cases ho : d.isOwn = true
        · cases d <;> simp [D.isOwn] at ho
          cases hv with
          | own _ _ _ h =>
            refine .own _ _ _ _ ?_
            show OwnT C.P C.w _ _ (if r = p then C.F q else if r = q then fun _ => False else C.F r)
            rw [if_neg hrp, if_neg hr]
            exact h
        · exact LRel.same s hv r (by simpa using ho) ⟨fun q h => by simp, fun t ht => by simp⟩
  · intro r r' b h1 h2
    by_cases a1 : r = p
    · by_cases a2 : r' = p
      · rw [a1, a2]
      · rw [if_pos a1] at h1; rw [if_neg a2] at h2
        by_cases a3 : r' = q
        · rw [if_pos a3] at h2; exact h2.elim
        · rw [if_neg a3] at h2; exact absurd (R.disj _ _ b h1 h2).symm a3
    · rw [if_neg a1] at h1
      by_cases a3 : r = q
      · rw [if_pos a3] at h1; exact h1.elim
      · rw [if_neg a3] at h1
        by_cases a2 : r' = p
        · rw [if_pos a2] at h2; exact absurd (R.disj _ _ b h1 h2) a3
        · rw [if_neg a2] at h2
          by_cases a4 : r' = q
          · rw [if_pos a4] at h2; exact h2.elim
          · rw [if_neg a4] at h2; exact R.disj _ _ b h1 h2
end Go.Proofs.Ytcnogcachboibaa.Fw
