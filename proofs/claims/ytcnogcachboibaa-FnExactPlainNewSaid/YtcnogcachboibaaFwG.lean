/- Framework, part G: parts of rows; a row that nobody owns any more. -/
import Derived.Test.YtcnogcachboibaaFwF
import Derived.Laws.World
namespace Go.Proofs.Ytcnogcachboibaa.Fw
open Go
set_option linter.unusedVariables false

theorem get?_cut {xs : List (List T)} {lo n i j : Nat} {t : T} (h : T.get? ((xs.drop lo).take n) i j = some t) : i < n ∧ T.get? xs (lo + i) j = some t := by
  unfold T.get? at *
  rw [List.getElem?_take] at h
  split at h
  · rename_i hi
    rw [List.getElem?_drop] at h
    exact ⟨hi, h⟩
  · simp at h

theorem add_plain (b o n : Nat) : (⟨b, o, none⟩ : Addr).add n = ⟨b, o + n, none⟩ := by
  unfold Addr.add
  split
  · rename_i h; subst h; rfl
  · rfl

theorem OwnT.cut {P : Program} {w : World} {e : TypeId} {xs : List (List T)} {v : Value} {F : Nat → Prop} (h : OwnT P w (.sl e xs) v F) {lo hi : Nat} (h1 : lo ≤ hi) (h2 : hi ≤ xs.length) :
    OwnT P w (.sl e ((xs.drop lo).take (hi - lo))) (cutV (P.cellsOf e) v lo hi) F := by
  cases h with
  | emp =>
    have : lo = 0 := by simp at h2; omega
    have : hi = 0 := by simp at h2; omega
    subst_vars
    exact .emp e F
  | row _ _ b o cap cs fr _ G X a1 a2 a3 a4 a5 a6 a7 a8 a9 a10 a11 a12 =>
    have hlen : ((xs.drop lo).take (hi - lo)).length = hi - lo := by simp; omega
    have hrow : ∀ (i : Nat) (r : List T), ((xs.drop lo).take (hi - lo))[i]? = some r → r.length = P.cellsOf e := by
      intro i r hr
      rw [List.getElem?_take] at hr
      split at hr
      · rw [List.getElem?_drop] at hr; exact a7 _ r hr
      · simp at hr
    have hval : cutV (P.cellsOf e) (.slice (some ⟨b, o, none⟩) xs.length cap) lo hi = .slice (some ⟨b, if cap = lo then o else o + lo * P.cellsOf e, none⟩) ((xs.drop lo).take (hi - lo)).length (cap - lo) := by
      simp only [cutV, hlen]
      split
      · rfl
      · simp only [Option.map_some, add_plain]
    rw [hval]
    refine .row e _ b _ (cap - lo) cs fr F (fun i j => G (lo + i) j) (fun i j => X (lo + i) j) a1 a2 a3 ?_ (by omega) (by omega) hrow (fun i j => a8 _ _) ?_ ?_ ?_ (fun hf i j t ht => a12 hf _ _ _ (get?_cut ht).2)
    · split
      · rename_i hc; rw [hc, Nat.sub_self, Nat.zero_mul]
        have : o ≤ o + cap * P.cellsOf e := Nat.le_add_right _ _
        omega
      · have : lo * P.cellsOf e + (cap - lo) * P.cellsOf e = cap * P.cellsOf e := by rw [← Nat.add_mul]; congr 1; omega
        omega
    · intro i j i' j' b' hb hb'
      obtain ⟨q1, q2⟩ := a9 _ _ _ _ _ hb hb'
      exact ⟨by omega, q2⟩
    · intro i j t ht
      obtain ⟨q1, q2⟩ := get?_cut ht
      have q3 := a10 _ _ _ q2
      split
      · omega
      · rw [show o + lo * P.cellsOf e + i * P.cellsOf e + j = o + (lo + i) * P.cellsOf e + j from by rw [Nat.add_mul]; omega]
        exact q3
    · intro i j t ht
      obtain ⟨q1, q2⟩ := get?_cut ht
      exact a11 _ _ _ q2

theorem RdT.cut {P : Program} {w : World} {S : Nat → Prop} {e : TypeId} {xs : List (List T)} {v : Value} (h : RdT P w S (.sl e xs) v) {lo hi : Nat} (h1 : lo ≤ hi) (h2 : hi ≤ xs.length) :
    RdT P w S (.sl e ((xs.drop lo).take (hi - lo))) (cutV (P.cellsOf e) v lo hi) := by
  cases h with
  | emp _ base cap hc =>
    have : lo = 0 := by simp at h2; omega
    have : hi = 0 := by simp at h2; omega
    subst_vars
    exact .emp e _ _ (by omega)
  | row _ _ b o cap cs ce fr X a1 a2 a5 a6 a7 a10 a11 a12 =>
    have hlen : ((xs.drop lo).take (hi - lo)).length = hi - lo := by simp; omega
    have hrow : ∀ (i : Nat) (r : List T), ((xs.drop lo).take (hi - lo))[i]? = some r → r.length = P.cellsOf e := by
      intro i r hr
      rw [List.getElem?_take] at hr
      split at hr
      · rw [List.getElem?_drop] at hr; exact a7 _ r hr
      · simp at hr
    have hval : cutV (P.cellsOf e) (.slice (some ⟨b, o, none⟩) xs.length cap) lo hi = .slice (some ⟨b, if cap = lo then o else o + lo * P.cellsOf e, none⟩) ((xs.drop lo).take (hi - lo)).length (cap - lo) := by
      simp only [cutV, hlen]
      split
      · rfl
      · simp only [Option.map_some, add_plain]
    rw [hval]
    refine .row e _ b _ (cap - lo) cs ce fr (fun i j => X (lo + i) j) a1 a2 (by omega) (by omega) hrow ?_ ?_ (fun hf i j t ht => a12 hf _ _ _ (get?_cut ht).2)
    · intro i j t ht
      obtain ⟨q1, q2⟩ := get?_cut ht
      have q3 := a10 _ _ _ q2
      split
      · omega
      · rw [show o + lo * P.cellsOf e + i * P.cellsOf e + j = o + (lo + i) * P.cellsOf e + j from by rw [Nat.add_mul]; omega]
        exact q3
    · intro i j t ht
      obtain ⟨q1, q2⟩ := get?_cut ht
      exact a11 _ _ _ q2

/-- A part of an owned row takes the ownership. -/
theorem Rel.cut {w0 : World} {L : Nat → Nat → Prop} {C : Ctx} (R : Rel w0 L C) {q p : Lf} {lo hi : Nat} {E' : Env} (h : C.E.cut q p lo hi = some E') (hp : C.E.leaf p = .sub q lo hi) :
    ∃ F', Rel w0 L { C with E := E', F := F' } := by
  unfold Env.cut at h
  split at h
  case h_2 => cases h
  rename_i e xs hq
  split at h
  · cases h
  rename_i hne
  injection h with h
  subst h
  refine ⟨fun r => if r = p then C.F q else if r = q then fun _ => False else C.F r, ?_⟩
  have hg : ∀ (r : Lf) (d : D), d.leafy = true → (if r = q then D.dead else if r = p then .own e ((xs.drop lo).take (hi - lo)) else killB (fun r => r == q) d).leafy = true := by
    intro r d hd; split
    · rfl
    · split
      · rfl
      · exact killB_leafy _ d hd
  have hcv : C.cv p = cutV (C.P.cellsOf e) (C.cv q) lo hi ∧ lo ≤ hi ∧ hi ≤ xs.length := by
    have := (R.leaf p (by rw [hp]; simp)).2
    rw [hp] at this
    generalize C.cv p = v at this
    cases this with
    | sub _ _ _ e' xs' h1 h2 h3 =>
      rw [hq] at h1; injection h1 with h4 h5; subst h4; subst h5
      exact ⟨rfl, h2, h3⟩
  have hF : ∀ r b, (fun r => if r = p then C.F q else if r = q then fun _ => False else C.F r) r b → ∃ q, C.F q b := by
    intro r b h
    split at h
    · exact ⟨_, h⟩
    · split at h
      · exact h.elim
      · exact ⟨_, h⟩
  have s := Same.ofMap R (fun r d => if r = q then D.dead else if r = p then .own e ((xs.drop lo).take (hi - lo)) else killB (fun r => r == q) d) _ hg hF (fun r => r) (fun r => r = q) (by
    intro r e' xs' hr hl
    rw [hl]
    refine ⟨?_, rfl⟩
    have hrp : r ≠ p := by intro h; subst h; rw [hp] at hl; cases hl
    show (if r = q then D.dead else if r = p then D.own e _ else killB (fun r => r == q) (.own e' xs')) = _
    rw [if_neg hr, if_neg hrp]; rfl)
  refine R.mapP _ _ hg ?_ hF ?_
  · intro r d h1 h2 h3 hv
    by_cases hr : r = q
    · rw [if_pos hr]; exact .dead _ _
    · rw [if_neg hr]
      by_cases hrp : r = p
      · subst hrp
        rw [if_pos rfl]
        refine .own _ _ _ _ ?_
        show OwnT C.P C.w _ _ (if r = r then C.F q else _)
        rw [if_pos rfl, hcv.1]
        exact (R.ownLeaf hq).cut hcv.2.1 hcv.2.2
      · rw [if_neg hrp]
        rcases killB_cases (fun r => r == q) d with h | ⟨h, hk⟩
        · rw [h]; exact .dead _ _
        · rw [h]
          by_cases ho : d.isOwn = true
          · cases d <;> simp [D.isOwn] at ho
            cases hv with
            | own _ _ _ h =>
              refine .own _ _ _ _ ?_
              show OwnT C.P C.w _ _ (if r = p then C.F q else if r = q then fun _ => False else C.F r)
              rw [if_neg hrp, if_neg hr]
              exact h
          · have := LRel.same s hv r (by simpa using ho) ⟨fun q' h' => by simpa using hk q' h', fun t ht => by simp⟩
            rwa [D.re_id] at this
  · intro r r' b h1 h2
    by_cases a1 : r = p
    · by_cases a2 : r' = p
      · rw [a1, a2]
      · rw [if_pos a1] at h1; rw [if_neg a2] at h2
        by_cases a3 : r' = q
        · rw [if_pos a3] at h2; exact h2.elim
        · rw [if_neg a3] at h2; exact absurd (R.disj _ _ b h1 h2).symm a3
    · rw [if_neg a1] at h1
      by_cases a3 : r = q
      · rw [if_pos a3] at h1; exact h1.elim
      · rw [if_neg a3] at h1
        by_cases a2 : r' = p
        · rw [if_pos a2] at h2; exact absurd (R.disj _ _ b h1 h2) a3
        · rw [if_neg a2] at h2
          by_cases a4 : r' = q
          · rw [if_pos a4] at h2; exact h2.elim
          · rw [if_neg a4] at h2; exact R.disj _ _ b h1 h2

theorem Rel.mF {w0 : World} {L : Nat → Nat → Prop} {C : Ctx} (R : Rel w0 L C) {p : Lf} {b : Nat} (h : C.F p b) : C.M b := by
  by_cases hb : b < w0.heap.size
  · exact R.mL b 0 (R.flent p b h hb 0)
  · exact R.mnew b (by omega)
/-- An owned row is owned no longer. -/
theorem Rel.frz {w0 : World} {L : Nat → Nat → Prop} {C : Ctx} (R : Rel w0 L C) {q : Lf} {E' : Env} (h : C.E.frz q = some E') : Rel w0 L { C with E := E', F := fun r => if r = q then fun _ => False else C.F r } := by
  unfold Env.frz at h
  split at h
  case h_2 => cases h
  rename_i e xs hq
  injection h with h
  subst h
  have hg : ∀ (r : Lf) (d : D), d.leafy = true → (if r = q then D.imm e xs else frzB q e xs d).leafy = true := by
    intro r d hd; split
    · rfl
    · cases d <;> simp only [frzB] <;> first | exact hd | (split <;> first | rfl | (split <;> rfl))
  have hF : ∀ r b, (fun r => if r = q then fun _ => False else C.F r) r b → ∃ q, C.F q b := by
    intro r b h
    split at h
    · exact h.elim
    · exact ⟨_, h⟩
  have s := Same.ofMap R (fun r d => if r = q then D.imm e xs else frzB q e xs d) _ hg hF (fun r => r) (fun r => r = q) (by
    intro r e' xs' hr hl
    rw [hl]
    refine ⟨?_, rfl⟩
    show (if r = q then D.imm e xs else frzB q e xs (.own e' xs')) = _
    rw [if_neg hr]; rfl)
  have ho := R.ownLeaf hq
  have hlive : ∀ t ds', ({ C with E := C.E.mapP fun r d => if r = q then D.imm e xs else frzB q e xs d, F := fun r => if r = q then fun _ => False else C.F r } : Ctx).live t ds' → ∃ ds, C.live t ds := by
    intro t ds' h
    have h2 : (C.E.mapP fun r d => if r = q then D.imm e xs else frzB q e xs d).ce[t]? = some (some ds') := h
    simp only [Env.mapP] at h2
    rw [mapCe_get] at h2
    cases h3 : C.E.ce[t]? with
    | none => rw [h3] at h2; simp at h2
    | some o =>
      cases o with
      | none => rw [h3] at h2; simp at h2
      | some ds => exact ⟨ds, h3⟩
  have hun : ∀ b, C.F q b → ¬ ({ C with E := C.E.mapP fun r d => if r = q then D.imm e xs else frzB q e xs d, F := fun r => if r = q then fun _ => False else C.F r } : Ctx).Owned b := by
    rintro b hb (⟨p, hp⟩ | ⟨t, ds', hl, hb'⟩)
    · have hp' : (if p = q then fun _ => False else C.F p) b := hp
      split at hp'
      · exact hp'
      · rename_i hne; exact hne (R.disj _ _ b hp' hb)
    · obtain ⟨ds, h1⟩ := hlive t ds' hl
      exact R.fcd t ds q h1 (by have : (C.loc t).1 = b := hb'; rw [this]; exact hb)
  have hrd : RdT C.P C.w ({ C with E := C.E.mapP fun r d => if r = q then D.imm e xs else frzB q e xs d, F := fun r => if r = q then fun _ => False else C.F r } : Ctx).Rd (.sl e xs) (C.cv q) := ho.rd fun b hb => ⟨hun b hb, R.mF hb⟩
  refine R.mapP _ _ hg ?_ hF ?_
  · intro r d h1 h2 h3 hv
    by_cases hr : r = q
    · subst hr
      rw [if_pos rfl]
      exact .imm _ _ _ _ hrd
    · rw [if_neg hr]
      by_cases hown : d.isOwn = true
      · cases d <;> simp [D.isOwn] at hown
        cases hv with
        | own _ _ _ h =>
          refine .own _ _ _ _ ?_
          show OwnT C.P C.w _ _ (if r = q then fun _ => False else C.F r)
          rw [if_neg hr]
          exact h
      · have other : (∀ q', d.base = some q' → q' ≠ q) → frzB q e xs d = d → LRel { C with E := C.E.mapP fun r d => if r = q then D.imm e xs else frzB q e xs d, F := fun r => if r = q then fun _ => False else C.F r } r (frzB q e xs d) (C.cv r) := by
          intro hb he
          rw [he]
          have := LRel.same s hv r (by simpa using hown) ⟨fun q' h' => hb q' h', fun t ht => by simp⟩
          rwa [D.re_id] at this
        generalize C.cv r = v at hv other
        cases d with
        | ali r' =>
          by_cases hr' : r' = q
          · subst hr'
            simp only [frzB, if_true]
            cases hv with
            | ali _ e' xs' h4 => exact .imm _ _ _ _ hrd
          · exact other (fun q' h' => by simp only [D.base, Option.some.injEq] at h'; subst h'; exact hr') (by simp [frzB, hr'])
        | sub r' lo hi =>
          by_cases hr' : r' = q
          · subst hr'
            simp only [frzB, if_true]
            cases hv with
            | sub _ _ _ e' xs' h4 h5 h6 =>
              rw [hq] at h4; injection h4 with h7 h8; subst h7; subst h8
              exact .imm _ _ _ _ (hrd.cut h5 h6)
          · exact other (fun q' h' => by simp only [D.base, Option.some.injEq] at h'; subst h'; exact hr') (by simp [frzB, hr'])
        | ela r' i j =>
          by_cases hr' : r' = q
          · subst hr'
            simp only [frzB, if_true]
            cases hv with
            | ela _ _ _ e' xs' e2 ys b o n cap _ h4 h5 h6 h7 =>
              rw [hq] at h4; injection h4 with h8 h9; subst h8; subst h9
              have hg' : T.get xs i j = .sl e2 ys := by
                unfold T.get? at h5
                unfold T.get
                cases hx : xs[i]? with
                | none => rw [hx] at h5; simp at h5
                | some row => rw [hx] at h5; rw [getD_some hx]; exact getD_some h5
              rw [hg']
              refine .imm _ _ _ _ ?_
              generalize C.cv r' = v' at hrd h6
              cases hrd with
              | emp => simp [T.get?] at h5
              | row _ _ b' o' cap' cs ce fr X a1 a2 a5 a6 a7 a10 a11 a12 =>
                injection h6 with h8 h9 h10
                injection h8 with h8; injection h8 with h8 h11
                subst h8; subst h11
                have := a10 i j _ h5
                have e3 : C.w.cell? ⟨b', o' + i * C.P.cellsOf e + j, none⟩ = some (X i j) := by simp [World.cell?, a1, this]
                rw [e3] at h7; injection h7 with h7; subst h7
                exact a11 i j _ h5
          · exact other (fun q' h' => by simp only [D.base, Option.some.injEq] at h'; subst h'; exact hr') (by simp [frzB, hr'])
        | eref r' i j =>
          by_cases hr' : r' = q
          · subst hr'
            simp only [frzB, if_true]
            exact .dead _ _
          · exact other (fun q' h' => by simp only [D.base, Option.some.injEq] at h'; subst h'; exact hr') (by simp [frzB, hr'])
        | _ => exact other (fun q' h' => by simp [D.base] at h') rfl
  · intro r r' b h1 h2
    split at h1
    · exact h1.elim
    · split at h2
      · exact h2.elim
      · exact R.disj _ _ b h1 h2
end Go.Proofs.Ytcnogcachboibaa.Fw
