/- Framework, part Cb: cells and slots behind a call. -/
import Derived.Test.YtcnogcachboibaaFwCa
namespace Go.Proofs.Ytcnogcachboibaa.Fw
open Go
set_option linter.unusedVariables false

/-- Dead leaves of a cell are told what they hold. -/
theorem Rel.setc {w0 : World} {L : Nat → Nat → Prop} {C : Ctx} (R : Rel w0 L C) {c k : Nat} {ds ls : List D} (hl : C.live c ds) (hk : k + ls.length ≤ ds.length)
    (hdead : ∀ j, k ≤ j → j < k + ls.length → C.E.leaf ⟨true, c, j⟩ = .dead)
    (hls : ∀ (i : Nat) (d : D), ls[i]? = some d → d.leafy = true ∧ one (C.cv ⟨true, c, k + i⟩) = true ∧ LRel C ⟨true, c, k + i⟩ d (C.cv ⟨true, c, k + i⟩)) :
    Rel w0 L { C with E := { C.E with ce := C.E.ce.set c (some (setRange ds k ls)) } } := by
  obtain ⟨cs, e, fr, a1, a2, a3, a4⟩ := (R.cell c ds hl).out
  have hlt : c < C.E.ce.length := (List.getElem?_eq_some_iff.1 hl).1
  generalize hC' : ({ C with E := { C.E with ce := C.E.ce.set c (some (setRange ds k ls)) } } : Ctx) = C'
  have hP : C'.P = C.P := by rw [← hC']
  have hE : C'.E = { C.E with ce := C.E.ce.set c (some (setRange ds k ls)) } := by rw [← hC']
  have ha : C'.a = C.a := by rw [← hC']
  have hw : C'.w = C.w := by rw [← hC']
  have hF : C'.F = C.F := by rw [← hC']
  have hloc : C'.loc = C.loc := by rw [← hC']
  have hlen : (setRange ds k ls).length = ds.length := setRange_length ..
  have hlv : ∀ t' ds', C'.live t' ds' → (t' = c ∧ ds' = setRange ds k ls) ∨ (t' ≠ c ∧ C.live t' ds') := by
    intro t' ds' h
    have h : C'.E.ce[t']? = some (some ds') := h
    rw [hE] at h
    simp only at h
    by_cases hne : t' = c
    · subst hne
      rw [List.getElem?_set_self hlt] at h
      injection h with h; injection h with h
      exact .inl ⟨rfl, h.symm⟩
    · rw [List.getElem?_set_ne (fun h => hne h.symm)] at h
      exact .inr ⟨hne, h⟩
  have hlv1 : ∀ t' ds', C'.live t' ds' → ∃ ds0, C.live t' ds0 ∧ ds0.length = ds'.length := by
    intro t' ds' h
    rcases hlv t' ds' h with ⟨rfl, rfl⟩ | ⟨_, h⟩
    · exact ⟨ds, hl, hlen.symm⟩
    · exact ⟨ds', h, rfl⟩
  have hlv2 : ∀ t' ds', C.live t' ds' → ∃ ds'', C'.live t' ds'' ∧ ds''.length = ds'.length ∧ C'.loc t' = C.loc t' := by
    intro t' ds' h
    by_cases hne : t' = c
    · subst hne
      have : ds' = ds := by
        have h1 : C.E.ce[t']? = some (some ds') := h
        have h2 : C.E.ce[t']? = some (some ds) := hl
        rw [h2] at h1; injection h1 with h1; injection h1 with h1; exact h1.symm
      subst this
      refine ⟨setRange ds' k ls, ?_, hlen, by rw [hloc]⟩
      show C'.E.ce[t']? = _
      rw [hE]
      exact List.getElem?_set_self hlt
    · refine ⟨ds', ?_, rfl, by rw [hloc]⟩
      show C'.E.ce[t']? = _
      rw [hE]
      show (C.E.ce.set c _)[t']? = _
      rw [List.getElem?_set_ne (fun h => hne h.symm)]; exact h
  have hleaf : ∀ q : Lf, ¬ (q.c = true ∧ q.t = c ∧ k ≤ q.k ∧ q.k < k + ls.length) → C'.E.leaf q = C.E.leaf q := by
    rintro ⟨cc, t', j⟩ hq
    rw [hE]
    cases cc with
    | false => rfl
    | true =>
      by_cases hne : t' = c
      · subst hne
        have h1 : ({ C.E with ce := C.E.ce.set t' (some (setRange ds k ls)) } : Env).leaf ⟨true, t', j⟩ = (setRange ds k ls).getD j .dead := leaf_cell _ _ _ _ (List.getElem?_set_self hlt)
        rw [h1, leaf_cell _ _ _ _ hl, List.getD_eq_getElem?_getD, setRange_get _ _ _ _ hk, if_neg (fun h => hq ⟨rfl, rfl, h⟩), ← List.getD_eq_getElem?_getD]
      · have e1 : (C.E.ce.set c (some (setRange ds k ls))).getD t' none = C.E.ce.getD t' none := by
          rw [List.getD_eq_getElem?_getD, List.getElem?_set_ne (fun h => hne h.symm), ← List.getD_eq_getElem?_getD]
        show (((C.E.ce.set c (some (setRange ds k ls))).getD t' none).getD []).getD j .dead = ((C.E.ce.getD t' none).getD []).getD j .dead
        rw [e1]
  have hout : ∀ q e xs', C.E.leaf q = .own e xs' → ¬ (q.c = true ∧ q.t = c ∧ k ≤ q.k ∧ q.k < k + ls.length) := by
    rintro ⟨cc, t', j⟩ e xs' h ⟨h1, h2, h3, h4⟩
    simp only at h1 h2 h3 h4
    subst h1; subst h2
    rw [hdead j h3 h4] at h; cases h
  have hcv : ∀ q, C'.cv q = C.cv q := by intro q; unfold Ctx.cv; rw [ha, hw, hloc]
  have hown : ∀ b, C'.Owned b → C.Owned b := by
    rintro b (⟨p, hp⟩ | ⟨t', ds', hl', hb⟩)
    · rw [hF] at hp; exact .inl ⟨p, hp⟩
    · obtain ⟨d0, h0, _⟩ := hlv1 t' ds' hl'
      rw [hloc] at hb
      exact .inr ⟨t', d0, h0, hb⟩
  have s : Same C C' (fun q => q) (fun _ => False) (fun _ => False) := by
    refine ⟨hP, fun b hb hlb => ⟨fun h => hb (hown b h), by rw [hw]⟩, ?_, fun t' ds' _ h => hlv2 t' ds' h, by rw [← hC']; exact fun _ h => h⟩
    intro q e xs' _ hq
    exact ⟨xs', by rw [hleaf q (hout q e xs' hq)]; exact hq, rfl, hcv q, fun i j e' ys hg => ⟨hg, fun b o n cap v hc hv => by rw [hw]; exact hv⟩⟩
  have go1 : ∀ p d' v, LRel C p d' v → LRel C' p d' v := by
    intro p d' v' hv
    by_cases ho : d'.isOwn = true
    · cases d' <;> simp [D.isOwn] at ho
      cases hv with
      | own _ _ _ h =>
        refine .own _ _ _ _ ?_
        rw [hP, hw, hF]; exact h
    · have := LRel.same s hv p (by simpa using ho) ⟨fun q h => by simp, fun t ht => by simp⟩
      rwa [D.re_id] at this
  refine ⟨by rw [ha, hE]; exact R.tmps, by rw [ha]; exact R.defers, ?_, ?_, by rw [hF]; exact R.disj, ?_, ?_, ?_, by rw [hF]; exact R.flent, ?_, by rw [hw]; exact R.frame, by rw [← hC']; exact R.mnew, by rw [← hC']; exact R.mL⟩
  · intro t' d hd
    rw [hE] at hd
    rw [ha]
    exact (R.slot t' d hd).tr' fun k x v hx hv => go1 _ _ _ hv
  · intro t' ds' hl'
    rcases hlv t' ds' hl' with ⟨rfl, rfl⟩ | ⟨hnc, hl''⟩
    · refine ⟨cs, e, fr, by rw [hw, hloc]; exact a1, a2, by rw [hloc, hlen]; exact a3, ?_⟩
      intro i d hd
      rw [hloc]
      rw [setRange_get _ _ _ _ hk] at hd
      by_cases hr : k ≤ i ∧ i < k + ls.length
      · rw [if_pos hr] at hd
        obtain ⟨b1, b2, b3⟩ := hls _ d hd
        have e1 : k + (i - k) = i := by omega
        rw [e1, cell_cv a1] at b2 b3
        exact ⟨b1, b2, go1 _ _ _ b3⟩
      · rw [if_neg hr] at hd
        obtain ⟨b1, b2, b3⟩ := a4 i d hd
        exact ⟨b1, b2, go1 _ _ _ b3⟩
    · obtain ⟨cs1, e1, fr1, g1, g2, g3, g4⟩ := (R.cell t' ds' hl'').out
      refine ⟨cs1, e1, fr1, by rw [hw, hloc]; exact g1, g2, by rw [hloc]; exact g3, ?_⟩
      intro i d hd
      rw [hloc]
      obtain ⟨b1, b2, b3⟩ := g4 i d hd
      exact ⟨b1, b2, go1 _ _ _ b3⟩
  · intro t1 d1 t2 d2 h1 h2 he
    rw [hloc] at he
    obtain ⟨x1, y1, _⟩ := hlv1 _ _ h1
    obtain ⟨x2, y2, _⟩ := hlv1 _ _ h2
    exact R.cdisj _ _ _ _ y1 y2 he
  · intro t' ds' p hl' hp
    rw [hF, hloc] at hp
    obtain ⟨x1, y1, _⟩ := hlv1 _ _ hl'
    exact R.fcd _ _ p y1 hp
  · intro p b hp
    rw [hF] at hp
    rw [hw]
    exact R.fbound p b hp
  · intro t' ds' hl' hb i hi
    rw [hloc] at hb ⊢
    obtain ⟨x1, y1, y3⟩ := hlv1 _ _ hl'
    exact R.clent _ _ y1 hb i (by omega)

/-- The blocks that the slot T (there is none of that number) holds go to slot t. -/
def mvF (F : Lf → Nat → Prop) (t T : Nat) : Lf → Nat → Prop := fun p => if p.c = false ∧ p.t = t then F ⟨false, T, p.k⟩ else if p.c = false ∧ p.t = T then fun _ => False else F p

theorem Rel.mvF {w0 : World} {L : Nat → Nat → Prop} {C : Ctx} (R : Rel w0 L C) {t T : Nat} (hT : C.E.sl.length ≤ T) (hno : (C.E.sl.getD t .dead).anyOwn = false) : Rel w0 L { C with F := Fw.mvF C.F t T } := by
  have hnt := notOwn_inS hno
  have hTd : ∀ k e xs, C.E.leaf ⟨false, T, k⟩ ≠ .own e xs := by
    intro k e xs h
    have : C.E.sl.getD T .dead = .dead := by rw [List.getD_eq_getElem?_getD, List.getElem?_eq_none hT]; rfl
    have h2 : (C.E.sl.getD T .dead).leafOf k = .own e xs := h
    rw [this] at h2
    have := own_anyOwn h2
    simp [D.anyOwn, D.comps, D.leaves1, D.isOwn] at this
  refine R.reF _ ?_ ?_ ?_
  · intro p e xs hp
    unfold Fw.mvF
    rw [if_neg (show ¬ (p.c = false ∧ p.t = t) from hnt p e xs hp), if_neg]
    rintro ⟨h1, h2⟩
    obtain ⟨c, t', k⟩ := p
    simp only at h1 h2
    subst h1; subst h2
    exact hTd k e xs hp
  · intro p b hp
    unfold Fw.mvF at hp
    split at hp
    · exact ⟨_, hp⟩
    · split at hp
      · exact hp.elim
      · exact ⟨_, hp⟩
  · intro p q b h1 h2
    unfold Fw.mvF at h1 h2
    by_cases a1 : p.c = false ∧ p.t = t
    · by_cases a2 : q.c = false ∧ q.t = t
      · rw [if_pos a1] at h1; rw [if_pos a2] at h2
        have := R.disj _ _ b h1 h2
        injection this with _ _ h3
        obtain ⟨c, t1, k1⟩ := p
        obtain ⟨c', t2, k2⟩ := q
        simp only at a1 a2 h3
        rw [a1.1, a1.2, a2.1, a2.2, h3]
      · rw [if_pos a1] at h1; rw [if_neg a2] at h2
        by_cases a3 : q.c = false ∧ q.t = T
        · rw [if_pos a3] at h2; exact h2.elim
        · rw [if_neg a3] at h2
          have := R.disj _ _ b h1 h2
          exact absurd ⟨by rw [← this], by rw [← this]⟩ a3
    · rw [if_neg a1] at h1
      by_cases a3 : p.c = false ∧ p.t = T
      · rw [if_pos a3] at h1; exact h1.elim
      · rw [if_neg a3] at h1
        by_cases a2 : q.c = false ∧ q.t = t
        · rw [if_pos a2] at h2
          have := R.disj _ _ b h1 h2
          exact absurd ⟨by rw [this], by rw [this]⟩ a3
        · rw [if_neg a2] at h2
          by_cases a4 : q.c = false ∧ q.t = T
          · rw [if_pos a4] at h2; exact h2.elim
          · rw [if_neg a4] at h2; exact R.disj _ _ b h1 h2
end Go.Proofs.Ytcnogcachboibaa.Fw
