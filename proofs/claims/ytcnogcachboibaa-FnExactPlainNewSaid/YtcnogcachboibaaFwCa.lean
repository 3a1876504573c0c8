/- Framework, part Ca: memory behind a call. -/
import Derived.Test.YtcnogcachboibaaFwX
namespace Go.Proofs.Ytcnogcachboibaa.Fw
open Go
set_option linter.unusedVariables false

theorem Frame.trans' {w0 : World} {L : Nat → Nat → Prop} {w w' : World} {lent : Nat → Nat → Prop} (h : Frame w0 L w) (k : Frame w lent w') (hL : ∀ b o, lent b o → b < w0.heap.size → L b o) : Frame w0 L w' := by
  refine ⟨k.os.trans h.os, k.tape.trans h.tape, k.output.trans h.output, Nat.le_trans h.size k.size, ?_, ?_⟩
  · intro b hb hl
    rw [k.kept b (Nat.lt_of_lt_of_le hb h.size) (fun o ho => hl o (hL b o ho hb))]
    exact h.kept b hb hl
  · intro b cs e fr hc
    have hb : b < w0.heap.size := (Array.getElem?_eq_some_iff.1 hc).1
    obtain ⟨c1, h1, h2, h3⟩ := h.part b cs e fr hc
    obtain ⟨c2, k1, k2, k3⟩ := k.part b c1 e fr h1
    exact ⟨c2, k1, k2.trans h2, fun o ho => (k3 o (fun hl => ho (hL b o hl hb))).trans (h3 o ho)⟩

/-- What was lent has changed; all else is as it was. -/
theorem Rel.havoc {w0 : World} {L : Nat → Nat → Prop} {C : Ctx} (R : Rel w0 L C) {w' : World} {lent : Nat → Nat → Prop} (hw : Frame C.w lent w') {PL : Lf → Prop} {CR : Nat → Nat → Prop}
    (hlent : ∀ b o, lent b o → (∃ q, PL q ∧ C.F q b) ∨ ∃ c ds k, C.live c ds ∧ CR c k ∧ k < ds.length ∧ (C.loc c).1 = b ∧ o = (C.loc c).2 + k)
    (hdead : ∀ c k, CR c k → C.E.leaf ⟨true, c, k⟩ = .dead) (hone : ∀ c ds k, C.live c ds → CR c k → k < ds.length → ∀ cs e fr, w'.heap[(C.loc c).1]? = some (.cells cs e fr) → one (cs.getD ((C.loc c).2 + k) undef) = true)
    (wb : List (Lf × TypeId × List (List T))) {F'' : Lf → Nat → Prop}
    (hwb : ∀ p e xs, wbFind wb p = some (e, xs) → PL p ∧ ∃ xs0, C.E.leaf p = .own e xs0 ∧ xs.length = xs0.length ∧ OwnT C.P w' (.sl e xs) (C.cv p) (F'' p))
    (hpl : ∀ p e xs, PL p → C.E.leaf p = .own e xs → (wbFind wb p).isSome = true)
    (f1 : ∀ p e xs, C.E.leaf p = .own e xs → wbFind wb p = none → F'' p = C.F p)
    (f2 : ∀ p b, F'' p b → (C.F p b ∧ wbFind wb p = none ∧ ∃ e xs, C.E.leaf p = .own e xs) ∨ (∃ q, PL q ∧ C.F q b) ∨ (C.w.heap.size ≤ b ∧ b < w'.heap.size))
    (f3 : ∀ p q b, F'' p b → F'' q b → p = q) : Rel w0 L { C with E := C.E.mapP (wbG wb), w := w', F := F'' } := by
  have hg : ∀ p d, d.leafy = true → (wbG wb p d).leafy = true := by
    intro p d h
    unfold wbG
    split
    · rfl
    · split
      · split <;> rfl
      · exact h
  have nolent1 : ∀ p e xs b, C.E.leaf p = .own e xs → wbFind wb p = none → C.F p b → ∀ o, ¬ lent b o := by
    intro p e xs b hp hn hb o hl
    rcases hlent b o hl with ⟨q, hq, hqb⟩ | ⟨c, ds, k, hc, _, _, hcb, _⟩
    · have := R.disj _ _ _ hb hqb
      subst this
      have := hpl p e xs hq hp
      rw [hn] at this; simp at this
    · exact R.fcd c ds p hc (hcb ▸ hb)
  have nolent2 : ∀ b, ¬ C.Owned b → ∀ o, ¬ lent b o := by
    intro b hb o hl
    rcases hlent b o hl with ⟨q, _, hqb⟩ | ⟨c, ds, k, hc, _, _, hcb, _⟩
    · exact hb (.inl ⟨q, hqb⟩)
    · exact hb (.inr ⟨c, ds, hc, hcb⟩)
  have nolent3 : ∀ t ds k, C.live t ds → ¬ CR t k → ¬ lent (C.loc t).1 ((C.loc t).2 + k) := by
    intro t ds k ht hn hl
    rcases hlent _ _ hl with ⟨q, _, hqb⟩ | ⟨c, ds', k', hc, hcr, hk, hcb, ho⟩
    · exact R.fcd t ds q ht hqb
    · have := R.cdisj c ds' t ds hc ht hcb
      subst this
      have : k' = k := by omega
      subst this
      exact hn hcr
  have cells : ∀ t ds, C.live t ds → ∃ cs e fr cs', C.w.heap[(C.loc t).1]? = some (.cells cs e fr) ∧ w'.heap[(C.loc t).1]? = some (.cells cs' e fr) ∧ cs'.size = cs.size ∧ Thawed cs.size fr ∧ (C.loc t).2 + ds.length ≤ cs.size ∧
      (∀ k, ¬ CR t k → cs'[(C.loc t).2 + k]? = cs[(C.loc t).2 + k]?) := by
    intro t ds ht
    obtain ⟨cs, e, fr, a1, a2, a3, a4⟩ := (R.cell t ds ht).out
    obtain ⟨cs', b1, b2, b3⟩ := hw.part _ cs e fr a1
    exact ⟨cs, e, fr, cs', a1, b1, b2, a2, a3, fun k hk => b3 _ (nolent3 t ds k ht hk)⟩
  have kept1 : ∀ p e xs b, C.E.leaf p = .own e xs → wbFind wb p = none → C.F p b → w'.heap[b]? = C.w.heap[b]? := fun p e xs b hp hn hb => hw.kept b (R.fbound p b hb) (nolent1 p e xs b hp hn hb)
  generalize hC' : ({ C with E := C.E.mapP (wbG wb), w := w', F := F'' } : Ctx) = C'
  have hP : C'.P = C.P := by rw [← hC']
  have hE : C'.E = C.E.mapP (wbG wb) := by rw [← hC']
  have ha : C'.a = C.a := by rw [← hC']
  have hw' : C'.w = w' := by rw [← hC']
  have hF : C'.F = F'' := by rw [← hC']
  have hloc : C'.loc = C.loc := by rw [← hC']
  have hleaf : ∀ p, C'.E.leaf p = lf1 (wbG wb) p (C.E.leaf p) := by intro p; rw [hE, mapP_leaf R _ hg]
  have hlive : ∀ t ds', C'.live t ds' → ∃ ds, C.live t ds ∧ ds' = mapLv (fun j => lf1 (wbG wb) ⟨true, t, j⟩) 0 ds := by
    intro t ds' h
    have h2 : C'.E.ce[t]? = some (some ds') := h
    rw [hE] at h2
    simp only [Env.mapP] at h2
    rw [mapCe_get] at h2
    cases h3 : C.E.ce[t]? with
    | none => rw [h3] at h2; simp at h2
    | some o =>
      cases o with
      | none => rw [h3] at h2; simp at h2
      | some ds => rw [h3] at h2; simp at h2; exact ⟨ds, h3, h2.symm⟩
  have hlv2 : ∀ t ds, C.live t ds → C'.live t (mapLv (fun j => lf1 (wbG wb) ⟨true, t, j⟩) 0 ds) := by
    intro t ds h
    show C'.E.ce[t]? = _
    rw [hE]
    simp only [Env.mapP]
    rw [mapCe_get, show C.E.ce[t]? = some (some ds) from h]
    simp
  have hcv : ∀ p, C.E.leaf p ≠ .dead → C'.cv p = C.cv p := by
    rintro ⟨c, t, k⟩ hn
    unfold Ctx.cv
    rw [ha, hw', hloc]
    cases c with
    | false => rfl
    | true =>
      obtain ⟨ds, hl⟩ := Rel.liveOf (w0 := w0) (L := L) hn
      obtain ⟨cs, e, fr, cs', a1, a2, a3, a4, a5, a6⟩ := cells t ds hl
      simp only [if_true]
      rw [cell_of a1, cell_of a2, a6 k (fun h => hn (hdead _ _ h))]
  have hF2 : ∀ p b, F'' p b → C.Owned b ∨ (C.w.heap.size ≤ b ∧ b < w'.heap.size) := by
    intro p b h
    rcases f2 p b h with ⟨h, _⟩ | ⟨q, _, h⟩ | h
    · exact .inl (.inl ⟨p, h⟩)
    · exact .inl (.inl ⟨q, h⟩)
    · exact .inr h
  have hF3 : ∀ p b, F'' p b → (∃ q, C.F q b) ∨ (C.w.heap.size ≤ b ∧ b < w'.heap.size) := by
    intro p b h
    rcases f2 p b h with ⟨h, _⟩ | ⟨q, _, h⟩ | h
    · exact .inl ⟨p, h⟩
    · exact .inl ⟨q, h⟩
    · exact .inr h
  have s : Same C C' (fun q => q) (fun q => (wbFind wb q).isSome = true) (fun _ => False) := by
    refine ⟨hP, fun b hb hlb => ⟨?_, by rw [hw']; exact hw.kept b hlb (nolent2 b hb)⟩, ?_, ?_, by rw [← hC']; exact fun _ h => h⟩
    · rintro (⟨p, hp⟩ | ⟨t, ds', hl, hb'⟩)
      · rw [hF] at hp
        rcases hF2 p b hp with h | h
        · exact hb h
        · omega
      · obtain ⟨ds, h1, _⟩ := hlive t ds' hl
        rw [hloc] at hb'
        exact hb (.inr ⟨t, ds, h1, hb'⟩)
    · intro p e xs hbad hp
      have hn : C.E.leaf p ≠ .dead := by rw [hp]; simp
      cases hf : wbFind wb p with
      | none =>
        refine ⟨xs, ?_, rfl, hcv p hn, fun i j e' ys hg => ⟨hg, fun b o n cap v hc hv => ?_⟩⟩
        · rw [hleaf, hp]
          show wbG wb p (.own e xs) = _
          unfold wbG; rw [hf]
        · have ho := R.ownLeaf hp
          rw [hc] at ho
          rw [hw']
          cases ho with
          | row _ _ _ _ _ csr frr F G X g1 g2 =>
            simp only [World.cell?, kept1 p e xs b hp hf g2] at hv ⊢
            exact hv
      | some ex => rw [hf] at hbad; simp at hbad
    · intro t ds _ hl
      exact ⟨_, hlv2 t ds hl, mapLv_length .., by rw [hloc]⟩
  -- rows that were lent: the same header, other data
  have lf2 : ∀ q e xs, C.E.leaf q = .own e xs → ∃ xs', C'.E.leaf q = .own e xs' ∧ xs'.length = xs.length ∧ C'.cv q = C.cv q := by
    intro q e xs hq
    have hn : C.E.leaf q ≠ .dead := by rw [hq]; simp
    cases hf : wbFind wb q with
    | none =>
      obtain ⟨xs', h1, h2, h3, _⟩ := s.lf q e xs (by simp [hf]) hq
      exact ⟨xs', h1, h2, h3⟩
    | some ex =>
      obtain ⟨e1, xs1⟩ := ex
      obtain ⟨_, xs0, h1, h2, h3⟩ := hwb q e1 xs1 hf
      rw [hq] at h1; injection h1 with q1 q2; subst q1; subst q2
      refine ⟨xs1, ?_, h2, hcv q hn⟩
      rw [hleaf, hq]
      show wbG wb q (.own e xs) = _
      unfold wbG; rw [hf]
  have go1 : ∀ p d v, C.E.leaf p = d → v = C.cv p → LRel C p d v → LRel C' p (lf1 (wbG wb) p d) v := by
    intro p d v hp hvc hv
    cases hf : wbFind wb p with
    | some ex =>
      obtain ⟨e1, xs1⟩ := ex
      obtain ⟨_, xs0, h1, h2, h3⟩ := hwb p e1 xs1 hf
      rw [hp] at h1; subst h1; subst hvc
      show LRel C' p (wbG wb p (.own e1 xs0)) _
      have : wbG wb p (.own e1 xs0) = .own e1 xs1 := by unfold wbG; rw [hf]
      rw [this]
      refine .own _ _ _ _ ?_
      rw [hP, hw', hF]; exact h3
    | none =>
      have hnela : (∀ q i j, d ≠ .ela q i j) → lf1 (wbG wb) p d = d := by
        intro h
        cases d <;> first | rfl | (simp only [lf1, wbG, hf]; done) | exact absurd rfl (h _ _ _)
      have other : (∀ q i j, d ≠ .ela q i j) → d.isOwn = false → (∀ q, d.base = some q → (wbFind wb q).isSome = false) → LRel C' p (lf1 (wbG wb) p d) v := by
        intro h1 ho h2
        rw [hnela h1]
        have := LRel.same s hv p ho ⟨fun q hq => by simp [h2 q hq], fun t ht => by simp⟩
        rwa [D.re_id] at this
      cases d with
      | dead => exact .dead _ _
      | own e xs =>
        rw [hnela (by simp)]
        cases hv with
        | own _ _ _ h =>
          refine .own _ _ _ _ ?_
          rw [hP, hw', hF, f1 p e xs hp hf]
          exact h.mono (fun _ h => h) (fun b hb _ => kept1 p e xs b hp hf hb)
      | ali q =>
        rw [hnela (by simp)]
        cases hv with
        | ali _ e xs hl =>
          obtain ⟨xs', a1, a2, a3⟩ := lf2 q e xs hl
          have := LRel.ali (C := C') p q e xs' a1
          rwa [a3] at this
      | sub q lo hi =>
        rw [hnela (by simp)]
        cases hv with
        | sub _ _ _ e xs hl h1 h2 =>
          obtain ⟨xs', a1, a2, a3⟩ := lf2 q e xs hl
          have := LRel.sub (C := C') p q lo hi e xs' a1 h1 (by omega)
          rwa [a3, hP] at this
      | eref q i j =>
        rw [hnela (by simp)]
        cases hv with
        | eref _ _ _ e xs b o n cap hl hc hi =>
          obtain ⟨xs', a1, a2, a3⟩ := lf2 q e xs hl
          have := LRel.eref (C := C') p q i j e xs' b o n cap a1 (a3.trans hc) (by omega)
          rwa [hP] at this
      | ela q i j =>
        show LRel C' p (wbG wb p (.ela q i j)) v
        have e1 : wbG wb p (.ela q i j) = if (wbFind wb q).isSome then .dead else .ela q i j := by unfold wbG; rw [hf]
        rw [e1]
        split
        · exact .dead _ _
        · rename_i hq
          have := LRel.same s hv p rfl ⟨fun q' hq' => by simp only [D.base, Option.some.injEq] at hq'; subst hq'; exact hq, fun t ht => by simp⟩
          rwa [D.re_id] at this
      | _ => exact other (by simp) rfl (fun q hq => by simp [D.base] at hq)
  refine ⟨?_, by rw [ha]; exact R.defers, ?_, ?_, by rw [hF]; exact f3, ?_, ?_, ?_, ?_, ?_, ?_, by rw [← hC']; exact R.mnew, by rw [← hC']; exact R.mL⟩
  · rw [ha, hE]
    show C.a.tmps.size = (mapSl (lf1 (wbG wb)) 0 C.E.sl).length
    rw [mapSl_length]; exact R.tmps
  · intro t d' hd'
    rw [hE] at hd'
    rw [ha]
    have h2 : (mapSl (lf1 (wbG wb)) 0 C.E.sl)[t]? = some d' := hd'
    rw [mapSl_get] at h2
    cases h3 : C.E.sl[t]? with
    | none => rw [h3] at h2; simp at h2
    | some d =>
      rw [h3] at h2
      have h4 : d' = d.mapP (fun j => lf1 (wbG wb) ⟨false, t, j⟩) := by simpa using h2.symm
      subst h4
      have hs := R.slot t d h3
      refine hs.map rfl _ (leafyG hg _) (fun _ => rfl) fun k y hy hl => ?_
      exact ⟨lf1_leafy hg _ _ hl, fun hv => go1 _ _ _ (hs.at h3 k y hy) rfl hv⟩
  · intro t ds' hl
    obtain ⟨ds, h1, rfl⟩ := hlive t ds' hl
    obtain ⟨cs, e, fr, cs', a1, a2, a3, a4, a5, a6⟩ := cells t ds h1
    obtain ⟨cs0, e0, fr0, b1, b2, b3, b4⟩ := (R.cell t ds h1).out
    rw [a1] at b1
    injection b1 with b1
    injection b1 with q1 q2 q3
    subst q1; subst q2; subst q3
    refine ⟨cs', e, fr, by rw [hw', hloc]; exact a2, by rw [a3]; exact a4, by rw [hloc, mapLv_length, a3]; exact a5, ?_⟩
    intro i d hd
    rw [mapLv_get] at hd
    cases hx : ds[i]? with
    | none => rw [hx] at hd; simp at hd
    | some y =>
      rw [hx] at hd
      have : d = lf1 (wbG wb) ⟨true, t, 0 + i⟩ y := by simpa using hd.symm
      subst this
      rw [Nat.zero_add, hloc]
      obtain ⟨c1, c2, c3⟩ := b4 i y hx
      have hlf : C.E.leaf ⟨true, t, i⟩ = y := by rw [leaf_cell _ _ _ _ h1]; exact getD_some hx
      by_cases hy : y = .dead
      · subst hy
        refine ⟨rfl, ?_, .dead _ _⟩
        by_cases hcr : CR t i
        · exact hone t ds i h1 hcr (List.getElem?_eq_some_iff.1 hx).1 cs' e fr a2
        · rw [arrGetD, a6 i hcr, ← arrGetD]; exact c2
      · have e1 : cs'.getD ((C.loc t).2 + i) undef = cs.getD ((C.loc t).2 + i) undef := by
          rw [arrGetD, arrGetD, a6 i (fun h => hy (by rw [← hlf]; exact hdead _ _ h))]
        rw [e1]
        exact ⟨lf1_leafy hg _ _ c1, c2, go1 _ _ _ hlf (cell_cv a1).symm c3⟩
  · intro t1 d1 t2 d2 h1 h2 he
    rw [hloc] at he
    obtain ⟨x1, y1, _⟩ := hlive _ _ h1
    obtain ⟨x2, y2, _⟩ := hlive _ _ h2
    exact R.cdisj _ _ _ _ y1 y2 he
  · intro t' ds' p hl' hp
    rw [hF, hloc] at hp
    obtain ⟨x1, y1, _⟩ := hlive _ _ hl'
    rcases hF3 p _ hp with ⟨q, h⟩ | h
    · exact R.fcd _ _ q y1 h
    · obtain ⟨cs, e, fr, cs', a1, _⟩ := cells t' x1 y1
      have := (Array.getElem?_eq_some_iff.1 a1).1
      omega
  · intro p b hp
    rw [hF] at hp
    rw [hw']
    rcases hF3 p b hp with ⟨q, h⟩ | h
    · exact Nat.lt_of_lt_of_le (R.fbound q b h) hw.size
    · exact h.2
  · intro p b hp hb o
    rw [hF] at hp
    rcases hF3 p b hp with ⟨q, h⟩ | h
    · exact R.flent q b h hb o
    · have := R.frame.size; omega
  · intro t' ds' hl' hb i hi
    rw [hloc] at hb ⊢
    obtain ⟨x1, y1, rfl⟩ := hlive _ _ hl'
    rw [mapLv_length] at hi
    exact R.clent _ _ y1 hb i hi
  · rw [hw']
    refine R.frame.trans' hw fun b o hl hb => ?_
    rcases hlent b o hl with ⟨q, _, hq⟩ | ⟨c, ds, k, hc, _, hk, rfl, rfl⟩
    · exact R.flent q b hq hb o
    · exact R.clent c ds hc hb k hk
end Go.Proofs.Ytcnogcachboibaa.Fw
