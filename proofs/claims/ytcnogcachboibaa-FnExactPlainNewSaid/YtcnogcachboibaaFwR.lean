/- Framework, part R: memory is written. -/
import Derived.Test.YtcnogcachboibaaFwQ
import Derived.Laws.IdiomCopy
namespace Go.Proofs.Ytcnogcachboibaa.Fw
open Go
set_option linter.unusedVariables false

/-- One block's cells have changed. -/
structure Wrt (w w' : World) (b : Nat) (cs : Array Value) (e : TypeId) (fr : Nat × Nat) (cs' : Array Value) : Prop where
  os : w'.os = w.os
  tape : w'.tape = w.tape
  output : w'.output = w.output
  size : w'.heap.size = w.heap.size
  kept : ∀ i, i ≠ b → w'.heap[i]? = w.heap[i]?
  old : w.heap[b]? = some (.cells cs e fr)
  new : w'.heap[b]? = some (.cells cs' e fr)
  sz : cs'.size = cs.size

theorem setCells_wrt (b : Nat) (e : TypeId) (fr : Nat × Nat) : ∀ (vs : List Value) (o : Nat) (w : World) (cs : Array Value), w.heap[b]? = some (.cells cs e fr) → o + vs.length ≤ cs.size →
    ∃ cs', Wrt w (w.setCells b o vs) b cs e fr cs' ∧ ∀ j, cs'[j]? = if o ≤ j ∧ j < o + vs.length then vs[j - o]? else cs[j]?
  | [], o, w, cs, h, _ => ⟨cs, ⟨rfl, rfl, rfl, rfl, fun _ _ => rfl, h, h, rfl⟩, fun j => by rw [if_neg (by simp only [List.length_nil]; omega)]⟩
  | v :: vs, o, w, cs, h, hs => by
    simp only [List.length_cons] at hs
    have hb : b < w.heap.size := (Array.getElem?_eq_some_iff.1 h).1
    have h1 : (w.setCell ⟨b, o, none⟩ v).heap[b]? = some (.cells (cs.setIfInBounds o v) e fr) := by
      simp only [World.setCell, Array.getElem?_modify, if_true, h]
      rfl
    obtain ⟨cs', a, c⟩ := setCells_wrt b e fr vs (o + 1) (w.setCell ⟨b, o, none⟩ v) _ h1 (by simp; omega)
    refine ⟨cs', ⟨a.os, a.tape, a.output, by rw [World.setCells, a.size]; simp [World.setCell], ?_, h, a.new, by rw [a.sz]; simp⟩, ?_⟩
    · intro i hi
      rw [World.setCells, a.kept i hi]
      simp only [World.setCell, Array.getElem?_modify]
      rw [if_neg (fun h => hi h.symm)]
    · intro j
      rw [c j]
      by_cases h2 : o + 1 ≤ j ∧ j < o + 1 + vs.length
      · rw [if_pos h2, if_pos (by simp only [List.length_cons]; omega)]
        have : j - o = j - (o + 1) + 1 := by omega
        rw [this, List.getElem?_cons_succ]
      · rw [if_neg h2]
        by_cases h3 : j = o
        · subst h3
          rw [if_pos (by simp only [List.length_cons]; omega), Array.getElem?_setIfInBounds_self_of_lt (by omega)]
          simp
        · rw [if_neg (by simp only [List.length_cons]; omega), Array.getElem?_setIfInBounds_ne (fun h => h3 h.symm)]

theorem one_oneCell {v : Value} (h : one v = true) : v.oneCell' = true := by cases v <;> first | rfl | simp [one] at h

/-- The cells of a block that is not frozen are written. -/
theorem run_storeAt {P : Program} {w : World} {t : TypeId} {i : TI} (hT : TIok P t i) {b o : Nat} {cs : Array Value} {e : TypeId} {fr : Nat × Nat} {v : Value} (hh : w.heap[b]? = some (.cells cs e fr)) (hth : Thawed cs.size fr)
    (hv : v.cells.size = i.size) (hone : ∀ x ∈ v.cells.toList, one x = true) (hle : o + i.size ≤ cs.size) :
    (Instr.storeAt t (.pointer (some ⟨b, o, none⟩)) v).run P w = .ok () (w.setCells b o v.cells.toList) := by
  have hs := hT.sizeOf w
  have hst := run_storeCells_cells (P := P) b o v.cells.toList 0 w (by
      intro j hj
      rw [cell_of hh]
      have hj : j < i.size := by simpa [hv] using hj
      rw [Array.getElem?_eq_getElem (by omega)]; rfl) (by
      intro j hj
      have hj : j < i.size := by simpa [hv] using hj
      have := hth (o + 0 + j) (by omega)
      simp [World.frozen?, hh]
      omega) (fun x hx => one_oneCell (hone x hx))
  simp only [Nat.add_zero] at hst
  simp [Instr.storeAt, Instr.sureAddr, storeVar, hs, hv, hst]

theorem Frame.wrt {w0 : World} {L : Nat → Nat → Prop} {w w' : World} (h : Frame w0 L w) {b : Nat} {cs : Array Value} {e : TypeId} {fr : Nat × Nat} {cs' : Array Value} (x : Wrt w w' b cs e fr cs')
    (hL : ∀ j, cs'[j]? ≠ cs[j]? → b < w0.heap.size → L b j) : Frame w0 L w' := by
  have hex : ∀ j, ¬ L b j → b < w0.heap.size → cs'[j]? = cs[j]? := by
    intro j hj hb
    by_cases hc : cs'[j]? = cs[j]?
    · exact hc
    · exact absurd (hL j hc hb) hj
  refine ⟨x.os.trans h.os, x.tape.trans h.tape, x.output.trans h.output, by rw [x.size]; exact h.size, ?_, ?_⟩
  · intro i hi hl
    by_cases hib : i = b
    · subst hib
      have h1 := h.kept i hi hl
      rw [← h1, x.new, x.old]
      congr 2
      apply Array.ext'
      apply List.ext_getElem?
      intro j
      rw [Array.getElem?_toList, Array.getElem?_toList]
      exact hex j (hl j) hi
    · rw [x.kept i hib]; exact h.kept i hi hl
  · intro i c1 e1 fr1 hc
    obtain ⟨c2, h1, h2, h3⟩ := h.part i c1 e1 fr1 hc
    by_cases hib : i = b
    · subst hib
      rw [x.old] at h1
      injection h1 with h1
      injection h1 with q1 q2 q3
      subst q1; subst q2; subst q3
      exact ⟨cs', x.new, x.sz.trans h2, fun o ho => (hex o ho (Array.getElem?_eq_some_iff.1 hc).1).trans (h3 o ho)⟩
    · exact ⟨c2, by rw [x.kept i hib]; exact h1, h2, h3⟩

/-- Leaves of a cell that own nothing are overwritten. -/
theorem Rel.stc {w0 : World} {L : Nat → Nat → Prop} {C : Ctx} (R : Rel w0 L C) {c k : Nat} {ds xs : List D} {vs : Array Value} (hl : C.live c ds) (hk : k + xs.length ≤ ds.length)
    (hno : ∀ (j : Nat) (d : D), k ≤ j → j < k + xs.length → ds[j]? = some d → d.isOwn = false) (hx : Lined C xs vs)
    {w' : World} {cs : Array Value} {e : TypeId} {fr : Nat × Nat} {cs' : Array Value} (x : Wrt C.w w' (C.loc c).1 cs e fr cs')
    (hcs : ∀ j, cs'[j]? = if (C.loc c).2 + k ≤ j ∧ j < (C.loc c).2 + k + xs.length then vs[j - ((C.loc c).2 + k)]? else cs[j]?) :
    Rel w0 L { C with E := { C.E with ce := C.E.ce.set c (some (setRange ds k xs)) }, w := w' } := by
  obtain ⟨cs0, e0, fr0, a1, a2, a3, a4⟩ := (R.cell c ds hl).out
  rw [x.old] at a1
  injection a1 with a1
  injection a1 with q1 q2 q3
  subst q1; subst q2; subst q3
  have hlt : c < C.E.ce.length := (List.getElem?_eq_some_iff.1 hl).1
  generalize hC' : ({ C with E := { C.E with ce := C.E.ce.set c (some (setRange ds k xs)) }, w := w' } : Ctx) = C'
  have hP : C'.P = C.P := by rw [← hC']
  have hE : C'.E = { C.E with ce := C.E.ce.set c (some (setRange ds k xs)) } := by rw [← hC']
  have ha : C'.a = C.a := by rw [← hC']
  have hw : C'.w = w' := by rw [← hC']
  have hF : C'.F = C.F := by rw [← hC']
  have hloc : C'.loc = C.loc := by rw [← hC']
  have hlen : (setRange ds k xs).length = ds.length := setRange_length ..
  have hlv : ∀ t' ds', C'.live t' ds' → (t' = c ∧ ds' = setRange ds k xs) ∨ (t' ≠ c ∧ C.live t' ds') := by
    intro t' ds' h
    have h : C'.E.ce[t']? = some (some ds') := h
    rw [hE] at h
    simp only at h
    by_cases hne : t' = c
    · subst hne
      rw [List.getElem?_set_self hlt] at h
      injection h with h; injection h with h
      exact .inl ⟨rfl, h.symm⟩
    · rw [List.getElem?_set_ne (fun h => hne h.symm)] at h
      exact .inr ⟨hne, h⟩
  have hlv1 : ∀ t' ds', C'.live t' ds' → ∃ ds0, C.live t' ds0 ∧ ds0.length = ds'.length := by
    intro t' ds' h
    rcases hlv t' ds' h with ⟨rfl, rfl⟩ | ⟨_, h⟩
    · exact ⟨ds, hl, hlen.symm⟩
    · exact ⟨ds', h, rfl⟩
  have hlv2 : ∀ t' ds', C.live t' ds' → ∃ ds'', C'.live t' ds'' ∧ ds''.length = ds'.length ∧ C'.loc t' = C.loc t' := by
    intro t' ds' h
    by_cases hne : t' = c
    · subst hne
      have : ds' = ds := by
        have h1 : C.E.ce[t']? = some (some ds') := h
        have h2 : C.E.ce[t']? = some (some ds) := hl
        rw [h2] at h1; injection h1 with h1; injection h1 with h1; exact h1.symm
      subst this
      refine ⟨setRange ds' k xs, ?_, hlen, by rw [hloc]⟩
      show C'.E.ce[t']? = _
      rw [hE]
      exact List.getElem?_set_self hlt
    · refine ⟨ds', ?_, rfl, by rw [hloc]⟩
      show C'.E.ce[t']? = _
      rw [hE]
      show (C.E.ce.set c _)[t']? = _
      rw [List.getElem?_set_ne (fun h => hne h.symm)]; exact h
  have hne : ∀ q b, C.F q b → b ≠ (C.loc c).1 := fun q b hb h => R.fcd c ds q hl (h ▸ hb)
  -- leaves outside the range are as they were
  have hleaf : ∀ q : Lf, ¬ (q.c = true ∧ q.t = c ∧ k ≤ q.k ∧ q.k < k + xs.length) → C'.E.leaf q = C.E.leaf q := by
    rintro ⟨cc, t', j⟩ hq
    rw [hE]
    cases cc with
    | false => rfl
    | true =>
      by_cases hne : t' = c
      · subst hne
        have h1 : ({ C.E with ce := C.E.ce.set t' (some (setRange ds k xs)) } : Env).leaf ⟨true, t', j⟩ = (setRange ds k xs).getD j .dead := leaf_cell _ _ _ _ (List.getElem?_set_self hlt)
        rw [h1, leaf_cell _ _ _ _ hl, List.getD_eq_getElem?_getD, setRange_get _ _ _ _ hk, if_neg (fun h => hq ⟨rfl, rfl, h⟩), ← List.getD_eq_getElem?_getD]
      · have e1 : (C.E.ce.set c (some (setRange ds k xs))).getD t' none = C.E.ce.getD t' none := by
          rw [List.getD_eq_getElem?_getD, List.getElem?_set_ne (fun h => hne h.symm), ← List.getD_eq_getElem?_getD]
        show (((C.E.ce.set c (some (setRange ds k xs))).getD t' none).getD []).getD j .dead = ((C.E.ce.getD t' none).getD []).getD j .dead
        rw [e1]
  have hout : ∀ q e xs', C.E.leaf q = .own e xs' → ¬ (q.c = true ∧ q.t = c ∧ k ≤ q.k ∧ q.k < k + xs.length) := by
    rintro ⟨cc, t', j⟩ e xs' h ⟨h1, h2, h3, h4⟩
    simp only at h1 h2 h3 h4
    subst h1; subst h2
    rw [leaf_cell _ _ _ _ hl] at h
    have hj : j < ds.length := by omega
    have h5 := hno j (ds.getD j .dead) h3 h4 (by rw [List.getD_eq_getElem?_getD, List.getElem?_eq_getElem hj]; rfl)
    rw [h] at h5; simp [D.isOwn] at h5
  have hcv : ∀ q, C.E.leaf q ≠ .dead → ¬ (q.c = true ∧ q.t = c ∧ k ≤ q.k ∧ q.k < k + xs.length) → C'.cv q = C.cv q := by
    rintro ⟨cc, t', j⟩ hn hq
    unfold Ctx.cv
    rw [ha, hw, hloc]
    cases cc with
    | false => rfl
    | true =>
      obtain ⟨ds', hl'⟩ := Rel.liveOf (w0 := w0) (L := L) hn
      simp only [if_true]
      by_cases hne : t' = c
      · subst hne
        rw [cell_of x.new, cell_of x.old, hcs]
        have : ¬ ((C.loc t').2 + k ≤ (C.loc t').2 + j ∧ (C.loc t').2 + j < (C.loc t').2 + k + xs.length) := fun h => hq ⟨rfl, rfl, by show k ≤ j; omega, by show j < _; omega⟩
        rw [if_neg this]
      · have hbk : (C.loc t').1 ≠ (C.loc c).1 := fun h => hne (R.cdisj _ _ _ _ hl' hl h)
        simp only [World.cell?, x.kept _ hbk]
  have hown : ∀ b, C'.Owned b → C.Owned b := by
    rintro b (⟨p, hp⟩ | ⟨t', ds', hl', hb⟩)
    · rw [hF] at hp; exact .inl ⟨p, hp⟩
    · obtain ⟨d0, h0, _⟩ := hlv1 t' ds' hl'
      rw [hloc] at hb
      exact .inr ⟨t', d0, h0, hb⟩
  have s : Same C C' (fun q => q) (fun _ => False) (fun _ => False) := by
    refine ⟨hP, fun b hb hlb => ⟨fun h => hb (hown b h), ?_⟩, ?_, ?_, by rw [← hC']; exact fun _ h => h⟩
    · rw [hw]
      exact x.kept b (fun h => hb (.inr ⟨c, ds, hl, h.symm⟩))
    · intro q e xs' _ hq
      have hn : C.E.leaf q ≠ .dead := by rw [hq]; simp
      refine ⟨xs', by rw [hleaf q (hout q e xs' hq)]; exact hq, rfl, hcv q hn (hout q e xs' hq), fun i j e' ys hg => ⟨hg, fun b o n cap v hc hv => ?_⟩⟩
      have ho := R.ownLeaf hq
      rw [hc] at ho
      rw [hw]
      cases ho with
      | row _ _ _ _ _ csr frr F G X g1 g2 =>
        have hb := hne q b g2
        simp only [World.cell?, x.kept b hb] at hv ⊢
        exact hv
    · intro t' ds' _ h
      exact hlv2 t' ds' h
  have go1 : ∀ p d' v, LRel C p d' v → LRel C' p d' v := by
    intro p d' v' hv
    by_cases ho : d'.isOwn = true
    · cases d' <;> simp [D.isOwn] at ho
      cases hv with
      | own _ _ _ h =>
        refine .own _ _ _ _ ?_
        rw [hP, hw, hF]
        exact h.mono (fun b hb => hb) (fun b hb _ => x.kept b (hne p b hb))
    · have := LRel.same s hv p (by simpa using ho) ⟨fun q h => by simp, fun t ht => by simp⟩
      rwa [D.re_id] at this
  refine ⟨by rw [ha, hE]; exact R.tmps, by rw [ha]; exact R.defers, ?_, ?_, by rw [hF]; exact R.disj, ?_, ?_, ?_, by rw [hF]; exact R.flent, ?_, ?_, by rw [← hC']; exact R.mnew, by rw [← hC']; exact R.mL⟩
  · intro t' d hd
    rw [hE] at hd
    rw [ha]
    exact (R.slot t' d hd).tr' fun k x v hx hv => go1 _ _ _ hv
  · intro t' ds' hl'
    rcases hlv t' ds' hl' with ⟨rfl, rfl⟩ | ⟨hnc, hl''⟩
    · refine ⟨cs', e, fr, by rw [hw, hloc]; exact x.new, by rw [x.sz]; exact a2, by rw [hloc, hlen, x.sz]; exact a3, ?_⟩
      intro i d hd
      rw [hloc, arrGetD, hcs]
      rw [setRange_get _ _ _ _ hk] at hd
      by_cases hr : k ≤ i ∧ i < k + xs.length
      · rw [if_pos hr] at hd
        rw [if_pos (by omega)]
        have e1 : (C.loc t').2 + i - ((C.loc t').2 + k) = i - k := by omega
        rw [e1]
        obtain ⟨b1, b2, b3, b4⟩ := hx.2 _ d hd
        rw [arrGetD] at b3 b4
        exact ⟨b1, b3, go1 _ _ _ (b4 _)⟩
      · rw [if_neg hr] at hd
        rw [if_neg (by omega), ← arrGetD]
        obtain ⟨b1, b2, b3⟩ := a4 i d hd
        exact ⟨b1, b2, go1 _ _ _ b3⟩
    · obtain ⟨cs1, e1, fr1, g1, g2, g3, g4⟩ := (R.cell t' ds' hl'').out
      have hbk : (C.loc t').1 ≠ (C.loc c).1 := fun h => hnc (R.cdisj _ _ _ _ hl'' hl h)
      refine ⟨cs1, e1, fr1, by rw [hw, hloc, x.kept _ hbk]; exact g1, g2, by rw [hloc]; exact g3, ?_⟩
      intro i d hd
      rw [hloc]
      obtain ⟨b1, b2, b3⟩ := g4 i d hd
      exact ⟨b1, b2, go1 _ _ _ b3⟩
  · intro t1 d1 t2 d2 h1 h2 he
    rw [hloc] at he
    obtain ⟨x1, y1, _⟩ := hlv1 _ _ h1
    obtain ⟨x2, y2, _⟩ := hlv1 _ _ h2
    exact R.cdisj _ _ _ _ y1 y2 he
  · intro t' ds' p hl' hp
    rw [hF, hloc] at hp
    obtain ⟨x1, y1, _⟩ := hlv1 _ _ hl'
    exact R.fcd _ _ p y1 hp
  · intro p b hp
    rw [hF] at hp
    rw [hw, x.size]
    exact R.fbound p b hp
  · intro t' ds' hl' hb i hi
    rw [hloc] at hb ⊢
    obtain ⟨x1, y1, y3⟩ := hlv1 _ _ hl'
    exact R.clent _ _ y1 hb i (by omega)
  · rw [hw]
    refine R.frame.wrt x fun j hj hb => ?_
    rw [hcs] at hj
    by_cases hr : (C.loc c).2 + k ≤ j ∧ j < (C.loc c).2 + k + xs.length
    · have := R.clent c ds hl hb (j - (C.loc c).2) (by omega)
      have e1 : (C.loc c).2 + (j - (C.loc c).2) = j := by omega
      rwa [e1] at this
    · rw [if_neg hr] at hj; exact absurd rfl hj
end Go.Proofs.Ytcnogcachboibaa.Fw
