/- Framework, part P: new cells, assignments of owned rows. -/
import Derived.Test.YtcnogcachboibaaFwO
namespace Go.Proofs.Ytcnogcachboibaa.Fw
open Go
set_option linter.unusedVariables false

theorem Rel.newCell {w0 : World} {L : Nat → Nat → Prop} {C : Ctx} (R : Rel w0 L C) (t : Nat) (ds : List D) (cs : Array Value) (e : TypeId) (ht : C.E.ce[t]? = some none) (hno : (C.E.sl.getD t .dead).anyOwn = false) (hl : Lined C ds cs) :
    Rel w0 L { C with E := { sl := C.E.sl.set t (.cref t 0), ce := C.E.ce.set t (some ds) }, a := C.a.put (some t) (.pointer (some ⟨C.w.heap.size, 0, none⟩)), w := C.w.alloc (.cells cs e),
                      loc := fun t' => if t' = t then (C.w.heap.size, 0) else C.loc t' } := by
  have x := Ext.alloc C.w (.cells cs e)
  have hnl : ∀ ds, ¬ C.live t ds := by intro ds h; have : C.E.ce[t]? = some (some ds) := h; rw [ht] at this; cases this
  have blk : ∀ t ds, C.live t ds → (C.loc t).1 < C.w.heap.size := by
    intro t ds hl
    obtain ⟨cs, e, fr, a1, _⟩ := (R.cell t ds hl).out
    exact (Array.getElem?_eq_some_iff.1 a1).1
  have hlt : t < C.E.ce.length := (List.getElem?_eq_some_iff.1 ht).1
  -- memory grows, cell t is told
  have main : Rel w0 L { C with E := { C.E with ce := C.E.ce.set t (some ds) }, w := C.w.alloc (.cells cs e), loc := fun t' => if t' = t then (C.w.heap.size, 0) else C.loc t' } := by
    generalize hC' : ({ C with E := { C.E with ce := C.E.ce.set t (some ds) }, w := C.w.alloc (.cells cs e), loc := fun t' => if t' = t then (C.w.heap.size, 0) else C.loc t' } : Ctx) = C'
    have hP : C'.P = C.P := by rw [← hC']
    have hE : C'.E = { C.E with ce := C.E.ce.set t (some ds) } := by rw [← hC']
    have ha : C'.a = C.a := by rw [← hC']
    have hw : C'.w = C.w.alloc (.cells cs e) := by rw [← hC']
    have hF : C'.F = C.F := by rw [← hC']
    have hloc : C'.loc = fun t' => if t' = t then (C.w.heap.size, 0) else C.loc t' := by rw [← hC']
    have hlv : ∀ t' ds', C'.live t' ds' → (t' = t ∧ ds' = ds) ∨ (t' ≠ t ∧ C.live t' ds') := by
      intro t' ds' h
      have h : C'.E.ce[t']? = some (some ds') := h
      rw [hE] at h
      simp only at h
      by_cases hne : t' = t
      · subst hne
        rw [List.getElem?_set_self hlt] at h
        injection h with h; injection h with h
        exact .inl ⟨rfl, h.symm⟩
      · rw [List.getElem?_set_ne (fun h => hne h.symm)] at h
        exact .inr ⟨hne, h⟩
    have hlv2 : ∀ t' ds', C.live t' ds' → C'.live t' ds' ∧ C'.loc t' = C.loc t' := by
      intro t' ds' h
      have hne : t' ≠ t := by rintro rfl; exact hnl _ h
      refine ⟨?_, by rw [hloc]; exact if_neg hne⟩
      show C'.E.ce[t']? = _
      rw [hE]
      show (C.E.ce.set t (some ds))[t']? = _
      rw [List.getElem?_set_ne (fun h => hne h.symm)]; exact h
    have hleaf : ∀ q : Lf, ¬ (q.c = true ∧ q.t = t) → C'.E.leaf q = C.E.leaf q := by
      rintro ⟨c, t', k⟩ hq
      rw [hE]
      cases c with
      | false => rfl
      | true =>
        have hne : t ≠ t' := fun h => hq ⟨rfl, h.symm⟩
        show (((C.E.ce.set t (some ds)).getD t' none).getD []).getD k .dead = ((C.E.ce.getD t' none).getD []).getD k .dead
        have e1 : (C.E.ce.set t (some ds)).getD t' none = C.E.ce.getD t' none := by
          rw [List.getD_eq_getElem?_getD, List.getElem?_set_ne hne, ← List.getD_eq_getElem?_getD]
        rw [e1]
    have hdeadt : ∀ k, C.E.leaf ⟨true, t, k⟩ = .dead := by
      intro k
      show ((C.E.ce.getD t none).getD []).getD k .dead = .dead
      rw [getD_some ht]; rfl
    have hnt : ∀ q, C.E.leaf q ≠ .dead → ¬ (q.c = true ∧ q.t = t) := by
      rintro ⟨c, t', k⟩ h ⟨h1, h2⟩
      simp only at h1 h2
      subst h1; subst h2
      exact h (hdeadt k)
    have hcv : ∀ q, C.E.leaf q ≠ .dead → C'.cv q = C.cv q := by
      rintro ⟨c, t', k⟩ hn
      unfold Ctx.cv
      rw [ha, hw]
      cases c with
      | false => rfl
      | true =>
        obtain ⟨ds', hl'⟩ := Rel.liveOf (w0 := w0) (L := L) hn
        simp only [if_true]
        rw [(hlv2 t' ds' hl').2]
        simp only [World.cell?, x.kept _ (blk t' ds' hl')]
    have hown : ∀ b, C'.Owned b → b < C.w.heap.size → C.Owned b := by
      rintro b (⟨p, hp⟩ | ⟨t', ds', hl', hb⟩) hlt'
      · rw [hF] at hp; exact .inl ⟨p, hp⟩
      · rcases hlv t' ds' hl' with ⟨rfl, rfl⟩ | ⟨hne, hl''⟩
        · rw [hloc] at hb; simp at hb; omega
        · rw [(hlv2 t' ds' hl'').2] at hb; exact .inr ⟨t', ds', hl'', hb⟩
    have s : Same C C' (fun q => q) (fun _ => False) (fun _ => False) := by
      refine ⟨hP, fun b hb hl => ⟨fun h => hb (hown b h hl), by rw [hw]; exact x.kept b hl⟩, ?_, ?_, by rw [← hC']; exact fun _ h => h⟩
      · intro q e xs _ hl
        have hn : C.E.leaf q ≠ .dead := by rw [hl]; simp
        refine ⟨xs, by rw [hleaf q (hnt q hn)]; exact hl, rfl, hcv q hn, fun i j e' ys hg => ⟨hg, fun b o n cap v _ hv => by rw [hw]; exact x.cell hv⟩⟩
      · intro t' ds' _ hl
        exact ⟨ds', (hlv2 t' ds' hl).1, rfl, (hlv2 t' ds' hl).2⟩
    have go1 : ∀ p d' v, LRel C p d' v → LRel C' p d' v := by
      intro p d' v' hv
      by_cases ho : d'.isOwn = true
      · cases d' <;> simp [D.isOwn] at ho
        cases hv with
        | own _ _ _ h =>
          refine .own _ _ _ _ ?_
          rw [hP, hw, hF]
          exact h.mono (fun b hb => hb) (fun b _ hb => x.kept b hb)
      · have := LRel.same s hv p (by simpa using ho) ⟨fun q h => by simp, fun t ht => by simp⟩
        rwa [D.re_id] at this
    refine ⟨by rw [ha, hE]; exact R.tmps, by rw [ha]; exact R.defers, ?_, ?_, by rw [hF]; exact R.disj, ?_, ?_, ?_, by rw [hF]; exact R.flent, ?_, by rw [hw]; exact R.frame.ext x, by rw [← hC']; exact R.mnew, by rw [← hC']; exact R.mL⟩
    · intro t' d hd
      rw [hE] at hd
      rw [ha]
      exact (R.slot t' d hd).tr' fun k x v hx hv => go1 _ _ _ hv
    · intro t' ds' hl'
      rcases hlv t' ds' hl' with ⟨rfl, rfl⟩ | ⟨hne, hl''⟩
      · have e1 : C'.loc t' = (C.w.heap.size, 0) := by rw [hloc]; exact if_pos rfl
        refine ⟨cs, e, (0, 0), by rw [e1, hw]; exact heap_new _ _, by intro o _ h; simp at h, by rw [e1, hl.1]; simp, ?_⟩
        intro i d hd
        rw [e1]
        simp only [Nat.zero_add]
        obtain ⟨a, b, c, f⟩ := hl.2 i d hd
        exact ⟨a, c, go1 _ _ _ (f _)⟩
      · obtain ⟨cs', e', fr, a1, a2, a3, a4⟩ := (R.cell t' ds' hl'').out
        have e1 := (hlv2 t' ds' hl'').2
        refine ⟨cs', e', fr, by rw [e1, hw]; exact (x.kept _ (blk t' ds' hl'')).trans a1, a2, by rw [e1]; exact a3, ?_⟩
        intro i d hd
        rw [e1]
        obtain ⟨b1, b2, b3⟩ := a4 i d hd
        exact ⟨b1, b2, go1 _ _ _ b3⟩
    · intro t1 d1 t2 d2 h1 h2 he
      rcases hlv t1 d1 h1 with ⟨rfl, rfl⟩ | ⟨n1, h1'⟩
      · rcases hlv t2 d2 h2 with ⟨rfl, rfl⟩ | ⟨n2, h2'⟩
        · rfl
        · rw [(hlv2 t2 d2 h2').2, hloc] at he
          simp at he
          have := blk t2 d2 h2'; omega
      · rcases hlv t2 d2 h2 with ⟨rfl, rfl⟩ | ⟨n2, h2'⟩
        · rw [(hlv2 t1 d1 h1').2, hloc] at he
          simp at he
          have := blk t1 d1 h1'; omega
        · rw [(hlv2 t1 d1 h1').2, (hlv2 t2 d2 h2').2] at he
          exact R.cdisj t1 d1 t2 d2 h1' h2' he
    · intro t' ds' p hl' hp
      rw [hF] at hp
      rcases hlv t' ds' hl' with ⟨rfl, rfl⟩ | ⟨n1, h1'⟩
      · rw [hloc] at hp
        simp at hp
        have := R.fbound p _ hp; omega
      · rw [(hlv2 t' ds' h1').2] at hp
        exact R.fcd t' ds' p h1' hp
    · intro p b hp
      rw [hF] at hp
      rw [hw]
      exact Nat.lt_of_lt_of_le (R.fbound p b hp) x.size
    · intro t' ds' hl' hb i hi
      rcases hlv t' ds' hl' with ⟨rfl, rfl⟩ | ⟨n1, h1'⟩
      · rw [hloc] at hb
        simp at hb
        have := R.frame.size; omega
      · rw [(hlv2 t' ds' h1').2] at hb ⊢
        exact R.clent t' ds' h1' hb i hi
  have hput := main.put1 t (.cref t 0) (.pointer (some ⟨C.w.heap.size, 0, none⟩)) hno (.comp _ _ rfl (.leaf _ _ _ rfl rfl (by
    have hlive : Ctx.live { C with E := { C.E with ce := C.E.ce.set t (some ds) }, w := C.w.alloc (.cells cs e), loc := fun t' => if t' = t then (C.w.heap.size, 0) else C.loc t' } t ds := by
      show (C.E.ce.set t (some ds))[t]? = _
      rw [List.getElem?_set_self hlt]
    have := LRel.cref (C := { C with E := { C.E with ce := C.E.ce.set t (some ds) }, w := C.w.alloc (.cells cs e), loc := fun t' => if t' = t then (C.w.heap.size, 0) else C.loc t' }) ⟨false, t, 0⟩ t 0 ds hlive (Nat.zero_le _)
    simpa using this)))
  exact hput

/-- The leaves take the ownership. -/
theorem Rel.swapLeaves {w0 : World} {L : Nat → Nat → Prop} : ∀ (n k : Nat) {C : Ctx} (R : Rel w0 L C) {c : Bool} {t : Nat} {E' : Env}, Fw.swapLeaves c t k n C.E = some E' → ∃ F', Rel w0 L { C with E := E', F := F' }
  | 0, k, C, R, c, t, E', h => by
    simp only [Fw.swapLeaves, Option.some.injEq] at h
    subst h; exact ⟨C.F, R⟩
  | n + 1, k, C, R, c, t, E', h => by
    simp only [Fw.swapLeaves] at h
    split at h
    · rename_i q hq
      split at h
      · rename_i E1 h1
        obtain ⟨F1, R1⟩ := R.swap h1 hq
        exact Rel.swapLeaves n (k + 1) R1 h
      · cases h
    · exact Rel.swapLeaves n (k + 1) R h
theorem Rel.cutLeaves {w0 : World} {L : Nat → Nat → Prop} : ∀ (n k : Nat) {C : Ctx} (R : Rel w0 L C) {t : Nat} {E' : Env}, Fw.cutLeaves t k n C.E = some E' → ∃ F', Rel w0 L { C with E := E', F := F' }
  | 0, k, C, R, t, E', h => by
    simp only [Fw.cutLeaves, Option.some.injEq] at h
    subst h; exact ⟨C.F, R⟩
  | n + 1, k, C, R, t, E', h => by
    simp only [Fw.cutLeaves] at h
    split at h
    · rename_i q lo hi hq
      split at h
      · rename_i E1 h1
        obtain ⟨F1, R1⟩ := R.cut h1 hq
        exact Rel.cutLeaves n (k + 1) R1 h
      · cases h
    · cases h
    · exact Rel.cutLeaves n (k + 1) R h
end Go.Proofs.Ytcnogcachboibaa.Fw
