/- Framework, part Cg: what was borrowed is frozen; helpers for the return. -/
import Derived.Test.YtcnogcachboibaaFwCf
namespace Go.Proofs.Ytcnogcachboibaa.Fw
open Go
set_option linter.unusedVariables false

theorem mapP_live {C : Ctx} {g : Lf → D → D} {t : Nat} {ds : List D} (h : C.live t ds) : ({ C with E := C.E.mapP g } : Ctx).live t (mapLv (fun j => lf1 g ⟨true, t, j⟩) 0 ds) := by
  show (C.E.mapP g).ce[t]? = _
  simp only [Env.mapP]
  rw [mapCe_get, show C.E.ce[t]? = some (some ds) from h]
  simp
theorem mapP_live' {C : Ctx} {g : Lf → D → D} {t : Nat} {ds' : List D} (h : ({ C with E := C.E.mapP g } : Ctx).live t ds') : ∃ ds, C.live t ds ∧ ds.length = ds'.length := by
  have h2 : (C.E.mapP g).ce[t]? = some (some ds') := h
  simp only [Env.mapP] at h2
  rw [mapCe_get] at h2
  cases h3 : C.E.ce[t]? with
  | none => rw [h3] at h2; simp at h2
  | some o =>
    cases o with
    | none => rw [h3] at h2; simp at h2
    | some ds => rw [h3] at h2; simp at h2; exact ⟨ds, h3, by rw [← h2, mapLv_length]⟩
theorem mapP_sl (E : Env) (g : Lf → D → D) : (E.mapP g).sl.length = E.sl.length := by simp only [Env.mapP, mapSl_length]

/-- What freezing leaves as it was. -/
structure Frz (C : Ctx) (ps : List Lf) (E0 : Env) (F0 : Lf → Nat → Prop) : Prop where
  sub : ∀ p b, F0 p b → C.F p b
  gone : ∀ q e xs, q ∈ ps → C.E.leaf q = .own e xs → ∀ b, ¬ F0 q b
  out : ∀ p, p ∉ ps → F0 p = C.F p
  own : ∀ p e xs, p ∉ ps → C.E.leaf p = .own e xs → E0.leaf p = .own e xs
  own' : ∀ p e xs, E0.leaf p = .own e xs → C.E.leaf p = .own e xs
  live : ∀ c ds, C.live c ds → ∃ ds', E0.ce[c]? = some (some ds') ∧ ds'.length = ds.length
  live' : ∀ c ds', E0.ce[c]? = some (some ds') → ∃ ds, C.live c ds ∧ ds.length = ds'.length
  len : E0.sl.length = C.E.sl.length

theorem Frz.refl (C : Ctx) : Frz C [] C.E C.F :=
  ⟨fun _ _ h => h, fun q e xs h => (by cases h), fun _ _ => rfl, fun _ _ _ _ h => h, fun _ _ _ h => h, fun c ds h => ⟨ds, h, rfl⟩, fun c ds h => ⟨ds, h, rfl⟩, rfl⟩

theorem Rel.frzs {w0 : World} {L : Nat → Nat → Prop} : ∀ (ps : List Lf) {C : Ctx}, Rel w0 L C → ∃ F0, Rel w0 L { C with E := C.E.frzs ps, F := F0 } ∧ Frz C ps (C.E.frzs ps) F0
  | [], C, R => ⟨C.F, R, Frz.refl C⟩
  | q :: ps, C, R => by
    simp only [Env.frzs]
    cases hq : C.E.frz q with
    | none =>
      simp only [Option.getD_none]
      obtain ⟨F0, R0, f⟩ := Rel.frzs ps R
      have hno : ∀ e xs, C.E.leaf q ≠ .own e xs := by
        intro e xs h; unfold Env.frz at hq; rw [h] at hq; simp at hq
      refine ⟨F0, R0, ⟨f.sub, ?_, fun p hp => f.out p (fun h => hp (List.mem_cons_of_mem _ h)), fun p e xs hp => f.own p e xs (fun h => hp (List.mem_cons_of_mem _ h)), f.own', f.live, f.live', f.len⟩⟩
      intro p e xs hp hl
      rcases List.mem_cons.1 hp with rfl | hp
      · exact absurd hl (hno e xs)
      · exact f.gone p e xs hp hl
    | some E1 =>
      simp only [Option.getD_some]
      have R1 := R.frz hq
      have hown : ∃ e xs, C.E.leaf q = .own e xs := by
        unfold Env.frz at hq
        split at hq
        · exact ⟨_, _, by assumption⟩
        · cases hq
      obtain ⟨e0, xs0, hle⟩ := hown
      have hE1 : E1 = C.E.mapP fun r d => if r = q then .imm e0 xs0 else frzB q e0 xs0 d := by
        unfold Env.frz at hq; rw [hle] at hq; injection hq with hq; exact hq.symm
      obtain ⟨F0, R0, f⟩ := Rel.frzs ps R1
      have hg : ∀ (r : Lf) (d : D), d.leafy = true → (if r = q then D.imm e0 xs0 else frzB q e0 xs0 d).leafy = true := by
        intro r d hd; split
        · rfl
        · cases d <;> simp only [frzB] <;> first | exact hd | (split <;> first | rfl | (split <;> rfl))
      have hlf : ∀ p, E1.leaf p = lf1 (fun r d => if r = q then D.imm e0 xs0 else frzB q e0 xs0 d) p (C.E.leaf p) := by
        intro p; rw [hE1, mapP_leaf R _ hg]
      have hkeep : ∀ p e xs, p ≠ q → C.E.leaf p = .own e xs → E1.leaf p = .own e xs := by
        intro p e xs hp hl
        rw [hlf, hl]
        show (if p = q then D.imm e0 xs0 else frzB q e0 xs0 (.own e xs)) = _
        rw [if_neg hp]; rfl
      have hkeep' : ∀ p e xs, E1.leaf p = .own e xs → C.E.leaf p = .own e xs ∧ p ≠ q := by
        intro p e xs hl
        rw [hlf] at hl
        by_cases hp : p = q
        · subst hp; rw [hle] at hl
          have hl : (if p = p then D.imm e0 xs0 else frzB p e0 xs0 (.own e0 xs0)) = .own e xs := hl
          rw [if_pos rfl] at hl; cases hl
        · refine ⟨?_, hp⟩
          cases hd : C.E.leaf p with
          | own e' xs' =>
            rw [hd] at hl
            have hl : (if p = q then D.imm e0 xs0 else frzB q e0 xs0 (.own e' xs')) = .own e xs := hl
            rw [if_neg hp] at hl; exact hl
          | dead => rw [hd] at hl; cases hl
          | _ =>
            rw [hd] at hl
            simp only [lf1, if_neg hp, frzB] at hl
            first
              | cases hl
              | (split at hl
                 · first | (cases hl; done) | (split at hl <;> cases hl)
                 · cases hl)
      have hl1 : ∀ c ds, C.live c ds → ∃ ds', E1.ce[c]? = some (some ds') ∧ ds'.length = ds.length := by
        intro c ds h
        have := mapP_live (g := fun r d => if r = q then D.imm e0 xs0 else frzB q e0 xs0 d) h
        rw [hE1]
        exact ⟨_, this, mapLv_length ..⟩
      have hl2 : ∀ c ds', E1.ce[c]? = some (some ds') → ∃ ds, C.live c ds ∧ ds.length = ds'.length := by
        intro c ds' h
        rw [hE1] at h
        exact mapP_live' (C := C) h
      refine ⟨F0, R0, ⟨?_, ?_, ?_, ?_, ?_, ?_, ?_, ?_⟩⟩
      · intro p b h
        have := f.sub p b h
        have this : (if p = q then fun _ => False else C.F p) b := this
        split at this
        · exact this.elim
        · exact this
      · intro p e xs hp hl b hb
        by_cases hpq : p = q
        · subst hpq
          have := f.sub p b hb
          have this : (if p = p then fun _ => False else C.F p) b := this
          rw [if_pos rfl] at this; exact this
        · rcases List.mem_cons.1 hp with h | hp
          · exact hpq h
          · exact f.gone p e xs hp (hkeep p e xs hpq hl) b hb
      · intro p hp
        rw [f.out p (fun h => hp (List.mem_cons_of_mem _ h))]
        show (if p = q then fun _ => False else C.F p) = _
        rw [if_neg (fun h => hp (by rw [h]; exact List.mem_cons_self ..))]
      · intro p e xs hp hl
        exact f.own p e xs (fun h => hp (List.mem_cons_of_mem _ h)) (hkeep p e xs (fun h => hp (by rw [h]; exact List.mem_cons_self ..)) hl)
      · intro p e xs hl
        exact (hkeep' p e xs (f.own' p e xs hl)).1
      · intro c ds h
        obtain ⟨ds1, a, b⟩ := hl1 c ds h
        obtain ⟨ds2, a2, b2⟩ := f.live c ds1 a
        exact ⟨ds2, a2, by omega⟩
      · intro c ds' h
        obtain ⟨ds1, a, b⟩ := f.live' c ds' h
        obtain ⟨ds2, a2, b2⟩ := hl2 c ds1 a
        exact ⟨ds2, a2, by omega⟩
      · rw [f.len]
        show E1.sl.length = _
        rw [hE1, mapP_sl]

theorem wbs_find {Ein Eout : Env} : ∀ {l : List (Lf × Nat)} {w : List (Lf × TypeId × List (List T))}, wbs Ein Eout l = some w →
    (∀ p e xs, wbFind w p = some (e, xs) → ∃ i xs0, (p, i) ∈ l ∧ Ein.sl.getD i .dead = .own e xs0 ∧ Eout.sl.getD i .dead = .own e xs) ∧ (∀ p i, (p, i) ∈ l → (wbFind w p).isSome = true)
  | [], w, h => by
    simp [wbs] at h; subst h
    exact ⟨fun p e xs h => by simp [wbFind] at h, fun p i h => by cases h⟩
  | (q, j) :: l, w, h => by
    simp only [wbs] at h
    split at h
    · rename_i e0 xs0 e xs ws h1 h2 h3
      split at h
      · rename_i he
        injection h with h
        subst h
        subst he
        obtain ⟨a, b⟩ := wbs_find h3
        refine ⟨?_, ?_⟩
        · intro p e' xs' hp
          simp only [wbFind] at hp
          split at hp
          · rename_i hpq
            injection hp with hp
            injection hp with hp1 hp2
            subst hp1; subst hp2; subst hpq
            exact ⟨j, xs0, List.mem_cons_self .., h1, h2⟩
          · obtain ⟨i, x, c1, c2⟩ := a p e' xs' hp
            exact ⟨i, x, List.mem_cons_of_mem _ c1, c2⟩
        · intro p i hp
          simp only [wbFind]
          split
          · rfl
          · rename_i hpq
            rcases List.mem_cons.1 hp with h | h
            · injection h with h _; exact absurd h.symm hpq
            · exact b p i h
      · cases h
    · cases h

theorem wcs_mem {Eout : Env} : ∀ {l : List (Nat × Nat × Nat × Nat)} {w : List (Nat × Nat × List D)}, wcs Eout l = some w →
    (∀ x, x ∈ w → ∃ i, (x.1, x.2.1, x.2.2.length, i) ∈ l ∧ Eout.ce.getD i none = some x.2.2 ∧ x.2.2.all D.resLeaf = true) ∧ (∀ c j n i, (c, j, n, i) ∈ l → ∃ ls, (c, j, ls) ∈ w ∧ ls.length = n ∧ Eout.ce.getD i none = some ls)
  | [], w, h => by
    simp [wcs] at h; subst h
    exact ⟨fun x h => (by cases h), fun c j n i h => (by cases h)⟩
  | (c0, j0, n0, i0) :: l, w, h => by
    simp only [wcs] at h
    split at h
    · rename_i ls ws h1 h2
      split at h
      · rename_i hc
        injection h with h
        subst h
        obtain ⟨rfl, hc2⟩ := hc
        obtain ⟨a, b⟩ := wcs_mem h2
        refine ⟨?_, ?_⟩
        · intro x hx
          rcases List.mem_cons.1 hx with rfl | hx
          · exact ⟨i0, List.mem_cons_self .., h1, hc2⟩
          · obtain ⟨i, q1, q2⟩ := a x hx
            exact ⟨i, List.mem_cons_of_mem _ q1, q2⟩
        · intro c j n i hx
          rcases List.mem_cons.1 hx with h | hx
          · injection h with e1 e; injection e with e2 e; injection e with e3 e4
            subst e1; subst e2; subst e3; subst e4
            exact ⟨ls, List.mem_cons_self .., rfl, h1⟩
          · obtain ⟨ls', q1, q2, q3⟩ := b c j n i hx
            exact ⟨ls', List.mem_cons_of_mem _ q1, q2, q3⟩
      · cases h
    · cases h

theorem inWc_mem : ∀ {w : List (Nat × Nat × List D)} {p : Lf}, inWc w p = true ↔ ∃ x, x ∈ w ∧ p.c = true ∧ p.t = x.1 ∧ x.2.1 ≤ p.k ∧ p.k < x.2.1 + x.2.2.length
  | [], p => by simp [inWc]
  | (c, j, ls) :: w, p => by
    simp only [inWc, Bool.or_eq_true, Bool.and_eq_true, beq_iff_eq, decide_eq_true_eq]
    rw [inWc_mem]
    constructor
    · rintro (⟨⟨⟨a, b⟩, c1⟩, d⟩ | ⟨x, hx, h⟩)
      · exact ⟨_, List.mem_cons_self .., a, b, c1, d⟩
      · exact ⟨x, List.mem_cons_of_mem _ hx, h⟩
    · rintro ⟨x, hx, h1, h2, h3, h4⟩
      rcases List.mem_cons.1 hx with rfl | hx
      · exact .inl ⟨⟨⟨h1, h2⟩, h3⟩, h4⟩
      · exact .inr ⟨x, hx, h1, h2, h3, h4⟩

/-- A leaf of a result, told without a context. -/
def RL (P : Program) (w : World) (S G : Nat → Prop) (d : D) (v : Value) : Prop :=
  d.leafy = true ∧ one v = true ∧ (d = .dead ∨ (d = .v v ∧ scal v = true) ∨ (d = .nil ∧ v = .slice none 0 0) ∨ (∃ e xs, d = .imm e xs ∧ RdT P w S (.sl e xs) v) ∨ (∃ e xs, d = .own e xs ∧ OwnT P w (.sl e xs) v G) ∨ ∃ f, d = .clo f [] ∧ v = .func (.func f) #[] #[])
theorem RL.rel {C : Ctx} {S G : Nat → Prop} {p : Lf} {d : D} {v : Value} (h : RL C.P C.w S G d v) (hS : ∀ e xs b, d = .imm e xs → S b → b < C.w.heap.size → C.Rd b) (hG : ∀ e xs, d = .own e xs → ∀ b, G b → C.F p b) : LRel C p d v := by
  obtain ⟨_, _, h⟩ := h
  rcases h with rfl | ⟨rfl, h⟩ | ⟨rfl, rfl⟩ | ⟨e, xs, rfl, h⟩ | ⟨e, xs, rfl, h⟩ | ⟨f, rfl, rfl⟩
  · exact .dead _ _
  · exact .v _ _ h
  · exact .nil _
  · exact .imm _ _ _ _ (h.mono fun b hb hl => ⟨hS e xs b rfl hb hl, rfl⟩)
  · exact .own _ _ _ _ (h.mono (fun b hb => hG e xs rfl b hb) (fun _ _ _ => rfl))
  · exact .clo _ _ _ _ rfl (fun i d hd => by simp at hd) (fun i d hd => by simp at hd)
theorem LRel.rl {C : Ctx} {p : Lf} {d : D} {v : Value} (h : LRel C p d v) (hd : d.resLeaf = true) (hl : d.leafy = true) (ho : one v = true) : RL C.P C.w C.Rd (C.F p) d v := by
  refine ⟨hl, ho, ?_⟩
  cases d <;> simp [D.resLeaf] at hd
  · exact .inl rfl
  · cases h with | v _ h => exact .inr (.inl ⟨rfl, h⟩)
  · cases h; exact .inr (.inr (.inl ⟨rfl, rfl⟩))
  · cases h with | own _ _ _ h => exact .inr (.inr (.inr (.inr (.inl ⟨_, _, rfl, h⟩))))
  · cases h with | imm _ _ _ h => exact .inr (.inr (.inr (.inl ⟨_, _, rfl, h⟩)))
  · rename_i f ds
    subst hd
    cases h with
    | clo _ _ vs h1 _ _ =>
      have : vs = #[] := Array.eq_empty_of_size_eq_zero (by simpa using h1.symm)
      subst this
      exact .inr (.inr (.inr (.inr (.inr ⟨f, rfl, rfl⟩))))
end Go.Proofs.Ytcnogcachboibaa.Fw
