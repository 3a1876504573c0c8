/- Framework, part Ce: the arguments' list. -/
import Derived.Test.YtcnogcachboibaaFwCd
namespace Go.Proofs.Ytcnogcachboibaa.Fw
open Go
set_option linter.unusedVariables false

/-- A pointer to a cell, to be read. -/
theorem CL.cell {w0 : World} {L : Nat → Nat → Prop} {C : Ctx} (R : Rel w0 L C) {c j : Nat} {ds ls' : List D} {bs : List Lf} (hl : C.live c ds) (hj : j + ls'.length ≤ ds.length) (hpos : 0 < ls'.length) (hpure : ls'.all D.pure = true)
    (h : ∀ (i : Nat) (d : D), ls'[i]? = some d → CL C.P C.w (Bor C bs []) d (C.cv ⟨true, c, j + i⟩)) :
    CL C.P C.w (Bor C bs [c]) (.rptr ls') (.pointer (some ⟨(C.loc c).1, (C.loc c).2 + j, none⟩)) := by
  obtain ⟨cs, e, fr, a1, a2, a3, a4⟩ := (R.cell c ds hl).out
  refine ⟨rfl, rfl, rfl, fun C' p hP hw hS => ?_⟩
  refine .rptr p ls' _ _ cs e fr (fun i => cs.getD ((C.loc c).2 + (j + i)) undef) (by rw [hw]; exact a1) (hS _ (.inr (.inr ⟨c, ds, List.mem_singleton.2 rfl, hl, by omega, rfl⟩)) (Array.getElem?_eq_some_iff.1 a1).1) ?_ ?_ ?_
  · intro i d hd
    have hi := (List.getElem?_eq_some_iff.1 hd).1
    obtain ⟨b1, b2, b3⟩ := a4 (j + i) ds[j + i] (List.getElem?_eq_getElem (by omega))
    refine ⟨?_, b2⟩
    rw [Nat.add_assoc]
    exact getD_get? (by omega)
  · intro i d hd
    exact List.all_eq_true.1 hpure d (List.mem_of_getElem? hd)
  · intro i d hd
    obtain ⟨_, _, _, h4⟩ := h i d hd
    have := h4 C' p hP hw (fun b hb hl => hS b (hb.mono (fun _ h => h) (fun _ h => by cases h)) hl)
    rw [cell_cv a1] at this
    exact this

/-- The leaves of a cell, as they are handed over to be read. -/
theorem cellLeaves_wp {w0 : World} {L : Nat → Nat → Prop} {C : Ctx} (R : Rel w0 L C) {α : Type} {es : List TypeId} {c j n : Nat} {ds : List D} (hl : C.live c ds) {k : List D → List Lf → Rdr α} {Q : α → Prop}
    (h : (coeLeaves es (mvList true c j ((ds.drop j).take n)) k).wp C.E Q) :
    ∃ ls' bs, (k ls' bs).wp C.E Q ∧ ls'.length = ((ds.drop j).take n).length ∧ ∀ (i : Nat) (d : D), ls'[i]? = some d → CL C.P C.w (Bor C bs []) d (C.cv ⟨true, c, j + i⟩) := by
  obtain ⟨cs, e, fr, a1, a2, a3, a4⟩ := (R.cell c ds hl).out
  have hlen : (mvList true c j ((ds.drop j).take n)).length = ((ds.drop j).take n).length := mvList_length ..
  obtain ⟨ls', bs, h1, h2, h3⟩ := coeLeaves_wp R es _ ((List.range ((ds.drop j).take n).length).map fun i => C.cv ⟨true, c, j + i⟩) (by rw [hlen]; simp) (by
    intro i d hd
    have hi : i < ((ds.drop j).take n).length := by rw [← hlen]; exact (List.getElem?_eq_some_iff.1 hd).1
    rw [getD_range_map hi]
    rw [mvList_get] at hd
    rw [List.length_take, List.length_drop] at hi
    rw [List.getElem?_take_of_lt (by omega), List.getElem?_drop] at hd
    cases hx : ds[j + i]? with
    | none => rw [hx] at hd; simp at hd
    | some y =>
      rw [hx] at hd
      simp only [Option.map_some, Option.some.injEq] at hd
      subst hd
      obtain ⟨b1, b2, b3⟩ := a4 (j + i) y hx
      rw [← cell_cv a1] at b2 b3
      obtain ⟨c1, c2⟩ := mvLeaf_rel (by rw [leaf_cell _ _ _ _ hl]; exact getD_some hx) b3
      exact ⟨b2, c2 _⟩) h
  refine ⟨ls', bs, h1, by rw [h2, hlen], fun i d hd => ?_⟩
  have hi : i < ((ds.drop j).take n).length := by rw [← hlen, ← h2]; exact (List.getElem?_eq_some_iff.1 hd).1
  have := h3 i d hd
  rwa [getD_range_map hi] at this

theorem drop_take_all {α : Type} (l : List α) (j : Nat) : (l.drop j).take (l.length - j) = l.drop j := by
  rw [List.take_of_length_le]; simp

theorem coeCapt_wp {w0 : World} {L : Nat → Nat → Prop} {C : Ctx} (R : Rel w0 L C) {α : Type} : ∀ (cs : List D) (vs : List Value) {k : List D → List Lf → List Nat → Rdr α} {Q : α → Prop}, cs.length = vs.length →
    (∀ (i : Nat) (d : D), cs[i]? = some d → d.capt = true ∧ LRel C ⟨false, 0, 0⟩ d (vs.getD i undef)) → (coeCapt cs k).wp C.E Q →
    ∃ ds' bs bc, (k ds' bs bc).wp C.E Q ∧ ds'.length = cs.length ∧ ∀ (i : Nat) (d : D), ds'[i]? = some d → d.capt = true ∧ CL C.P C.w (Bor C bs bc) d (vs.getD i undef)
  | [], vs, k, Q, hl, hv, h => ⟨[], [], [], h, rfl, fun i d hd => by simp at hd⟩
  | d :: ds, [], k, Q, hl, hv, h => by simp at hl
  | d :: ds, v :: vs, k, Q, hl, hv, h => by
    obtain ⟨a1, a2⟩ := hv 0 d rfl
    have a2 : LRel C ⟨false, 0, 0⟩ d v := a2
    have tail : ∀ (d' : D) (bs0 : List Lf) (bc0 : List Nat), d'.capt = true → CL C.P C.w (Bor C bs0 bc0) d' v → ∀ {k' : List D → List Lf → List Nat → Rdr α}, (coeCapt ds k').wp C.E Q →
        (∀ ds' bs bc, (k' ds' bs bc).wp C.E Q → (k (d' :: ds') (bs0 ++ bs) (bc0 ++ bc)).wp C.E Q) →
        ∃ ds' bs bc, (k ds' bs bc).wp C.E Q ∧ ds'.length = (d :: ds).length ∧ ∀ (i : Nat) (d : D), ds'[i]? = some d → d.capt = true ∧ CL C.P C.w (Bor C bs bc) d ((v :: vs).getD i undef) := by
      intro d' bs0 bc0 hc hcl k' hk' hkk
      obtain ⟨ds', bs, bc, h1, h2, h3⟩ := coeCapt_wp R ds vs (by simpa using hl) (fun i d hd => by simpa using hv (i + 1) d (by simpa using hd)) hk'
      refine ⟨d' :: ds', bs0 ++ bs, bc0 ++ bc, hkk _ _ _ h1, by simp [h2], fun i d hd => ?_⟩
      cases i with
      | zero =>
        simp at hd; subst hd
        exact ⟨hc, hcl.mono fun b hb => hb.mono (fun q hq => List.mem_append_left _ hq) (fun q hq => List.mem_append_left _ hq)⟩
      | succ i =>
        obtain ⟨b1, b2⟩ := h3 i d (by simpa using hd)
        exact ⟨b1, b2.mono fun b hb => hb.mono (fun q hq => List.mem_append_right _ hq) (fun q hq => List.mem_append_right _ hq)⟩
    cases d with
    | v x => exact tail (.v x) [] [] rfl ⟨rfl, rfl, by cases a2 with | v _ hs => exact scal_one hs, fun C' p _ _ _ => by cases a2 with | v _ hs => exact .v _ _ hs⟩ h (fun _ _ _ h => h)
    | nil => exact tail .nil [] [] rfl ⟨rfl, rfl, by cases a2; rfl, fun C' p _ _ _ => by cases a2; exact .nil _⟩ h (fun _ _ _ h => h)
    | imm e xs =>
      refine tail (.imm e xs) [] [] rfl (CL.imm ?_) h (fun _ _ _ h => h)
      cases a2 with
      | imm _ _ _ hr => exact hr.mono fun b hb _ => ⟨.inl hb, rfl⟩
    | rptr ls =>
      refine tail (.rptr ls) [] [] rfl ?_ h (fun _ _ _ h => h)
      obtain ⟨d', bs, h1, h2⟩ := coeLeaf_wp R (e := 0) (k := fun d bs => (.ret (d, bs) : Rdr (D × List Lf))) (Q := fun x => x.1 = .rptr ls ∧ x.2 = []) a2 (by cases a2; rfl) ⟨rfl, rfl⟩
      obtain ⟨q1, q2⟩ := h1
      simp only at q1 q2
      subst q1; subst q2
      exact h2
    | cref c j =>
      have h : (Rdr.cell c fun
        | some ls => coeLeaves [] (mvList true c j (ls.drop j)) fun ls bs => if ls.all D.pure && decide (0 < ls.length) then coeCapt ds fun ds bs' bc => k (.rptr ls :: ds) (bs ++ bs') (c :: bc) else .fail
        | none => .fail).wp C.E Q := h
      cases a2 with
      | cref _ _ ls hlv hle =>
        simp only [Rdr.wp] at h
        rw [show C.E.ce.getD c none = some ls from getD_some hlv] at h
        simp only at h
        rw [← drop_take_all] at h
        obtain ⟨ls', bs, h, hlen, hc⟩ := cellLeaves_wp R hlv h
        split at h
        · rename_i hcond
          simp only [Bool.and_eq_true, decide_eq_true_eq] at hcond
          rw [drop_take_all, List.length_drop] at hlen
          exact tail (.rptr ls') bs [c] rfl (CL.cell R hlv (by omega) hcond.2 hcond.1 hc) h (fun _ _ _ h => h)
        · exact h.elim
    | _ => exact h.elim

theorem coeLeaf_leafy {α : Type} {e : TypeId} {d : D} {k : D → List Lf → Rdr α} {E : Env} {Q : α → Prop} (h : (coeLeaf e d k).wp E Q) : d.leafy = true ∧ d ≠ .dead ∧ d.isTup = false := by
  cases d <;> first | exact h.elim | exact ⟨rfl, by simp, rfl⟩

theorem argR_wp {w0 : World} {L : Nat → Nat → Prop} {C : Ctx} (R : Rel w0 L C) {tb : Tab} {pt : TypeId} {m : Nat} {d : D} {v : Value} {acc : CallAcc} {vs : List Value} (ha : AccOk C acc vs) (hv : d.isTup = false → VRel C d v)
    {k : CallAcc → Rdr Stp} {Q : Stp → Prop} (h : (argR tb pt m d acc k).wp C.E Q) : ∃ acc', (k acc').wp C.E Q ∧ AccOk C acc' (vs ++ [v]) := by
  unfold argR at h
  split at h
  · -- lent
    split at h
    · rename_i p
      obtain ⟨ex, e, xs, hl⟩ := (hv rfl).ali_inv
      simp only [rowsR] at h
      rw [leafR_wp, hl] at h
      rw [ex]
      exact ⟨_, h, ha.lend hl⟩
    · have ex := (hv rfl).nil_inv
      split at h
      · rw [ex]; exact ⟨_, h, ha.nil0 _⟩
      · exact h.elim
    · exact h.elim
  · split at h
    · rename_i c j e hk
      obtain ⟨ds, hl, hj, ex⟩ := (hv rfl).cref_inv
      split at h
      · exact h.elim
      · rename_i ie hie
        simp only [Rdr.wp] at h
        rw [show C.E.ce.getD c none = some ds from getD_some hl] at h
        simp only at h
        split at h
        · rename_i hc
          simp only [Bool.and_eq_true, decide_eq_true_eq] at hc
          rw [ex]
          exact ⟨_, h, ha.cell hl hc.1.2 hc.2 hc.1.1⟩
        · exact h.elim
    · exact h.elim
  · split at h
    · rename_i ds
      obtain ⟨xs, rfl, h1, h2, h3⟩ := (hv rfl).agg_inv
      split at h
      · obtain ⟨ds', bs, h, hlen, hc⟩ := coeLeaves_wp R _ ds xs.toList (by simpa using h1) (fun i d hd => by
          obtain ⟨a, b, c, e⟩ := h3 i d hd
          rw [arr_list_getD]; exact ⟨c, e _⟩) h
        refine ⟨_, h, ha.rd (.inr ⟨ds', xs, rfl, rfl, by omega, by omega, fun i d hd => ?_⟩)⟩
        have := hc i d hd
        rwa [arr_list_getD] at this
      · exact h.elim
    · rename_i c j
      obtain ⟨ds, hl, hj, ex⟩ := (hv rfl).cref_inv
      split at h
      · split at h
        · exact h.elim
        · rename_i ie hie
          simp only [Rdr.wp] at h
          rw [show C.E.ce.getD c none = some ds from getD_some hl] at h
          simp only at h
          split at h
          · rename_i hc
            obtain ⟨ls', bs, h, hlen, hcl⟩ := cellLeaves_wp R hl h
            split at h
            · rename_i hp
              rw [List.length_take, List.length_drop] at hlen
              rw [ex]
              exact ⟨_, h, ha.rd (.inl (CL.cell R hl (by omega) (by omega) hp hcl))⟩
            · exact h.elim
          · exact h.elim
      · exact h.elim
    · rename_i f cs
      have hl := ((hv rfl).lf rfl (by simp)).1
      generalize v = v' at hl
      cases hl with
      | clo _ _ xs h1 h2 h3 =>
        obtain ⟨ds', bs, bc, h, hlen, hc⟩ := coeCapt_wp R cs xs.toList (by simpa using h1) (fun i d hd => ⟨h2 i d hd, by rw [arr_list_getD]; exact h3 i d hd⟩) h
        refine ⟨_, h, ha.rd (.inl ⟨rfl, rfl, rfl, fun C' p hP hw hS => .clo _ _ _ _ (by omega) (fun i d hd => (hc i d hd).1) fun i d hd => ?_⟩)⟩
        obtain ⟨_, _, _, _, h4⟩ := hc i d hd
        have := h4 C' p hP hw hS
        rwa [arr_list_getD] at this
    · exact h.elim
    · obtain ⟨q1, q2, q3⟩ := coeLeaf_leafy h
      obtain ⟨a, b⟩ := (hv q3).lf q1 q2
      obtain ⟨d', bs, h, hc⟩ := coeLeaf_wp R a b h
      exact ⟨_, h, ha.rd (.inl hc)⟩

theorem argsR_wp {w0 : World} {L : Nat → Nat → Prop} {C : Ctx} (R : Rel w0 L C) {tb : Tab} {md : Nat → Nat} {k : CallAcc → Rdr Stp} {Q : Stp → Prop} : ∀ (pts : List TypeId) (ds : List D) (ws : List Value) {acc : CallAcc} {vs : List Value}, AccOk C acc vs →
    ds.length = ws.length → (∀ (i : Nat) (d : D), ds[i]? = some d → d.isTup = false → VRel C d (ws.getD i undef)) → (argsR tb md pts ds acc k).wp C.E Q → ∃ acc', (k acc').wp C.E Q ∧ AccOk C acc' (vs ++ ws)
  | pts, [], [], acc, vs, ha, _, _, h => by
    cases pts with
    | nil => exact ⟨acc, h, by simpa using ha⟩
    | cons => exact h.elim
  | pts, [], w :: ws, acc, vs, ha, hl, _, h => by simp at hl
  | pts, d :: ds, [], acc, vs, ha, hl, _, h => by simp at hl
  | pts, d :: ds, w :: ws, acc, vs, ha, hl, hv, h => by
    cases pts with
    | nil => exact h.elim
    | cons pt pts =>
      simp only [argsR] at h
      obtain ⟨acc1, h, ha1⟩ := argR_wp R ha (hv 0 d rfl) h
      obtain ⟨acc2, h, ha2⟩ := argsR_wp R pts ds ws ha1 (by simpa using hl) (fun i d hd => hv (i + 1) d (by simpa using hd)) h
      exact ⟨acc2, h, by simpa using ha2⟩
end Go.Proofs.Ytcnogcachboibaa.Fw
