/- Framework, part Q: alloc, box, assignments. -/
import Derived.Test.YtcnogcachboibaaFwP
namespace Go.Proofs.Ytcnogcachboibaa.Fw
open Go
set_option linter.unusedVariables false

theorem zero_lined {C : Ctx} {P : Program} {t : TypeId} {i : TI} (hi : TIok P t i) : ∃ j z, P.info? t = some j ∧ j.zero = some z ∧ Lined C i.zero z.cells := by
  obtain ⟨j, z, i1, i2, i3, i4, i5, i6, i7⟩ := hi.info
  refine ⟨j, z, i1, i4, ?_⟩
  rw [i6]
  refine ⟨by simp, fun j d hd => ?_⟩
  rw [List.getElem?_map] at hd
  cases hx : z.cells.toList[j]? with
  | none => rw [hx] at hd; simp at hd
  | some y =>
    rw [hx] at hd
    simp only [Option.map_some, Option.some.injEq] at hd
    subst hd
    rw [← arr_list_getD, getD_some hx]
    have := List.all_eq_true.1 i7 y (List.mem_of_getElem? hx)
    obtain ⟨a, b, c⟩ := constLeaf_cases y this
    exact ⟨a, b, this, fun p => c C p⟩

section ops
variable {w0 : World} {L : Nat → Nat → Prop} {C : Ctx} (R : Rel w0 L C)
variable {np : Nat} {K : Env → Prop} {next : Act → World → Prop} (hn : Nxt w0 L np C K next) {Q : Exit → Act → World → Prop} {o : Oper}
include R hn

theorem snd_newCell {t : Nat} {ds : List D} {cs : Array Value} {e : TypeId} (hd : o.dst = some t) (hl : Lined C ds cs)
    (hx : (execOp C.a.eval o).run C.P C.w = .ok (.value (.pointer (some ⟨C.w.heap.size, 0, none⟩))) (C.w.alloc (.cells cs e)))
    (h : (newCell np t ds).wp C.E (Done C.P K C.E)) : o.wp C.P C.a C.w next Q := by
  simp only [newCell, Rdr.wp] at h
  split at h
  · rename_i hce
    split at h
    · exact h.elim
    · rename_i hc
      simp only [Bool.or_eq_true, decide_eq_true_eq, not_or, Bool.not_eq_true, Nat.not_lt, Nat.not_le] at hc
      obtain ⟨⟨c1, c2⟩, c3⟩ := hc
      have ht : C.E.ce[t]? = some none := by
        rw [List.getElem?_eq_getElem c3]
        rw [List.getD_eq_getElem?_getD, List.getElem?_eq_getElem c3] at hce
        simpa using hce
      have R1 := R.newCell t ds cs e ht c1 hl
      have hloc : ∀ t', t' < np → (fun t' => if t' = t then (C.w.heap.size, 0) else C.loc t') t' = C.loc t' := by
        intro t' h; exact if_neg (by omega)
      split at h
      · simp only [Rdr.wp] at h
        split at h
        · rename_i E' hs
          obtain ⟨F', R2⟩ := R1.swapLeaves _ 0 hs
          have := hn _ R2 rfl hloc h
          refine wp_value hx ?_
          rw [hd]; exact this
        · exact h.elim
      · have := hn _ R1 rfl hloc h
        refine wp_value hx ?_
        rw [hd]; exact this
  · exact h.elim

theorem snd_alloc {tb : Tab} (hT : TabOk C.P tb) {e : TypeId} (ho : o.op = .alloc e) (h : (opAlloc np tb o.dst e).wp C.E (Done C.P K C.E)) : o.wp C.P C.a C.w next Q := by
  unfold opAlloc at h
  split at h
  · rename_i t i hd ht
    obtain ⟨j, z, i1, i2, hl⟩ := zero_lined (C := C) (hT e i ht)
    refine snd_newCell R hn hd hl (e := e) ?_ h
    simp only [execOp, ho, Instr.alloc, zeroValue, typeInfo, bind_pure_comp, Sem.run_bind, Sem.run_map, run_program, Result.andThen_ok, i1, i2, Sem.run_pure, newVar, newRow, run_newObj]
    rfl
  · exact h.elim

theorem snd_box {tb : Tab} {e : TypeId} {x : Operand} (ho : o.op = .box e x) (h : (opBox np tb o.dst e x).wp C.E (Done C.P K C.E)) : o.wp C.P C.a C.w next Q := by
  unfold opBox at h
  split at h
  · rename_i t i hd ht
    replace h := opdR_wp R h
    obtain ⟨d, h, hv⟩ := h
    have hx : (execOp C.a.eval o).run C.P C.w = .ok (.value (.pointer (some ⟨C.w.heap.size, 0, none⟩))) (C.w.alloc (.cells (C.a.eval x).cells e)) := by
      simp only [execOp, ho, Instr.box, bind_pure_comp, Sem.run_map, newVar, newRow, run_newObj, Result.andThen_ok]
      rfl
    split at h
    · rename_i ds
      split at h
      · exact snd_newCell R hn hd ((hv rfl).lined rfl (by simp)) hx h
      · exact h.elim
    · split at h
      · rename_i hc
        simp only [Bool.and_eq_true] at hc
        have hl : d.leafy = true := by
          have := hc.2
          cases d <;> first | rfl | simp [D.plainish] at this
        have ht : d.isTup = false := by cases d <;> first | rfl | simp [D.leafy] at hl
        have hdd : d ≠ .dead := by rintro rfl; simp [D.plainish] at hc
        have := (hv ht).lined ht hdd
        rw [leafy_leaves1 hl] at this
        exact snd_newCell R hn hd this hx h
      · exact h.elim
  · exact h.elim

theorem snd_assign {x : Operand} (ho : o.op = .assign x) (h : (opAssign o.dst x).wp C.E (Done C.P K C.E)) : o.wp C.P C.a C.w next Q := by
  unfold opAssign at h
  split at h
  · rename_i s t hd
    simp only [Rdr.wp] at h
    split at h
    · exact h.elim
    · rename_i ht
      have ht : (C.E.sl.getD s .dead).isTup = false := by simpa using ht
      split at h
      · rename_i hc
        simp only [Rdr.wp] at h
        split at h
        · rename_i E' hE
          unfold assignOwn at hE
          split at hE
          · cases hE
          · rename_i E1 hcut
            obtain ⟨F1, R1⟩ := R.cutLeaves _ 0 hcut
            have key : ∀ E2, (if (E1.sl.getD t .dead).anyOwn then E1.killS t else E1) = E2 → Rel w0 L { C with E := E2, F := F1 } ∧ (E2.sl.getD t .dead).anyOwn = false := by
              intro E2 he
              by_cases hb : (E1.sl.getD t .dead).anyOwn = true
              · rw [if_pos hb] at he
                subst he
                exact ⟨R1.kill (fun p => !p.c && p.t == t), killS_anyOwn E1 t⟩
              · rw [if_neg hb] at he
                subst he
                exact ⟨R1, by simpa using hb⟩
            generalize hE2 : (if (E1.sl.getD t .dead).anyOwn then E1.killS t else E1) = E2 at hE
            obtain ⟨R2, hno⟩ := key E2 hE2
            simp only at hE
            split at hE
            · cases hE
            rename_i hnt
            have hnt : (E2.sl.getD s .dead).isTup = false := by simpa using hnt
            have hv := asMove_rel R2 s hnt
            have R3 := R2.put1 t _ _ hno (hv.2 t)
            obtain ⟨F', R4⟩ := R3.swapLeaves _ 0 hE
            have := hn _ R4 rfl (fun _ _ => rfl) h
            refine wp_value (w' := C.w) (v := C.a.eval (.tmp s)) (by simp [execOp, ho]) ?_
            rw [hd]; exact this
        · exact h.elim
      · have hv := asMove_rel R s ht
        exact wp_value (w' := C.w) (v := C.a.eval (.tmp s)) (by simp [execOp, ho]) (wrS_done R hn (.refl _) h hv)
  · exact snd_move R hn (.inr ho) h
end ops
end Go.Proofs.Ytcnogcachboibaa.Fw
