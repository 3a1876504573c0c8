/- Framework, part O: conversions; new cells. -/
import Derived.Test.YtcnogcachboibaaFwN
namespace Go.Proofs.Ytcnogcachboibaa.Fw
open Go
set_option linter.unusedVariables false

theorem bytesRows_get {l : List UInt8} {i j : Nat} {t : T} (h : T.get? (bytesRows l) i j = some t) : ∃ b, l[i]? = some b ∧ j = 0 ∧ t = .v (.int .u8 b.toNat) := by
  unfold T.get? bytesRows at h
  rw [List.getElem?_map] at h
  cases hx : l[i]? with
  | none => rw [hx] at h; simp at h
  | some b =>
    rw [hx] at h
    simp only [Option.map_some, Option.bind_some] at h
    cases j with
    | zero => simp at h; exact ⟨b, rfl, rfl, h.symm⟩
    | succ j => simp at h
theorem bytesRows_at {l : List UInt8} {i : Nat} {b : UInt8} (h : l[i]? = some b) : T.get? (bytesRows l) i 0 = some (.v (.int .u8 b.toNat)) := by
  unfold T.get? bytesRows
  rw [List.getElem?_map, h]; rfl
theorem bytesRows_length (l : List UInt8) : (bytesRows l).length = l.length := by simp [bytesRows]

theorem TabOk.kd_ti {P : Program} {tb : Tab} (hT : TabOk P tb) {t : TypeId} {k : K} (h : tb.kd t = some k) : ∃ i, tb t = some i ∧ i.k = k ∧ TIok P t i := hT.kd h

section ops
variable {w0 : World} {L : Nat → Nat → Prop} {C : Ctx} (R : Rel w0 L C)
variable {np : Nat} {K : Env → Prop} {next : Act → World → Prop} (hn : Nxt w0 L np C K next) {Q : Exit → Act → World → Prop} {o : Oper}
include R hn

theorem snd_convert {tb : Tab} (hT : TabOk C.P tb) {s t : TypeId} {x : Operand} (ho : o.op = .convert s t x) (h : (opConvert tb o.dst s t x).wp C.E (Done C.P K C.E)) : o.wp C.P C.a C.w next Q := by
  unfold opConvert at h
  replace h := opdR_wp R h
  obtain ⟨d, h, hv⟩ := h
  split at h
  · rename_i ks k k' n hs ht
    obtain ⟨is, _, _, his⟩ := hT.kd hs
    obtain ⟨ds, hus⟩ := his.und
    have hut := hT.kd_int ht
    have e := (hv rfl).v_inv.1
    refine wp_value (w' := C.w) (v := .int k (k.wrap n)) ?_ (wrS_done R hn (.refl _) h (.v rfl))
    simp [execOp, ho, e, convert, run_underlying hus, run_underlying hut, Conv.intToInt]
  · rename_i b hs ht
    have hus := hT.kd_str hs
    have hut := hT.kd_str ht
    obtain ⟨e, hb⟩ := (hv rfl).v_inv
    refine wp_value (w' := C.w) (v := .string b) ?_ (wrS_done R hn (.refl _) h (.v hb))
    simp [execOp, ho, e, convert, run_underlying hus, run_underlying hut]
  · rename_i e b hs ht
    have hus := hT.kd_str hs
    have hut := hT.kd_slice ht
    obtain ⟨ex, hb⟩ := (hv rfl).v_inv
    split at h
    · rename_i he
      have hue := hT.kd_int he
      obtain ⟨ie, he1, he2, he3⟩ := hT.kd he
      have hsz : C.P.cellsOf e = 1 := by rw [he3.cellsOf]; exact he3.nag (by rw [he2]; rfl)
      have hrun := run_bytes_of_string (P := C.P) C.w s t e b hus hut hue
      generalize hcap : grownCap C.w b.size 0 e = cap at hrun
      simp only [scal, decide_eq_true_eq] at hb
      have hc1 : b.size ≤ cap ∧ cap ≤ 9223372036854775807 := by
        rw [← hcap]
        unfold grownCap Question.cut
        simp only
        have : C.w.tape C.w.drawn (.appendCap b.size 0 e) % (2 ^ 63 - b.size) < 2 ^ 63 - b.size := Nat.mod_lt _ (by omega)
        omega
      have hrs : (bytesRow b cap).size = cap := by
        have : b.data.size = b.size := rfl
        simp [bytesRow, this]; omega
      have hval : Value.slice (some ⟨C.w.heap.size, 0, none⟩) b.size cap = .slice (some ⟨C.w.heap.size, 0, none⟩) (bytesRows (toL b)).length cap := by rw [bytesRows_length, toL_length]
      refine wp_value (w' := C.w.drew.alloc (.cells (bytesRow b cap) e ((bytesRow b cap).size, (bytesRow b cap).size + 1))) (v := .slice (some ⟨C.w.heap.size, 0, none⟩) b.size cap) ?_ (wrS_own R hn (Ext.drewAlloc _ _) h (G := fun b' => b' = C.w.heap.size) ?_ ?_)
      · simp only [execOp, ho, ex, bind_pure_comp, Sem.run_map, hrun, Result.andThen_ok]
      · rintro b' rfl; rw [size_alloc]; exact ⟨Nat.le_refl _, Nat.lt_succ_self _⟩
      · rw [hval]
        refine OwnT.simple (heap_new C.w.drew _) ?_ (by rw [hsz, hrs]; omega) (by rw [bytesRows_length, toL_length]; omega) hc1.2 ?_ ?_ ?_
        · intro o' h1 h2; simp at h2; omega
        · intro i r hr
          unfold bytesRows at hr
          rw [List.getElem?_map] at hr
          cases hx : (toL b)[i]? with
          | none => rw [hx] at hr; simp at hr
          | some y => rw [hx] at hr; simp at hr; rw [← hr, hsz]; rfl
        · intro i j t' hg
          obtain ⟨y, h1, rfl, rfl⟩ := bytesRows_get hg
          refine ⟨_, ?_, .inl ⟨rfl, rfl⟩⟩
          rw [hsz, Nat.zero_add, Nat.mul_one, Nat.add_zero]
          unfold bytesRow
          have hlt : i < b.data.size := by
            have := (List.getElem?_eq_some_iff.1 h1).1
            simpa [toL] using this
          rw [Array.getElem?_append_left (by simpa using hlt), Array.getElem?_map]
          have : b.data[i]? = some y := by rw [← Array.getElem?_toList]; exact h1
          rw [this]; rfl
        · intro _ i j t' hg
          obtain ⟨y, h1, rfl, rfl⟩ := bytesRows_get hg
          rfl
    · exact h.elim
  · rename_i e hs ht
    have hus := hT.kd_slice hs
    have hut := hT.kd_str ht
    have ex := (hv rfl).nil_inv
    split at h
    · rename_i he
      have hue := hT.kd_int he
      refine wp_value (w' := C.w) (v := vS []) ?_ (wrS_done R hn (.refl _) h (.v rfl))
      have hr := run_convert_bytes_string (P := C.P) C.w s t e none 0 0 hus hue hut
      simp only [execOp, ho, ex, bind_pure_comp, Sem.run_map, hr]
      rfl
    · exact h.elim
  · rename_i e hs ht _
    have hus := hT.kd_slice hs
    have hut := hT.kd_str ht
    split at h
    · rename_i he
      have hue := hT.kd_int he
      obtain ⟨ie, he1, he2, he3⟩ := hT.kd he
      have hsz : C.P.cellsOf e = 1 := by rw [he3.cellsOf]; exact he3.nag (by rw [he2]; rfl)
      replace h := rowsR_wp R (hv (rowsR_notTup h)) h
      obtain ⟨e', xs, h, hr⟩ := h
      obtain ⟨⟨rfl, hxs⟩, h⟩ := h
      have hlen : (rowsBytes xs).length = xs.length := by simp [rowsBytes]
      have hmax : xs.length ≤ 9223372036854775807 := by obtain ⟨_, _, _, _, _, _, h⟩ := hr.slice; exact h
      refine wp_value (w' := C.w) (v := vS (rowsBytes xs)) ?_ (wrS_done R hn (.refl _) h (.v (by simp only [scal, decide_eq_true_eq]; show (rowsBytes xs).length ≤ _; omega)))
      generalize hval : C.a.eval x = val at hr
      cases hr with
      | emp _ base cap hc =>
        have hr := run_convert_bytes_string (P := C.P) C.w s t e' base 0 cap hus hue hut
        simp only [execOp, ho, hval, bind_pure_comp, Sem.run_map, hr]
        cases base with
        | none => rfl
        | some a =>
          have := run_bytesToString (P := C.P) C.w a 0 cap [] (by rfl)
          rw [this]; rfl
      | row _ _ b o' cap cs ce fr X g1 g2 g5 g6 g7 g10 g11 g12 =>
        have hr := run_convert_bytes_back (P := C.P) C.w s t e' ⟨b, o', none⟩ cap (rowsBytes xs) hus hue hut (by
          intro j hj
          have hb : (rowsBytes xs)[j]? = some (rowsBytes xs)[j] := List.getElem?_eq_getElem hj
          have hg := bytesRows_at hb
          rw [← hxs] at hg
          have h1 := g10 j 0 _ hg
          have h2 := g11 j 0 _ hg
          rw [add_plain, cell_of g1]
          rw [hsz, Nat.mul_one, Nat.add_zero] at h1
          rw [h1]
          generalize X j 0 = xv at h2
          cases h2; rfl)
        rw [hlen] at hr
        simp only [execOp, ho, hval, bind_pure_comp, Sem.run_map, hr]
        rfl
    · exact h.elim
  · exact h.elim
end ops
end Go.Proofs.Ytcnogcachboibaa.Fw
