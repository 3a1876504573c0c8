/- Framework, part Ok: every operation does what is computed of it. -/
import Derived.Test.YtcnogcachboibaaFwCi
namespace Go.Proofs.Ytcnogcachboibaa.Fw
open Go
set_option linter.unusedVariables false

theorem opdsR_wp {w0 : World} {L : Nat → Nat → Prop} {C : Ctx} (R : Rel w0 L C) {α : Type} : ∀ (xs : List Operand) {acc : List D} {vs : List Value} {k : List D → Rdr α} {Q : α → Prop}, acc.length = vs.length →
    (∀ (i : Nat) (d : D), acc[i]? = some d → d.isTup = false → VRel C d (vs.getD i undef)) → (opdsR xs acc k).wp C.E Q →
    ∃ ds, (k ds).wp C.E Q ∧ ds.length = (vs ++ xs.map C.a.eval).length ∧ ∀ (i : Nat) (d : D), ds[i]? = some d → d.isTup = false → VRel C d ((vs ++ xs.map C.a.eval).getD i undef)
  | [], acc, vs, k, Q, hl, hv, h => ⟨acc, h, by simpa using hl, by simpa using hv⟩
  | x :: xs, acc, vs, k, Q, hl, hv, h => by
    replace h := opdR_wp R h
    obtain ⟨d, h, hd⟩ := h
    obtain ⟨ds, h1, h2, h3⟩ := opdsR_wp R xs (acc := acc ++ [d]) (vs := vs ++ [C.a.eval x]) (by simp [hl]) (by
      intro i d' hd' ht
      by_cases hi : i < acc.length
      · rw [List.getElem?_append_left hi] at hd'
        rw [List.getD_eq_getElem?_getD, List.getElem?_append_left (by omega), ← List.getD_eq_getElem?_getD]
        exact hv i d' hd' ht
      · have h1 := (List.getElem?_eq_some_iff.1 hd').1
        simp at h1
        have : i = acc.length := by omega
        subst this
        simp at hd'
        subst hd'
        rw [List.getD_eq_getElem?_getD, hl]
        simpa using hd ht) h
    exact ⟨ds, h1, by simpa using h2, by simpa using h3⟩

theorem call_run {P : Program} {a : Act} {o : Oper} {w : World} {c : Call} {x : Operand} {f : FuncId} {caps : Array Value} (ho : o.op = .call c) (hc : c.callee = .value x) (hx : a.eval x = .func (.func f) #[] caps) :
    (execOp a.eval o).run P w = (callFunc f ((c.args.map a.eval) ++ caps)).run P w := by
  simp only [execOp, ho, resolve, hc, hx, Deferred.ofValue, Sem.run_bind, Sem.run_pure, Result.andThen_ok, invoke, Array.empty_append]

theorem op_ok {P : Program} {cfg : Cfg} (hT : TabOk P cfg.tb) : OpOk P cfg := by
  intro w0 L C R hP K next hn Q o h
  subst hP
  unfold opR at h
  split at h
  · rename_i ho; exact snd_moveT R hn ho h
  · rename_i ho; exact snd_assign R hn ho h
  · rename_i ho; exact snd_pick R hn ho h
  · rename_i ho; exact snd_alloc R hn hT ho h
  · rename_i ho; exact snd_box R hn ho h
  · rename_i ho; exact snd_build R hn hT ho h
  · rename_i ho; exact snd_buildSlice R hn hT ho h
  · rename_i ho; exact snd_load R hn hT ho h
  · rename_i ho; exact snd_store R hn hT ho h
  · rename_i ho; exact snd_nilCheck R hn ho h
  · rename_i ho; exact snd_bin R hn hT ho h
  · rename_i ho; exact snd_un R hn ho h
  · rename_i ho; exact snd_convert R hn hT ho h
  · rename_i ho; exact snd_makeFunc R hn ho h
  · rename_i ho; exact snd_makeSlice R hn hT ho h
  · rename_i ho; exact snd_slice R hn hT ho h
  · rename_i ho; exact snd_fieldAddr R hn hT ho h
  · rename_i ho; exact snd_indexAddr R hn hT ho h
  · rename_i ho; exact snd_index R hn hT ho h
  · rename_i ho; exact snd_extract R hn ho h
  · rename_i c ho
    unfold opCall at h
    split at h
    · rename_i hc
      split at h
      · rename_i x t hx ht
        refine snd_len R hn hT (fun v n hv hr => ?_) h
        have e1 : c.args = #[x] := by cases hca : c.args with | mk l => rw [hca] at hx; simp at hx; rw [hx]
        have e2 : c.argTypes = #[t] := by cases hca : c.argTypes with | mk l => rw [hca] at ht; simp at ht; rw [ht]
        simp [execOp, ho, resolve, hc, invoke, builtin, e1, e2, hv, hr]
      · exact h.elim
    · rename_i hc
      split at h
      · rename_i s x t tx hx ht
        refine snd_append R hn hT (fun v hr => ?_) h
        have e1 : c.args = #[s, x] := by cases hca : c.args with | mk l => rw [hca] at hx; simp at hx; rw [hx]
        have e2 : c.argTypes = #[t, tx] := by cases hca : c.argTypes with | mk l => rw [hca] at ht; simp at ht; rw [ht]
        simp [execOp, ho, resolve, hc, invoke, builtin, e1, e2, hr]
      · exact h.elim
    · rename_i hc
      refine snd_minmax R hn (fun v vs n hv hr => ?_) h
      simp only [Bool.false_eq_true, if_false] at hr
      simp [execOp, ho, resolve, hc, invoke, builtin, Builtin.min_, hv, hr]
    · rename_i hc
      refine snd_minmax R hn (fun v vs n hv hr => ?_) h
      simp only [if_true] at hr
      simp [execOp, ho, resolve, hc, invoke, builtin, Builtin.max_, hv, hr]
    · exact h.elim
    · rename_i f hc
      obtain ⟨ds, h, h1, h2⟩ := opdsR_wp R c.args.toList (acc := []) (vs := []) rfl (fun i d hd => by simp at hd) h
      refine snd_callR R hn (ws := c.args.toList.map C.a.eval) (by simpa using h1) (by simpa using h2) ?_ h
      rw [call_run (f := f) (caps := #[]) ho hc rfl]
      congr 2
      apply Array.ext'
      simp
    · rename_i x hnf hc
      replace h := opdR_wp R h
      obtain ⟨d, h, hd⟩ := h
      split at h
      · rename_i f cs
        have hl := ((hd rfl).lf rfl (by simp)).1
        generalize hxv : C.a.eval x = xv at hl
        cases hl with
        | clo _ _ caps g1 g2 g3 =>
          obtain ⟨ds, h, h1, h2⟩ := opdsR_wp R c.args.toList (acc := []) (vs := []) rfl (fun i d hd => by simp at hd) h
          refine snd_callR R hn (ws := c.args.toList.map C.a.eval ++ caps.toList) (by simp at h1 ⊢; omega) ?_ ?_ h
          · intro i d hid ht
            by_cases hi : i < ds.length
            · rw [List.getElem?_append_left hi] at hid
              rw [List.getD_eq_getElem?_getD, List.getElem?_append_left (by simp at h1 ⊢; omega), ← List.getD_eq_getElem?_getD]
              simpa using h2 i d hid ht
            · rw [List.getElem?_append_right (by omega)] at hid
              rw [List.getD_eq_getElem?_getD, List.getElem?_append_right (by simp at h1 ⊢; omega), ← List.getD_eq_getElem?_getD]
              have e : i - (c.args.toList.map C.a.eval).length = i - ds.length := by simp at h1 ⊢; omega
              rw [e, arr_list_getD]
              have hcap := g2 _ _ hid
              have hlr := g3 _ _ hid
              have hone : one (caps.getD (i - ds.length) undef) = true := by
                generalize caps.getD (i - ds.length) undef = cv at hlr
                cases hlr <;> first | rfl | (exact scal_one (by assumption)) | (simp [D.capt] at hcap; done) | (rename_i hr; exact hr.one)
              exact VRel.leaf (by cases d <;> first | rfl | simp [D.capt] at hcap) hone (by cases d <;> first | rfl | simp [D.capt] at hcap) fun p => hlr.any (by cases d <;> first | rfl | simp [D.capt] at hcap) p
          · rw [call_run (f := f) (caps := caps) ho hc hxv]
            congr 2
            apply Array.ext'
            simp
      · exact h.elim
    · exact h.elim
  · exact h.elim
end Go.Proofs.Ytcnogcachboibaa.Fw
