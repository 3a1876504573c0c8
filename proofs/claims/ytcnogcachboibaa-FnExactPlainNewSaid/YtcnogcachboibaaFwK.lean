/- Framework, part K: more operations that make a value without a place of its own. -/
import Derived.Test.YtcnogcachboibaaFwJ
import Derived.Laws.IdiomStrings
namespace Go.Proofs.Ytcnogcachboibaa.Fw
open Go
set_option linter.unusedVariables false

theorem TIok.und {P : Program} {t : TypeId} {i : TI} (h : TIok P t i) : ∃ d, P.underlying t = some d := by
  have := h.k
  unfold KOk at this
  split at this
  · exact ⟨_, this⟩
  · exact ⟨_, this⟩
  · exact ⟨_, this⟩
  · exact ⟨_, this⟩
  · exact ⟨_, this.1⟩
  · obtain ⟨fs, h, _⟩ := this; exact ⟨_, h⟩
  · exact ⟨_, this⟩
  · obtain ⟨d, h, _⟩ := this; exact ⟨_, h⟩
theorem TabOk.kd {P : Program} {tb : Tab} (hT : TabOk P tb) {t : TypeId} {k : K} (h : tb.kd t = some k) : ∃ i, tb t = some i ∧ i.k = k ∧ TIok P t i := by
  unfold Tab.kd at h
  cases ht : tb t with
  | none => rw [ht] at h; simp at h
  | some i => rw [ht] at h; exact ⟨i, rfl, by simpa using h, hT t i ht⟩
theorem TabOk.kd_slice {P : Program} {tb : Tab} (hT : TabOk P tb) {t e : TypeId} (h : tb.kd t = some (.slice e)) : P.underlying t = some (.slice e) := by
  obtain ⟨i, h1, h2, h3⟩ := hT.kd h; have := h3.k; unfold KOk at this; rw [h2] at this; exact this.1
theorem TabOk.kd_size {P : Program} {tb : Tab} (hT : TabOk P tb) {t e : TypeId} (h : tb.kd t = some (.slice e)) (w : World) : (Go.sizeOf e).run P w = .ok (P.cellsOf e) w := by
  obtain ⟨i, h1, h2, h3⟩ := hT.kd h; have := h3.k; unfold KOk at this; rw [h2] at this
  obtain ⟨j, hj⟩ := this.2
  simp [Go.sizeOf, typeInfo, Program.cellsOf, hj]
theorem TabOk.kd_str {P : Program} {tb : Tab} (hT : TabOk P tb) {t : TypeId} (h : tb.kd t = some .str) : P.underlying t = some .string := by
  obtain ⟨i, h1, h2, h3⟩ := hT.kd h; have := h3.k; unfold KOk at this; rw [h2] at this; exact this
theorem TabOk.kd_int {P : Program} {tb : Tab} (hT : TabOk P tb) {t : TypeId} {k : IntKind} (h : tb.kd t = some (.int k)) : P.underlying t = some (.int k) := by
  obtain ⟨i, h1, h2, h3⟩ := hT.kd h; have := h3.k; unfold KOk at this; rw [h2] at this; exact this
theorem TIok.cellsOf {P : Program} {t : TypeId} {i : TI} (h : TIok P t i) : P.cellsOf t = i.size := by
  obtain ⟨j, z, h1, h2, _⟩ := h.info
  simp [Program.cellsOf, h1, h2]
theorem TIok.sizeOf {P : Program} {t : TypeId} {i : TI} (h : TIok P t i) (w : World) : (Go.sizeOf t).run P w = .ok i.size w := by
  obtain ⟨j, z, h1, h2, _⟩ := h.info
  simp [Go.sizeOf, typeInfo, h1, h2]

theorem scal_one {v : Value} (h : scal v = true) : one v = true := by cases v <;> first | rfl | simp [scal] at h
theorem RdT.one {P : Program} {w : World} {S : Nat → Prop} {t : T} {v : Value} (h : RdT P w S t v) : one v = true := by
  cases h with
  | v => exact scal_one (by assumption)
  | emp => rfl
  | row => rfl
theorem rowsR_notTup {α : Type} {d : D} {k : TypeId → List (List T) → Rdr α} {E : Env} {Q : α → Prop} (h : (rowsR d k).wp E Q) : d.isTup = false := by
  cases d <;> first | rfl | exact h.elim
theorem isStruct_eq {k : K} (h : k.isStruct = true) : k = .struct := by cases k <;> first | rfl | simp [K.isStruct] at h

/-! what VRel says of the ways of handing about -/
section inv
variable {C : Ctx}
theorem VRel.ali_inv {p : Lf} {v : Value} (h : VRel C (.ali p) v) : v = C.cv p ∧ ∃ e xs, C.E.leaf p = .own e xs := by
  have := (h.lf rfl (by simp)).1
  cases this with | ali _ e xs hl => exact ⟨rfl, e, xs, hl⟩
theorem VRel.sub_inv {p : Lf} {lo hi : Nat} {v : Value} (h : VRel C (.sub p lo hi) v) : ∃ e xs, C.E.leaf p = .own e xs ∧ lo ≤ hi ∧ hi ≤ xs.length ∧ v = cutV (C.P.cellsOf e) (C.cv p) lo hi := by
  have := (h.lf rfl (by simp)).1
  cases this with | sub _ _ _ e xs hl a b => exact ⟨e, xs, hl, a, b, rfl⟩
theorem VRel.imm_inv {e : TypeId} {xs : List (List T)} {v : Value} (h : VRel C (.imm e xs) v) : RdT C.P C.w C.Rd (.sl e xs) v := by
  have := (h.lf rfl (by simp)).1
  cases this with | imm _ _ _ h => exact h
theorem VRel.cref_inv {t k : Nat} {v : Value} (h : VRel C (.cref t k) v) : ∃ ds, C.live t ds ∧ k ≤ ds.length ∧ v = .pointer (some ⟨(C.loc t).1, (C.loc t).2 + k, none⟩) := by
  have := (h.lf rfl (by simp)).1
  cases this with | cref _ _ ds a b => exact ⟨ds, a, b, rfl⟩
theorem VRel.eref_inv {q : Lf} {i j : Nat} {v : Value} (h : VRel C (.eref q i j) v) : ∃ e xs b o n cap, C.E.leaf q = .own e xs ∧ C.cv q = .slice (some ⟨b, o, none⟩) n cap ∧ i < xs.length ∧ v = .pointer (some ⟨b, o + i * C.P.cellsOf e + j, none⟩) := by
  have := (h.lf rfl (by simp)).1
  cases this with | eref _ _ _ e xs b o n cap a b' c => exact ⟨e, xs, b, o, n, cap, a, b', c, rfl⟩
theorem VRel.rptr_inv {ds : List D} {v : Value} (h : VRel C (.rptr ds) v) : ∃ (b o : Nat) (cs : Array Value) (ce : TypeId) (fr : Nat × Nat) (X : Nat → Value), C.w.heap[b]? = some (.cells cs ce fr) ∧ C.Rd b ∧
      (∀ (i : Nat) (d : D), ds[i]? = some d → cs[o + i]? = some (X i) ∧ one (X i) = true) ∧ (∀ (i : Nat) (d : D), ds[i]? = some d → d.pure = true) ∧ (∀ (i : Nat) (d : D), ds[i]? = some d → ∀ p, LRel C p d (X i)) ∧ v = .pointer (some ⟨b, o, none⟩) := by
  have := (h.lf rfl (by simp)).1
  cases this with
  | rptr _ b o cs ce fr X h1 h2 h3 h4 h5 =>
    refine ⟨b, o, cs, ce, fr, X, h1, h2, h3, h4, fun i d hd p => (h5 i d hd).any ?_ p, rfl⟩
    have := h4 i d hd
    cases d <;> first | rfl | simp [D.pure] at this
end inv

section ops
variable {w0 : World} {L : Nat → Nat → Prop} {C : Ctx} (R : Rel w0 L C) {np : Nat} {K : Env → Prop} {next : Act → World → Prop} (hn : Nxt w0 L np C K next) {Q : Exit → Act → World → Prop} {o : Oper}
include R hn

theorem snd_makeFunc {fn : Fn} {fi ca : Array Operand} (ho : o.op = .makeFunc fn fi ca) (h : (opMakeFunc o.dst fn fi.toList ca.toList).wp C.E (Done C.P K C.E)) : o.wp C.P C.a C.w next Q := by
  unfold opMakeFunc at h
  split at h
  · rename_i _ _ f hf
    have hfi : fi = #[] := by
      cases fi with | mk l => simp at hf; rw [hf]
    subst hfi
    have key : ∀ (xs : List Operand) (acc : List D) (vs : List Value), acc.length = vs.length → (∀ (i : Nat) (d : D), acc[i]? = some d → d.capt = true ∧ LRel C ⟨false, 0, 0⟩ d (vs.getD i undef)) →
        (opMakeFunc.go xs acc fun ds => wrS o.dst (.clo f ds)).wp C.E (Done C.P K C.E) →
        ∃ ds : List D, ds.length = vs.length + xs.length ∧ (∀ (i : Nat) (d : D), ds[i]? = some d → d.capt = true ∧ LRel C ⟨false, 0, 0⟩ d ((vs ++ xs.map C.a.eval).getD i undef)) ∧ (wrS o.dst (.clo f ds)).wp C.E (Done C.P K C.E) := by
      intro xs
      induction xs with
      | nil =>
        intro acc vs h1 h2 h3
        exact ⟨acc, by simp [h1], by simpa using h2, h3⟩
      | cons x xs ih =>
        intro acc vs h1 h2 h3
        obtain ⟨d, h4, hv⟩ := opdR_wp R h3
        split at h4
        · rename_i hc
          have hl := (hv (by cases d <;> first | rfl | simp [D.capt] at hc)).lf (by cases d <;> first | rfl | simp [D.capt] at hc) (by rintro rfl; simp [D.capt] at hc)
          obtain ⟨ds, e1, e2, e3⟩ := ih (acc ++ [d]) (vs ++ [C.a.eval x]) (by simp [h1]) (by
            intro i d' hd'
            by_cases hi : i < acc.length
            · rw [List.getElem?_append_left hi] at hd'
              rw [List.getD_eq_getElem?_getD, List.getElem?_append_left (by omega), ← List.getD_eq_getElem?_getD]
              exact h2 i d' hd'
            · have : i = acc.length := by
                have := (List.getElem?_eq_some_iff.1 hd').1
                simp at this; omega
              subst this
              simp at hd'
              subst hd'
              rw [List.getD_eq_getElem?_getD, h1]
              simpa using ⟨hc, hl.1⟩) h4
          refine ⟨ds, ?_, ?_, e3⟩
          · simp at e1 ⊢; omega
          · simpa using e2
        · exact h4.elim
    obtain ⟨ds, e1, e2, e3⟩ := key ca.toList [] [] rfl (fun i d hd => by simp at hd) h
    refine wp_value (w' := C.w) (v := .func (.func f) #[] (ca.map C.a.eval)) ?_ (wrS_done R hn (.refl _) e3 ?_)
    · simp [execOp, ho, Instr.makeFunc]
    · refine .leaf rfl rfl rfl fun p => .clo _ _ _ _ (by simpa using e1) (fun i d hd => (e2 i d hd).1) fun i d hd => ?_
      have := (e2 i d hd).2
      have e : (ca.map C.a.eval).getD i undef = ((([] : List Value) ++ ca.toList.map C.a.eval).getD i undef) := by
        rw [← arr_list_getD]; simp
      rw [e]
      have hc := (e2 i d hd).1
      exact this.any (by cases d <;> first | rfl | simp [D.capt] at hc) _
  · exact h.elim

theorem snd_extract {x : Operand} {k : Nat} (ho : o.op = .extract x k) (h : (opExtract o.dst x k).wp C.E (Done C.P K C.E)) : o.wp C.P C.a C.w next Q := by
  unfold opExtract at h
  split at h
  · rename_i t
    simp only [Rdr.wp] at h
    split at h
    · rename_i cs hcs
      split at h
      · rename_i d hd
        have hsl : C.E.sl[t]? = some (.tup cs) := by
          rw [List.getD_eq_getElem?_getD] at hcs
          cases hx : C.E.sl[t]? with
          | none => rw [hx] at hcs; simp at hcs
          | some y => rw [hx] at hcs; simp at hcs; rw [hcs]
        have hs := R.slot t _ hsl
        generalize hv : C.a.tmps.getD t undef = v at hs
        cases hs with
        | comp _ _ ht => simp [D.isTup] at ht
        | tup _ vs hl hc =>
          obtain ⟨ht, hc⟩ := hc k d hd
          have hk : k < vs.size := by rw [← hl]; exact (List.getElem?_eq_some_iff.1 hd).1
          have hv' : VRel C (mvComp t (64 * k) d) (vs.getD k undef) := by
            refine mvComp_rel hc (fun j hj => cv_tup hv k j hj) fun j x hj hx => ?_
            rw [leaf_slot _ _ _ _ hsl]
            exact (At.tup cs k j d x hd hj hx).leafOf
          refine wp_value (w' := C.w) (v := vs.getD k undef) ?_ (wrS_done R hn (.refl _) h hv')
          have : C.a.eval (.tmp t) = .tuple vs := hv
          have hg : vs[k]? = some (vs.getD k undef) := by simp [Array.getD, hk]
          simp only [execOp, ho, this, Instr.extract, hg, bind_pure_comp, Sem.run_map, Sem.run_pure, Result.andThen_ok]
      · exact h.elim
    · exact h.elim
  · exact h.elim

omit R hn in
theorem VRel.crel {d : D} {v : Value} (h : VRel C d v) (ht : d.isTup = false) (t k : Nat) : CRel C t k d v := by
  have h1 := h.1
  have := h.2 0
  cases this with
  | tup => simp [D.isTup] at ht
  | comp _ _ _ hc =>
    have ec : d.comps = [d] := by cases d <;> first | rfl | simp [D.isTup] at ht
    simp only [D.anyOwn, ec, List.any_cons, List.any_nil, Bool.or_false] at h1
    cases hc with
    | dead => exact .dead _ _
    | agg ds vs a b c =>
      refine .agg _ _ _ a b fun i d hd => ?_
      obtain ⟨c1, c2, c3⟩ := c i d hd
      have ho : d.isOwn = false := by
        have h1 : ds.any D.isOwn = false := h1
        rw [List.any_eq_false] at h1
        have := h1 d (List.mem_of_getElem? hd)
        simpa using this
      exact ⟨c1, c2, c3.any ho _⟩
    | leaf _ _ a b c =>
      refine .leaf _ _ _ a b (c.any ?_ _)
      rw [leafy_leaves1 a] at h1
      simpa using h1
omit R hn in
theorem mvCs_get (t : Nat) : ∀ (cs : List D) (k i : Nat), (mvCs t k cs)[i]? = (cs[i]?).map (fun c => mvComp t (k + 64 * i) c)
  | [], k, i => by simp [mvCs]
  | c :: cs, k, 0 => by simp [mvCs]
  | c :: cs, k, i + 1 => by
    simp only [mvCs, List.getElem?_cons_succ]
    rw [mvCs_get t cs (k + 64) i]
    congr 2; funext c; congr 1; omega
theorem snd_moveT {x : Operand} (ho : o.op = .move x) (h : (opMoveT o.dst x).wp C.E (Done C.P K C.E)) : o.wp C.P C.a C.w next Q := by
  unfold opMoveT at h
  split at h
  · rename_i t
    simp only [Rdr.wp] at h
    split at h
    · rename_i cs hcs
      have hsl : C.E.sl[t]? = some (.tup cs) := by
        rw [List.getD_eq_getElem?_getD] at hcs
        cases hx : C.E.sl[t]? with
        | none => rw [hx] at hcs; simp at hcs
        | some y => rw [hx] at hcs; simp at hcs; rw [hcs]
      have hs := R.slot t _ hsl
      generalize hv : C.a.tmps.getD t undef = v at hs
      cases hs with
      | comp _ _ ht => simp [D.isTup] at ht
      | tup _ vs hl hc =>
        have key : ∀ (i : Nat) (d : D), cs[i]? = some d → d.isTup = false ∧ VRel C (mvComp t (64 * i) d) (vs.getD i undef) := by
          intro i d hd
          obtain ⟨ht, hc⟩ := hc i d hd
          refine ⟨ht, mvComp_rel hc (fun j hj => cv_tup hv i j hj) fun j x hj hx => ?_⟩
          rw [leaf_slot _ _ _ _ hsl]
          exact (At.tup cs i j d x hd hj hx).leafOf
        have hnt : ∀ (k : Nat) (d : D), d.isTup = false → (mvComp t k d).isTup = false := by
          intro k d h
          cases d <;> first | rfl | simp [D.isTup] at h
        have hv' : VRel C (.tup (mvCs t 0 cs)) (.tuple vs) := by
          have hlen : (mvCs t 0 cs).length = cs.length := by
            have : ∀ (cs : List D) (k : Nat), (mvCs t k cs).length = cs.length := by
              intro cs
              induction cs with
              | nil => intro k; rfl
              | cons c cs ih => intro k; simp [mvCs, ih]
            exact this cs 0
          have comp : ∀ (i : Nat) (d : D), (mvCs t 0 cs)[i]? = some d → d.isTup = false ∧ VRel C d (vs.getD i undef) := by
            intro i d hd
            rw [mvCs_get] at hd
            cases hx : cs[i]? with
            | none => rw [hx] at hd; simp at hd
            | some c =>
              rw [hx] at hd
              simp only [Option.map_some, Option.some.injEq] at hd
              subst hd
              rw [Nat.zero_add]
              exact ⟨hnt _ _ (key i c hx).1, (key i c hx).2⟩
          refine ⟨?_, fun t' => .tup _ _ (by rw [hlen, hl]) fun i d hd => ⟨(comp i d hd).1, (comp i d hd).2.crel (comp i d hd).1 t' (64 * i)⟩⟩
          simp only [D.anyOwn, D.comps]
          rw [List.any_eq_false]
          intro d hd
          obtain ⟨i, hi, rfl⟩ := List.mem_iff_getElem.1 hd
          obtain ⟨c1, c2⟩ := comp i _ (List.getElem?_eq_getElem hi)
          have h1 := c2.1
          generalize (mvCs t 0 cs)[i] = d at c1 h1
          have ec : d.comps = [d] := by cases d <;> first | rfl | simp [D.isTup] at c1
          simp only [D.anyOwn, ec, List.any_cons, List.any_nil, Bool.or_false] at h1
          simpa using h1
        refine wp_value (w' := C.w) (v := .tuple vs) ?_ (wrS_done R hn (.refl _) h hv')
        have : C.a.eval (.tmp t) = .tuple vs := hv
        simp [execOp, ho, this]
    · rename_i d hd
      refine snd_move R hn (.inl ho) ?_
      show (Rdr.wp C.E (if (asMove t (C.E.sl.getD t .dead)).isTup then .fail else wrS o.dst (asMove t (C.E.sl.getD t .dead))) _)
      have : (asMove t (C.E.sl.getD t .dead)).isTup = false := by
        generalize C.E.sl.getD t .dead = d at hd
        cases d <;> first | rfl | exact absurd rfl (hd _)
      rw [this]
      exact h
  · exact snd_move R hn (.inl ho) h

theorem snd_len {tb : Tab} (hT : TabOk C.P tb) {t : TypeId} {x : Operand} (hx : ∀ v n, C.a.eval x = v → (Builtin.len_ #[t] o.type #[v]).run C.P C.w = .ok n C.w → (execOp C.a.eval o).run C.P C.w = .ok (.value n) C.w)
    (h : (opLen tb o.dst t x).wp C.E (Done C.P K C.E)) : o.wp C.P C.a C.w next Q := by
  replace h := opdR_wp R h
  obtain ⟨d, h, hv⟩ := h
  split at h
  · rename_i b hk
    have hu := hT.kd_str hk
    obtain ⟨e, hs⟩ := (hv rfl).v_inv
    have h' := h (by simp only [scal, decide_eq_true_eq] at hs; rw [toL_length]; exact hs)
    refine wp_value (w' := C.w) (v := vI (toL b).length) ?_ (wrS_done R hn (.refl _) h' (.v rfl))
    exact hx _ _ e (by simp [Builtin.len_, run_underlying hu, goInt, toL_length])
  · rename_i e hk
    have hu := hT.kd_slice hk
    have e := (hv rfl).nil_inv
    refine wp_value (w' := C.w) (v := vI 0) ?_ (wrS_done R hn (.refl _) h (.v rfl))
    exact hx _ _ e (by simp [Builtin.len_, run_underlying hu, goInt])
  · rename_i hk _
    have hu := hT.kd_slice hk
    obtain ⟨e', xs, h, hr⟩ := rowsR_wp R (hv (rowsR_notTup h)) h
    obtain ⟨base, cap, hv, _, _, _, hl⟩ := hr.slice
    refine wp_value (w' := C.w) (v := vI xs.length) ?_ (wrS_done R hn (.refl _) (h hl) (.v rfl))
    exact hx _ _ hv (by simp [Builtin.len_, run_underlying hu, goInt])
  · exact h.elim

theorem snd_minmax {mx : Bool} {xs : List Operand}
    (hx : ∀ v vs n, xs.map C.a.eval = v :: vs → (vs.foldlM (if mx then Builtin.max2 else Builtin.min2) v).run C.P C.w = .ok n C.w → (execOp C.a.eval o).run C.P C.w = .ok (.value n) C.w)
    (h : (opMinMax mx o.dst xs).wp C.E (Done C.P K C.E)) : o.wp C.P C.a C.w next Q := by
  unfold opMinMax at h
  split at h
  · rename_i x xs
    replace h := opdR_wp R h
    obtain ⟨d, h, hv⟩ := h
    split at h
    · rename_i k n
      have ex := (hv rfl).v_inv.1
      have key : ∀ (xs : List Operand) (n : Int), (opMinMax.go mx o.dst xs n k).wp C.E (Done C.P K C.E) →
          ∃ m, ((xs.map C.a.eval).foldlM (if mx then Builtin.max2 else Builtin.min2) (.int k n)).run C.P C.w = .ok (.int k m) C.w ∧ (wrS o.dst (.v (.int k m))).wp C.E (Done C.P K C.E) := by
        intro xs
        induction xs with
        | nil => intro n h; exact ⟨n, rfl, h⟩
        | cons y ys ih =>
          intro n h
          replace h := opdR_wp R h
          obtain ⟨d, h, hv⟩ := h
          split at h
          · rename_i k' m
            have ey := (hv rfl).v_inv.1
            split at h
            · rename_i hk
              subst hk
              obtain ⟨r, h1, h2⟩ := ih _ h
              refine ⟨r, ?_, h2⟩
              simp only [List.map_cons, List.foldlM_cons, Sem.run_bind, ey]
              cases mx
              · simpa [Builtin.min2] using h1
              · simpa [Builtin.max2] using h1
            · exact h.elim
          · exact h.elim
      obtain ⟨m, h1, h2⟩ := key xs n h
      refine wp_value (w' := C.w) (v := .int k m) ?_ (wrS_done R hn (.refl _) h2 (.v rfl))
      exact hx _ _ _ (by rw [List.map_cons, ex]) h1
    · exact h.elim
  · exact h.elim

theorem snd_index {tb : Tab} (hT : TabOk C.P tb) {t : TypeId} {x i : Operand} (ho : o.op = .index t x i) (h : (opIndex tb o.dst t x i).wp C.E (Done C.P K C.E)) : o.wp C.P C.a C.w next Q := by
  unfold opIndex at h
  split at h
  · rename_i hk
    have hu := hT.kd_str hk
    replace h := opdR_wp R h
    obtain ⟨d, h, hv⟩ := h
    split at h
    · rename_i b
      have ex := (hv rfl).v_inv.1
      replace h := opdR_wp R h
      obtain ⟨d, h, hv⟩ := h
      split at h
      · rename_i k n
        have ei := (hv rfl).v_inv.1
        obtain ⟨⟨h1, h2⟩, h⟩ := h
        refine wp_value (w' := C.w) (v := vC ((toL b).getD n.toNat 0).toNat) ?_ (wrS_done R hn (.refl _) h (.v rfl))
        have hlt : n.toNat < b.size := by rw [toL_length] at h2; omega
        have hg : b[n.toNat]? = some ((toL b).getD n.toNat 0) := by
          rw [ByteArray.getElem?_lt' b n.toNat hlt]
          congr 1
          rw [List.getD_eq_getElem?_getD, List.getElem?_eq_getElem (by rw [toL_length]; exact hlt)]
          simp [toL, ByteArray.getElem_eq_getElem_data]
        simp [execOp, ho, ex, ei, Instr.index, asIntOf, run_underlying hu, h1, hg]
      · exact h.elim
    · exact h.elim
  · exact h.elim

theorem snd_fieldAddr {tb : Tab} (hT : TabOk C.P tb) {s : TypeId} {x : Operand} {f : Nat} (ho : o.op = .fieldAddr s x f) (h : (opFieldAddr tb o.dst s x f).wp C.E (Done C.P K C.E)) : o.wp C.P C.a C.w next Q := by
  unfold opFieldAddr at h
  cases ht : tb s with
  | none => rw [ht] at h; exact h.elim
  | some i =>
    rw [ht] at h
    simp only at h
    cases hst : i.k.isStruct with
    | false => rw [hst] at h; exact h.elim
    | true =>
    rw [hst] at h
    simp only [Bool.not_true, Bool.false_eq_true, if_false] at h
    have hst : i.k = .struct := isStruct_eq hst
    cases hf : i.fields[f]? with
    | none => rw [hf] at h; exact h.elim
    | some off =>
      rw [hf] at h
      have hk := hT s i ht
      replace h := opdR_wp R h
      obtain ⟨d, h, hv⟩ := h
      have hrun : ∀ (b a : Nat), C.a.eval x = .pointer (some ⟨b, a, none⟩) → (execOp C.a.eval o).run C.P C.w = .ok (.value (.pointer (some ⟨b, a + off, none⟩))) C.w := by
        intro b a ex
        have hk := hk.k
        unfold KOk at hk
        rw [hst] at hk
        obtain ⟨fs, hu, _, hfs⟩ := hk
        obtain ⟨y, h1, h2, j, h3, h4, _⟩ := hfs f off hf
        have hs : (Go.sizeOf y.type).run C.P C.w = .ok j.size C.w := by simp [Go.sizeOf, typeInfo, h3]
        simp [execOp, ho, ex, Instr.fieldAt, run_underlying hu, h1, Instr.sureAddr, fieldPlace, hs, h4, h2, add_plain]
      split at h
      · rename_i c k
        obtain ⟨ds, h1, h2, h3⟩ := (hv rfl).cref_inv
        simp only [Rdr.wp] at h
        have e : C.E.ce.getD c none = some ds := getD_some h1
        rw [e] at h
        simp only at h
        split at h
        · rename_i hle
          refine wp_value (w' := C.w) (hrun _ _ h3) (wrS_done R hn (.refl _) h ?_)
          rw [Nat.add_assoc]
          exact .leaf rfl rfl rfl fun p => .cref p c (k + off) ds h1 hle
        · exact h.elim
      · rename_i p a j
        obtain ⟨e, xs, b, o', n, cap, h1, h2, h3, h4⟩ := (hv rfl).eref_inv
        refine wp_value (w' := C.w) (hrun _ _ h4) (wrS_done R hn (.refl _) h ?_)
        rw [Nat.add_assoc]
        exact .leaf rfl rfl rfl fun p' => .eref p' p a (j + off) e xs b o' n cap h1 h2 h3
      · rename_i ds
        obtain ⟨b, o', cs, ce, fr, X, h1, h2, h3, h4, h5, h6⟩ := (hv rfl).rptr_inv
        refine wp_value (w' := C.w) (hrun _ _ h6) (wrS_done R hn (.refl _) h ?_)
        refine .leaf rfl rfl rfl fun p' => .rptr p' (ds.drop off) b (o' + off) cs ce fr (fun j => X (off + j)) h1 h2 ?_ ?_ ?_
        · intro j d hd
          rw [List.getElem?_drop] at hd
          rw [Nat.add_assoc]; exact h3 _ d hd
        · intro j d hd
          rw [List.getElem?_drop] at hd
          exact h4 _ d hd
        · intro j d hd
          rw [List.getElem?_drop] at hd
          exact h5 _ d hd p'
      · exact h.elim

theorem snd_indexAddr {tb : Tab} (hT : TabOk C.P tb) {t : TypeId} {x ix : Operand} (ho : o.op = .indexAddr t x ix) (h : (opIndexAddr tb o.dst t x ix).wp C.E (Done C.P K C.E)) : o.wp C.P C.a C.w next Q := by
  unfold opIndexAddr at h
  split at h
  · rename_i e hk
    have hu := hT.kd_slice hk
    replace h := opdR_wp R h
    obtain ⟨di, h, hvi⟩ := h
    split at h
    · rename_i k n
      have ei := (hvi rfl).v_inv.1
      replace h := opdR_wp R h
      obtain ⟨d, h, hv⟩ := h
      have hrun : ∀ (b a len cap : Nat), C.a.eval x = .slice (some ⟨b, a, none⟩) len cap → 0 ≤ n → n < len → (execOp C.a.eval o).run C.P C.w = .ok (.value (.pointer (some ⟨b, a + n.toNat * C.P.cellsOf e, none⟩))) C.w := by
        intro b a len cap ex h0 h1
        have hs := hT.kd_size hk C.w
        simp [execOp, ho, ex, ei, Instr.indexAt, asIntOf, run_underlying hu, h0, h1, hs, add_plain]
      split at h
      · rename_i p
        rw [leafR_wp] at h
        obtain ⟨ex, e', xs, hl⟩ := (hv rfl).ali_inv
        rw [hl] at h
        obtain ⟨⟨h0, h1, rfl⟩, h⟩ := h
        have hown := R.ownLeaf hl
        rw [← ex] at hown
        generalize hval : C.a.eval x = val at hown
        cases hown with
        | emp => simp at h1; omega
        | row _ _ b o cap cs fr F G X g1 g2 g3 g4 g5 g6 g7 =>
          refine wp_value (w' := C.w) (hrun _ _ _ _ hval h0 h1) (wrS_done R hn (.refl _) h ?_)
          refine .leaf rfl rfl rfl fun p' => ?_
          have := LRel.eref (C := C) p' p n.toNat 0 e' xs b o xs.length cap hl (ex ▸ hval) (by omega)
          simpa using this
      · rename_i p a' b'
        rw [leafR_wp] at h
        obtain ⟨e', xs, hl, hlo, hhi, ex⟩ := (hv rfl).sub_inv
        rw [hl] at h
        obtain ⟨⟨h0, h1, rfl⟩, h⟩ := h
        have hown := R.ownLeaf hl
        generalize hval : C.cv p = val at hown
        cases hown with
        | emp => simp at hhi; omega
        | row _ _ b o cap cs fr F G X g1 g2 g3 g4 g5 g6 g7 =>
          rw [hval] at ex
          simp only [cutV, Option.map_some, add_plain] at ex
          rw [if_neg (by omega)] at ex
          refine wp_value (w' := C.w) (hrun _ _ _ _ ex h0 h1) (wrS_done R hn (.refl _) h ?_)
          refine .leaf rfl rfl rfl fun p' => ?_
          have := LRel.eref (C := C) p' p (a' + n.toNat) 0 e' xs b o xs.length cap hl hval (by omega)
          rw [Nat.add_mul, ← Nat.add_assoc] at this
          simpa using this
      · rename_i e' xs
        obtain ⟨⟨h0, h1, rfl⟩, h⟩ := h
        have hr := (hv rfl).imm_inv
        generalize hval : C.a.eval x = val at hr
        cases hr with
        | emp => simp at h1; omega
        | row _ _ b o cap cs ce fr X g1 g2 g5 g6 g7 g10 g11 g12 =>
          refine wp_value (w' := C.w) (hrun _ _ _ _ hval h0 h1) (wrS_done R hn (.refl _) h ?_)
          have hlt : n.toNat < xs.length := by omega
          have hrow : ∀ j d, ((xs.getD n.toNat []).map T.toD)[j]? = some d → ∃ tt, T.get? xs n.toNat j = some tt ∧ d = tt.toD := by
            intro j d hd
            rw [List.getElem?_map] at hd
            cases hx : (xs.getD n.toNat [])[j]? with
            | none => rw [hx] at hd; simp at hd
            | some tt =>
              rw [hx] at hd
              refine ⟨tt, ?_, by simpa using hd.symm⟩
              unfold T.get?
              rw [List.getElem?_eq_getElem hlt]
              rw [List.getD_eq_getElem?_getD, List.getElem?_eq_getElem hlt] at hx
              simpa using hx
          refine .leaf rfl rfl rfl fun p' => .rptr p' _ b _ cs ce fr (X n.toNat) g1 g2 ?_ ?_ ?_
          · intro j d hd
            obtain ⟨tt, h1, rfl⟩ := hrow j d hd
            refine ⟨g10 _ _ _ h1, ?_⟩
            exact (g11 _ _ _ h1).one
          · intro j d hd
            obtain ⟨tt, h1, rfl⟩ := hrow j d hd
            cases tt <;> rfl
          · intro j d hd
            obtain ⟨tt, h1, rfl⟩ := hrow j d hd
            have := g11 _ _ _ h1
            generalize X n.toNat j = xv at this
            cases tt with
            | v y => cases this with | v _ h => exact .v _ _ h
            | sl e2 ys => exact .imm _ _ _ _ this
      · exact h.elim
    · exact h.elim
  · exact h.elim
end ops
end Go.Proofs.Ytcnogcachboibaa.Fw
