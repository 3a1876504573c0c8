/- Framework, part L: slice expressions, conversions, loads. -/
import Derived.Test.YtcnogcachboibaaFwK
import Derived.Laws.Cells
namespace Go.Proofs.Ytcnogcachboibaa.Fw
open Go
set_option linter.unusedVariables false

theorem extract_ofL (b : ByteArray) (l h : Nat) : b.extract l h = ofL (((toL b).drop l).take (h - l)) := by
  have : (b.extract l h).data.toList = (b.data.toList.drop l).take (h - l) := by
    rw [ByteArray.data_extract, Array.toList_extract, List.extract_eq_take_drop]
  exact congrArg ofL this

theorem boundR_wp {w0 : World} {L : Nat → Nat → Prop} {C : Ctx} (R : Rel w0 L C) {β : Type} {x : Option Operand} {dflt : Nat} {k : Nat → Rdr β} {Q : β → Prop} (h : (boundR x dflt k).wp C.E Q) :
    ∃ n, (k n).wp C.E Q ∧ ((x = none ∧ n = dflt) ∨ ∃ y kd, x = some y ∧ C.a.eval y = .int kd (n : Int)) := by
  unfold boundR at h
  split at h
  · exact ⟨_, h, .inl ⟨rfl, rfl⟩⟩
  · rename_i y
    replace h := opdR_wp R h
    obtain ⟨d, h, hv⟩ := h
    split at h
    · rename_i kd n
      have e := (hv rfl).v_inv.1
      refine ⟨n.toNat, h.2, .inr ⟨y, kd, rfl, ?_⟩⟩
      rw [e, Int.toNat_of_nonneg h.1]
    · exact h.elim

theorem run_bounds {P : Program} {a : Act} {w : World} {isS : Bool} {lo hi : Option Operand} {l h len cap : Nat}
    (hl : (lo = none ∧ l = 0) ∨ ∃ y kd, lo = some y ∧ a.eval y = .int kd (l : Int)) (hh : (hi = none ∧ h = len) ∨ ∃ y kd, hi = some y ∧ a.eval y = .int kd (h : Int))
    (h1 : l ≤ h) (h2 : h ≤ cap) : (Instr.sliceBounds isS len cap (lo.map a.eval) (hi.map a.eval) none).run P w = .ok (l, h, cap) w := by
  have e1 : ∀ kd (n y : Nat) c, n ≤ y → (Instr.sliceBound (.int kd (n : Int)) y c).run P w = .ok n w := by
    intro kd n y c hn
    have : ((n : Int) ≤ (y : Int)) := by omega
    simp [Instr.sliceBound, asIntOf, this]
  rcases hl with ⟨rfl, rfl⟩ | ⟨y, kd, rfl, ey⟩
  · rcases hh with ⟨rfl, rfl⟩ | ⟨z, kz, rfl, ez⟩
    · simp [Instr.sliceBounds]
    · simp [Instr.sliceBounds, ez, e1 kz h cap _ h2]
  · rcases hh with ⟨rfl, rfl⟩ | ⟨z, kz, rfl, ez⟩
    · simp [Instr.sliceBounds, ey, e1 kd l h _ h1]
    · simp [Instr.sliceBounds, ez, ey, e1 kz h cap _ h2, e1 kd l h _ h1]

theorem cutV_run {P : Program} {a : Act} {w : World} {tb : Tab} (hT : TabOk P tb) {t e : TypeId} (ht : tb.kd t = some (.slice e)) {base : Option Addr} {lo hi : Option Operand} {l h len cap : Nat}
    (hl : (lo = none ∧ l = 0) ∨ ∃ y kd, lo = some y ∧ a.eval y = .int kd (l : Int)) (hh : (hi = none ∧ h = len) ∨ ∃ y kd, hi = some y ∧ a.eval y = .int kd (h : Int))
    (h1 : l ≤ h) (h2 : h ≤ cap) : (Instr.sliceAt t (.slice base len cap) (lo.map a.eval) (hi.map a.eval) none).run P w = .ok (cutV (P.cellsOf e) (.slice base len cap) l h) w := by
  have hu := hT.kd_slice ht
  have hs := hT.kd_size ht w
  have hb := run_bounds (P := P) (w := w) (isS := true) hl hh h1 h2
  simp [Instr.sliceAt, run_underlying hu, Instr.slice, hb, hs, cutV]

theorem cutV_cutV {sz : Nat} {base : Option Addr} {len cap lo hi l h : Nat} (h1 : l = 0 ∨ l < hi - lo) (hlo : lo ≤ hi) (hc : hi ≤ cap) (hb : ∀ a, base = some a → a.spot = none) :
    cutV sz (cutV sz (.slice base len cap) lo hi) l h = cutV sz (.slice base len cap) (lo + l) (lo + h) := by
  have hadd : ∀ a : Addr, a.spot = none → (a.add (lo * sz)).add (l * sz) = a.add ((lo + l) * sz) := by
    rintro ⟨b, o, s⟩ hs
    simp only at hs
    subst hs
    rw [add_plain, add_plain, add_plain, Nat.add_mul, Nat.add_assoc]
  have e1 : lo + h - (lo + l) = h - l := by omega
  have e2 : cap - lo - l = cap - (lo + l) := by omega
  by_cases hl0 : l = 0
  · subst hl0
    simp only [cutV, Nat.add_zero, Nat.zero_mul, Nat.sub_zero]
    have e3 : lo + h - lo = h := by omega
    rw [e3]
    congr 1
    split
    · split <;> rfl
    · split
      · omega
      · cases base with
        | none => rfl
        | some a => simp [Addr.add]
  · have hl1 : l < hi - lo := by omega
    have n1 : cap ≠ lo := by omega
    have n2 : cap - lo ≠ l := by omega
    have n3 : cap ≠ lo + l := by omega
    simp only [cutV, if_neg n1, if_neg n2, if_neg n3, e1, e2]
    congr 1
    cases base with
    | none => rfl
    | some a => simp [hadd a (hb a rfl)]

theorem OwnT.spot {P : Program} {w : World} {e : TypeId} {xs : List (List T)} {base : Option Addr} {n cap : Nat} {F : Nat → Prop} (h : OwnT P w (.sl e xs) (.slice base n cap) F) : ∀ a, base = some a → a.spot = none := by
  intro a ha
  cases h with
  | emp => cases ha
  | row => injection ha with ha; subst ha; rfl

section ops
variable {w0 : World} {L : Nat → Nat → Prop} {C : Ctx} (R : Rel w0 L C) {np : Nat} {K : Env → Prop} {next : Act → World → Prop} (hn : Nxt w0 L np C K next) {Q : Exit → Act → World → Prop} {o : Oper}
include R hn

theorem snd_slice {tb : Tab} (hT : TabOk C.P tb) {t : TypeId} {x : Operand} {lo hi mx : Option Operand} (ho : o.op = .slice t x lo hi mx) (h : (opSlice tb o.dst t x lo hi mx).wp C.E (Done C.P K C.E)) : o.wp C.P C.a C.w next Q := by
  unfold opSlice at h
  split at h
  · exact h.elim
  · replace h := opdR_wp R h
    obtain ⟨d, h, hv⟩ := h
    split at h
    · rename_i b hk
      have hu := hT.kd_str hk
      obtain ⟨ex, hs⟩ := (hv rfl).v_inv
      replace h := boundR_wp R h
      obtain ⟨l, h, hl⟩ := h
      replace h := boundR_wp R h
      obtain ⟨m, h, hm⟩ := h
      obtain ⟨⟨h1, h2⟩, h⟩ := h
      rw [toL_length] at hm h2
      refine wp_value (w' := C.w) (v := vS (((toL b).drop l).take (m - l))) ?_ (wrS_done R hn (.refl _) h (.v ?_))
      · have hb := run_bounds (P := C.P) (w := C.w) (isS := false) (cap := b.size) hl hm h1 h2
        simp [execOp, ho, ex, Instr.sliceAt, run_underlying hu, Instr.slice, hb, extract_ofL]
      · simp only [scal, decide_eq_true_eq] at hs ⊢
        have : (ofL (((toL b).drop l).take (m - l))).size ≤ b.size := by
          show (((toL b).drop l).take (m - l)).length ≤ _
          simp only [List.length_take, List.length_drop, toL_length]; omega
        omega
    · rename_i e p hk
      obtain ⟨ex, e', xs, hl'⟩ := (hv rfl).ali_inv
      rw [leafR_wp, hl'] at h
      replace h := boundR_wp R h
      obtain ⟨l, h, hl⟩ := h
      replace h := boundR_wp R h
      obtain ⟨m, h, hm⟩ := h
      obtain ⟨⟨h1, h2, rfl⟩, h⟩ := h
      obtain ⟨base, cap, hval, hc, hc2⟩ := (R.ownLeaf hl').slice
      rw [hval] at ex
      refine wp_value (w' := C.w) (v := cutV (C.P.cellsOf e') (C.cv p) l m) ?_ (wrS_done R hn (.refl _) h ?_)
      · rw [hval]
        have hr := cutV_run (P := C.P) (a := C.a) (w := C.w) hT hk (base := base) (cap := cap) hl hm h1 (by omega)
        simp [execOp, ho, ex, hr]
      · exact .leaf rfl (by rw [hval]; rfl) rfl fun p' => .sub p' p l m e' xs hl' h1 h2
    · rename_i e p a b hk
      obtain ⟨e', xs, hl', g1, g2, ex⟩ := (hv rfl).sub_inv
      rw [leafR_wp, hl'] at h
      replace h := boundR_wp R h
      obtain ⟨l, h, hl⟩ := h
      replace h := boundR_wp R h
      obtain ⟨m, h, hm⟩ := h
      obtain ⟨⟨h1, h2, h3, rfl⟩, h⟩ := h
      have hown := R.ownLeaf hl'
      obtain ⟨base, cap, hval, hc, hc2⟩ := hown.slice
      rw [hval] at ex hown
      have key := cutV_cutV (sz := C.P.cellsOf e') (len := xs.length) (h := m) h3 g1 (by omega : b ≤ cap) hown.spot
      refine wp_value (w' := C.w) (v := cutV (C.P.cellsOf e') (C.cv p) (a + l) (a + m)) ?_ (wrS_done R hn (.refl _) h ?_)
      · rw [hval, ← key]
        have hr := fun w => cutV_run (P := C.P) (a := C.a) (w := w) hT hk (base := if cap = a then base else base.map (·.add (a * C.P.cellsOf e'))) (len := b - a) (cap := cap - a) hl hm h1 (by omega)
        simp only [cutV] at ex hr ⊢
        simp [execOp, ho, ex, hr]
      · exact .leaf rfl (by rw [hval]; rfl) rfl fun p' => .sub p' p _ _ e' xs hl' (by omega) (by omega)
    · rename_i e e' xs hk
      have hr := (hv rfl).imm_inv
      replace h := boundR_wp R h
      obtain ⟨l, h, hl⟩ := h
      replace h := boundR_wp R h
      obtain ⟨m, h, hm⟩ := h
      obtain ⟨⟨h1, h2, rfl⟩, h⟩ := h
      have hcut := RdT.cut hr h1 h2
      obtain ⟨base, cap, hval, hc, hb, hc2, _⟩ := hr.slice
      have hcap : m ≤ cap ∨ xs = [] := by
        by_cases hx : xs = []
        · exact .inr hx
        · exact .inl (Nat.le_trans h2 (hc2 (hb hx)))
      have hmc : m ≤ cap := by
        rcases hcap with h | h
        · exact h
        · subst h; simp at h2; omega
      refine wp_value (w' := C.w) (v := cutV (C.P.cellsOf e') (C.a.eval x) l m) ?_ (wrS_done R hn (.refl _) h ?_)
      · rw [hval]
        have hr := cutV_run (P := C.P) (a := C.a) (w := C.w) hT hk (base := base) (cap := cap) hl hm h1 hmc
        simp [execOp, ho, hval, hr]
      · exact .leaf rfl (by rw [hval]; rfl) rfl fun p' => .imm p' _ _ _ hcut
    · rename_i e hk
      have ex := (hv rfl).nil_inv
      replace h := boundR_wp R h
      obtain ⟨l, h, hl⟩ := h
      replace h := boundR_wp R h
      obtain ⟨m, h, hm⟩ := h
      obtain ⟨⟨rfl, rfl⟩, h⟩ := h
      refine wp_value (w' := C.w) (v := .slice none 0 0) ?_ (wrS_done R hn (.refl _) h (.leaf rfl rfl rfl fun p => .nil p))
      have hr := cutV_run (P := C.P) (a := C.a) (w := C.w) hT hk (base := none) (cap := 0) hl hm (Nat.le_refl _) (Nat.le_refl _)
      simp [execOp, ho, ex, hr, cutV]
    · exact h.elim
end ops

/-! ### loads -/
theorem run_load_cells {P : Program} {w : World} {t : TypeId} {i : TI} (hT : TIok P t i) {a : Addr} (cs : List Value) (hl : cs.length = i.size) (hc : ∀ j v, cs[j]? = some v → w.cell? (a.add j) = some v) :
    (Instr.loadAt t (.pointer (some a))).run P w = .ok (if i.k.isStruct then .agg cs.toArray else cs.getD 0 undef) w := by
  have hload := run_loadCells_list (P := P) w a cs hc
  have hs := hT.sizeOf w
  have one : ∀ d, P.underlying t = some d → (match d with | .struct _ | .array _ _ => False | _ => True) → i.k.isStruct = false → (Instr.loadAt t (.pointer (some a))).run P w = .ok (if i.k.isStruct then .agg cs.toArray else cs.getD 0 undef) w := by
    intro d hu hd hk
    have h1 := hT.nag hk
    have h0 := hc 0 (cs.getD 0 undef) (by rw [List.getD_eq_getElem?_getD, List.getElem?_eq_getElem (by omega)]; rfl)
    have ea : a.add 0 = a := by simp [Addr.add]
    rw [ea] at h0
    have hagg : (isAgg t).run P w = .ok false w := by
      simp only [isAgg, Sem.run_bind, run_underlying hu, Result.andThen_ok]
      cases d <;> first | rfl | exact hd.elim
    simp [Instr.loadAt, Instr.sureAddr, loadVar, hagg, h0, hk]
  have hk := hT.k
  unfold KOk at hk
  split at hk <;> rename_i hik
  · exact one _ hk trivial (by rw [hik]; rfl)
  · exact one _ hk trivial (by rw [hik]; rfl)
  · exact one _ hk trivial (by rw [hik]; rfl)
  · exact one _ hk trivial (by rw [hik]; rfl)
  · exact one _ hk.1 trivial (by rw [hik]; rfl)
  · obtain ⟨fs, hu, _⟩ := hk
    have hagg : (isAgg t).run P w = .ok true w := by simp [isAgg, run_underlying hu]
    rw [← hl] at hs
    simp [Instr.loadAt, Instr.sureAddr, loadVar, hagg, hik, K.isStruct, hs, hload]
  · exact one _ hk trivial (by rw [hik]; rfl)
  · obtain ⟨d, hu, hd⟩ := hk
    exact one d hu hd (by rw [hik]; rfl)

theorem mkD_rel {C : Ctx} {P : Program} {t : TypeId} {i : TI} (hT : TIok P t i) {ds : List D} {cs : List Value} (hl : ds.length = i.size) (hc : cs.length = i.size)
    (h : ∀ (j : Nat) (d : D), ds[j]? = some d → d.leafy = true ∧ d.isOwn = false ∧ one (cs.getD j undef) = true ∧ ∀ p, LRel C p d (cs.getD j undef)) :
    VRel C (mkD i.k ds) (if i.k.isStruct then .agg cs.toArray else cs.getD 0 undef) := by
  unfold mkD
  cases hs : i.k.isStruct with
  | true =>
    simp only [if_true]
    refine .agg (by simp [hl, hc]) (by rw [hl]; exact hT.small) fun j d hd => ?_
    have := h j d hd
    rw [← arr_list_getD]
    simpa using this
  | false =>
    have h1 := hT.nag hs
    simp only [Bool.false_eq_true, if_false]
    have hd : ds[0]? = some (ds.getD 0 .dead) := by
      rw [List.getD_eq_getElem?_getD, List.getElem?_eq_getElem (by omega)]; rfl
    obtain ⟨a, b, c, d⟩ := h 0 _ hd
    exact .leaf a c b d

theorem getD_range_map {f : Nat → Value} {n j : Nat} (h : j < n) : ((List.range n).map f).getD j undef = f j := by
  rw [List.getD_eq_getElem?_getD, List.getElem?_map, List.getElem?_range h]; rfl

theorem toEs_get (p : Lf) (i : Nat) : ∀ (ts : List T) (j k : Nat), (toEs p i j ts)[k]? = (ts[k]?).map (T.toE p i (j + k))
  | [], j, k => by simp [toEs]
  | t :: ts, j, 0 => by simp [toEs]
  | t :: ts, j, k + 1 => by
    simp only [toEs, List.getElem?_cons_succ]
    rw [toEs_get p i ts (j + 1) k]
    congr 2; omega
theorem toEs_length (p : Lf) (i : Nat) : ∀ (ts : List T) (j : Nat), (toEs p i j ts).length = ts.length
  | [], _ => rfl
  | t :: ts, j => by simp [toEs, toEs_length p i ts]

theorem cell_of {w : World} {b o : Nat} {cs : Array Value} {e : TypeId} {fr : Nat × Nat} (h : w.heap[b]? = some (.cells cs e fr)) : w.cell? ⟨b, o, none⟩ = cs[o]? := by
  simp [World.cell?, h]
theorem getD_get? {cs : Array Value} {o : Nat} (h : o < cs.size) : cs[o]? = some (cs.getD o undef) := by simp [Array.getD, h]

section ops
variable {w0 : World} {L : Nat → Nat → Prop} {C : Ctx} (R : Rel w0 L C) {np : Nat} {K : Env → Prop} {next : Act → World → Prop} (hn : Nxt w0 L np C K next) {Q : Exit → Act → World → Prop} {o : Oper}
include R hn

theorem snd_load {tb : Tab} (hT : TabOk C.P tb) {t : TypeId} {x : Operand} (ho : o.op = .load t x) (h : (opLoad tb o.dst t x).wp C.E (Done C.P K C.E)) : o.wp C.P C.a C.w next Q := by
  unfold opLoad at h
  cases ht : tb t with
  | none => rw [ht] at h; exact h.elim
  | some i =>
    rw [ht] at h
    have hk := hT t i ht
    replace h := opdR_wp R h
    obtain ⟨d, h, hv⟩ := h
    have hrun : ∀ (b a : Nat) (cs : List Value), C.a.eval x = .pointer (some ⟨b, a, none⟩) → cs.length = i.size → (∀ j v, cs[j]? = some v → C.w.cell? ⟨b, a + j, none⟩ = some v) →
        (execOp C.a.eval o).run C.P C.w = .ok (.value (if i.k.isStruct then .agg cs.toArray else cs.getD 0 undef)) C.w := by
      intro b a cs ex hl hc
      have := run_load_cells hk (a := ⟨b, a, none⟩) cs hl (fun j v hj => by rw [add_plain]; exact hc j v hj)
      simp only [execOp, ho, ex, bind_pure_comp, Sem.run_map, this, Result.andThen_ok]
    split at h
    · rename_i c k
      obtain ⟨ds, h1, h2, h3⟩ := (hv rfl).cref_inv
      simp only [Rdr.wp] at h
      have e : C.E.ce.getD c none = some ds := getD_some h1
      rw [e] at h
      simp only at h
      split at h
      · rename_i hle
        obtain ⟨cs, ce, fr, g1, g2, g3, g4⟩ := (R.cell c ds h1).out
        refine wp_value (w' := C.w) (hrun _ _ ((List.range i.size).map fun j => cs.getD ((C.loc c).2 + (k + j)) undef) h3 (by simp) ?_) (wrS_done R hn (.refl _) h ?_)
        · intro j v hj
          rw [List.getElem?_map] at hj
          have hj' : j < i.size := by
            by_cases hlt : j < i.size
            · exact hlt
            · rw [List.getElem?_eq_none (by simpa using hlt)] at hj; simp at hj
          rw [List.getElem?_range hj'] at hj
          simp only [Option.map_some, Option.some.injEq] at hj
          rw [cell_of g1, ← hj, Nat.add_assoc]
          exact getD_get? (by omega)
        · refine mkD_rel hk (by rw [mvList_length]; simp; omega) (by simp) fun j d hd => ?_
          rw [mvList_get] at hd
          have hj' : j < i.size := by
            by_cases hlt : j < i.size
            · exact hlt
            · rw [List.getElem?_eq_none (by simp; omega)] at hd; simp at hd
          rw [getD_range_map hj']
          rw [List.getElem?_take_of_lt hj', List.getElem?_drop] at hd
          cases hx : ds[k + j]? with
          | none => rw [hx] at hd; simp at hd
          | some y =>
            rw [hx] at hd
            simp only [Option.map_some, Option.some.injEq] at hd
            subst hd
            obtain ⟨a1, a2, a3⟩ := g4 (k + j) y hx
            have ec : C.cv ⟨true, c, k + j⟩ = cs.getD ((C.loc c).2 + (k + j)) undef := cell_cv g1
            rw [← ec] at a2 a3 ⊢
            obtain ⟨b1, b2⟩ := mvLeaf_rel (by rw [leaf_cell _ _ _ _ h1]; exact getD_some hx) a3
            exact ⟨mvLeaf_leafy a1, b1, a2, b2⟩
      · exact h.elim
    · rename_i p a j
      obtain ⟨e, xs, b, o', n, cap, h1, h2, h3, h4⟩ := (hv rfl).eref_inv
      rw [leafR_wp, h1] at h
      simp only at h
      split at h
      · rename_i hle
        have hown := R.ownLeaf h1
        rw [h2] at hown
        cases hown with
        | row _ _ _ _ _ cs fr F G X g1 g2 g3 g4 g5 g6 g7 g8 g9 g10 g11 g12 =>
        have hr : xs[a]? = some (xs.getD a []) := by rw [List.getD_eq_getElem?_getD, List.getElem?_eq_getElem h3]; rfl
        have hget : ∀ k tt, (xs.getD a [])[k]? = some tt → T.get? xs a k = some tt := by
          intro k tt hk; unfold T.get?; rw [hr]; exact hk
        refine wp_value (w' := C.w) (hrun _ _ ((List.range i.size).map fun k => X a (j + k)) h4 (by simp) ?_) (wrS_done R hn (.refl _) h ?_)
        · intro k v hk'
          rw [List.getElem?_map] at hk'
          have hj' : k < i.size := by
            by_cases hlt : k < i.size
            · exact hlt
            · rw [List.getElem?_eq_none (by simpa using hlt)] at hk'; simp at hk'
          rw [List.getElem?_range hj'] at hk'
          simp only [Option.map_some, Option.some.injEq] at hk'
          rw [cell_of g1, ← hk', Nat.add_assoc _ j k]
          have hlt : j + k < (xs.getD a []).length := by omega
          exact g10 a (j + k) _ (hget _ _ (List.getElem?_eq_getElem hlt))
        · refine mkD_rel hk (by rw [toEs_length, List.length_take, List.length_drop]; omega) (by simp) fun k d hd => ?_
          rw [toEs_get] at hd
          have hj' : k < i.size := by
            by_cases hlt : k < i.size
            · exact hlt
            · rw [List.getElem?_eq_none (by rw [List.length_take, List.length_drop]; omega)] at hd; simp at hd
          rw [getD_range_map hj']
          rw [List.getElem?_take_of_lt hj', List.getElem?_drop] at hd
          cases hx : (xs.getD a [])[j + k]? with
          | none => rw [hx] at hd; simp at hd
          | some y =>
            rw [hx] at hd
            simp only [Option.map_some, Option.some.injEq] at hd
            subst hd
            have q1 := hget _ _ hx
            have q2 := g11 _ _ _ q1
            have q3 := g10 _ _ _ q1
            generalize X a (j + k) = xv at q2 q3
            cases y with
            | v z =>
              cases q2 with
              | v => exact ⟨rfl, rfl, scal_one (by assumption), fun p => .v p _ (by assumption)⟩
            | sl e2 ys =>
              refine ⟨rfl, rfl, (q2.rd (S := fun _ => True) fun _ _ => trivial).one, fun p' => ?_⟩
              exact .ela p' p a (j + k) e xs e2 ys b o' xs.length cap xv h1 q1 h2 (by rw [cell_of g1]; exact q3)
      · exact h.elim
    · rename_i ds
      obtain ⟨b, o', cs, ce, fr, X, h1, h2, h3, h4, h5, h6⟩ := (hv rfl).rptr_inv
      split at h
      · rename_i hle
        refine wp_value (w' := C.w) (hrun _ _ ((List.range i.size).map X) h6 (by simp) ?_) (wrS_done R hn (.refl _) h ?_)
        · intro j v hj
          rw [List.getElem?_map] at hj
          have hj' : j < i.size := by
            by_cases hlt : j < i.size
            · exact hlt
            · rw [List.getElem?_eq_none (by simpa using hlt)] at hj; simp at hj
          rw [List.getElem?_range hj'] at hj
          simp only [Option.map_some, Option.some.injEq] at hj
          rw [cell_of h1, ← hj]
          exact (h3 j _ (List.getElem?_eq_getElem (by omega))).1
        · refine mkD_rel hk (by simp; omega) (by simp) fun j d hd => ?_
          have hj' : j < i.size := by
            by_cases hlt : j < i.size
            · exact hlt
            · rw [List.getElem?_eq_none (by simp; omega)] at hd; simp at hd
          rw [getD_range_map hj']
          rw [List.getElem?_take_of_lt hj'] at hd
          have hp := h4 j d hd
          exact ⟨by cases d <;> first | rfl | simp [D.pure] at hp, by cases d <;> first | rfl | simp [D.pure] at hp, (h3 j d hd).2, h5 j d hd⟩
      · exact h.elim
    · exact h.elim
end ops
end Go.Proofs.Ytcnogcachboibaa.Fw
