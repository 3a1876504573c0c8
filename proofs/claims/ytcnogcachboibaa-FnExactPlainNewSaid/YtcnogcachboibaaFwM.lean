/- Framework, part M: structs and slices built, made, converted. -/
import Derived.Test.YtcnogcachboibaaFwL
import Derived.Laws.MakeOwn
namespace Go.Proofs.Ytcnogcachboibaa.Fw
open Go
set_option linter.unusedVariables false

/-- Leaves and cells, side by side. -/
def Lined (C : Ctx) (ds : List D) (cs : Array Value) : Prop :=
  ds.length = cs.size ∧ ∀ (j : Nat) (d : D), ds[j]? = some d → d.leafy = true ∧ d.isOwn = false ∧ one (cs.getD j undef) = true ∧ ∀ p, LRel C p d (cs.getD j undef)

theorem setRange_length {α : Type} : ∀ (xs : List α) (l : List α) (k : Nat), (setRange l k xs).length = l.length
  | [], _, _ => rfl
  | x :: xs, l, k => by simp [setRange, setRange_length xs]
theorem setRange_get {α : Type} : ∀ (xs : List α) (l : List α) (k j : Nat), k + xs.length ≤ l.length → (setRange l k xs)[j]? = if k ≤ j ∧ j < k + xs.length then xs[j - k]? else l[j]?
  | [], l, k, j, _ => by simp [setRange]; intro h1 h2; omega
  | x :: xs, l, k, j, h => by
    simp only [setRange, List.length_cons] at h ⊢
    rw [setRange_get xs (l.set k x) (k + 1) j (by simp; omega)]
    by_cases h1 : k + 1 ≤ j ∧ j < k + 1 + xs.length
    · rw [if_pos h1, if_pos (by omega)]
      have : j - k = j - (k + 1) + 1 := by omega
      rw [this, List.getElem?_cons_succ]
    · rw [if_neg h1]
      by_cases h2 : j = k
      · subst h2
        rw [if_pos (by omega), List.getElem?_set_self (by omega)]
        simp
      · rw [if_neg (by omega), List.getElem?_set_ne (by omega)]

/-- What fill does with one part. -/
def putCells (vs : List Value) (off : Nat) (cs : Array Value) : Array Value := (vs.zipIdx).foldl (fun cs (c, j) => cs.setIfInBounds (off + j) c) cs
theorem putFrom (off : Nat) : ∀ (vs : List Value) (s : Nat) (cs : Array Value), off + s + vs.length ≤ cs.size →
    ((vs.zipIdx s).foldl (fun cs (c, j) => cs.setIfInBounds (off + j) c) cs).size = cs.size ∧
    ∀ j, ((vs.zipIdx s).foldl (fun cs (c, j) => cs.setIfInBounds (off + j) c) cs)[j]? = if off + s ≤ j ∧ j < off + s + vs.length then vs[j - (off + s)]? else cs[j]?
  | [], s, cs, _ => by refine ⟨rfl, fun j => ?_⟩; rw [if_neg (by simp only [List.length_nil]; omega)]; rfl
  | v :: vs, s, cs, h => by
    simp only [List.length_cons] at h
    obtain ⟨h1, h2⟩ := putFrom off vs (s + 1) (cs.setIfInBounds (off + s) v) (by simp; omega)
    simp only [List.zipIdx_cons, List.foldl_cons]
    refine ⟨by rw [h1]; simp, fun j => ?_⟩
    rw [h2 j]
    by_cases a : off + (s + 1) ≤ j ∧ j < off + (s + 1) + vs.length
    · rw [if_pos a, if_pos (by simp; omega)]
      have : j - (off + s) = j - (off + (s + 1)) + 1 := by omega
      rw [this, List.getElem?_cons_succ]
    · rw [if_neg a]
      by_cases b : j = off + s
      · subst b
        rw [if_pos (by simp), Array.getElem?_setIfInBounds_self_of_lt (by omega)]
        simp
      · rw [if_neg (by simp; omega), Array.getElem?_setIfInBounds_ne (by omega)]

theorem arrGetD {cs : Array Value} {j : Nat} : cs.getD j undef = (cs[j]?).getD undef := by
  rw [Array.getD_eq_getD_getElem?]
theorem lstGetD {cs : List Value} {j : Nat} : cs.getD j undef = (cs[j]?).getD undef := List.getD_eq_getElem?_getD ..

theorem Lined.put {C : Ctx} {ds : List D} {cs : Array Value} (h : Lined C ds cs) {xs : List D} {vs : Array Value} (hx : Lined C xs vs) {off : Nat} (hle : off + xs.length ≤ ds.length) :
    Lined C (setRange ds off xs) (vs.zipIdx.foldl (fun cs (c, j) => cs.setIfInBounds (off + j) c) cs) := by
  obtain ⟨a1, a2⟩ := h
  obtain ⟨b1, b2⟩ := hx
  have e : vs.zipIdx.foldl (fun cs (c, j) => cs.setIfInBounds (off + j) c) cs = (vs.toList.zipIdx 0).foldl (fun cs (c, j) => cs.setIfInBounds (off + j) c) cs := by
    rw [← Array.foldl_toList, Array.toList_zipIdx]
  have hvs : vs.toList.length = xs.length := by simp [b1]
  obtain ⟨p1, p2⟩ := putFrom off vs.toList 0 cs (by rw [hvs]; omega)
  rw [e]
  refine ⟨by rw [setRange_length, p1, a1], fun j d hd => ?_⟩
  rw [setRange_get _ _ _ _ hle] at hd
  have hj := p2 j
  rw [arrGetD, hj]
  simp only [Nat.add_zero, hvs]
  by_cases hr : off ≤ j ∧ j < off + xs.length
  · rw [if_pos hr] at hd ⊢
    have := b2 _ d hd
    rw [← arr_list_getD, lstGetD] at this
    exact this
  · rw [if_neg hr] at hd ⊢
    have := a2 _ d hd
    rw [arrGetD] at this
    exact this

theorem VRel.lined {C : Ctx} {d : D} {v : Value} (h : VRel C d v) (ht : d.isTup = false) (hd : d ≠ .dead) : Lined C d.leaves1 v.cells := by
  by_cases hl : d.leafy = true
  · obtain ⟨h1, h2⟩ := h.lf hl hd
    have e1 : v.cells = #[v] := by cases v <;> first | rfl | simp [one] at h2
    rw [leafy_leaves1 hl, e1]
    have ho : d.isOwn = false := by
      have := h.1
      cases d <;> first | rfl | (simp [D.anyOwn, D.comps, D.leaves1, D.isOwn] at this)
    refine ⟨rfl, fun j x hx => ?_⟩
    cases j with
    | zero => simp at hx; subst hx; exact ⟨hl, ho, h2, fun p => h1.any ho p⟩
    | succ j => simp at hx
  · cases d <;> first | (simp [D.leafy] at hl; done) | (simp [D.isTup] at ht; done) | skip
    rename_i ds
    obtain ⟨vs, rfl, a, b, c⟩ := h.agg_inv
    exact ⟨a, c⟩

section ops
variable {w0 : World} {L : Nat → Nat → Prop} {C : Ctx} (R : Rel w0 L C)
include R

theorem partsR_wp {K : List D → Rdr Stp} {Q : Stp → Prop} {place : Nat → Option (Nat × Nat)} : ∀ (ps : List (Nat × Operand)) (qs : List (Nat × Nat × Operand)) (ds : List D) (cs : Array Value),
    qs.length = ps.length → (∀ (j : Nat) (p : Nat × Operand) (q : Nat × Nat × Operand), ps[j]? = some p → qs[j]? = some q → q.2.2 = p.2 ∧ place p.1 = some (q.1, q.2.1)) → Lined C ds cs → (partsR ds qs K).wp C.E Q →
    ∃ ds' cs', (K ds').wp C.E Q ∧ Lined C ds' cs' ∧ Instr.fill place cs (ps.map fun p => (p.1, C.a.eval p.2)) = some cs' ∧ ds'.length = ds.length
  | [], [], ds, cs, _, _, hl, h => ⟨ds, cs, h, hl, rfl, rfl⟩
  | [], q :: qs, ds, cs, h, _, _, _ => by simp at h
  | p :: ps, [], ds, cs, h, _, _, _ => by simp at h
  | p :: ps, (off, n, x) :: qs, ds, cs, hlen, hp, hl, h => by
    simp only [partsR] at h
    replace h := opdR_wp R h
    obtain ⟨d, h, hv⟩ := h
    split at h
    · exact h.elim
    · rename_i hcond
      simp only [Bool.or_eq_true, decide_eq_true_eq, bne_iff_ne, ne_eq, not_or, Bool.not_eq_true, Decidable.not_not] at hcond
      obtain ⟨⟨⟨c1, c0⟩, c2⟩, c3⟩ := hcond
      obtain ⟨e1, e2⟩ := hp 0 p (off, n, x) rfl rfl
      simp only at e1 e2
      subst e1
      have hv := hv c1
      have hdd : d ≠ .dead := by rintro rfl; simp [D.isDead] at c0
      have hx := hv.lined c1 hdd
      have h2 := hl.put hx (off := off) (by omega)
      obtain ⟨ds', cs', k1, k2, k3, k4⟩ := partsR_wp ps qs _ _ (by simpa using hlen) (fun j p' q' a b => hp (j + 1) p' q' (by simpa using a) (by simpa using b)) h2 h
      refine ⟨ds', cs', k1, k2, ?_, by rw [k4, setRange_length]⟩
      simp only [List.map_cons, Instr.fill, e2]
      rw [if_neg]
      · exact k3
      · have := hx.1
        have := hl.1
        simp only [ne_eq, Bool.or_eq_true, decide_eq_true_eq, not_or, Decidable.not_not]
        omega

variable {np : Nat} {K : Env → Prop} {next : Act → World → Prop} (hn : Nxt w0 L np C K next) {Q : Exit → Act → World → Prop} {o : Oper}
include hn

theorem snd_build {tb : Tab} (hT : TabOk C.P tb) {t : TypeId} {ps : Array (Nat × Operand)} (ho : o.op = .build t ps) (h : (opBuild tb o.dst t ps.toList).wp C.E (Done C.P K C.E)) : o.wp C.P C.a C.w next Q := by
  unfold opBuild at h
  cases ht : tb t with
  | none => rw [ht] at h; exact h.elim
  | some i =>
    rw [ht] at h
    have hi := hT t i ht
    simp only at h
    cases hst : i.k.isStruct with
    | false => rw [hst] at h; exact h.elim
    | true =>
    rw [hst] at h
    simp only [if_true] at h
    have hk := hi.k
    unfold KOk at hk
    rw [isStruct_eq hst] at hk
    obtain ⟨fs, hu, hall, hfs⟩ := hk
    obtain ⟨j, z, i1, i2, i3, i4, i5, i6, i7⟩ := hi.info
    have hpl : ∃ pl : List (Nat × Nat), fs.toList.mapM (fun f => (C.P.info? f.type).map fun i => (f.offset, i.size)) = some pl ∧ ∀ (f : Nat) (x : Field) (j : TypeInfo), fs[f]? = some x → C.P.info? x.type = some j → pl[f]? = some (x.offset, j.size) := by
      have : ∀ l : List Field, (∀ y, y ∈ l → (C.P.info? y.type).isSome = true) → ∃ pl : List (Nat × Nat), l.mapM (fun f => (C.P.info? f.type).map fun i => (f.offset, i.size)) = some pl ∧ ∀ (f : Nat) (x : Field) (j : TypeInfo), l[f]? = some x → C.P.info? x.type = some j → pl[f]? = some (x.offset, j.size) := by
        intro l
        induction l with
        | nil => intro _; exact ⟨[], rfl, fun f x j hx => by simp at hx⟩
        | cons y l ih =>
          intro hy
          obtain ⟨pl, h1, h2⟩ := ih (fun y' hy' => hy y' (List.mem_cons_of_mem _ hy'))
          have := hy y (List.mem_cons_self ..)
          cases hj : C.P.info? y.type with
          | none => rw [hj] at this; simp at this
          | some jj =>
            refine ⟨(y.offset, jj.size) :: pl, by simp [List.mapM_cons, hj, h1], fun f x j hx hxj => ?_⟩
            cases f with
            | zero => simp at hx; subst hx; rw [hj] at hxj; injection hxj with hxj; subst hxj; rfl
            | succ f => simpa using h2 f x j (by simpa using hx) hxj
      obtain ⟨pl, h1, h2⟩ := this fs.toList hall
      exact ⟨pl, h1, fun f x j hx => h2 f x j (by simpa using hx)⟩
    obtain ⟨pl, hp1, hp2⟩ := hpl
    split at h
    · rename_i qs hqs
      have hq : ∀ (ps : List (Nat × Operand)) (qs : List (Nat × Nat × Operand)), places i i.fsize ps = some qs → qs.length = ps.length ∧ ∀ (j : Nat) (p : Nat × Operand) (q : Nat × Nat × Operand), ps[j]? = some p → qs[j]? = some q → q.2.2 = p.2 ∧ pl.toArray[p.1]? = some (q.1, q.2.1) := by
        intro ps
        induction ps with
        | nil => intro qs hq; simp [places] at hq; subst hq; exact ⟨rfl, fun j p q hp => by simp at hp⟩
        | cons p ps ih =>
          intro qs hq
          obtain ⟨f, x⟩ := p
          simp only [places] at hq
          cases ho : i.fields[f]? with
          | none => rw [ho] at hq; simp at hq
          | some off =>
            cases hr : places i i.fsize ps with
            | none => rw [ho, hr] at hq; simp at hq
            | some r =>
              rw [ho, hr] at hq
              simp only [Option.some.injEq] at hq
              subst hq
              obtain ⟨ih1, ih2⟩ := ih r hr
              refine ⟨by simp [ih1], fun j p q hp hq => ?_⟩
              cases j with
              | zero =>
                simp at hp hq
                subst hp; subst hq
                obtain ⟨y, h1, h2, jj, h3, h4, h5⟩ := hfs f off ho
                have := hp2 f y jj h1 h3
                exact ⟨rfl, by simpa [h2, h5] using this⟩
              | succ j => exact ih2 j p q (by simpa using hp) (by simpa using hq)
      obtain ⟨q1, q2⟩ := hq ps.toList qs hqs
      have hz : Lined C i.zero z.cells := by
        rw [i6]
        refine ⟨by simp, fun j d hd => ?_⟩
        rw [List.getElem?_map] at hd
        cases hx : z.cells.toList[j]? with
        | none => rw [hx] at hd; simp at hd
        | some y =>
          rw [hx] at hd
          simp only [Option.map_some, Option.some.injEq] at hd
          subst hd
          rw [← arr_list_getD, getD_some hx]
          have := List.all_eq_true.1 i7 y (List.mem_of_getElem? hx)
          obtain ⟨a, b, c⟩ := constLeaf_cases y this
          exact ⟨a, b, this, fun p => c C p⟩
      obtain ⟨ds', cs', k1, k2, k3, k4⟩ := partsR_wp R (place := (pl.toArray[·]?)) ps.toList qs i.zero z.cells q1 q2 hz h
      have hb : C.P.built t ((ps.map fun p => (p.1, C.a.eval p.2)).toList) = some cs' := by
        unfold Program.built
        rw [i1, hu]
        simp only [i4, hp1]
        rw [Array.toList_map]
        exact k3
      refine wp_value (w' := C.w) (v := .agg cs') ?_ (wrS_done R hn (.refl _) k1 (.agg k2.1 ?_ k2.2))
      · have := run_build C.w t (ps.map fun p => (p.1, C.a.eval p.2)) cs' hb
        simp only [execOp, ho, bind_pure_comp, Sem.run_map]
        rw [this]; rfl
      · rw [k4, i6]; simp; rw [i5]; exact hi.small
    · exact h.elim
end ops
end Go.Proofs.Ytcnogcachboibaa.Fw
