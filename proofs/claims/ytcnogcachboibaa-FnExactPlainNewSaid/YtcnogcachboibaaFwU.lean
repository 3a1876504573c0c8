/- Framework, part U: append. -/
import Derived.Test.YtcnogcachboibaaFwT
import Derived.Deep.Upon
namespace Go.Proofs.Ytcnogcachboibaa.Fw
open Go
set_option linter.unusedVariables false

theorem flat_cells {P : Program} {w : World} {S : Nat → Prop} {e : TypeId} {ys : List (List T)} {x : Value} (h : RdT P w S (.sl e ys) x) (hfl : flatP P e = true) (hsz : 0 < P.cellsOf e) :
    ∃ (base : Option Addr) (cap : Nat) (news : List Value), x = .slice base ys.length cap ∧ news.length = ys.length * P.cellsOf e ∧ (base = none → ys = []) ∧ (∀ a, base = some a → ∀ (j : Nat) (u : Value), news[j]? = some u → w.cell? (a.add j) = some u) ∧ (∀ u ∈ news, one u = true) ∧
      (∀ i k t, T.get? ys i k = some t → ∃ v, news[i * P.cellsOf e + k]? = some v ∧ t = .v v ∧ scal v = true) ∧ (∀ (i : Nat) (r : List T), ys[i]? = some r → r.length = P.cellsOf e) := by
  cases h with
  | emp _ base cap hc => exact ⟨base, cap, [], rfl, by simp, fun _ => rfl, fun a _ j u h => by simp at h, fun u h => (by simp at h), fun i k t h => by simp [T.get?] at h, fun i r h => by simp at h⟩
  | row _ _ b o cap cs ce fr X g1 g2 g5 g6 g7 g10 g11 g12 =>
    have hget : ∀ m, m < ys.length * P.cellsOf e → ∃ t, T.get? ys (m / P.cellsOf e) (m % P.cellsOf e) = some t := by
      intro m hm
      have h1 : m / P.cellsOf e < ys.length := (Nat.div_lt_iff_lt_mul hsz).2 hm
      have h2 : m % P.cellsOf e < P.cellsOf e := Nat.mod_lt _ hsz
      have h3 := g7 _ _ (List.getElem?_eq_getElem h1)
      unfold T.get?
      rw [List.getElem?_eq_getElem h1]
      exact ⟨_, List.getElem?_eq_getElem (by rw [h3]; exact h2)⟩
    have hscal : ∀ i k t, T.get? ys i k = some t → t = .v (X i k) ∧ scal (X i k) = true := by
      intro i k t ht
      have h1 := g11 i k t ht
      have h2 := g12 hfl i k t ht
      generalize X i k = xv at h1
      cases t with
      | v y => cases h1 with | v _ hs => exact ⟨rfl, hs⟩
      | sl => simp [T.isV] at h2
    refine ⟨_, cap, (List.range (ys.length * P.cellsOf e)).map fun m => X (m / P.cellsOf e) (m % P.cellsOf e), rfl, by simp, fun h => (by cases h), ?_, ?_, ?_, g7⟩
    · intro a ha j u hj
      injection ha with ha; subst ha
      rw [List.getElem?_map] at hj
      have hj' : j < ys.length * P.cellsOf e := by
        by_cases hlt : j < ys.length * P.cellsOf e
        · exact hlt
        · rw [List.getElem?_eq_none (by simpa using hlt)] at hj; simp at hj
      rw [List.getElem?_range hj'] at hj
      simp only [Option.map_some, Option.some.injEq] at hj
      obtain ⟨t, ht⟩ := hget j hj'
      have := g10 _ _ _ ht
      rw [add_plain, cell_of g1, ← hj, ← this]
      congr 1
      rw [Nat.add_assoc, Nat.mul_comm, Nat.div_add_mod]
    · intro u hu
      obtain ⟨m, hm, rfl⟩ := List.mem_map.1 hu
      obtain ⟨t, ht⟩ := hget m (by simpa using hm)
      exact scal_one (hscal _ _ _ ht).2
    · intro i k t ht
      obtain ⟨h1, h2⟩ := hscal i k t ht
      have hi : i < ys.length ∧ k < P.cellsOf e := by
        unfold T.get? at ht
        cases hx : ys[i]? with
        | none => rw [hx] at ht; simp at ht
        | some r =>
          rw [hx] at ht
          have := (List.getElem?_eq_some_iff.1 (by simpa using ht : r[k]? = some t)).1
          exact ⟨(List.getElem?_eq_some_iff.1 hx).1, by rw [← g7 i r hx]; exact this⟩
      have hm : i * P.cellsOf e + k < ys.length * P.cellsOf e := by
        have : (i + 1) * P.cellsOf e ≤ ys.length * P.cellsOf e := Nat.mul_le_mul_right _ hi.1
        rw [Nat.add_mul] at this; omega
      refine ⟨X i k, ?_, h1, h2⟩
      rw [List.getElem?_map, List.getElem?_range hm]
      simp only [Option.map_some, Option.some.injEq]
      congr 1
      · rw [Nat.mul_comm, Nat.mul_add_div hsz, Nat.div_eq_of_lt hi.2, Nat.add_zero]
      · rw [Nat.mul_comm, Nat.mul_add_mod, Nat.mod_eq_of_lt hi.2]

theorem get?_append {xs ys : List (List T)} {i k : Nat} : T.get? (xs ++ ys) i k = if i < xs.length then T.get? xs i k else T.get? ys (i - xs.length) k := by
  unfold T.get?
  split
  · rename_i h; rw [List.getElem?_append_left h]
  · rename_i h; rw [List.getElem?_append_right (by omega)]

/-- What the second argument of an append yields. -/
structure SrcT (P : Program) (w : World) (tx e : TypeId) (x : Value) (ys : List (List T)) (news : List Value) : Prop where
  src : Src P (P.cellsOf e) tx x ys.length news w
  one : ∀ u ∈ news, Fw.one u = true
  get : ∀ i k t, T.get? ys i k = some t → ∃ v, news[i * P.cellsOf e + k]? = some v ∧ t = .v v ∧ scal v = true
  len : ∀ (i : Nat) (r : List T), ys[i]? = some r → r.length = P.cellsOf e

theorem srcR_wp {w0 : World} {L : Nat → Nat → Prop} {C : Ctx} (R : Rel w0 L C) {tb : Tab} (hT : TabOk C.P tb) {α : Type} {tx e : TypeId} {i : TI} (hi : TIok C.P e i) (hfl : flatP C.P e = true) (hpos : 0 < i.size) {d : D} {v : Value} (hv : d.isTup = false → VRel C d v)
    {k : List (List T) → Rdr α} {Q : α → Prop} (h : (srcR tb tx e i.size d k).wp C.E Q) : ∃ ys news, (k ys).wp C.E Q ∧ SrcT C.P C.w tx e v ys news := by
  have hsz := hi.cellsOf
  unfold srcR at h
  split at h
  · rename_i b hk
    have hu := hT.kd_str hk
    obtain ⟨ex, _⟩ := (hv rfl).v_inv
    subst ex
    split at h
    · rename_i h1
      have h1 : i.size = 1 := by simpa using h1
      rw [h1] at hsz
      refine ⟨_, byteCells b, h, ?_, ?_, ?_, ?_⟩
      · rw [hsz, bytesRows_length, toL_length]; exact Src.ofString C.w hu b
      · intro u hu
        obtain ⟨_, _, rfl⟩ := List.mem_map.1 hu
        rfl
      · intro i' k' t ht
        obtain ⟨y, h1, rfl, rfl⟩ := bytesRows_get ht
        refine ⟨_, ?_, rfl, rfl⟩
        rw [hsz, Nat.mul_one, Nat.add_zero]
        unfold byteCells
        rw [List.getElem?_map]
        have : b.data.toList[i']? = some y := h1
        rw [this]; rfl
      · intro i' r hr
        unfold bytesRows at hr
        rw [List.getElem?_map] at hr
        cases hx : (toL b)[i']? with
        | none => rw [hx] at hr; simp at hr
        | some y => rw [hx] at hr; simp at hr; rw [← hr, hsz]; rfl
    · exact h.elim
  · rename_i e' hk
    have hu := hT.kd_slice hk
    have ex := (hv rfl).nil_inv
    subst ex
    exact ⟨[], [], h, Src.ofNil C.w hu 0, fun u h => by simp at h, fun i k t h => by simp [T.get?] at h, fun i r h => by simp at h⟩
  · rename_i e' hk _
    have hu := hT.kd_slice hk
    replace h := rowsR_wp R (hv (rowsR_notTup h)) h
    obtain ⟨e2, ys, h, hr⟩ := h
    obtain ⟨rfl, h⟩ := h
    obtain ⟨base, cap, news, a1, a2, a3, a4, a5, a6, a7⟩ := flat_cells hr hfl (by omega)
    subst a1
    refine ⟨ys, news, h, ?_, a5, a6, a7⟩
    cases base with
    | none =>
      have := a3 rfl
      subst this
      have : news = [] := List.eq_nil_of_length_eq_zero (by simpa using a2)
      subst this
      exact ⟨.inl ⟨_, hu⟩, fun _ => rfl, run_firstCells_none C.w _ _ _ _, run_firstCells_none C.w.drew _ _ _ _, by simp, fun _ h => by cases h⟩
    | some a => exact Src.ofSlice C.w hu a ys.length cap news a2 (a4 a rfl) (fun u hu => one_oneCell (a5 u hu))
  · exact h.elim

/-- append, both arms: the row in place, or a new one. -/
theorem append_core {P : Program} {w : World} {t tx ty e : TypeId} {i : TI} (hu : P.underlying t = some (.slice e)) (hi : TIok P e i) (hfl : flatP P e = true) (hpos : 0 < i.size) (hby : 0 < i.bytes) {xs ys : List (List T)} {v x : Value} {F : Nat → Prop}
    (ho : OwnT P w (.sl e xs) v F) {news : List Value} (hs : SrcT P w tx e x ys news) (hroom : (xs.length + ys.length) * i.bytes ≤ 140737488355328) :
    (∃ v', (Builtin.append_ #[t, tx] ty #[v, x]).run P w = .ok v' w ∧ OwnT P w (.sl e (xs ++ ys)) v' F) ∨
    (∃ v' w' b cs fr cs', (Builtin.append_ #[t, tx] ty #[v, x]).run P w = .ok v' w' ∧ F b ∧ Wrt w w' b cs e fr cs' ∧ OwnT P w' (.sl e (xs ++ ys)) v' F) ∨
    (∃ v' w', (Builtin.append_ #[t, tx] ty #[v, x]).run P w = .ok v' w' ∧ Ext w w' ∧ w'.heap.size = w.heap.size + 1 ∧ OwnT P w' (.sl e (xs ++ ys)) v' (fun b => b = w.heap.size)) := by
  obtain ⟨j, z, i1, i2, i3, i4, i5, i6, i7⟩ := hi.info
  have hsz := hi.cellsOf
  have hcs : j.size = P.cellsOf e := by rw [i2, hsz]
  have hlt : xs.length + ys.length ≤ 140737488355328 := by
    have : (xs.length + ys.length) * 1 ≤ (xs.length + ys.length) * i.bytes := Nat.mul_le_mul_left _ hby
    omega
  have hrd := ho.rd (S := fun _ => True) (fun _ _ => trivial)
  obtain ⟨base, cap, olds, b1, b2, b3, b4, b5, b6, b7⟩ := flat_cells hrd hfl (by omega)
  have hsrc := hs.src
  rw [← hcs] at hsrc
  subst b1
  have hnl : news.length = ys.length * P.cellsOf e := hs.src.newsLen
  have hlen2 : (xs ++ ys).length = xs.length + ys.length := List.length_append
  have hget : ∀ i k t, T.get? (xs ++ ys) i k = some t → ∃ v, (olds ++ news)[i * P.cellsOf e + k]? = some v ∧ t = .v v ∧ scal v = true := by
    intro i k t ht
    rw [get?_append] at ht
    split at ht
    · rename_i hlt
      obtain ⟨v, h1, h2⟩ := b6 i k t ht
      refine ⟨v, ?_, h2⟩
      rw [List.getElem?_append_left (List.getElem?_eq_some_iff.1 h1).1]; exact h1
    · rename_i hge
      obtain ⟨v, h1, h2⟩ := hs.get _ k t ht
      refine ⟨v, ?_, h2⟩
      have e1 : i * P.cellsOf e + k = olds.length + ((i - xs.length) * P.cellsOf e + k) := by
        rw [b2]
        have : i = xs.length + (i - xs.length) := by omega
        rw [this, Nat.add_mul]
        simp; omega
      rw [e1, List.getElem?_append_right (by omega), Nat.add_sub_cancel_left]; exact h1
  have hrow : ∀ (i : Nat) (r : List T), (xs ++ ys)[i]? = some r → r.length = P.cellsOf e := by
    intro i r hr
    by_cases h : i < xs.length
    · rw [List.getElem?_append_left h] at hr; exact b7 i r hr
    · rw [List.getElem?_append_right (by omega)] at hr; exact hs.len _ r hr
  have hflat : flatP P e = true → ∀ i j t, T.get? (xs ++ ys) i j = some t → t.isV = true := by
    intro _ i k t ht
    obtain ⟨v, _, rfl, _⟩ := hget i k t ht
    rfl
  by_cases hroom2 : xs.length + ys.length ≤ cap
  · cases ho with
    | emp =>
      have : ys = [] := List.eq_nil_of_length_eq_zero (by simp at hroom2; exact List.length_eq_zero_iff.2 hroom2)
      subst this
      have hn : news = [] := List.eq_nil_of_length_eq_zero (by simpa using hnl)
      subst hn
      exact .inl ⟨_, run_append_nothing w t tx ty e j hu i1 none 0 0 (Nat.le_refl _) x hsrc, .emp e F⟩
    | row _ _ b o _ cs fr _ G X g1 g2 g3 g4 g5 g6 g7 g8 g9 g10 g11 g12 =>
      have hle : o + xs.length * P.cellsOf e + news.length ≤ cs.size := by
        have : (xs.length + ys.length) * P.cellsOf e ≤ cap * P.cellsOf e := Nat.mul_le_mul_right _ hroom2
        rw [Nat.add_mul] at this; omega
      have hrun := run_append_room_src (P := P) w t tx ty e j hu i1 b o xs.length cap x ys.length news hsrc hroom2 (by
        intro k hk
        rw [cell_of g1, hcs, Array.getElem?_eq_getElem (by omega)]; rfl) (by
        intro k hk
        have := g3 (o + xs.length * P.cellsOf e + k) (by omega)
        rw [hcs]
        simp [World.frozen?, g1]
        omega)
      rw [hcs] at hrun
      obtain ⟨cs', x1, x2⟩ := setCells_wrt b e fr news (o + xs.length * P.cellsOf e) w cs g1 hle
      refine .inr (.inl ⟨_, _, b, cs, fr, cs', hrun, g2, x1, ?_⟩)
      rw [← hlen2]
      refine (OwnT.simple (b := b) (o := o) x1.new (by rw [x1.sz]; exact g3) (by rw [x1.sz]; exact g4) (by omega) g6 hrow ?_ hflat).mono (fun b' hb => by rw [hb]; exact g2) (fun _ _ _ => rfl)
      intro i' k t ht
      obtain ⟨v, h1, h2⟩ := hget i' k t ht
      refine ⟨v, ?_, .inl h2⟩
      rw [x2]
      by_cases hlo : i' * P.cellsOf e + k < olds.length
      · rw [List.getElem?_append_left hlo] at h1
        rw [if_neg (by omega)]
        have := b4 _ rfl _ _ h1
        rw [add_plain, cell_of g1] at this
        rw [Nat.add_assoc]; exact this
      · rw [List.getElem?_append_right (by omega)] at h1
        have hk := (List.getElem?_eq_some_iff.1 h1).1
        rw [if_pos (by omega)]
        rw [← h1]; congr 1; omega
  · have hfit := growslice_fits (need := xs.length + ys.length) (old := cap) (bytes := j.bytes) (by omega) (by rw [i3]; exact hroom)
    have hold : (Builtin.firstCells j.size xs.length (.slice base xs.length cap)).run P w.drew = .ok olds.toArray w.drew := by
      cases base with
      | none =>
        have h1 := b3 rfl
        have : olds = [] := List.eq_nil_of_length_eq_zero (by rw [b2, h1]; simp)
        rw [this]; exact run_firstCells_none _ _ _ _ _
      | some a => rw [hcs]; exact run_firstCells_some w.drew (P.cellsOf e) xs.length a xs.length cap olds b2 (fun j u hj => by simpa using b4 a rfl j u hj)
    have hrun := run_append_grow_src (P := P) w t tx ty e j z hu i1 i4 base xs.length cap olds hold x ys.length news hsrc (by omega) (by omega) hfit
    have hcap : xs.length + ys.length ≤ grownCap w (xs.length + ys.length) cap e ∧ grownCap w (xs.length + ys.length) cap e ≤ 9223372036854775807 := by
      unfold grownCap Question.cut
      simp only
      have : w.tape w.drawn (.appendCap (xs.length + ys.length) cap e) % (2 ^ 63 - (xs.length + ys.length)) < 2 ^ 63 - (xs.length + ys.length) := Nat.mod_lt _ (by omega)
      omega
    generalize grownCap w (xs.length + ys.length) cap e = nc at hrun hcap
    refine .inr (.inr ⟨_, _, hrun, Ext.drewAlloc _ _, by rw [size_alloc]; rfl, ?_⟩)
    rw [← hlen2]
    refine OwnT.simple (heap_new w.drew _) (fun o' _ h => by simp at h) ?_ (by omega) hcap.2 hrow ?_ hflat
    · have hz : (Builtin.zeroCells z.cells (nc - (xs.length + ys.length))).size = (nc - (xs.length + ys.length)) * P.cellsOf e := by
        simp [Builtin.zeroCells, i5, hsz]
      simp only [Array.size_append, List.size_toArray, List.length_append, b2, hnl, hz, Nat.zero_add]
      rw [← Nat.add_mul, ← Nat.add_mul]
      have : xs.length + ys.length + (nc - (xs.length + ys.length)) = nc := by omega
      rw [this]; exact Nat.le_refl _
    · intro i' k t ht
      obtain ⟨v, h1, h2⟩ := hget i' k t ht
      refine ⟨v, ?_, .inl h2⟩
      rw [Nat.zero_add, Array.getElem?_append_left (by simpa using (List.getElem?_eq_some_iff.1 h1).1)]
      simpa using h1
end Go.Proofs.Ytcnogcachboibaa.Fw
