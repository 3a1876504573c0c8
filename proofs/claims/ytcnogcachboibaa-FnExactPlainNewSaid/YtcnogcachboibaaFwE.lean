/- Framework, part E: ghost steps: what owns what is told otherwise, memory as it is. -/
import Derived.Test.YtcnogcachboibaaFwD
namespace Go.Proofs.Ytcnogcachboibaa.Fw
open Go
set_option linter.unusedVariables false

theorem mapLv_get (g : Nat → D → D) : ∀ (ds : List D) (k i : Nat), (mapLv g k ds)[i]? = (ds[i]?).map (g (k + i))
  | [], k, i => by simp [mapLv]
  | d :: ds, k, 0 => by simp [mapLv]
  | d :: ds, k, i + 1 => by
    simp only [mapLv, List.getElem?_cons_succ]
    rw [mapLv_get g ds (k + 1) i]
    congr 2; omega
theorem mapLv_length (g : Nat → D → D) : ∀ (ds : List D) (k : Nat), (mapLv g k ds).length = ds.length
  | [], _ => rfl
  | d :: ds, k => by simp [mapLv, mapLv_length g ds]
theorem mapCs_get (g : Nat → D → D) : ∀ (cs : List D) (k i : Nat), (mapCs g k cs)[i]? = (cs[i]?).map (fun c => c.mapP1 g (k + 64 * i))
  | [], k, i => by simp [mapCs]
  | d :: ds, k, 0 => by simp [mapCs]
  | d :: ds, k, i + 1 => by
    simp only [mapCs, List.getElem?_cons_succ]
    rw [mapCs_get g ds (k + 64) i]
    congr 2; funext c; congr 1; omega
theorem mapCs_length (g : Nat → D → D) : ∀ (ds : List D) (k : Nat), (mapCs g k ds).length = ds.length
  | [], _ => rfl
  | d :: ds, k => by simp [mapCs, mapCs_length g ds]
theorem mapSl_get (g : Lf → D → D) : ∀ (cs : List D) (k i : Nat), (mapSl g k cs)[i]? = (cs[i]?).map (fun c => c.mapP (fun j => g ⟨false, k + i, j⟩))
  | [], k, i => by simp [mapSl]
  | d :: ds, k, 0 => by simp [mapSl]
  | d :: ds, k, i + 1 => by
    simp only [mapSl, List.getElem?_cons_succ]
    rw [mapSl_get g ds (k + 1) i]
    have : k + 1 + i = k + (i + 1) := by omega
    rw [this]
theorem mapSl_length (g : Lf → D → D) : ∀ (ds : List D) (k : Nat), (mapSl g k ds).length = ds.length
  | [], _ => rfl
  | d :: ds, k => by simp [mapSl, mapSl_length g ds]
theorem mapCe_get (g : Lf → D → D) : ∀ (cs : List (Option (List D))) (k i : Nat), (mapCe g k cs)[i]? = (cs[i]?).map (fun c => c.map (mapLv (fun j => g ⟨true, k + i, j⟩) 0))
  | [], k, i => by simp [mapCe]
  | d :: ds, k, 0 => by simp [mapCe]
  | d :: ds, k, i + 1 => by
    simp only [mapCe, List.getElem?_cons_succ]
    rw [mapCe_get g ds (k + 1) i]
    have : k + 1 + i = k + (i + 1) := by omega
    rw [this]

theorem lf1_dead (g : Lf → D → D) (p : Lf) : lf1 g p .dead = .dead := rfl
/-- A change that leaves leaves leaves. -/
def Leafy (g : Nat → D → D) : Prop := ∀ k d, d.leafy = true → (g k d).leafy = true

theorem mapP1_leaves (g : Nat → D → D) (hg : Leafy g) (hd : ∀ k, g k .dead = .dead) (k j : Nat) (d : D) (ht : d.isTup = false) :
    (d.mapP1 g k).leaves1.getD j .dead = g (k + j) (d.leaves1.getD j .dead) := by
  by_cases ha : d.leafy = true
  · have e1 : d.leaves1 = [d] := by cases d <;> simp_all [D.leafy, D.leaves1]
    have e2 : d.mapP1 g k = g k d := by cases d <;> simp_all [D.leafy, D.mapP1]
    have e3 : (g k d).leaves1 = [g k d] := by have := hg k d ha; revert this; cases g k d <;> simp [D.leafy, D.leaves1]
    rw [e1, e2, e3]
    cases j with
    | zero => rfl
    | succ n => rw [one_getD _ _ (by omega), one_getD _ _ (by omega), hd]
  · cases d <;> simp_all [D.leafy, D.isTup]
    rename_i ds
    simp only [D.mapP1, D.leaves1, mapLv_get]
    cases ds[j]? with
    | none => simp [hd]
    | some x => rfl

theorem mapP1_isTup (g : Nat → D → D) (hg : Leafy g) (k : Nat) (d : D) (ht : d.isTup = false) : (d.mapP1 g k).isTup = false := by
  by_cases ha : d.leafy = true
  · have e2 : d.mapP1 g k = g k d := by cases d <;> simp_all [D.leafy, D.mapP1]
    rw [e2]
    have := hg k d ha
    revert this
    cases g k d <;> simp [D.leafy, D.isTup]
  · cases d <;> simp_all [D.leafy, D.isTup, D.mapP1]

theorem mapP_leafOf (g : Nat → D → D) (hg : Leafy g) (hd : ∀ k, g k .dead = .dead) (d : D) (k : Nat) (hc : ∀ cs, d = .tup cs → ∀ c ∈ cs, c.isTup = false) :
    (d.mapP g).leafOf k = g k (d.leafOf k) := by
  have h3 : 64 * (k / 64) + k % 64 = k := by omega
  by_cases ht : d.isTup = true
  · cases d <;> simp [D.isTup] at ht
    rename_i cs
    have e1 : (mapCs g 0 cs).getD (k / 64) .dead = ((cs[k / 64]?).map fun c => c.mapP1 g (0 + 64 * (k / 64))).getD .dead := by rw [List.getD_eq_getElem?_getD, mapCs_get]
    have e2 : cs.getD (k / 64) .dead = (cs[k / 64]?).getD .dead := List.getD_eq_getElem?_getD ..
    show ((mapCs g 0 cs).getD (k / 64) .dead).leaves1.getD (k % 64) .dead = g k ((cs.getD (k / 64) .dead).leaves1.getD (k % 64) .dead)
    rw [e1, e2]
    cases h : cs[k / 64]? with
    | none => simp only [Option.map_none, Option.getD_none]; rw [leaves1_dead, hd]
    | some c =>
      simp only [Option.map_some, Option.getD_some]
      rw [mapP1_leaves g hg hd _ _ _ (hc cs rfl c (List.mem_of_getElem? h))]
      congr 1; omega
  · have ht' : d.isTup = false := by simpa using ht
    have e : d.mapP g = d.mapP1 g 0 := by cases d <;> simp_all [D.mapP, D.isTup]
    have c1 : d.comps = [d] := by cases d <;> simp_all [D.comps, D.isTup]
    have h2 := mapP1_isTup g hg 0 d ht'
    have c2 : (d.mapP1 g 0).comps = [d.mapP1 g 0] := by revert h2; cases d.mapP1 g 0 <;> simp [D.isTup, D.comps]
    rw [e]
    simp only [D.leafOf, c1, c2]
    by_cases h0 : k / 64 = 0
    · have hk : k % 64 = k := by omega
      rw [h0, hk]
      show (d.mapP1 g 0).leaves1.getD k .dead = g k (d.leaves1.getD k .dead)
      rw [mapP1_leaves g hg hd _ _ _ ht']
      simp
    · rw [one_getD _ _ h0, one_getD _ _ h0, leaves1_dead, hd]

theorem Rel.noTup {w0 : World} {L : Nat → Nat → Prop} {C : Ctx} (R : Rel w0 L C) {t : Nat} {cs : List D} (h : C.E.sl[t]? = some (.tup cs)) : ∀ c ∈ cs, c.isTup = false := by
  intro c hc
  have hs := R.slot t _ h
  generalize C.a.tmps.getD t undef = v at hs
  cases hs with
  | comp _ _ ht _ => simp [D.isTup] at ht
  | tup _ vs hl hs =>
    obtain ⟨i, hi, rfl⟩ := List.mem_iff_getElem.1 hc
    exact (hs i _ (List.getElem?_eq_getElem hi)).1

theorem leafyG {g : Lf → D → D} (hg : ∀ p d, d.leafy = true → (g p d).leafy = true) (f : Nat → Lf) : Leafy fun k => lf1 g (f k) := by
  intro k d hd
  cases d <;> first | exact hg _ _ hd | rfl

theorem mapP_leaf {w0 : World} {L : Nat → Nat → Prop} {C : Ctx} (R : Rel w0 L C) (g : Lf → D → D) (hg : ∀ p d, d.leafy = true → (g p d).leafy = true) (p : Lf) :
    (C.E.mapP g).leaf p = lf1 g p (C.E.leaf p) := by
  obtain ⟨c, t, k⟩ := p
  cases c with
  | false =>
    cases h : C.E.sl[t]? with
    | none =>
      have h2 : (C.E.mapP g).sl[t]? = none := by simp only [Env.mapP]; rw [mapSl_get, h]; rfl
      rw [leaf_none_slot _ _ _ h, leaf_none_slot _ _ _ h2]; rfl
    | some d =>
      have h2 : (C.E.mapP g).sl[t]? = some (d.mapP fun j => lf1 g ⟨false, t, j⟩) := by simp only [Env.mapP]; rw [mapSl_get, h]; simp
      rw [leaf_slot _ _ _ _ h, leaf_slot _ _ _ _ h2]
      exact mapP_leafOf _ (leafyG hg _) (fun _ => rfl) d k (fun cs e => by subst e; exact R.noTup h)
  | true =>
    have h2 : (C.E.mapP g).ce[t]? = (C.E.ce[t]?).map (fun c => c.map (mapLv (fun j => lf1 g ⟨true, t, j⟩) 0)) := by simp only [Env.mapP]; rw [mapCe_get]; simp
    show (((C.E.mapP g).ce.getD t none).getD []).getD k .dead = lf1 g ⟨true, t, k⟩ (((C.E.ce.getD t none).getD []).getD k .dead)
    simp only [List.getD_eq_getElem?_getD, h2]
    cases h : C.E.ce[t]? with
    | none => simp; rfl
    | some o =>
      cases o with
      | none => simp; rfl
      | some ds =>
        simp only [Option.map_some, Option.getD_some, mapLv_get]
        cases ds[k]? with
        | none => rfl
        | some x => simp

/-- The leaves of what stands in a slot. -/
theorem SRel.at {C : Ctx} {t : Nat} {d : D} {v : Value} (h : SRel C t d v) (hd : C.E.sl[t]? = some d) : ∀ k x, At d k x → C.E.leaf ⟨false, t, k⟩ = x := by
  intro k x hx
  rw [leaf_slot _ _ _ _ hd]
  exact hx.leafOf


theorem leafy_leaves1 {d : D} (h : d.leafy = true) : d.leaves1 = [d] := by cases d <;> first | rfl | simp [D.leafy] at h
theorem leafy_mapP1 {d : D} (h : d.leafy = true) (g : Nat → D → D) (k : Nat) : d.mapP1 g k = g k d := by cases d <;> first | rfl | simp [D.leafy] at h
theorem agg_of {d : D} (h : ¬ d.leafy = true) (ht : d.isTup = false) : ∃ ds, d = .agg ds := by cases d <;> first | exact ⟨_, rfl⟩ | (simp [D.isTup] at ht; done) | (simp [D.leafy] at h; done)
theorem mapP_of {d : D} (ht : d.isTup = false) (g : Nat → D → D) : d.mapP g = d.mapP1 g 0 := by cases d <;> first | rfl | simp [D.isTup] at ht
theorem tup_of {d : D} (ht : d.isTup = true) : ∃ cs, d = .tup cs := by cases d <;> first | exact ⟨_, rfl⟩ | simp [D.isTup] at ht
theorem CRel.aggLeaves {C : Ctx} {t k : Nat} {ds : List D} {v : Value} (h : CRel C t k (.agg ds) v) : ds.length ≤ 64 ∧ ∀ (j : Nat) (x : D), ds[j]? = some x → x.leafy = true := by
  cases h with
  | agg _ vs2 q1 q2 q3 => exact ⟨q2, fun j x hx => (q3 j x hx).1⟩
  | leaf _ _ hx _ _ => simp [D.leafy] at hx
theorem SRel.aggLeaves {C : Ctx} {t : Nat} {ds : List D} {v : Value} (h : SRel C t (.agg ds) v) : ds.length ≤ 64 ∧ ∀ (j : Nat) (x : D), ds[j]? = some x → x.leafy = true := by
  cases h with
  | comp _ _ ht hc => exact hc.aggLeaves
theorem SRel.tupLeaves {C : Ctx} {t : Nat} {cs ds : List D} {v : Value} (h : SRel C t (.tup cs) v) (i : Nat) (hi : cs[i]? = some (.agg ds)) : ds.length ≤ 64 ∧ ∀ (j : Nat) (x : D), ds[j]? = some x → x.leafy = true := by
  cases h with
  | comp _ _ ht _ => simp [D.isTup] at ht
  | tup _ vs hl hs => exact (hs i _ hi).2.aggLeaves
theorem SRel.noTup {C : Ctx} {t : Nat} {cs : List D} {v : Value} (h : SRel C t (.tup cs) v) (i : Nat) (c : D) (hi : cs[i]? = some c) : c.isTup = false := by
  cases h with
  | comp _ _ ht _ => simp [D.isTup] at ht
  | tup _ vs hl hs => exact (hs i _ hi).1

/-- What stands in a slot goes over leaf by leaf. -/
theorem SRel.map {C C' : Ctx} {t : Nat} {d : D} {v : Value} (hs : SRel C t d v) (hv : C.a.tmps.getD t undef = v) (g : Nat → D → D) (hg : Leafy g) (hd0 : ∀ k, g k .dead = .dead)
    (hgo : ∀ k x, At d k x → x.leafy = true → Goes C C' ⟨false, t, k⟩ x ⟨false, t, k⟩ (g k x)) : SRel C' t (d.mapP g) v := by
  refine hs.go hv ?_
  have deadW : ∀ k (x : D), x = .dead → g k x = .dead := by intro k x h; rw [h]; exact hd0 k
  by_cases ht : d.isTup = true
  · obtain ⟨cs, rfl⟩ := tup_of ht
    refine .tup _ _ (by rw [mapCs_length]) ?_
    intro i c c' hc hc'
    rw [mapCs_get, hc] at hc'
    have hc2 : c' = c.mapP1 g (64 * i) := by simpa using hc'.symm
    subst hc2
    have hct := hs.noTup i c hc
    refine ⟨mapP1_isTup _ hg _ _ hct, ?_⟩
    by_cases hlf : c.leafy = true
    · rw [leafy_mapP1 hlf]
      exact .leaf _ _ hlf (deadW _ _) (hgo _ _ (At.tup cs i 0 c c hc (by omega) (by rw [leafy_leaves1 hlf]; rfl)) hlf)
    · obtain ⟨ds, rfl⟩ := agg_of hlf hct
      obtain ⟨h64, hl⟩ := hs.tupLeaves i hc
      refine .agg _ _ (by rw [mapLv_length]) ?_
      intro j x x' hx hx'
      rw [mapLv_get, hx] at hx'
      have hx2 : x' = g (64 * i + j) x := by simpa using hx'.symm
      subst hx2
      have hj : j < 64 := by have := (List.getElem?_eq_some_iff.1 hx).1; omega
      exact hgo _ _ (At.tup cs i j _ x hc hj (by simpa [D.leaves1] using hx)) (hl j x hx)
  · have ht' : d.isTup = false := by simpa using ht
    rw [mapP_of ht']
    refine .comp _ _ ht' (mapP1_isTup _ hg _ _ ht') ?_
    by_cases hlf : d.leafy = true
    · rw [leafy_mapP1 hlf]
      exact .leaf _ _ hlf (deadW _ _) (hgo _ _ (At.comp d 0 d ht' (by omega) (by rw [leafy_leaves1 hlf]; rfl)) hlf)
    · obtain ⟨ds, rfl⟩ := agg_of hlf ht'
      obtain ⟨h64, hl⟩ := hs.aggLeaves
      refine .agg _ _ (by rw [mapLv_length]) ?_
      intro j x x' hx hx'
      rw [mapLv_get, hx] at hx'
      have hx2 : x' = g (0 + j) x := by simpa using hx'.symm
      subst hx2
      have hj : j < 64 := by have := (List.getElem?_eq_some_iff.1 hx).1; omega
      have := hgo j x (At.comp _ j x rfl hj (by simpa [D.leaves1] using hx)) (hl j x hx)
      simpa using this
theorem lf1_leafy {g : Lf → D → D} (hg : ∀ p d, d.leafy = true → (g p d).leafy = true) (p : Lf) (d : D) (h : d.leafy = true) : (lf1 g p d).leafy = true := by
  cases d <;> first | exact hg _ _ h | rfl

/-- A change leaf by leaf keeps what is said true, if it does so at each leaf. -/
theorem Rel.mapP {w0 : World} {L : Nat → Nat → Prop} {C : Ctx} (R : Rel w0 L C) (g : Lf → D → D) (F' : Lf → Nat → Prop)
    (hg : ∀ p d, d.leafy = true → (g p d).leafy = true)
    (hgo : ∀ p d, C.E.leaf p = d → d ≠ .dead → d.leafy = true → LRel C p d (C.cv p) → LRel { C with E := C.E.mapP g, F := F' } p (g p d) (C.cv p))
    (hF : ∀ p b, F' p b → ∃ q, C.F q b) (hd : ∀ p q b, F' p b → F' q b → p = q) : Rel w0 L { C with E := C.E.mapP g, F := F' } := by
  have go1 : ∀ p d, C.E.leaf p = d → d.leafy = true → Goes C { C with E := C.E.mapP g, F := F' } p d p (lf1 g p d) := by
    intro p d h1 h2
    refine ⟨lf1_leafy hg p d h2, fun hv => ?_⟩
    by_cases h3 : d = .dead
    · subst h3; exact .dead _ _
    · have := hgo p d h1 h3 h2 hv
      have e : lf1 g p d = g p d := by cases d <;> first | rfl | exact absurd rfl h3
      rw [e]; exact this
  have deadW : ∀ p (d : D), d = .dead → lf1 g p d = .dead := by intro p d h; subst h; rfl
  have hlive : ∀ t ds', ({ C with E := C.E.mapP g, F := F' } : Ctx).live t ds' → ∃ ds, C.live t ds ∧ ds' = mapLv (fun j => lf1 g ⟨true, t, j⟩) 0 ds := by
    intro t ds' h
    have h2 : (C.E.mapP g).ce[t]? = some (some ds') := h
    simp only [Env.mapP] at h2
    rw [mapCe_get] at h2
    cases h3 : C.E.ce[t]? with
    | none => rw [h3] at h2; simp at h2
    | some o =>
      cases o with
      | none => rw [h3] at h2; simp at h2
      | some ds => rw [h3] at h2; simp at h2; exact ⟨ds, h3, h2.symm⟩
  refine ⟨?_, R.defers, ?_, ?_, hd, ?_, ?_, ?_, ?_, ?_, R.frame, R.mnew, R.mL⟩
  · show C.a.tmps.size = (mapSl (lf1 g) 0 C.E.sl).length
    rw [mapSl_length]; exact R.tmps
  · intro t d' hd'
    have h2 : (mapSl (lf1 g) 0 C.E.sl)[t]? = some d' := hd'
    rw [mapSl_get] at h2
    cases h3 : C.E.sl[t]? with
    | none => rw [h3] at h2; simp at h2
    | some d =>
      rw [h3] at h2
      have h4 : d' = d.mapP (fun j => lf1 g ⟨false, t, j⟩) := by simpa using h2.symm
      subst h4
      have hs := R.slot t d h3
      exact hs.map rfl _ (leafyG hg _) (fun _ => rfl) fun k x hx hl => go1 _ _ (hs.at h3 k x hx) hl
  · intro t ds' hl
    obtain ⟨ds, h1, rfl⟩ := hlive t ds' hl
    obtain ⟨cs, e, fr, a1, a2, a3, a4⟩ := (R.cell t ds h1).out
    refine (R.cell t ds h1).go (by rw [mapLv_length]) rfl rfl ?_
    intro i d d' hd hd'
    rw [mapLv_get, hd] at hd'
    simp at hd'; subst hd'
    refine go1 _ _ ?_ (a4 i d hd).1
    rw [leaf_cell _ _ _ _ h1]; exact getD_some hd
  · intro t ds t' ds' h1 h2 he
    obtain ⟨x, a1, _⟩ := hlive t ds h1
    obtain ⟨y, a2, _⟩ := hlive t' ds' h2
    exact R.cdisj t x t' y a1 a2 he
  · intro t ds p h1 hp
    obtain ⟨x, a1, _⟩ := hlive t ds h1
    obtain ⟨q, hq⟩ := hF p _ hp
    exact R.fcd t x q a1 hq
  · intro p b hp; obtain ⟨q, hq⟩ := hF p b hp; exact R.fbound q b hq
  · intro p b hp; obtain ⟨q, hq⟩ := hF p b hp; exact R.flent q b hq
  · intro t ds h1 hb i hi
    obtain ⟨x, a1, rfl⟩ := hlive t ds h1
    rw [mapLv_length] at hi
    exact R.clent t x a1 hb i hi
end Go.Proofs.Ytcnogcachboibaa.Fw
