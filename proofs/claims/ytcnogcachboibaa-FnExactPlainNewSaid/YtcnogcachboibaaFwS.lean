/- Framework, part S: stores. -/
import Derived.Test.YtcnogcachboibaaFwR
namespace Go.Proofs.Ytcnogcachboibaa.Fw
open Go
set_option linter.unusedVariables false

theorem Env.mapP_id (E : Env) : E.mapP (fun _ d => d) = E := by
  have h1 : ∀ (l : List D) (t : Nat), mapSl (lf1 fun _ d => d) t l = l := by
    intro l
    induction l with
    | nil => intro t; rfl
    | cons d l ih =>
      intro t
      simp only [mapSl, ih]
      have : (fun k => lf1 (fun _ d => d) ⟨false, t, k⟩) = fun (_ : Nat) (x : D) => x := by
        funext k x; cases x <;> rfl
      rw [this, Fw.mapP_id]
  have h2 : ∀ (l : List (Option (List D))) (t : Nat), mapCe (lf1 fun _ d => d) t l = l := by
    intro l
    induction l with
    | nil => intro t; rfl
    | cons d l ih =>
      intro t
      simp only [mapCe, ih]
      have : (fun k => lf1 (fun _ d => d) ⟨true, t, k⟩) = fun (_ : Nat) (x : D) => x := by
        funext k x; cases x <;> rfl
      rw [this]
      have h3 : ∀ (ds : List D) (k : Nat), mapLv (fun _ x => x) k ds = ds := by
        intro ds
        induction ds with
        | nil => intro k; rfl
        | cons d ds ih => intro k; simp [mapLv, ih]
      cases d <;> simp [h3]
  cases E with
  | mk sl ce => simp only [Env.mapP, h1, h2]

/-- The books of ownership are written anew; what owns a row keeps its blocks. -/
theorem Rel.reF {w0 : World} {L : Nat → Nat → Prop} {C : Ctx} (R : Rel w0 L C) (F' : Lf → Nat → Prop) (h1 : ∀ p e xs, C.E.leaf p = .own e xs → F' p = C.F p)
    (hF : ∀ p b, F' p b → ∃ q, C.F q b) (hd : ∀ p q b, F' p b → F' q b → p = q) : Rel w0 L { C with F := F' } := by
  have s := Same.ofMap R (fun _ d => d) F' (fun _ _ h => h) hF (fun q => q) (fun _ => False) (by
    intro q e xs _ hl
    rw [hl]; exact ⟨rfl, rfl⟩)
  have := R.mapP (fun _ d => d) F' (fun _ _ h => h) (by
    intro p d h2 h3 h4 hv
    by_cases ho : d.isOwn = true
    · cases d <;> simp [D.isOwn] at ho
      cases hv with
      | own _ _ _ h =>
        refine .own _ _ _ _ ?_
        show OwnT C.P C.w _ _ (F' p)
        rw [h1 p _ _ h2]; exact h
    · have := LRel.same s hv p (by simpa using ho) ⟨fun q h => by simp, fun t ht => by simp⟩
      rwa [D.re_id] at this) hF hd
  rwa [Env.mapP_id] at this

/-- An owned row of scalars changes in place. -/
theorem Rel.row {w0 : World} {L : Nat → Nat → Prop} {C : Ctx} (R : Rel w0 L C) {q : Lf} {e : TypeId} {xs xs' : List (List T)} (hq : C.E.leaf q = .own e xs) (hlen : xs'.length = xs.length)
    (hflat : ∀ i j t, T.get? xs i j = some t → t.isV = true)
    {w' : World} {b : Nat} {cs : Array Value} {ce : TypeId} {fr : Nat × Nat} {cs' : Array Value} (x : Wrt C.w w' b cs ce fr cs') (hb : C.F q b) (ho : OwnT C.P w' (.sl e xs') (C.cv q) (C.F q)) :
    Rel w0 L { C with E := C.E.setLeaf q (.own e xs'), w := w' } := by
  let g : Lf → D → D := fun r d => if r = q then .own e xs' else d
  have hg : ∀ p d, d.leafy = true → (g p d).leafy = true := by
    intro p d h; show (if p = q then D.own e xs' else d).leafy = true
    split
    · rfl
    · exact h
  generalize hC' : ({ C with E := C.E.setLeaf q (.own e xs'), w := w' } : Ctx) = C'
  have hP : C'.P = C.P := by rw [← hC']
  have hE : C'.E = C.E.mapP g := by rw [← hC']; rfl
  have ha : C'.a = C.a := by rw [← hC']
  have hw : C'.w = w' := by rw [← hC']
  have hF : C'.F = C.F := by rw [← hC']
  have hloc : C'.loc = C.loc := by rw [← hC']
  have hleaf : ∀ p, C'.E.leaf p = lf1 g p (C.E.leaf p) := by intro p; rw [hE, mapP_leaf R g hg]
  have hblk : ∀ t ds, C.live t ds → (C.loc t).1 ≠ b := fun t ds hl h => R.fcd t ds q hl (h ▸ hb)
  have hlive : ∀ t ds', C'.live t ds' → ∃ ds, C.live t ds ∧ ds' = mapLv (fun j => lf1 g ⟨true, t, j⟩) 0 ds := by
    intro t ds' h
    have h2 : C'.E.ce[t]? = some (some ds') := h
    rw [hE] at h2
    simp only [Env.mapP] at h2
    rw [mapCe_get] at h2
    cases h3 : C.E.ce[t]? with
    | none => rw [h3] at h2; simp at h2
    | some o =>
      cases o with
      | none => rw [h3] at h2; simp at h2
      | some ds => rw [h3] at h2; simp at h2; exact ⟨ds, h3, h2.symm⟩
  have hlv2 : ∀ t ds, C.live t ds → C'.live t (mapLv (fun j => lf1 g ⟨true, t, j⟩) 0 ds) := by
    intro t ds h
    show C'.E.ce[t]? = _
    rw [hE]
    simp only [Env.mapP]
    rw [mapCe_get, show C.E.ce[t]? = some (some ds) from h]
    simp
  have hcv : ∀ p, C.E.leaf p ≠ .dead → C'.cv p = C.cv p := by
    rintro ⟨c, t, k⟩ hn
    unfold Ctx.cv
    rw [ha, hw, hloc]
    cases c with
    | false => rfl
    | true =>
      obtain ⟨ds, hl⟩ := Rel.liveOf (w0 := w0) (L := L) hn
      simp only [if_true, World.cell?, x.kept _ (hblk t ds hl)]
  have hown : ∀ b, C'.Owned b → C.Owned b := by
    rintro b' (⟨p, hp⟩ | ⟨t', ds', hl', hb'⟩)
    · rw [hF] at hp; exact .inl ⟨p, hp⟩
    · obtain ⟨d0, h0, _⟩ := hlive t' ds' hl'
      rw [hloc] at hb'
      exact .inr ⟨t', d0, h0, hb'⟩
  have hoth : ∀ p e' ys v, p ≠ q → OwnT C.P C.w (.sl e' ys) v (C.F p) → OwnT C.P w' (.sl e' ys) v (C.F p) := by
    intro p e' ys v hp h
    exact h.mono (fun _ h => h) (fun b' hb' _ => x.kept b' (by rintro rfl; exact hp (R.disj _ _ _ hb' hb)))
  have s : Same C C' (fun q => q) (fun _ => False) (fun _ => False) := by
    refine ⟨hP, fun b' hb' hlb => ⟨fun h => hb' (hown b' h), ?_⟩, ?_, ?_, by rw [← hC']; exact fun _ h => h⟩
    · rw [hw]; exact x.kept b' (by rintro rfl; exact hb' (.inl ⟨q, hb⟩))
    · intro p e' ys _ hp
      have hn : C.E.leaf p ≠ .dead := by rw [hp]; simp
      by_cases hpq : p = q
      · subst hpq
        rw [hq] at hp; injection hp with h1 h2; subst h1; subst h2
        refine ⟨xs', ?_, hlen, hcv p hn, fun i j e' ys hg => ?_⟩
        · rw [hleaf, hq]
          show (if p = p then D.own e xs' else _) = _
          rw [if_pos rfl]
        · have := hflat i j _ hg
          simp [T.isV] at this
      · refine ⟨ys, ?_, rfl, hcv p hn, fun i j e'' zs hg => ⟨hg, fun b' o n cap v hc hv => ?_⟩⟩
        · rw [hleaf, hp]
          show (if p = q then D.own e xs' else D.own e' ys) = _
          rw [if_neg hpq]
        · have ho := R.ownLeaf hp
          rw [hc] at ho
          rw [hw]
          cases ho with
          | row _ _ _ _ _ csr frr F G X g1 g2 =>
            have hb2 : b' ≠ b := by rintro rfl; exact hpq (R.disj _ _ _ g2 hb)
            simp only [World.cell?, x.kept b' hb2] at hv ⊢
            exact hv
    · intro t ds _ hl
      exact ⟨_, hlv2 t ds hl, mapLv_length .., by rw [hloc]⟩
  have go1 : ∀ p d v, C.E.leaf p = d → v = C.cv p → LRel C p d v → LRel C' p (lf1 g p d) v := by
    intro p d v hp hvc hv
    by_cases hpq : p = q
    · subst hpq
      rw [hq] at hp; subst hp; subst hvc
      show LRel C' p (if p = p then D.own e xs' else _) _
      rw [if_pos rfl]
      refine .own _ _ _ _ ?_
      rw [hP, hw, hF]; exact ho
    · have e1 : lf1 g p d = d := by
        cases d <;> first | rfl | (show (if p = q then _ else _) = _; rw [if_neg hpq])
      rw [e1]
      by_cases hod : d.isOwn = true
      · cases d <;> simp [D.isOwn] at hod
        cases hv with
        | own _ _ _ h =>
          refine .own _ _ _ _ ?_
          rw [hP, hw, hF]
          exact hoth p _ _ _ hpq h
      · have := LRel.same s hv p (by simpa using hod) ⟨fun q h => by simp, fun t ht => by simp⟩
        rwa [D.re_id] at this
  refine ⟨?_, by rw [ha]; exact R.defers, ?_, ?_, by rw [hF]; exact R.disj, ?_, ?_, ?_, by rw [hF]; exact R.flent, ?_, ?_, by rw [← hC']; exact R.mnew, by rw [← hC']; exact R.mL⟩
  · rw [ha, hE]
    show C.a.tmps.size = (mapSl (lf1 g) 0 C.E.sl).length
    rw [mapSl_length]; exact R.tmps
  · intro t d' hd'
    rw [hE] at hd'
    rw [ha]
    have h2 : (mapSl (lf1 g) 0 C.E.sl)[t]? = some d' := hd'
    rw [mapSl_get] at h2
    cases h3 : C.E.sl[t]? with
    | none => rw [h3] at h2; simp at h2
    | some d =>
      rw [h3] at h2
      have h4 : d' = d.mapP (fun j => lf1 g ⟨false, t, j⟩) := by simpa using h2.symm
      subst h4
      have hs := R.slot t d h3
      refine hs.map rfl _ (leafyG hg _) (fun _ => rfl) fun k y hy hl => ?_
      exact ⟨lf1_leafy hg _ _ hl, fun hv => go1 _ _ _ (hs.at h3 k y hy) rfl hv⟩
  · intro t ds' hl
    obtain ⟨ds, h1, rfl⟩ := hlive t ds' hl
    obtain ⟨c1, e1, f1, a1, a2, a3, a4⟩ := (R.cell t ds h1).out
    refine ⟨c1, e1, f1, by rw [hw, hloc, x.kept _ (hblk t ds h1)]; exact a1, a2, by rw [hloc, mapLv_length]; exact a3, ?_⟩
    intro i d hd
    rw [mapLv_get] at hd
    cases hx : ds[i]? with
    | none => rw [hx] at hd; simp at hd
    | some y =>
      rw [hx] at hd
      have : d = lf1 g ⟨true, t, 0 + i⟩ y := by simpa using hd.symm
      subst this
      rw [Nat.zero_add, hloc]
      obtain ⟨b1, b2, b3⟩ := a4 i y hx
      refine ⟨lf1_leafy hg _ _ b1, b2, go1 _ _ _ ?_ (cell_cv a1).symm b3⟩
      rw [leaf_cell _ _ _ _ h1]; exact getD_some hx
  · intro t1 d1 t2 d2 h1 h2 he
    rw [hloc] at he
    obtain ⟨x1, y1, _⟩ := hlive _ _ h1
    obtain ⟨x2, y2, _⟩ := hlive _ _ h2
    exact R.cdisj _ _ _ _ y1 y2 he
  · intro t' ds' p hl' hp
    rw [hF, hloc] at hp
    obtain ⟨x1, y1, _⟩ := hlive _ _ hl'
    exact R.fcd _ _ p y1 hp
  · intro p b hp
    rw [hF] at hp
    rw [hw, x.size]
    exact R.fbound p b hp
  · intro t' ds' hl' hb i hi
    rw [hloc] at hb ⊢
    obtain ⟨x1, y1, rfl⟩ := hlive _ _ hl'
    rw [mapLv_length] at hi
    exact R.clent _ _ y1 hb i hi
  · rw [hw]
    exact R.frame.wrt x fun j _ hlt => R.flent q b hb hlt j
end Go.Proofs.Ytcnogcachboibaa.Fw
