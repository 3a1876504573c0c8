/- Framework, part C: what stays true when memory and environment change. -/
import Derived.Test.YtcnogcachboibaaFwB
namespace Go.Proofs.Ytcnogcachboibaa.Fw
open Go
set_option linter.unusedVariables false

/-- From C to C' nothing is lost: what hangs on an owned row still does (rows are renamed by g); what nobody owns is as it was. -/
structure Same (C C' : Ctx) (g : Lf → Lf) (bad : Lf → Prop) (badc : Nat → Prop) : Prop where
  P : C'.P = C.P
  un : ∀ b, ¬ C.Owned b → b < C.w.heap.size → ¬ C'.Owned b ∧ C'.w.heap[b]? = C.w.heap[b]?
  lf : ∀ q e xs, ¬ bad q → C.E.leaf q = .own e xs → ∃ xs', C'.E.leaf (g q) = .own e xs' ∧ xs'.length = xs.length ∧ C'.cv (g q) = C.cv q ∧
    ∀ i j e' ys, T.get? xs i j = some (.sl e' ys) → T.get? xs' i j = some (.sl e' ys) ∧
      ∀ b o n cap v, C.cv q = .slice (some ⟨b, o, none⟩) n cap → C.w.cell? ⟨b, o + i * C.P.cellsOf e + j, none⟩ = some v → C'.w.cell? ⟨b, o + i * C.P.cellsOf e + j, none⟩ = some v
  live : ∀ t ds, ¬ badc t → C.live t ds → ∃ ds', C'.live t ds' ∧ ds'.length = ds.length ∧ C'.loc t = C.loc t
  M : ∀ b, C.M b → C'.M b

/-- Nothing that a leaf names is lost. -/
def D.okB (bad : Lf → Prop) (badc : Nat → Prop) (d : D) : Prop := (∀ q, d.base = some q → ¬ bad q) ∧ ∀ t, t ∈ d.crefs → ¬ badc t

theorem LRel.same {C C' : Ctx} {g : Lf → Lf} {bad : Lf → Prop} {badc : Nat → Prop} (s : Same C C' g bad badc) {p : Lf} {d : D} {v : Value} (h : LRel C p d v) :
    ∀ p', d.isOwn = false → d.okB bad badc → LRel C' p' (d.re g) v := by
  induction h with
  | dead v => intro p' _ _; exact .dead _ _
  | v x hx => intro p' _ _; exact .v _ _ hx
  | nil => intro p' _ _; exact .nil _
  | own e xs v h => intro p' hd; simp [D.isOwn] at hd
  | imm e xs v h =>
    intro p' _ _
    refine .imm _ _ _ _ ?_
    rw [s.P]
    exact h.mono fun b hb hl => ⟨⟨(s.un b hb.1 hl).1, s.M b hb.2⟩, (s.un b hb.1 hl).2⟩
  | ali q e xs h =>
    intro p' _ hk
    obtain ⟨xs', h1, h2, h3, h4⟩ := s.lf q e xs (hk.1 q rfl) h
    have := LRel.ali (C := C') p' (g q) e xs' h1
    rwa [h3] at this
  | sub q lo hi e xs h hlo hhi =>
    intro p' _ hk
    obtain ⟨xs', h1, h2, h3, h4⟩ := s.lf q e xs (hk.1 q rfl) h
    have := LRel.sub (C := C') p' (g q) lo hi e xs' h1 hlo (by omega)
    rwa [h3, s.P] at this
  | ela q i j e xs e' ys b o n cap v h hg hc hv =>
    intro p' _ hk
    obtain ⟨xs', h1, h2, h3, h4⟩ := s.lf q e xs (hk.1 q rfl) h
    obtain ⟨h5, h6⟩ := h4 i j e' ys hg
    refine .ela p' (g q) i j e xs' e' ys b o n cap v h1 h5 (h3.trans hc) ?_
    rw [s.P]
    exact h6 b o n cap v hc hv
  | cref t k ds h hk =>
    intro p' _ hb
    obtain ⟨ds', h1, h2, h3⟩ := s.live t ds (hb.2 t (by simp [D.crefs])) h
    have := LRel.cref (C := C') p' t k ds' h1 (by omega)
    rwa [h3] at this
  | eref q i j e xs b o n cap h hc hi =>
    intro p' _ hk
    obtain ⟨xs', h1, h2, h3, h4⟩ := s.lf q e xs (hk.1 q rfl) h
    have := LRel.eref (C := C') p' (g q) i j e xs' b o n cap h1 (h3.trans hc) (by omega)
    rwa [s.P] at this
  | rptr ds b o cs ce fr X h1 h2 h3 h4 h5 ih =>
    intro p' _ _
    have hb : b < C.w.heap.size := (Array.getElem?_eq_some_iff.1 h1).1
    obtain ⟨u1, u2⟩ := s.un b h2.1 hb
    refine .rptr p' ds b o cs ce fr X (u2.trans h1) ⟨u1, s.M b h2.2⟩ h3 h4 ?_
    intro i d hd
    have := h4 i d hd
    have h := ih i d hd p'
    cases d <;> simp_all [D.pure, D.isOwn, D.re, D.okB, D.base, D.crefs]
  | clo f ds vs h1 h2 h3 ih =>
    intro p' _ hk
    refine .clo p' f ds vs h1 h2 ?_
    intro i d hd
    have := h2 i d hd
    have hm : d ∈ ds := List.mem_of_getElem? hd
    have h := ih i d hd p'
    have hk2 := hk.2
    cases d with
    | cref t k =>
      refine h rfl ⟨fun q hq => by simp [D.base] at hq, fun t' ht' => hk2 t' ?_⟩
      simp only [D.crefs, List.mem_singleton] at ht'
      subst ht'
      simp only [D.crefs, List.mem_filterMap]
      exact ⟨_, hm, rfl⟩
    | _ => first | simp [D.capt] at this; done | exact h rfl ⟨fun q hq => by simp [D.base] at hq, fun t' ht' => by simp [D.crefs] at ht'⟩

theorem getD_some {α : Type} {l : List α} {i : Nat} {d x : α} (h : l[i]? = some d) : l.getD i x = d := by simp [List.getD_eq_getElem?_getD, h]
theorem mul_div64 (i k : Nat) (h : k < 64) : (64 * i + k) / 64 = i ∧ (64 * i + k) % 64 = k := by omega

theorem leafOf_comp (d : D) (k : Nat) (hd : d.isTup = false) (hk : k < 64) : d.leafOf k = d.leaves1.getD k .dead := by
  have h1 : k / 64 = 0 := by omega
  have h2 : k % 64 = k := by omega
  simp only [D.leafOf, h1, h2]
  cases d <;> first | rfl | simp [D.isTup] at hd

theorem leafOf_tup (cs : List D) (i k : Nat) (d : D) (h : cs[i]? = some d) (hk : k < 64) : (D.tup cs).leafOf (64 * i + k) = d.leaves1.getD k .dead := by
  obtain ⟨h1, h2⟩ := mul_div64 i k hk
  simp only [D.leafOf, D.comps, h1, h2]
  rw [getD_some h]

theorem leaf_slot (E : Env) (t k : Nat) (d : D) (h : E.sl[t]? = some d) : E.leaf ⟨false, t, k⟩ = d.leafOf k := by
  simp only [Env.leaf]
  rw [getD_some h]
  rfl
theorem leaf_cell (E : Env) (t k : Nat) (ds : List D) (h : E.ce[t]? = some (some ds)) : E.leaf ⟨true, t, k⟩ = ds.getD k .dead := by
  simp only [Env.leaf]
  rw [getD_some h]
  rfl


/-- The leaf at p in C becomes d' at p' in C'. -/
def Goes (C C' : Ctx) (p : Lf) (d : D) (p' : Lf) (d' : D) : Prop := d'.leafy = true ∧ (LRel C p d (C.cv p) → LRel C' p' d' (C.cv p))

inductive CGo (C C' : Ctx) (t : Nat) (k : Nat) : D → D → Prop
  | dead (d : D) : CGo C C' t k d .dead
  | agg (ds ds' : List D) : ds.length = ds'.length → (∀ (i : Nat) (d d' : D), ds[i]? = some d → ds'[i]? = some d' → Goes C C' ⟨false, t, k + i⟩ d ⟨false, t, k + i⟩ d') → CGo C C' t k (.agg ds) (.agg ds')
  | leaf (d d' : D) : d.leafy = true → (d = .dead → d' = .dead) → Goes C C' ⟨false, t, k⟩ d ⟨false, t, k⟩ d' → CGo C C' t k d d'
inductive SGo (C C' : Ctx) (t : Nat) : D → D → Prop
  | dead (d : D) : SGo C C' t d .dead
  | tup (cs cs' : List D) : cs.length = cs'.length → (∀ (i : Nat) (d d' : D), cs[i]? = some d → cs'[i]? = some d' → d'.isTup = false ∧ CGo C C' t (64 * i) d d') → SGo C C' t (.tup cs) (.tup cs')
  | comp (d d' : D) : d.isTup = false → d'.isTup = false → CGo C C' t 0 d d' → SGo C C' t d d'

theorem arr_list_getD (vs : Array Value) (i : Nat) : vs.toList.getD i undef = vs.getD i undef := by
  rw [List.getD_eq_getElem?_getD, Array.getElem?_toList]
  simp [Array.getD_eq_getD_getElem?]

theorem CRel.go {C C' : Ctx} {t k : Nat} {d d' : D} {v : Value} (h : CRel C t k d v) (hcv : ∀ j, j < 64 → C.cv ⟨false, t, k + j⟩ = (vleaves1 v).getD j undef) (hg : CGo C C' t k d d') : CRel C' t k d' v := by
  cases hg with
  | dead => exact .dead _ _
  | agg ds ds' hl hg =>
    cases h with
    | agg _ vs hl' h64 h =>
      refine .agg _ _ _ (by omega) (by omega) ?_
      intro i d' hd'
      have hi : i < ds'.length := (List.getElem?_eq_some_iff.1 hd').1
      have hd : ds[i]? = some ds[i] := List.getElem?_eq_getElem (by omega)
      obtain ⟨a1, a2, a3⟩ := h i _ hd
      obtain ⟨b1, b2⟩ := hg i _ _ hd hd'
      have e := hcv i (by omega)
      simp only [vleaves1] at e
      rw [arr_list_getD] at e
      rw [e] at b2
      exact ⟨b1, a2, b2 a3⟩
    | leaf _ _ ha hb hc => simp [D.leafy] at ha
  | leaf _ _ hlf hdd hg =>
    cases h with
    | dead => rw [hdd rfl]; exact .dead _ _
    | agg => simp [D.leafy] at hlf
    | leaf _ _ ha hb hc =>
      have e := hcv 0 (by omega)
      have e1 : vleaves1 v = [v] := by cases v <;> first | rfl | simp [one] at hb
      rw [e1] at e
      have e : C.cv ⟨false, t, k⟩ = v := by simpa using e
      obtain ⟨g1, g2⟩ := hg
      rw [e] at g2
      exact .leaf _ _ _ g1 hb (g2 hc)

theorem cv_comp {C : Ctx} {t : Nat} {v : Value} (hv : C.a.tmps.getD t undef = v) (ht : ∀ vs, v ≠ .tuple vs) (j : Nat) (hj : j < 64) : C.cv ⟨false, t, 0 + j⟩ = (vleaves1 v).getD j undef := by
  have h1 : (0 + j) / 64 = 0 := by omega
  have h2 : (0 + j) % 64 = j := by omega
  have h3 : vcomps v = [v] := by cases v <;> first | rfl | exact absurd rfl (ht _)
  show vleafOf (C.a.tmps.getD t undef) (0 + j) = _
  rw [hv]
  simp only [vleafOf, h1, h2, h3]
  rfl
theorem cv_tup {C : Ctx} {t : Nat} {vs : Array Value} (hv : C.a.tmps.getD t undef = .tuple vs) (i j : Nat) (hj : j < 64) : C.cv ⟨false, t, 64 * i + j⟩ = (vleaves1 (vs.getD i undef)).getD j undef := by
  obtain ⟨h1, h2⟩ := mul_div64 i j hj
  show vleafOf (C.a.tmps.getD t undef) (64 * i + j) = _
  rw [hv]
  simp only [vleafOf, h1, h2, vcomps]
  rw [arr_list_getD vs]

theorem CRel.notTuple {C : Ctx} {t k : Nat} {d : D} {v : Value} (h : CRel C t k d v) (hd : d ≠ .dead) : ∀ vs, v ≠ .tuple vs := by
  intro vs e
  subst e
  cases h with
  | dead => exact hd rfl
  | leaf _ _ _ hb _ => simp [one] at hb

theorem SRel.go {C C' : Ctx} {t : Nat} {d d' : D} {v : Value} (h : SRel C t d v) (hv : C.a.tmps.getD t undef = v) (hg : SGo C C' t d d') : SRel C' t d' v := by
  cases hg with
  | dead => exact .comp _ _ rfl (.dead _ _)
  | tup cs cs' hl hg =>
    cases h with
    | tup _ vs hl' h =>
      refine .tup _ _ (by omega) ?_
      intro i d' hd'
      have hi : i < cs'.length := (List.getElem?_eq_some_iff.1 hd').1
      have hd : cs[i]? = some cs[i] := List.getElem?_eq_getElem (by omega)
      obtain ⟨b1, b2⟩ := hg i _ _ hd hd'
      exact ⟨b1, (h i _ hd).2.go (fun j hj => cv_tup hv i j hj) b2⟩
    | comp _ _ ht hc => simp [D.isTup] at ht
  | comp _ _ ht ht' hg =>
    cases h with
    | tup => simp [D.isTup] at ht
    | comp _ _ _ hc =>
      by_cases hdd : d = .dead
      · subst hdd
        cases hg with
        | dead => exact .comp _ _ rfl (.dead _ _)
        | leaf _ _ _ h2 _ => rw [h2 rfl]; exact .comp _ _ rfl (.dead _ _)
      · exact .comp _ _ ht' (hc.go (fun j hj => cv_comp hv (hc.notTuple hdd) j hj) hg)

theorem cell_cv {C : Ctx} {t i : Nat} {cs : Array Value} {e : TypeId} {fr : Nat × Nat} (h : C.w.heap[(C.loc t).1]? = some (.cells cs e fr)) : C.cv ⟨true, t, i⟩ = cs.getD ((C.loc t).2 + i) undef := by
  show (C.w.cell? ⟨(C.loc t).1, (C.loc t).2 + i, none⟩).getD undef = _
  simp [World.cell?, h, Array.getD_eq_getD_getElem?]

/-- A cell goes over, its block unchanged. -/
theorem CellOk.go {C C' : Ctx} {t : Nat} {ds ds' : List D} (h : CellOk C t ds) (hlen : ds.length = ds'.length) (hl : C'.loc t = C.loc t)
    (hw : C'.w.heap[(C.loc t).1]? = C.w.heap[(C.loc t).1]?)
    (hg : ∀ (i : Nat) (d d' : D), ds[i]? = some d → ds'[i]? = some d' → Goes C C' ⟨true, t, i⟩ d ⟨true, t, i⟩ d') : CellOk C' t ds' := by
  obtain ⟨cs, e, fr, a1, a2, a3, a4⟩ := h.out
  refine ⟨cs, e, fr, ?_, a2, ?_, ?_⟩
  · rw [hl, hw]; exact a1
  · rw [hl]; omega
  · intro i d' hd'
    have hi : i < ds'.length := (List.getElem?_eq_some_iff.1 hd').1
    have hd : ds[i]? = some ds[i] := List.getElem?_eq_getElem (by omega)
    obtain ⟨b1, b2, b3⟩ := a4 i _ hd
    obtain ⟨c1, c2⟩ := hg i _ _ hd hd'
    rw [cell_cv a1] at c2
    rw [hl]
    exact ⟨c1, b2, c2 b3⟩

/-! ### where leaves stand -/
/-- The leaf ids of a slot's contents. -/
inductive At : D → Nat → D → Prop
  | comp (d : D) (k : Nat) (x : D) : d.isTup = false → k < 64 → d.leaves1[k]? = some x → At d k x
  | tup (cs : List D) (i k : Nat) (c x : D) : cs[i]? = some c → k < 64 → c.leaves1[k]? = some x → At (.tup cs) (64 * i + k) x
theorem At.leafOf {d : D} {k : Nat} {x : D} (h : At d k x) : d.leafOf k = x := by
  cases h with
  | comp _ _ _ ht hk hx => rw [leafOf_comp _ _ ht hk]; exact getD_some hx
  | tup cs i k c _ hc hk hx => rw [leafOf_tup _ _ _ _ hc hk]; exact getD_some hx
end Go.Proofs.Ytcnogcachboibaa.Fw
