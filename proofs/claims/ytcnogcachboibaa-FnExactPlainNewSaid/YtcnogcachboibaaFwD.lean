/- Framework, part D: forgetting: an environment may say less. -/
import Derived.Test.YtcnogcachboibaaFwC
namespace Go.Proofs.Ytcnogcachboibaa.Fw
open Go
set_option linter.unusedVariables false

def LWk (d d' : D) : Prop := d' = .dead ∨ d' = d ∨ (d = .nil ∧ ∃ e, d' = .own e [])
inductive CWk : D → D → Prop
  | dead (d : D) : CWk d .dead
  | agg (ds ds' : List D) : ds.length = ds'.length → (∀ (i : Nat) (d d' : D), ds[i]? = some d → ds'[i]? = some d' → LWk d d') → CWk (.agg ds) (.agg ds')
  | leaf (d d' : D) : d.leafy = true → LWk d d' → CWk d d'
inductive SWk : D → D → Prop
  | dead (d : D) : SWk d .dead
  | tup (cs cs' : List D) : cs.length = cs'.length → (∀ (i : Nat) (d d' : D), cs[i]? = some d → cs'[i]? = some d' → d'.isTup = false ∧ CWk d d') → SWk (.tup cs) (.tup cs')
  | comp (d d' : D) : d.isTup = false → d'.isTup = false → CWk d d' → SWk d d'

/-- All that a leaf names is there. -/
def D.fine (E : Env) (d : D) : Prop := (∀ q, d.base = some q → (E.leaf q).isOwn = true) ∧ ∀ t, t ∈ d.crefs → ∃ ds, E.ce[t]? = some (some ds)
structure EWk (E E' : Env) : Prop where
  len : E'.sl.length = E.sl.length
  sl : ∀ (t : Nat) (d d' : D), E.sl[t]? = some d → E'.sl[t]? = some d' → SWk d d'
  ce : ∀ (t : Nat) (ds' : List D), E'.ce[t]? = some (some ds') → ∃ ds, E.ce[t]? = some (some ds) ∧ ds.length = ds'.length ∧ ∀ (i : Nat) (d d' : D), ds[i]? = some d → ds'[i]? = some d' → LWk d d'
  fsl : ∀ (t : Nat) (d' : D), E'.sl[t]? = some d' → ∀ k x, At d' k x → x.fine E'
  fce : ∀ (t : Nat) (ds' : List D), E'.ce[t]? = some (some ds') → ∀ x, x ∈ ds' → x.fine E'

theorem LWk.own {d : D} {e : TypeId} {xs : List (List T)} {d' : D} (h : LWk d d') (hd : d = .own e xs) (ho : d'.isOwn = true) : d' = d := by
  rcases h with h | h | ⟨h, _⟩
  · subst h; simp [D.isOwn] at ho
  · exact h
  · rw [hd] at h; simp at h

theorem leaves1_dead (k : Nat) : (D.leaves1 .dead).getD k .dead = .dead := by
  simp only [D.leaves1]
  cases k <;> simp

theorem one_getD (d : D) (n : Nat) (h : n ≠ 0) : [d].getD n .dead = .dead := by
  obtain ⟨m, rfl⟩ : ∃ m, n = m + 1 := ⟨n - 1, by omega⟩
  rfl
theorem leafOf_dead (k : Nat) : D.leafOf .dead k = .dead := by
  simp only [D.leafOf, D.comps]
  by_cases h : k / 64 = 0
  · rw [h]; exact leaves1_dead _
  · rw [one_getD _ _ h]; exact leaves1_dead _
theorem leaf_none_slot (E : Env) (t k : Nat) (h : E.sl[t]? = none) : E.leaf ⟨false, t, k⟩ = .dead := by
  have : E.sl.getD t .dead = .dead := by rw [List.getD_eq_getElem?_getD, h]; rfl
  simp only [Env.leaf, this]
  exact leafOf_dead k
/-- A leaf that is not dead stands somewhere. -/
theorem leafOf_at (d : D) (k : Nat) (h : d.leafOf k ≠ .dead) : At d k (d.leafOf k) := by
  have h3 : 64 * (k / 64) + k % 64 = k := by omega
  have h4 : k % 64 < 64 := Nat.mod_lt _ (by omega)
  by_cases ht : d.isTup = true
  · cases d <;> simp [D.isTup] at ht
    rename_i cs
    have hc : ∃ c, cs[k / 64]? = some c := by
      cases hc : cs[k / 64]? with
      | some c => exact ⟨c, rfl⟩
      | none => exfalso; apply h; simp only [D.leafOf, D.comps, List.getD_eq_getElem?_getD, hc]; exact leaves1_dead _
    obtain ⟨c, hc⟩ := hc
    have hx : ∃ x, c.leaves1[k % 64]? = some x := by
      cases hx : c.leaves1[k % 64]? with
      | some x => exact ⟨x, rfl⟩
      | none => exfalso; apply h; simp [D.leafOf, D.comps, List.getD_eq_getElem?_getD, hc, hx]
    obtain ⟨x, hx⟩ := hx
    have := At.tup cs (k / 64) (k % 64) c x hc h4 hx
    rw [h3] at this
    have e := this.leafOf
    rw [e]; exact this
  · have ht' : d.isTup = false := by simpa using ht
    have hk : k / 64 = 0 := by
      by_cases hk : k / 64 = 0
      · exact hk
      · exfalso; apply h
        have : d.comps = [d] := by cases d <;> simp_all [D.comps, D.isTup]
        simp only [D.leafOf, this]
        rw [one_getD _ _ hk]
        exact leaves1_dead _
    have hk' : k < 64 := by omega
    have e := leafOf_comp d k ht' hk'
    have hx : ∃ x, d.leaves1[k]? = some x := by
      cases hx : d.leaves1[k]? with
      | some x => exact ⟨x, rfl⟩
      | none => exfalso; apply h; rw [e, List.getD_eq_getElem?_getD, hx]; rfl
    obtain ⟨x, hx⟩ := hx
    have := At.comp d k x ht' hk' hx
    rw [this.leafOf]; exact this

theorem SWk.leaf {d d' : D} (h : SWk d d') (k : Nat) : LWk (d.leafOf k) (d'.leafOf k) := by
  by_cases hd : d'.leafOf k = .dead
  · exact .inl hd
  have ha := leafOf_at d' k hd
  generalize hx : d'.leafOf k = x at *
  cases ha with
  | comp _ _ _ ht hk hx' =>
    cases h with
    | dead => 
      exfalso; apply hd
      have : x = .dead := by
        cases k with
        | zero => simpa [D.leaves1] using hx'.symm
        | succ n => simp [D.leaves1] at hx'
      exact this
    | tup => simp [D.isTup] at ht
    | comp _ _ ht1 _ hc =>
      cases hc with
      | dead =>
        exfalso; apply hd
        cases k with
        | zero => simpa [D.leaves1] using hx'.symm
        | succ n => simp [D.leaves1] at hx'
      | agg ds ds' hl hg =>
        rw [leafOf_comp _ _ rfl hk]
        simp only [D.leaves1] at hx' ⊢
        have hi : k < ds'.length := (List.getElem?_eq_some_iff.1 hx').1
        have hd1 : ds[k]? = some ds[k] := List.getElem?_eq_getElem (by omega)
        rw [getD_some hd1]
        exact hg k _ _ hd1 hx'
      | leaf _ _ hl hg =>
        have hl' : d'.leafy = true := by
          rcases hg with rfl | rfl | ⟨_, e, rfl⟩
          · rfl
          · exact hl
          · rfl
        have e1 : d.leaves1 = [d] := by cases d <;> simp_all [D.leafy, D.leaves1]
        have e2 : d'.leaves1 = [d'] := by cases d' <;> simp_all [D.leafy, D.leaves1]
        rw [leafOf_comp _ _ ht1 hk, e1]
        rw [e2] at hx'
        cases k with
        | zero => simp at hx'; subst hx'; simpa using hg
        | succ n => simp at hx'
  | tup cs' i j c _ hc hj hx' =>
    cases h with
    | comp _ _ _ ht _ => simp [D.isTup] at ht
    | tup cs _ hl hg =>
      have hi : i < cs'.length := (List.getElem?_eq_some_iff.1 hc).1
      have hd1 : cs[i]? = some cs[i] := List.getElem?_eq_getElem (by omega)
      rw [leafOf_tup _ _ _ _ hd1 hj]
      obtain ⟨ht, hcw⟩ := hg i _ _ hd1 hc
      generalize cs[i] = c0 at *
      cases hcw with
      | dead =>
        exfalso; apply hd
        cases j with
        | zero => simpa [D.leaves1] using hx'.symm
        | succ n => simp [D.leaves1] at hx'
      | agg ds ds' hl hg =>
        simp only [D.leaves1] at hx' ⊢
        have hi : j < ds'.length := (List.getElem?_eq_some_iff.1 hx').1
        have hd1 : ds[j]? = some ds[j] := List.getElem?_eq_getElem (by omega)
        rw [getD_some hd1]
        exact hg j _ _ hd1 hx'
      | leaf _ _ hl hg =>
        have hl' : c.leafy = true := by
          rcases hg with rfl | rfl | ⟨_, e, rfl⟩
          · rfl
          · exact hl
          · rfl
        have e1 : c0.leaves1 = [c0] := by cases c0 <;> simp_all [D.leafy, D.leaves1]
        have e2 : c.leaves1 = [c] := by cases c <;> simp_all [D.leafy, D.leaves1]
        rw [e1]
        rw [e2] at hx'
        cases j with
        | zero => simp at hx'; subst hx'; simpa using hg
        | succ n => simp at hx'

theorem EWk.leaf {E E' : Env} (h : EWk E E') (p : Lf) : LWk (E.leaf p) (E'.leaf p) := by
  obtain ⟨c, t, k⟩ := p
  cases c with
  | false =>
    by_cases ht : t < E.sl.length
    · have h1 : E.sl[t]? = some E.sl[t] := List.getElem?_eq_getElem ht
      have h2 : E'.sl[t]? = some (E'.sl[t]'(by rw [h.len]; exact ht)) := List.getElem?_eq_getElem (by rw [h.len]; exact ht)
      rw [leaf_slot _ _ _ _ h1, leaf_slot _ _ _ _ h2]
      exact (h.sl t _ _ h1 h2).leaf k
    · left
      exact leaf_none_slot _ _ _ (List.getElem?_eq_none (by rw [h.len]; omega))
  | true =>
    cases h2 : E'.ce[t]? with
    | none => left; simp [Env.leaf, List.getD_eq_getElem?_getD, h2]
    | some o =>
      cases o with
      | none => left; simp [Env.leaf, List.getD_eq_getElem?_getD, h2]
      | some ds' =>
        obtain ⟨ds, h1, hl, hg⟩ := h.ce t ds' h2
        rw [leaf_cell _ _ _ _ h1, leaf_cell _ _ _ _ h2]
        by_cases hk : k < ds'.length
        · have a1 : ds[k]? = some ds[k] := List.getElem?_eq_getElem (by omega)
          have a2 : ds'[k]? = some ds'[k] := List.getElem?_eq_getElem hk
          rw [getD_some a1, getD_some a2]
          exact hg k _ _ a1 a2
        · have h0 : ds'.getD k .dead = .dead := by rw [List.getD_eq_getElem?_getD, List.getElem?_eq_none (by omega : ds'.length ≤ k)]; rfl
          exact .inl h0

theorem D.re_id (d : D) : d.re (fun q => q) = d := by cases d <;> rfl

/-- Forgetting keeps what is said true. -/
theorem Rel.weak {w0 : World} {L : Nat → Nat → Prop} {C : Ctx} (R : Rel w0 L C) {E' : Env} (h : EWk C.E E') : Rel w0 L { C with E := E' } := by
  have hlive : ∀ t ds', ({ C with E := E' } : Ctx).live t ds' → ∃ ds, C.live t ds ∧ ds.length = ds'.length := fun t ds' hl => by
    obtain ⟨ds, h1, h2, _⟩ := h.ce t ds' hl
    exact ⟨ds, h1, h2⟩
  have hown : ∀ b, ({ C with E := E' } : Ctx).Owned b → C.Owned b := by
    rintro b (⟨p, hp⟩ | ⟨t, ds', hl, hb⟩)
    · exact .inl ⟨p, hp⟩
    · obtain ⟨ds, h1, _⟩ := hlive t ds' hl
      exact .inr ⟨t, ds, h1, hb⟩
  have s : Same C { C with E := E' } (fun q => q) (fun q => ¬ (E'.leaf q).isOwn = true) (fun t => ¬ ∃ ds, E'.ce[t]? = some (some ds)) := by
    refine ⟨rfl, fun b hb _ => ⟨fun ho => hb (hown b ho), rfl⟩, ?_, ?_, fun _ h => h⟩
    · intro q e xs hq hl
      have h1 : E'.leaf q = .own e xs := by
        have := (h.leaf q).own hl (by simpa using hq)
        rw [this]; exact hl
      exact ⟨xs, h1, rfl, rfl, fun i j e' ys hg => ⟨hg, fun b o n cap v _ hv => hv⟩⟩
    · intro t ds ht hl
      have ht' : ∃ ds', E'.ce[t]? = some (some ds') := by simpa using ht
      obtain ⟨ds', h1⟩ := ht'
      obtain ⟨ds2, h2, h3, _⟩ := h.ce t ds' h1
      have : ds2 = ds := by have := hl; unfold Ctx.live at this; rw [h2] at this; injection this with this; injection this
      exact ⟨ds', h1, by rw [← this]; omega, rfl⟩
  have key : ∀ (p : Lf) (d d' : D), LWk d d' → d'.fine E' → d'.leafy = true → Goes C { C with E := E' } p d p d' := by
    intro p d d' hw hf hlf
    refine ⟨hlf, fun hv => ?_⟩
    generalize C.cv p = v at hv
    rcases hw with rfl | rfl | ⟨rfl, e, rfl⟩
    · exact .dead _ _
    · by_cases ho : d'.isOwn = true
      · cases d' <;> simp [D.isOwn] at ho
        cases hv with
        | own _ _ _ h => exact .own _ _ _ _ h
      · have := LRel.same s hv p (by simpa using ho) ⟨fun q hq => by simpa using hf.1 q hq, fun t ht => by simpa using hf.2 t ht⟩
        rwa [D.re_id] at this
    · cases hv with
      | nil => exact .own _ _ _ _ (.emp _ _)
  have leafyW : ∀ d d' : D, LWk d d' → d.leafy = true → d'.leafy = true := by
    intro d d' hw hl
    rcases hw with rfl | rfl | ⟨rfl, e, rfl⟩ <;> first | rfl | exact hl
  have deadW : ∀ d d' : D, LWk d d' → d = .dead → d' = .dead := by
    intro d d' hw hd
    rcases hw with rfl | rfl | ⟨rfl, e, rfl⟩ <;> first | rfl | exact hd | simp at hd
  refine ⟨by rw [R.tmps, ← h.len], R.defers, ?_, ?_, R.disj, ?_, ?_, R.fbound, R.flent, ?_, R.frame, R.mnew, R.mL⟩
  · intro t d' hd'
    have ht : t < C.E.sl.length := by rw [← h.len]; exact (List.getElem?_eq_some_iff.1 hd').1
    have hd : C.E.sl[t]? = some C.E.sl[t] := List.getElem?_eq_getElem ht
    have hs := R.slot t _ hd
    have hw := h.sl t _ _ hd hd'
    have hf := h.fsl t d' hd'
    generalize C.E.sl[t] = d at *
    generalize hv : C.a.tmps.getD t undef = v at hs
    -- leafiness of what stands in slots
    cases hw with
    | dead => exact .comp _ _ rfl (.dead _ _)
    | tup cs cs' hl hg =>
      cases hs with
      | comp _ _ ht0 _ => simp [D.isTup] at ht0
      | tup _ vs hl' hs =>
        refine .tup _ _ (by omega) ?_
        intro i c' hc'
        have hi : i < cs'.length := (List.getElem?_eq_some_iff.1 hc').1
        have hc : cs[i]? = some cs[i] := List.getElem?_eq_getElem (by omega)
        obtain ⟨b1, b2⟩ := hg i _ _ hc hc'
        obtain ⟨c1, c2⟩ := hs i _ hc
        refine ⟨b1, ?_⟩
        generalize cs[i] = c at *
        have hcv := fun j hj => cv_tup hv i j hj
        generalize vs.getD i undef = vi at c2 hcv
        cases b2 with
        | dead => exact .dead _ _
        | agg ds ds' hl2 hg2 =>
          cases c2 with
          | leaf _ _ hx _ _ => simp [D.leafy] at hx
          | agg _ vs2 q1 q2 q3 =>
            refine CRel.go (C := C) (.agg _ _ _ q1 q2 q3) hcv (.agg _ _ hl2 ?_)
            intro j x x' hx hx'
            have hj : j < 64 := by have := (List.getElem?_eq_some_iff.1 hx).1; omega
            have hlw := hg2 j _ _ hx hx'
            exact key _ _ _ hlw (hf _ _ (At.tup cs' i j _ x' hc' hj (by simpa [D.leaves1] using hx'))) (leafyW _ _ hlw (q3 j _ hx).1)
        | leaf _ _ hlf hlw =>
          have hlf' := leafyW _ _ hlw hlf
          have e2 : c'.leaves1 = [c'] := by cases c' <;> simp_all [D.leafy, D.leaves1]
          exact CRel.go (C := C) c2 hcv (.leaf _ _ hlf (deadW _ _ hlw) (key _ _ _ hlw (hf _ _ (At.tup cs' i 0 _ c' hc' (by omega) (by rw [e2]; rfl))) hlf'))
    | comp _ _ ht1 ht2 hcw =>
      cases hs with
      | tup => simp [D.isTup] at ht1
      | comp _ _ _ hs =>
        refine .comp _ _ ht2 ?_
        cases hcw with
        | dead => exact .dead _ _
        | agg ds ds' hl2 hg2 =>
          cases hs with
          | leaf _ _ hx _ _ => simp [D.leafy] at hx
          | agg _ vs2 q1 q2 q3 =>
            refine CRel.go (C := C) (.agg _ _ _ q1 q2 q3) (fun j hj => cv_comp hv (fun _ h => by cases h) j hj) (.agg _ _ hl2 ?_)
            intro j x x' hx hx'
            have hj : j < 64 := by have := (List.getElem?_eq_some_iff.1 hx).1; omega
            have hlw := hg2 j _ _ hx hx'
            exact key _ _ _ hlw (hf _ _ (At.comp _ j x' rfl hj (by simpa [D.leaves1] using hx'))) (leafyW _ _ hlw (q3 j _ hx).1)
        | leaf _ _ hlf hlw =>
          have hlf' := leafyW _ _ hlw hlf
          have e2 : d'.leaves1 = [d'] := by cases d' <;> simp_all [D.leafy, D.leaves1]
          by_cases hdd : d = .dead
          · rw [deadW _ _ hlw hdd]; exact .dead _ _
          exact CRel.go (C := C) hs (fun j hj => cv_comp hv (hs.notTuple hdd) j hj) (.leaf _ _ hlf (deadW _ _ hlw) (key _ _ _ hlw (hf _ _ (At.comp _ 0 d' ht2 (by omega) (by rw [e2]; rfl))) hlf'))
  · intro t ds' hl
    obtain ⟨ds, h1, h2, h3⟩ := h.ce t ds' hl
    refine (R.cell t ds h1).go h2 rfl rfl ?_
    intro i d d' hd hd'
    have hlw := h3 i _ _ hd hd'
    obtain ⟨cs, e, fr, a1, a2, a3, a4⟩ := (R.cell t ds h1).out
    exact key _ _ _ hlw (h.fce t ds' hl d' (List.mem_of_getElem? hd')) (leafyW _ _ hlw (a4 i _ hd).1)
  · intro t ds t' ds' h1 h2 he
    obtain ⟨x, a1, _⟩ := hlive t ds h1
    obtain ⟨y, a2, _⟩ := hlive t' ds' h2
    exact R.cdisj t x t' y a1 a2 he
  · intro t ds p h1
    obtain ⟨x, a1, _⟩ := hlive t ds h1
    exact R.fcd t x p a1
  · intro t ds h1 hb i hi
    obtain ⟨x, a1, a2⟩ := hlive t ds h1
    exact R.clent t x a1 hb i (by omega)
end Go.Proofs.Ytcnogcachboibaa.Fw
