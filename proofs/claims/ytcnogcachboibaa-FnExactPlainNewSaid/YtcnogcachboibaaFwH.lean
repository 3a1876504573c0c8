/- Framework, part H: a slot is written. -/
import Derived.Test.YtcnogcachboibaaFwG
namespace Go.Proofs.Ytcnogcachboibaa.Fw
open Go
set_option linter.unusedVariables false

/-- Memory has grown; what was there is as it was. -/
structure Ext (w w' : World) : Prop where
  os : w'.os = w.os
  tape : w'.tape = w.tape
  output : w'.output = w.output
  size : w.heap.size ≤ w'.heap.size
  kept : ∀ b, b < w.heap.size → w'.heap[b]? = w.heap[b]?
theorem Ext.refl (w : World) : Ext w w := ⟨rfl, rfl, rfl, Nat.le_refl _, fun _ _ => rfl⟩
theorem Ext.trans {a b c : World} (h : Ext a b) (k : Ext b c) : Ext a c :=
  ⟨k.os.trans h.os, k.tape.trans h.tape, k.output.trans h.output, Nat.le_trans h.size k.size, fun i hi => (k.kept i (Nat.lt_of_lt_of_le hi h.size)).trans (h.kept i hi)⟩
theorem Ext.alloc (w : World) (o : Obj) : Ext w (w.alloc o) :=
  ⟨rfl, rfl, rfl, by show _ ≤ (w.heap.push o).size; rw [Array.size_push]; omega, fun b hb => by show (w.heap.push o)[b]? = _; rw [Array.getElem?_push, if_neg (by omega)]⟩
theorem Ext.drew (w : World) : Ext w w.drew := ⟨rfl, rfl, rfl, Nat.le_refl _, fun _ _ => rfl⟩
theorem Ext.cell {w w' : World} (h : Ext w w') {a : Addr} {v : Value} (hc : w.cell? a = some v) : w'.cell? a = some v := by
  have hb : a.block < w.heap.size := by
    unfold World.cell? at hc
    cases hx : w.heap[a.block]? with
    | none => rw [hx] at hc; simp at hc
    | some o => exact (Array.getElem?_eq_some_iff.1 hx).1
  unfold World.cell? at *
  rw [h.kept _ hb]; exact hc

theorem Frame.ext {w0 : World} {L : Nat → Nat → Prop} {w w' : World} (h : Frame w0 L w) (x : Ext w w') : Frame w0 L w' := by
  refine ⟨x.os.trans h.os, x.tape.trans h.tape, x.output.trans h.output, Nat.le_trans h.size x.size, ?_, ?_⟩
  · intro b hb hl
    rw [x.kept b (Nat.lt_of_lt_of_le hb h.size)]; exact h.kept b hb hl
  · intro b cs e fr hc
    obtain ⟨cs', h1, h2⟩ := h.part b cs e fr hc
    exact ⟨cs', by rw [x.kept b (Array.getElem?_eq_some_iff.1 h1).1]; exact h1, h2⟩

theorem CRel.tr {C C' : Ctx} {t k0 : Nat} {d : D} {v : Value} (h : CRel C t k0 d v) (g : Nat → D → D) (hg : Leafy g) (hd0 : ∀ k, g k .dead = .dead)
    (hgo : ∀ j x v, j < 64 → d.leaves1[j]? = some x → LRel C ⟨false, t, k0 + j⟩ x v → LRel C' ⟨false, t, k0 + j⟩ (g (k0 + j) x) v) : CRel C' t k0 (d.mapP1 g k0) v := by
  cases h with
  | dead => simp only [D.mapP1]; rw [hd0]; exact .dead _ _
  | agg ds vs hl h64 h =>
    refine .agg _ _ _ (by rw [mapLv_length]; exact hl) (by rw [mapLv_length]; exact h64) ?_
    intro i d' hd'
    rw [mapLv_get] at hd'
    cases hx : ds[i]? with
    | none => rw [hx] at hd'; simp at hd'
    | some x =>
      rw [hx] at hd'
      have : d' = g (k0 + i) x := by simpa using hd'.symm
      subst this
      obtain ⟨a1, a2, a3⟩ := h i x hx
      exact ⟨hg _ _ a1, a2, hgo i x _ (by have := (List.getElem?_eq_some_iff.1 hx).1; omega) (by simpa [D.leaves1] using hx) a3⟩
  | leaf _ _ ha hb hc =>
    rw [leafy_mapP1 ha]
    have := hgo 0 d v (by omega) (by rw [leafy_leaves1 ha]; rfl) (by simpa using hc)
    exact .leaf _ _ _ (hg _ _ ha) hb (by simpa using this)

theorem SRel.tr {C C' : Ctx} {t : Nat} {d : D} {v : Value} (h : SRel C t d v) (g : Nat → D → D) (hg : Leafy g) (hd0 : ∀ k, g k .dead = .dead)
    (hgo : ∀ k x v, At d k x → LRel C ⟨false, t, k⟩ x v → LRel C' ⟨false, t, k⟩ (g k x) v) : SRel C' t (d.mapP g) v := by
  cases h with
  | tup cs vs hl h =>
    refine .tup _ _ (by rw [mapCs_length]; exact hl) ?_
    intro i c hc
    rw [mapCs_get] at hc
    cases hx : cs[i]? with
    | none => rw [hx] at hc; simp at hc
    | some x =>
      rw [hx] at hc
      have : c = x.mapP1 g (64 * i) := by simpa using hc.symm
      subst this
      obtain ⟨a1, a2⟩ := h i x hx
      exact ⟨mapP1_isTup g hg _ _ a1, a2.tr g hg hd0 fun j y v hj hy => hgo _ y v (At.tup cs i j x y hx hj hy)⟩
  | comp _ _ ht hc =>
    rw [mapP_of ht]
    exact .comp _ _ (mapP1_isTup g hg _ _ ht) (hc.tr g hg hd0 fun j y v hj hy => hgo _ y v (by rw [Nat.zero_add]; exact At.comp d j y ht hj hy))

theorem mapP1_id (k : Nat) (d : D) : d.mapP1 (fun _ x => x) k = d := by
  have : ∀ (ds : List D) (k : Nat), mapLv (fun _ x => x) k ds = ds := by
    intro ds
    induction ds with
    | nil => intro k; rfl
    | cons d ds ih => intro k; simp [mapLv, ih]
  cases d <;> simp [D.mapP1, this]
theorem mapP_id (d : D) : d.mapP (fun _ x => x) = d := by
  have : ∀ (ds : List D) (k : Nat), mapCs (fun _ x => x) k ds = ds := by
    intro ds
    induction ds with
    | nil => intro k; rfl
    | cons d ds ih => intro k; simp [mapCs, ih, mapP1_id]
  by_cases ht : d.isTup = true
  · obtain ⟨cs, rfl⟩ := tup_of ht; simp [D.mapP, this]
  · rw [mapP_of (by simpa using ht), mapP1_id]

theorem own_anyOwn {d : D} {k : Nat} {e : TypeId} {xs : List (List T)} (h : d.leafOf k = .own e xs) : d.anyOwn = true := by
  have ha := leafOf_at d k (by rw [h]; simp)
  rw [h] at ha
  unfold D.anyOwn
  cases ha with
  | comp _ _ _ ht hk hx =>
    have : d.comps = [d] := by cases d <;> first | rfl | simp [D.isTup] at ht
    rw [this, List.any_eq_true]
    exact ⟨d, by simp, List.any_eq_true.2 ⟨_, List.mem_of_getElem? hx, rfl⟩⟩
  | tup cs i j c _ hc hj hx =>
    simp only [D.comps]
    rw [List.any_eq_true]
    exact ⟨c, List.mem_of_getElem? hc, List.any_eq_true.2 ⟨_, List.mem_of_getElem? hx, rfl⟩⟩

theorem SRel.tr' {C C' : Ctx} {t : Nat} {d : D} {v : Value} (h : SRel C t d v) (hgo : ∀ k x v, At d k x → LRel C ⟨false, t, k⟩ x v → LRel C' ⟨false, t, k⟩ x v) : SRel C' t d v := by
  have := h.tr (C' := C') (fun _ x => x) (fun _ _ h => h) (fun _ => rfl) hgo
  rwa [mapP_id] at this

theorem anyOwn_at {d : D} {k : Nat} {x : D} (h : At d k x) (hno : d.anyOwn = false) : x.isOwn = false := by
  cases x <;> first | rfl | exact absurd (own_anyOwn h.leafOf) (by rw [hno]; simp)

def inS (t : Nat) (p : Lf) : Prop := p.c = false ∧ p.t = t

theorem notOwn_inS {C : Ctx} {t : Nat} (hno : (C.E.sl.getD t .dead).anyOwn = false) : ∀ q e xs, C.E.leaf q = .own e xs → ¬ inS t q := by
  rintro ⟨c, t', k⟩ e xs hq ⟨h1, h2⟩
  simp only at h1 h2
  subst h1; subst h2
  have : (C.E.sl.getD t' .dead).leafOf k = .own e xs := hq
  rw [own_anyOwn this] at hno
  cases hno

theorem Rel.liveOf {w0 : World} {L : Nat → Nat → Prop} {C : Ctx} {t k : Nat} (hn : C.E.leaf ⟨true, t, k⟩ ≠ .dead) : ∃ ds, C.live t ds := by
  cases h : C.E.ce[t]? with
  | none => exfalso; apply hn; simp [Env.leaf, List.getD_eq_getElem?_getD, h]
  | some o =>
    cases o with
    | none => exfalso; apply hn; simp [Env.leaf, List.getD_eq_getElem?_getD, h]
    | some ds => exact ⟨ds, h⟩

/-- Memory grows; slot t, which owns nothing, is told new blocks as its own ahead of being written. -/
theorem Rel.ext {w0 : World} {L : Nat → Nat → Prop} {C : Ctx} (R : Rel w0 L C) {w' : World} (x : Ext C.w w') (F' : Lf → Nat → Prop) (new : Lf → Prop)
    (hno : ∀ q e xs, C.E.leaf q = .own e xs → ¬ new q) (hout : ∀ p, ¬ new p → F' p = C.F p) (hin : ∀ p b, new p → F' p b → C.w.heap.size ≤ b ∧ b < w'.heap.size)
    (hd : ∀ p q b, new p → new q → F' p b → F' q b → p = q) : Rel w0 L { C with w := w', F := F' } := by
  have cases' : ∀ p b, F' p b → (C.F p b ∧ ¬ new p) ∨ (new p ∧ C.w.heap.size ≤ b ∧ b < w'.heap.size) := by
    intro p b h
    by_cases hn : new p
    · exact .inr ⟨hn, hin p b hn h⟩
    · rw [hout p hn] at h; exact .inl ⟨h, hn⟩
  have blk : ∀ t ds, C.live t ds → (C.loc t).1 < C.w.heap.size := by
    intro t ds hl
    obtain ⟨cs, e, fr, a1, _⟩ := (R.cell t ds hl).out
    exact (Array.getElem?_eq_some_iff.1 a1).1
  have hcv : ∀ q, C.E.leaf q ≠ .dead → Ctx.cv { C with w := w', F := F' } q = C.cv q := by
    rintro ⟨c, t', k⟩ hn
    cases c with
    | false => rfl
    | true =>
      obtain ⟨ds, hl⟩ := Rel.liveOf (w0 := w0) (L := L) hn
      show (w'.cell? _).getD undef = (C.w.cell? _).getD undef
      simp only [World.cell?, x.kept _ (blk t' ds hl)]
  have s : Same C { C with w := w', F := F' } (fun q => q) (fun _ => False) (fun _ => False) := by
    refine ⟨rfl, fun b hb hl => ⟨?_, x.kept b hl⟩, ?_, ?_, fun _ h => h⟩
    · rintro (⟨p, hp⟩ | ⟨t', ds', hl', hb'⟩)
      · rcases cases' p b hp with h | h
        · exact hb (.inl ⟨p, h.1⟩)
        · omega
      · exact hb (.inr ⟨t', ds', hl', hb'⟩)
    · intro q e xs _ hl
      exact ⟨xs, hl, rfl, hcv q (by rw [hl]; simp), fun i j e' ys hg => ⟨hg, fun b o n cap v _ hv => x.cell hv⟩⟩
    · intro t' ds _ hl
      exact ⟨ds, hl, rfl, rfl⟩
  have go1 : ∀ p d' v, C.E.leaf p = d' → LRel C p d' v → LRel { C with w := w', F := F' } p d' v := by
    intro p d' v' hp hv
    by_cases ho : d'.isOwn = true
    · cases d' <;> simp [D.isOwn] at ho
      cases hv with
      | own _ _ _ h => exact .own _ _ _ _ (h.mono (fun b hb => by show F' p b; rw [hout p (hno p _ _ hp)]; exact hb) (fun b _ hb => x.kept b hb))
    · have := LRel.same s hv p (by simpa using ho) ⟨fun q h => by simp, fun t ht => by simp⟩
      rwa [D.re_id] at this
  refine ⟨R.tmps, R.defers, ?_, ?_, ?_, R.cdisj, ?_, ?_, ?_, R.clent, R.frame.ext x, R.mnew, R.mL⟩
  · intro t d hd
    have hs := R.slot t d hd
    exact hs.tr' fun k x v hx hv => go1 _ _ _ (hs.at hd k x hx) hv
  · intro t ds hl
    obtain ⟨cs, e, fr, a1, a2, a3, a4⟩ := (R.cell t ds hl).out
    refine ⟨cs, e, fr, (x.kept _ (blk t ds hl)).trans a1, a2, a3, ?_⟩
    intro i d hd
    obtain ⟨b1, b2, b3⟩ := a4 i d hd
    exact ⟨b1, b2, go1 _ _ _ (by rw [leaf_cell _ _ _ _ hl]; exact getD_some hd) b3⟩
  · intro p q b h1 h2
    rcases cases' p b h1 with a | a
    · rcases cases' q b h2 with c | c
      · exact R.disj p q b a.1 c.1
      · have := R.fbound p b a.1; omega
    · rcases cases' q b h2 with c | c
      · have := R.fbound q b c.1; omega
      · exact hd p q b a.1 c.1 h1 h2
  · intro t ds p hl hp
    rcases cases' p _ hp with a | a
    · exact R.fcd t ds p hl a.1
    · have := blk t ds hl
      have h2 : C.w.heap.size ≤ (C.loc t).1 := a.2.1
      omega
  · intro p b hp
    rcases cases' p b hp with a | a
    · exact Nat.lt_of_lt_of_le (R.fbound p b a.1) x.size
    · exact a.2.2
  · intro p b hp hb
    rcases cases' p b hp with a | a
    · exact R.flent p b a.1 hb
    · have := R.frame.size; omega

/-- A slot that owns nothing is written, memory as it is. -/
theorem Rel.put1 {w0 : World} {L : Nat → Nat → Prop} {C : Ctx} (R : Rel w0 L C) (t : Nat) (d : D) (v : Value) (hno : (C.E.sl.getD t .dead).anyOwn = false) (h : SRel C t d v) :
    Rel w0 L { C with E := { C.E with sl := C.E.sl.set t d }, a := C.a.put (some t) v } := by
  have hnot := notOwn_inS hno
  have hleaf : ∀ q, ¬ inS t q → ({ C.E with sl := C.E.sl.set t d } : Env).leaf q = C.E.leaf q := by
    rintro ⟨c, t', k⟩ hq
    cases c with
    | true => rfl
    | false =>
      have hne : t ≠ t' := fun h => hq ⟨rfl, h.symm⟩
      show ((C.E.sl.set t d).getD t' .dead).leafOf k = (C.E.sl.getD t' .dead).leafOf k
      rw [List.getD_eq_getElem?_getD, List.getElem?_set_ne hne, ← List.getD_eq_getElem?_getD]
  have htm : ∀ t', t' ≠ t → (C.a.put (some t) v).tmps.getD t' undef = C.a.tmps.getD t' undef := by
    intro t' hne
    simp only [Act.put]
    rw [Array.getD_eq_getD_getElem?, Array.getD_eq_getD_getElem?, Array.getElem?_setIfInBounds_ne (fun h => hne h.symm)]
  have s : Same C { C with E := { C.E with sl := C.E.sl.set t d }, a := C.a.put (some t) v } (fun q => q) (fun _ => False) (fun _ => False) := by
    refine ⟨rfl, fun b hb hl => ⟨hb, rfl⟩, ?_, ?_, fun _ h => h⟩
    · intro q e xs _ hl
      have hq := hnot q e xs hl
      refine ⟨xs, by rw [hleaf q hq]; exact hl, rfl, ?_, fun i j e' ys hg => ⟨hg, fun b o n cap v _ hv => hv⟩⟩
      obtain ⟨c, t', k⟩ := q
      cases c with
      | true => rfl
      | false =>
        show vleafOf ((C.a.put (some t) v).tmps.getD t' undef) k = vleafOf (C.a.tmps.getD t' undef) k
        rw [htm t' (fun h => hq ⟨rfl, h⟩)]
    · intro t' ds _ hl
      exact ⟨ds, hl, rfl, rfl⟩
  have go1 : ∀ p d' v', LRel C p d' v' → LRel { C with E := { C.E with sl := C.E.sl.set t d }, a := C.a.put (some t) v } p d' v' := by
    intro p d' v' hv
    by_cases ho : d'.isOwn = true
    · cases d' <;> simp [D.isOwn] at ho
      cases hv with
      | own _ _ _ h => exact .own _ _ _ _ h
    · have := LRel.same s hv p (by simpa using ho) ⟨fun q h => by simp, fun t ht => by simp⟩
      rwa [D.re_id] at this
  refine ⟨?_, R.defers, ?_, ?_, R.disj, R.cdisj, R.fcd, R.fbound, R.flent, R.clent, R.frame, R.mnew, R.mL⟩
  · show (C.a.tmps.setIfInBounds t v).size = (C.E.sl.set t d).length
    rw [Array.size_setIfInBounds, List.length_set]; exact R.tmps
  · intro t' d' hd'
    have hd' : (C.E.sl.set t d)[t']? = some d' := hd'
    by_cases hne : t' = t
    · subst hne
      have hlt : t' < C.E.sl.length := by have := (List.getElem?_eq_some_iff.1 hd').1; simpa using this
      rw [List.getElem?_set_self hlt] at hd'
      injection hd' with hd'
      subst hd'
      have : (C.a.put (some t') v).tmps.getD t' undef = v := by
        simp only [Act.put]
        rw [Array.getD_eq_getD_getElem?, Array.getElem?_setIfInBounds_self_of_lt (by rw [R.tmps]; exact hlt)]
        rfl
      show SRel _ t' d ((C.a.put (some t') v).tmps.getD t' undef)
      rw [this]
      exact h.tr' fun k x v _ hv => go1 _ _ _ hv
    · rw [List.getElem?_set_ne (fun h => hne h.symm)] at hd'
      show SRel _ t' d' ((C.a.put (some t) v).tmps.getD t' undef)
      rw [htm t' hne]
      exact (R.slot t' d' hd').tr' fun k x v _ hv => go1 _ _ _ hv
  · intro t' ds hl
    obtain ⟨cs, e, fr, a1, a2, a3, a4⟩ := (R.cell t' ds hl).out
    refine ⟨cs, e, fr, a1, a2, a3, ?_⟩
    intro i d' hd'
    obtain ⟨b1, b2, b3⟩ := a4 i d' hd'
    exact ⟨b1, b2, go1 _ _ _ b3⟩

theorem deadMap (f : Nat → D → D) (hf : ∀ k x, f k x = .dead) (d : D) : (d.mapP f).anyOwn = false := by
  have hlv : ∀ (ds : List D) (k : Nat), (mapLv f k ds).any D.isOwn = false := by
    intro ds
    induction ds with
    | nil => intro k; rfl
    | cons d ds ih => intro k; simp only [mapLv, List.any_cons, hf, ih]; rfl
  have h1 : ∀ (c : D) (k : Nat), (c.mapP1 f k).leaves1.any D.isOwn = false := by
    intro c k
    cases c <;> simp only [D.mapP1, hf] <;> first | rfl | exact hlv _ _
  have hcs : ∀ (cs : List D) (k : Nat), (mapCs f k cs).any (fun c => c.leaves1.any D.isOwn) = false := by
    intro cs
    induction cs with
    | nil => intro k; rfl
    | cons c cs ih => intro k; simp only [mapCs, List.any_cons, h1, ih]; rfl
  by_cases ht : d.isTup = true
  · obtain ⟨cs, rfl⟩ := tup_of ht
    exact hcs cs 0
  · have ht' : d.isTup = false := by simpa using ht
    rw [mapP_of ht']
    have h2 : (d.mapP1 f 0).isTup = false := by cases d <;> simp only [D.mapP1, hf] <;> first | rfl | simp [D.isTup] at ht'
    have : (d.mapP1 f 0).comps = [d.mapP1 f 0] := by revert h2; cases d.mapP1 f 0 <;> simp [D.isTup, D.comps]
    simp only [D.anyOwn, this, List.any_cons, h1]
    rfl

theorem killS_anyOwn (E : Env) (t : Nat) : ((E.killS t).sl.getD t .dead).anyOwn = false := by
  simp only [Env.killS, Env.kill, Env.mapP]
  rw [List.getD_eq_getElem?_getD, mapSl_get]
  cases E.sl[t]? with
  | none => rfl
  | some d =>
    simp only [Option.map_some, Option.getD_some]
    refine deadMap _ ?_ d
    intro k x
    cases x <;> simp [lf1]

theorem LRel.kill {w0 : World} {L : Nat → Nat → Prop} {C : Ctx} (R : Rel w0 L C) (b : Lf → Bool) {p : Lf} {d : D} {v : Value} (h : LRel C p d v) (ho : d.isOwn = false) :
    LRel { C with E := C.E.kill b } p (killB b d) v := by
  have hg : ∀ (p : Lf) (d : D), d.leafy = true → (if b p then D.dead else killB b d).leafy = true := by
    intro p d h; split
    · rfl
    · exact killB_leafy b d h
  have s := Same.ofMap R (fun p d => if b p then D.dead else killB b d) C.F hg (fun p b h => ⟨p, h⟩) (fun q => q) (fun q => b q = true) (by
    intro q e xs hq hl
    rw [hl]
    have : b q = false := by simpa using hq
    simp [lf1, this, killB])
  rcases killB_cases b d with h' | ⟨h', hq⟩
  · rw [h']; exact .dead _ _
  · rw [h']
    have := LRel.same s h p ho ⟨fun q h => by simp [hq q h], fun t ht => by simp⟩
    rwa [D.re_id] at this

/-- A slot is written with what owns nothing. -/
theorem Rel.wr0 {w0 : World} {L : Nat → Nat → Prop} {C : Ctx} (R : Rel w0 L C) {w' : World} (x : Ext C.w w') (t : Nat) (d : D) (v : Value) (hd : d.anyOwn = false)
    (h : SRel { C with w := w' } t d v) :
    Rel w0 L { C with E := C.E.app1 (if (C.E.sl.getD t .dead).anyOwn then .ks t d else .s t d), a := C.a.put (some t) v, w := w' } := by
  have R1 : Rel w0 L { C with w := w' } := R.ext x C.F (fun _ => False) (fun _ _ _ _ h => h) (fun _ _ => rfl) (fun _ _ h => h.elim) (fun _ _ _ h => h.elim)
  by_cases ho : (C.E.sl.getD t .dead).anyOwn = true
  · rw [if_pos ho]
    have R2 := R1.kill (fun p => !p.c && p.t == t)
    refine R2.put1 t _ v (killS_anyOwn C.E t) ?_
    refine h.tr _ (fun _ d h => killB_leafy _ d h) (fun _ => rfl) ?_
    intro k x' v' hx hv
    exact LRel.kill R1 _ hv (anyOwn_at hx hd)
  · rw [if_neg ho]
    exact R1.put1 t d v (by simpa using ho) h

/-- A slot is written with a row of its own, in new blocks. -/
theorem Rel.wr1 {w0 : World} {L : Nat → Nat → Prop} {C : Ctx} (R : Rel w0 L C) {w' : World} (x : Ext C.w w') (t : Nat) (e : TypeId) (xs : List (List T)) (v : Value) (G : Nat → Prop)
    (hG : ∀ b, G b → C.w.heap.size ≤ b ∧ b < w'.heap.size) (h : OwnT C.P w' (.sl e xs) v G) :
    ∃ F', Rel w0 L { C with E := C.E.app1 (if (C.E.sl.getD t .dead).anyOwn then .ks t (.own e xs) else .s t (.own e xs)), a := C.a.put (some t) v, w := w', F := F' } := by
  have one : one v = true := by obtain ⟨_, _, h, _⟩ := h.slice; rw [h]; rfl
  have main : ∀ C1 : Ctx, Rel w0 L C1 → C1.P = C.P → C1.w = C.w → (C1.E.sl.getD t .dead).anyOwn = false → ∃ F', Rel w0 L { C1 with E := { C1.E with sl := C1.E.sl.set t (.own e xs) }, a := C1.a.put (some t) v, w := w', F := F' } := by
    intro C1 R1 hP hw hno
    refine ⟨fun p => if p.c = false ∧ p.t = t then (fun b => p.k = 0 ∧ G b) else C1.F p, ?_⟩
    have R2 : Rel w0 L { C1 with w := w', F := fun p => if p.c = false ∧ p.t = t then (fun b => p.k = 0 ∧ G b) else C1.F p } := by
      refine R1.ext (by rw [hw]; exact x) _ (inS t) (notOwn_inS hno) ?_ ?_ ?_
      · intro p hp; exact if_neg hp
      · intro p b hp hb
        have hb : (if p.c = false ∧ p.t = t then (fun b => p.k = 0 ∧ G b) else C1.F p) b := hb
        rw [if_pos (show p.c = false ∧ p.t = t from hp)] at hb
        rw [hw]; exact hG b hb.2
      · intro p q b hp hq h1 h2
        have h1 : (if p.c = false ∧ p.t = t then (fun b => p.k = 0 ∧ G b) else C1.F p) b := h1
        have h2 : (if q.c = false ∧ q.t = t then (fun b => q.k = 0 ∧ G b) else C1.F q) b := h2
        rw [if_pos (show p.c = false ∧ p.t = t from hp)] at h1
        rw [if_pos (show q.c = false ∧ q.t = t from hq)] at h2
        have e1 : p.k = 0 := h1.1
        have e2 : q.k = 0 := h2.1
        have e3 : p.c = q.c := hp.1.trans hq.1.symm
        have e4 : p.t = q.t := hp.2.trans hq.2.symm
        cases p; cases q
        simp only at e1 e2 e3 e4
        rw [e1, e2, e3, e4]
    refine R2.put1 t _ v hno (.comp _ _ rfl (.leaf _ _ _ rfl one (.own _ _ _ _ ?_)))
    show OwnT C1.P w' _ v (if false = false ∧ t = t then (fun b => 0 = 0 ∧ G b) else C1.F ⟨false, t, 0⟩)
    rw [if_pos ⟨rfl, rfl⟩, hP]
    exact h.mono (fun b hb => ⟨rfl, hb⟩) (fun _ _ _ => rfl)
  by_cases ho : (C.E.sl.getD t .dead).anyOwn = true
  · rw [if_pos ho]
    exact main _ (R.kill (fun p => !p.c && p.t == t)) rfl rfl (killS_anyOwn C.E t)
  · rw [if_neg ho]
    exact main C R rfl rfl (by simpa using ho)
end Go.Proofs.Ytcnogcachboibaa.Fw
