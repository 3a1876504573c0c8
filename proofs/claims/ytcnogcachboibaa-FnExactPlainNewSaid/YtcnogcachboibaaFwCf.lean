/- Framework, part Cf: a function is entered. -/
import Derived.Test.YtcnogcachboibaaFwCe
namespace Go.Proofs.Ytcnogcachboibaa.Fw
open Go
set_option linter.unusedVariables false

theorem distinct_inj {α β : Type} [DecidableEq β] (f : α → β) : ∀ {l : List α}, distinct (l.map f) = true → ∀ {a b : α}, a ∈ l → b ∈ l → f a = f b → a = b
  | [], _, a, b, ha, _, _ => by cases ha
  | x :: l, h, a, b, ha, hb, hf => by
    simp only [List.map_cons, distinct, Bool.and_eq_true, Bool.not_eq_true', List.contains_eq_mem, decide_eq_false_iff_not] at h
    rcases List.mem_cons.1 ha with e1 | h1
    · rcases List.mem_cons.1 hb with e2 | h2
      · rw [e1, e2]
      · exact absurd (List.mem_map.2 ⟨b, h2, by rw [← hf, e1]⟩) h.1
    · rcases List.mem_cons.1 hb with e2 | h2
      · exact absurd (List.mem_map.2 ⟨a, h1, by rw [hf, e2]⟩) h.1
      · exact distinct_inj f h.2 h1 h2 hf

/-- What the check says. -/
structure AccFine (acc : CallAcc) : Prop where
  p1 : ∀ p i j, (p, i) ∈ acc.wb → (p, j) ∈ acc.wb → i = j
  p2 : ∀ c j n i j' n' i', (c, j, n, i) ∈ acc.wc → (c, j', n', i') ∈ acc.wc → j = j' ∧ n = n' ∧ i = i'
  p3 : ∀ p i j n k, (p, i) ∈ acc.wb → (p.t, j, n, k) ∈ acc.wc → p.c = false
  p4 : ∀ q i, q ∈ acc.bor → (q, i) ∉ acc.wb
  p5 : ∀ q j n k, q ∈ acc.bor → (q.t, j, n, k) ∈ acc.wc → q.c = false
  p6 : ∀ c j n k, c ∈ acc.borc → (c, j, n, k) ∉ acc.wc

theorem CallAcc.fine {acc : CallAcc} (h : acc.ok = true) : AccFine acc := by
  simp only [CallAcc.ok, Bool.and_eq_true, List.all_eq_true, Bool.not_eq_true', Bool.and_eq_false_iff, List.contains_eq_mem, decide_eq_false_iff_not] at h
  obtain ⟨⟨⟨⟨h1, h2⟩, h3⟩, h4⟩, h5⟩ := h
  have mc : ∀ {c j n k}, (c, j, n, k) ∈ acc.wc → c ∈ acc.wc.map (·.1) := fun h => List.mem_map.2 ⟨_, h, rfl⟩
  have mp : ∀ {p i}, (p, i) ∈ acc.wb → p ∈ acc.wb.map (·.1) := fun h => List.mem_map.2 ⟨_, h, rfl⟩
  refine ⟨?_, ?_, ?_, ?_, ?_, ?_⟩
  · intro p i j a b
    have := distinct_inj (·.1) h1 a b rfl
    injection this
  · intro c j n i j' n' i' a b
    have := distinct_inj (·.1) h2 a b rfl
    injection this with _ e; injection e with e1 e; injection e with e2 e3
    exact ⟨e1, e2, e3⟩
  · intro p i j n k a b
    rcases h3 p (mp a) with h | h
    · exact h
    · exact absurd (mc b) h
  · intro q i a b
    exact (h4 q a).1 (mp b)
  · intro q j n k a b
    rcases (h4 q a).2 with h | h
    · exact h
    · exact absurd (mc b) h
  · intro c j n k a b
    exact h5 c a (mc b)

def FIn (C : Ctx) (acc : CallAcc) (p : Lf) (b : Nat) : Prop :=
  (p.c = false ∧ p.k = 0 ∧ ∃ q, (q, p.t) ∈ acc.wb ∧ C.F q b) ∨ (p.c = true ∧ ∃ c j n, (c, j, n, p.t) ∈ acc.wc ∧ p.k < n ∧ C.F ⟨true, c, j + p.k⟩ b)
def locIn (C : Ctx) (acc : CallAcc) (i : Nat) : Nat × Nat :=
  match acc.wc.find? (fun x => x.2.2.2 == i) with
  | some (c, j, _, _) => ((C.loc c).1, (C.loc c).2 + j)
  | none => (0, 0)
def Lent (C : Ctx) (acc : CallAcc) (b : Nat) : Prop := (∃ p, FIn C acc p b) ∨ ∃ c j n i, (c, j, n, i) ∈ acc.wc ∧ (C.loc c).1 = b
def MIn (C : Ctx) (acc : CallAcc) (b : Nat) : Prop := C.w.heap.size ≤ b ∨ Lent C acc b ∨ Bor C acc.bor acc.borc b
def CIn (C : Ctx) (acc : CallAcc) (vs : List Value) : Ctx :=
  { P := C.P, E := ⟨acc.args, acc.ce⟩, a := { tmps := vs.toArray, defers := [] }, w := C.w, F := FIn C acc, loc := locIn C acc, M := MIn C acc }

section
variable {w0 : World} {L : Nat → Nat → Prop} {C : Ctx} (R : Rel w0 L C) {acc : CallAcc} {vs : List Value} (ha : AccOk C acc vs) (hf : AccFine acc)

include ha in
theorem locIn_eq {c j n i : Nat} (h : (c, j, n, i) ∈ acc.wc) : locIn C acc i = ((C.loc c).1, (C.loc c).2 + j) := by
  unfold locIn
  cases hx : acc.wc.find? (fun x => x.2.2.2 == i) with
  | none =>
    have := List.find?_eq_none.1 hx _ h
    simp at this
  | some y =>
    have h1 := List.mem_of_find?_eq_some hx
    have h2 := List.find?_some hx
    obtain ⟨c', j', n', i'⟩ := y
    simp only [beq_iff_eq] at h2
    subst h2
    have := ha.wcu (c, j, n) (c', j', n') i' (List.mem_map.2 ⟨_, h, rfl⟩) (List.mem_map.2 ⟨_, h1, rfl⟩)
    injection this with e1 e; injection e with e2 e3
    subst e1; subst e2; subst e3
    rfl

include ha in
theorem liveIn {i : Nat} {ds' : List D} (h : (CIn C acc vs).live i ds') : ∃ c j n ds, (c, j, n, i) ∈ acc.wc ∧ C.live c ds ∧ j + n ≤ ds.length ∧ 0 < n ∧ ds' = (ds.drop j).take n ∧ ((ds.drop j).take n).all lendable = true ∧ ds'.length = n := by
  have h : acc.ce[i]? = some (some ds') := h
  have hi : i < vs.length := by rw [← ha.lce]; exact (List.getElem?_eq_some_iff.1 h).1
  have hlt : i < acc.args.length := by rw [ha.len]; exact hi
  have h1 : acc.args[i]? = some acc.args[i] := List.getElem?_eq_getElem hlt
  rcases ha.arg i _ _ h1 (List.getElem?_eq_getElem hi) with ⟨a, _⟩ | ⟨a, _⟩ | ⟨a, _⟩ | ⟨c, j, n, ds, a1, a2, a3, a4, a5, a6, a7, a8⟩
  · rw [h] at a; cases a
  · rw [h] at a; cases a
  · rw [h] at a; cases a
  · rw [h] at a4; injection a4 with a4; injection a4 with a4
    exact ⟨c, j, n, ds, a1, a2, a5, a6, a4, a7, by rw [a4]; simp; omega⟩

include R in
theorem lent_owned {b : Nat} (ha : AccOk C acc vs) (h : Lent C acc b) : C.Owned b := by
  have _ := R
  rcases h with ⟨p, ⟨_, _, q, _, h⟩ | ⟨_, c, j, n, _, _, h⟩⟩ | ⟨c, j, n, i, h, hb⟩
  · exact .inl ⟨q, h⟩
  · exact .inl ⟨_, h⟩
  · obtain ⟨_, ds, hl, _⟩ := ha.wci c j n i h
    exact .inr ⟨c, ds, hl, hb⟩

include R ha in
theorem ownedIn {b : Nat} (h : (CIn C acc vs).Owned b) : Lent C acc b := by
  have _ := R
  rcases h with ⟨p, hp⟩ | ⟨i, ds', hl, hb⟩
  · exact .inl ⟨p, hp⟩
  · obtain ⟨c, j, n, ds, h1, h2, h3, h4, h5, _⟩ := liveIn ha hl
    have hb : (locIn C acc i).1 = b := hb
    rw [locIn_eq ha h1] at hb
    exact .inr ⟨c, j, n, i, h1, hb⟩

include R ha hf in
theorem bor_notLent {b : Nat} (h : Bor C acc.bor acc.borc b) : ¬ Lent C acc b := by
  intro hl
  rcases h with h | ⟨q, e, xs, hq, hle, hqb⟩ | ⟨c, ds, hc, hlv, hpos, hb⟩
  · exact h.1 (lent_owned R ha hl)
  · rcases hl with ⟨p, ⟨_, _, q', hw, hb'⟩ | ⟨_, c, j, n, hw, _, hb'⟩⟩ | ⟨c, j, n, i, hw, hb'⟩
    · have := R.disj _ _ _ hqb hb'
      subst this
      exact hf.p4 _ _ hq hw
    · have := R.disj _ _ _ hqb hb'
      subst this
      have := hf.p5 _ _ _ _ hq hw
      simp at this
    · obtain ⟨_, ds, hl, _⟩ := ha.wci c j n i hw
      exact R.fcd c ds q hl (by rw [hb']; exact hqb)
  · rcases hl with ⟨p, ⟨_, _, q', hw, hb'⟩ | ⟨_, c', j, n, hw, _, hb'⟩⟩ | ⟨c', j, n, i, hw, hb'⟩
    · exact R.fcd c ds q' hlv (by rw [hb]; exact hb')
    · exact R.fcd c ds _ hlv (by rw [hb]; exact hb')
    · obtain ⟨_, ds', hl', _⟩ := ha.wci c' j n i hw
      have := R.cdisj _ _ _ _ hlv hl' (hb.trans hb'.symm)
      subst this
      exact hf.p6 _ _ _ _ hc hw

include R ha hf in
theorem bor_rd {b : Nat} (h : Bor C acc.bor acc.borc b) : (CIn C acc vs).Rd b :=
  ⟨fun ho => bor_notLent R ha hf h (ownedIn R ha ho), .inr (.inr h)⟩

theorem own_one {P : Program} {w : World} {e : TypeId} {xs : List (List T)} {v : Value} {F : Nat → Prop} (h : OwnT P w (.sl e xs) v F) : one v = true := by
  obtain ⟨_, _, h, _⟩ := h.slice; rw [h]; rfl

include R ha hf in
theorem Rel.entry : Rel C.w (lentOf (CIn C acc vs).E (CIn C acc vs).F (CIn C acc vs).loc) (CIn C acc vs) := by
  have hP : (CIn C acc vs).P = C.P := rfl
  have cls : ∀ (t : Nat) d v, CS C.P C.w (Bor C acc.bor acc.borc) d v → SRel (CIn C acc vs) t d v := by
    intro t d v h
    rcases h with ⟨h1, h2, h3, h4⟩ | ⟨ds, xs, rfl, rfl, h3, h4, h5⟩
    · exact .comp _ _ (by cases d <;> first | rfl | simp [D.leafy] at h1) (.leaf _ _ _ h1 h3 (h4 _ _ rfl rfl fun b hb _ => bor_rd R ha hf hb))
    · refine .comp _ _ rfl (.agg _ _ _ h3 h4 fun i d hd => ?_)
      obtain ⟨a1, a2, a3, a4⟩ := h5 i d hd
      exact ⟨a1, a3, a4 _ _ rfl rfl fun b hb _ => bor_rd R ha hf hb⟩
  refine ⟨by simp [CIn, ha.len], rfl, ?_, ?_, ?_, ?_, ?_, ?_, ?_, ?_, ?_, ?_, ?_⟩
  · intro i d hd
    have hd : acc.args[i]? = some d := hd
    have hi : i < vs.length := by rw [← ha.len]; exact (List.getElem?_eq_some_iff.1 hd).1
    have hv : vs[i]? = some vs[i] := List.getElem?_eq_getElem hi
    have e : (CIn C acc vs).a.tmps.getD i undef = vs[i] := by simp [CIn, Array.getD, hi]
    rw [e]
    rcases ha.arg i d _ hd hv with ⟨_, b⟩ | ⟨_, e, xs, p, rfl, h2, h3, h4⟩ | ⟨_, e, rfl, h2⟩ | ⟨c, j, n, ds, a1, a2, rfl, a4, a5, a6, a7, a8⟩
    · exact cls i d _ b
    · have ho := R.ownLeaf h3
      rw [h4]
      refine .comp _ _ rfl (.leaf _ _ _ rfl (own_one ho) (.own _ _ _ _ ?_))
      exact ho.mono (fun b hb => .inl ⟨rfl, rfl, p, h2, hb⟩) (fun _ _ _ => rfl)
    · rw [h2]
      exact .comp _ _ rfl (.leaf _ _ _ rfl rfl (.own _ _ _ _ (.emp _ _)))
    · rw [a8]
      refine .comp _ _ rfl (.leaf _ _ _ rfl rfl ?_)
      have := LRel.cref (C := CIn C acc vs) ⟨false, i, 0⟩ i 0 _ (show (CIn C acc vs).live i _ from a4) (Nat.zero_le _)
      have e2 : (CIn C acc vs).loc i = ((C.loc c).1, (C.loc c).2 + j) := locIn_eq ha a1
      rw [e2] at this
      exact this
  · intro i ds' hl
    obtain ⟨c, j, n, ds, h1, h2, h3, h4, rfl, h6, h7⟩ := liveIn ha hl
    obtain ⟨cs, e, fr, a1, a2, a3, a4⟩ := (R.cell c ds h2).out
    have e2 : (CIn C acc vs).loc i = ((C.loc c).1, (C.loc c).2 + j) := locIn_eq ha h1
    refine ⟨cs, e, fr, by rw [e2]; exact a1, a2, by rw [e2, h7]; show (C.loc c).2 + j + n ≤ _; omega, fun k d hd => ?_⟩
    have hk : k < n := by rw [← h7]; exact (List.getElem?_eq_some_iff.1 hd).1
    rw [e2]
    have hd2 := hd
    rw [List.getElem?_take_of_lt hk, List.getElem?_drop] at hd
    obtain ⟨b1, b2, b3⟩ := a4 (j + k) d hd
    have e3 : (C.loc c).2 + j + k = (C.loc c).2 + (j + k) := by omega
    show d.leafy = true ∧ one (cs.getD ((C.loc c).2 + j + k) undef) = true ∧ LRel _ _ d (cs.getD ((C.loc c).2 + j + k) undef)
    rw [e3]
    refine ⟨b1, b2, ?_⟩
    have hld := List.all_eq_true.1 h6 d (List.mem_of_getElem? hd2)
    generalize cs.getD ((C.loc c).2 + (j + k)) undef = v at b3
    cases d <;> simp [lendable] at hld
    · cases b3 with | v _ h => exact .v _ _ h
    · cases b3; exact .nil _
    · cases b3 with
      | own _ _ _ h => exact .own _ _ _ _ (h.mono (fun b hb => .inr ⟨rfl, c, j, n, h1, hk, hb⟩) (fun _ _ _ => rfl))
    · cases b3 with
      | imm _ _ _ h => exact .imm _ _ _ _ (h.mono fun b hb hl => ⟨bor_rd R ha hf (.inl hb), rfl⟩)
  · intro p q b h1 h2
    obtain ⟨pc, pt, pk⟩ := p
    obtain ⟨qc, qt, qk⟩ := q
    rcases h1 with ⟨rfl, rfl, x, hx, hxb⟩ | ⟨rfl, c, j, n, hx, hk, hxb⟩
    · rcases h2 with ⟨rfl, rfl, y, hy, hyb⟩ | ⟨rfl, c', j', n', hy, hk', hyb⟩
      · have := R.disj _ _ _ hxb hyb
        subst this
        have := hf.p1 _ _ _ hx hy
        simp only at this
        rw [this]
      · have := R.disj _ _ _ hxb hyb
        subst this
        have := hf.p3 _ _ _ _ _ hx hy
        simp at this
    · rcases h2 with ⟨rfl, rfl, y, hy, hyb⟩ | ⟨rfl, c', j', n', hy, hk', hyb⟩
      · have := R.disj _ _ _ hyb hxb
        subst this
        have := hf.p3 _ _ _ _ _ hy hx
        simp at this
      · have := R.disj _ _ _ hxb hyb
        injection this with _ e1 e2
        subst e1
        obtain ⟨rfl, rfl, e3⟩ := hf.p2 _ _ _ _ _ _ _ hx hy
        simp only at e2 e3
        rw [e3]
        have : pk = qk := by omega
        rw [this]
  · intro i ds i' ds' h1 h2 he
    obtain ⟨c, j, n, d1, a1, a2, _⟩ := liveIn ha h1
    obtain ⟨c', j', n', d2, b1, b2, _⟩ := liveIn ha h2
    have he : (locIn C acc i).1 = (locIn C acc i').1 := he
    rw [locIn_eq ha a1, locIn_eq ha b1] at he
    have := R.cdisj _ _ _ _ a2 b2 he
    subst this
    exact (hf.p2 _ _ _ _ _ _ _ a1 b1).2.2
  · intro i ds p h1 hp
    obtain ⟨c, j, n, d1, a1, a2, _⟩ := liveIn ha h1
    have e2 : (CIn C acc vs).loc i = ((C.loc c).1, (C.loc c).2 + j) := locIn_eq ha a1
    rw [e2] at hp
    rcases hp with ⟨_, _, q, _, h⟩ | ⟨_, c', j', n', _, _, h⟩
    · exact R.fcd c d1 _ a2 h
    · exact R.fcd c d1 _ a2 h
  · intro p b hp
    rcases hp with ⟨_, _, q, _, h⟩ | ⟨_, c', j', n', _, _, h⟩
    · exact R.fbound _ b h
    · exact R.fbound _ b h
  · intro p b hp _ o
    exact .inl ⟨p, hp⟩
  · intro i ds hl _ k hk
    exact .inr ⟨i, ds, hl, rfl, by omega, by omega⟩
  · exact ⟨rfl, rfl, rfl, Nat.le_refl _, fun _ _ _ => rfl, fun b cs e fr h => ⟨cs, h, rfl, fun _ _ => rfl⟩⟩
  · intro b hb; exact .inl hb
  · intro b o h
    rcases h with ⟨p, hp⟩ | ⟨i, ds, hl, hb, _⟩
    · exact .inr (.inl (.inl ⟨p, hp⟩))
    · exact .inr (.inl (ownedIn R ha (.inr ⟨i, ds, hl, hb⟩)))
end
end Go.Proofs.Ytcnogcachboibaa.Fw
