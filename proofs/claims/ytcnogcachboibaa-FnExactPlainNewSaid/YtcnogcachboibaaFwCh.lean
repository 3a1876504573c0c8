/- Framework, part Ch: a call comes back. -/
import Derived.Test.YtcnogcachboibaaFwCg
namespace Go.Proofs.Ytcnogcachboibaa.Fw
open Go
set_option linter.unusedVariables false

/-- Cells behind a call are told what they hold, one after the other. -/
theorem Rel.setCs {w0 : World} {L : Nat → Nat → Prop} {S : Nat → Prop} : ∀ (wc : List (Nat × Nat × List D)) {C : Ctx}, Rel w0 L C →
    (∀ x, x ∈ wc → ∃ ds, C.live x.1 ds ∧ x.2.1 + x.2.2.length ≤ ds.length) → (wc.map (·.1)).Nodup →
    (∀ x, x ∈ wc → ∀ j, x.2.1 ≤ j → j < x.2.1 + x.2.2.length → C.E.leaf ⟨true, x.1, j⟩ = .dead) →
    (∀ x, x ∈ wc → ∀ (i : Nat) (d : D), x.2.2[i]? = some d → RL C.P C.w S (C.F ⟨true, x.1, x.2.1 + i⟩) d (C.cv ⟨true, x.1, x.2.1 + i⟩)) →
    (∀ x d e xs, x ∈ wc → d ∈ x.2.2 → d = .imm e xs → ∀ b, S b → b < C.w.heap.size → C.Rd b) →
    Rel w0 L { C with E := Fw.setCs C.E wc } ∧ (Fw.setCs C.E wc).sl = C.E.sl ∧ (∀ b, C.Rd b → ({ C with E := Fw.setCs C.E wc } : Ctx).Rd b)
  | [], C, R, _, _, _, _, _ => ⟨R, rfl, fun _ h => h⟩
  | (c, j, ls) :: wc, C, R, hl, hn, hd, hr, hS => by
    obtain ⟨ds, h1, h2⟩ := hl _ (List.mem_cons_self ..)
    simp only [List.map_cons, List.nodup_cons] at hn
    have e0 : C.E.ce.getD c none = some ds := getD_some h1
    have R1 := R.setc (c := c) (k := j) (ds := ds) (ls := ls) h1 h2 (hd _ (List.mem_cons_self ..)) (by
      intro i d hi
      have h := hr _ (List.mem_cons_self ..) i d hi
      exact ⟨h.1, h.2.1, h.rel (fun e xs b he hb hlb => hS _ d e xs (List.mem_cons_self ..) (List.mem_of_getElem? hi) he b hb hlb) (fun _ _ _ b hb => hb)⟩)
    have hE : Fw.setCs C.E ((c, j, ls) :: wc) = Fw.setCs { C.E with ce := C.E.ce.set c (some (setRange ds j ls)) } wc := by
      simp only [Fw.setCs, e0, Option.map_some]
    have hlt : c < C.E.ce.length := (List.getElem?_eq_some_iff.1 h1).1
    have hlv : ∀ t ds', t ≠ c → (({ C with E := { C.E with ce := C.E.ce.set c (some (setRange ds j ls)) } } : Ctx).live t ds' ↔ C.live t ds') := by
      intro t ds' hne
      show (C.E.ce.set c _)[t]? = _ ↔ _
      rw [List.getElem?_set_ne (fun h => hne h.symm)]
      exact Iff.rfl
    have hRd : ∀ b, C.Rd b → ({ C with E := { C.E with ce := C.E.ce.set c (some (setRange ds j ls)) } } : Ctx).Rd b := by
      rintro b ⟨ho, hm⟩
      refine ⟨?_, hm⟩
      rintro (⟨p, hp⟩ | ⟨t, ds', hl', hb⟩)
      · exact ho (.inl ⟨p, hp⟩)
      · by_cases hne : t = c
        · subst hne; exact ho (.inr ⟨t, ds, h1, hb⟩)
        · exact ho (.inr ⟨t, ds', (hlv t ds' hne).1 hl', hb⟩)
    have hne : ∀ x, x ∈ wc → x.1 ≠ c := fun x hx h => hn.1 (List.mem_map.2 ⟨x, hx, h⟩)
    have ih := Rel.setCs (S := S) wc R1 (by
      intro x hx
      obtain ⟨d0, a, b⟩ := hl x (List.mem_cons_of_mem _ hx)
      exact ⟨d0, (hlv _ _ (hne x hx)).2 a, b⟩) hn.2 (by
      intro x hx k k1 k2
      have := hd x (List.mem_cons_of_mem _ hx) k k1 k2
      have e1 : (C.E.ce.set c (some (setRange ds j ls))).getD x.1 none = C.E.ce.getD x.1 none := by
        rw [List.getD_eq_getElem?_getD, List.getElem?_set_ne (fun h => hne x hx h.symm), ← List.getD_eq_getElem?_getD]
      show (((C.E.ce.set c (some (setRange ds j ls))).getD x.1 none).getD []).getD k .dead = .dead
      rw [e1]; exact this) (by
      intro x hx i d hi
      exact hr x (List.mem_cons_of_mem _ hx) i d hi) (by
      intro x d e xs hx hdm he b hb hlb
      exact hRd b (hS x d e xs (List.mem_cons_of_mem _ hx) hdm he b hb hlb))
    obtain ⟨i1, i2, i3⟩ := ih
    rw [hE]
    exact ⟨i1, i2, fun b hb => i3 b (hRd b hb)⟩

section ret
variable {w0 : World} {L : Nat → Nat → Prop} {C : Ctx} (R : Rel w0 L C) {acc : CallAcc} {vs : List Value} (ha : AccOk C acc vs) (hf : AccFine acc)
  {w' : World} {Eout : Env} {F' : Lf → Nat → Prop} {loc' : Nat → Nat × Nat} {v : Value}
  (Ro : Rel C.w (lentOf (CIn C acc vs).E (CIn C acc vs).F (CIn C acc vs).loc) { P := C.P, E := Eout, a := { tmps := vs.toArray.push v, defers := [] }, w := w', F := F', loc := loc', M := MIn C acc })
  (hloc : ∀ t, t < acc.args.length → loc' t = locIn C acc t)

/-- Old blocks that the callee's leaves own were lent to it. -/
theorem outBlk (R : Rel w0 L C) (ha : AccOk C acc vs) (hf : AccFine acc) (Ro : Rel C.w (lentOf (CIn C acc vs).E (CIn C acc vs).F (CIn C acc vs).loc) { P := C.P, E := Eout, a := { tmps := vs.toArray.push v, defers := [] }, w := w', F := F', loc := loc', M := MIn C acc }) {r : Lf} {b : Nat} (h : F' r b) :
    (∃ p, FIn C acc p b) ∨ (C.w.heap.size ≤ b ∧ b < w'.heap.size) := by
  by_cases hb : b < C.w.heap.size
  · left
    have hl := Ro.flent r b h hb
    rcases hl 0 with ⟨p, hp⟩ | ⟨t, ds, h1, h2, h3, h4⟩
    · exact ⟨p, hp⟩
    · rcases hl ((locIn C acc t).2 + ds.length) with ⟨p, hp⟩ | ⟨t', ds', h1', h2', h3', h4'⟩
      · exact ⟨p, hp⟩
      · have := (Rel.entry R ha hf).cdisj t ds t' ds' h1 h1' (h2.trans h2'.symm)
        subst this
        have : ds' = ds := by
          have a : acc.ce[t]? = some (some ds) := h1
          have b : acc.ce[t]? = some (some ds') := h1'
          rw [a] at b; injection b with b; injection b with b; exact b.symm
        subst this
        have h4' : (locIn C acc t).2 + ds'.length < (locIn C acc t).2 + ds'.length := h4'
        omega
  · exact .inr ⟨by omega, Ro.fbound r b h⟩
end ret

theorem RL.monoG {P : Program} {w : World} {S G G' : Nat → Prop} {d : D} {v : Value} (h : RL P w S G d v) (hg : ∀ b, G b → G' b) : RL P w S G' d v := by
  obtain ⟨a, b, h⟩ := h
  refine ⟨a, b, ?_⟩
  rcases h with h | h | h | h | ⟨e, xs, h1, h2⟩ | h
  · exact .inl h
  · exact .inr (.inl h)
  · exact .inr (.inr (.inl h))
  · exact .inr (.inr (.inr (.inl h)))
  · exact .inr (.inr (.inr (.inr (.inl ⟨e, xs, h1, h2.mono hg (fun _ _ _ => rfl)⟩))))
  · exact .inr (.inr (.inr (.inr (.inr h))))
theorem distinct_nodup {α : Type} [DecidableEq α] : ∀ {l : List α}, distinct l = true → l.Nodup
  | [], _ => List.nodup_nil
  | x :: l, h => by
    simp only [distinct, Bool.and_eq_true, Bool.not_eq_true', List.contains_eq_mem, decide_eq_false_iff_not] at h
    exact List.nodup_cons.2 ⟨h.1, distinct_nodup h.2⟩
theorem wcs_fst {Eout : Env} : ∀ {l : List (Nat × Nat × Nat × Nat)} {w : List (Nat × Nat × List D)}, wcs Eout l = some w → w.map (·.1) = l.map (·.1)
  | [], w, h => by simp [wcs] at h; subst h; rfl
  | (c0, j0, n0, i0) :: l, w, h => by
    simp only [wcs] at h
    split at h
    · rename_i ls ws h1 h2
      split at h
      · injection h with h; subst h; simp [wcs_fst h2]
      · cases h
    · cases h

/-- Who owns what behind the call. -/
def F2 (acc : CallAcc) (T : Nat) (w1 : List (Lf × TypeId × List (List Fw.T))) (E1 : Env) (F0 F' : Lf → Nat → Prop) (p : Lf) (b : Nat) : Prop :=
  (∃ i, (p, i) ∈ acc.wb ∧ F' ⟨false, i, 0⟩ b) ∨ (p.c = true ∧ ∃ j n i, (p.t, j, n, i) ∈ acc.wc ∧ j ≤ p.k ∧ p.k < j + n ∧ F' ⟨true, i, p.k - j⟩ b) ∨
  (p.c = false ∧ p.t = T ∧ F' ⟨false, acc.args.length, p.k⟩ b) ∨ (wbFind w1 p = none ∧ (∃ e xs, E1.leaf p = .own e xs) ∧ F0 p b)

theorem Rel.ret1 {w0 : World} {L : Nat → Nat → Prop} {C : Ctx} (R : Rel w0 L C) {acc : CallAcc} {vs : List Value} (ha : AccOk C acc vs) (hf : AccFine acc) (hnd : (acc.wc.map (·.1)).Nodup)
    {w' : World} {Eout : Env} {F' : Lf → Nat → Prop} {loc' : Nat → Nat × Nat} {v : Value}
    (Ro : Rel C.w (lentOf (CIn C acc vs).E (CIn C acc vs).F (CIn C acc vs).loc) { P := C.P, E := Eout, a := { tmps := vs.toArray.push v, defers := [] }, w := w', F := F', loc := loc', M := MIn C acc })
    (hloc : ∀ t, t < acc.args.length → loc' t = locIn C acc t) {w1 : List (Lf × TypeId × List (List Fw.T))} {w2 : List (Nat × Nat × List D)} (h1 : wbs ⟨acc.args, acc.ce⟩ Eout acc.wb = some w1) (h2 : wcs Eout acc.wc = some w2)
    {ps : List Lf} {E0 : Env} {F0 : Lf → Nat → Prop} (R0 : Rel w0 L { C with E := E0, F := F0 }) (fz : Frz C ps E0 F0) (hps : ∀ q, q ∈ ps → q ∈ acc.bor)
    (him : (∃ x, x ∈ w2 ∧ ∃ d, d ∈ x.2.2 ∧ d.isImm = true) → ps = acc.bor ∧ acc.borc = []) :
    ∃ F'', Rel w0 L { C with E := E0.called w1 w2, w := w', F := F'' } ∧ (∀ k b, F' ⟨false, acc.args.length, k⟩ b → F'' ⟨false, C.E.sl.length, k⟩ b) ∧ (E0.called w1 w2).sl.length = C.E.sl.length ∧
      (ps = acc.bor ∧ acc.borc = [] → ∀ b, ({ P := C.P, E := Eout, a := { tmps := vs.toArray.push v, defers := [] }, w := w', F := F', loc := loc', M := MIn C acc } : Ctx).Rd b → b < w'.heap.size → ({ C with E := E0.called w1 w2, w := w', F := F'' } : Ctx).Rd b) := by
  obtain ⟨b1, b2⟩ := wbs_find h1
  obtain ⟨c1, c2⟩ := wcs_mem h2
  have R1 : Rel w0 L { C with E := E0.kill fun p => inWc w2 p, F := F0 } := R0.kill _
  have hE1 : ∀ p, (E0.kill fun p => inWc w2 p).leaf p = lf1 (fun p d => if inWc w2 p then D.dead else killB (fun p => inWc w2 p) d) p (E0.leaf p) := by
    intro p
    unfold Env.kill
    exact mapP_leaf R0 _ (by
      intro r d h
      split
      · rfl
      · exact killB_leafy _ d h) p
  have hlive1 : ∀ c ds, C.live c ds → ∃ ds1, (E0.kill fun p => inWc w2 p).ce[c]? = some (some ds1) ∧ ds1.length = ds.length := by
    intro c ds h
    obtain ⟨d0, a, b⟩ := fz.live c ds h
    have := mapP_live (C := { C with E := E0, F := F0 }) (g := fun p d => if inWc w2 p then D.dead else killB (fun p => inWc w2 p) d) a
    exact ⟨_, this, by rw [mapLv_length]; exact b⟩
  have hlive1' : ∀ c ds1, (E0.kill fun p => inWc w2 p).ce[c]? = some (some ds1) → ∃ ds, C.live c ds ∧ ds.length = ds1.length := by
    intro c ds1 h
    obtain ⟨d0, a, b⟩ := mapP_live' (C := { C with E := E0, F := F0 }) (g := fun p d => if inWc w2 p then D.dead else killB (fun p => inWc w2 p) d) h
    obtain ⟨ds, a2, b2⟩ := fz.live' c d0 a
    exact ⟨ds, a2, by omega⟩
  have hE1len : (E0.kill fun p => inWc w2 p).sl.length = C.E.sl.length := by unfold Env.kill; rw [mapP_sl, fz.len]
  generalize hE1g : (E0.kill fun p => inWc w2 p) = E1 at R1 hE1 hlive1 hlive1' hE1len
  have dead1 : ∀ p, inWc w2 p = true → E1.leaf p = .dead := by
    intro p h
    rw [hE1]
    cases E0.leaf p <;> simp [lf1, h]
  have own1 : ∀ p e xs, E1.leaf p = .own e xs → E0.leaf p = .own e xs ∧ inWc w2 p = false := by
    intro p e xs h
    cases hin : inWc w2 p with
    | true => rw [dead1 p hin] at h; cases h
    | false =>
      refine ⟨?_, rfl⟩
      rw [hE1] at h
      cases hd : E0.leaf p with
      | own e' xs' => rw [hd] at h; simp only [lf1, hin, killB] at h; simpa using h
      | dead => rw [hd] at h; cases h
      | _ =>
        rw [hd] at h
        simp only [lf1, hin, killB] at h
        first | (simp at h; done) | (simp only [Bool.false_eq_true, if_false] at h; split at h <;> cases h)
  have inWcE : ∀ p, inWc w2 p = true → ∃ j n i, p.c = true ∧ (p.t, j, n, i) ∈ acc.wc ∧ j ≤ p.k ∧ p.k < j + n := by
    intro p h
    obtain ⟨x, hx, q1, q2, q3, q4⟩ := inWc_mem.1 h
    obtain ⟨i, m, _⟩ := c1 x hx
    exact ⟨x.2.1, x.2.2.length, i, q1, by rw [q2]; exact m, q3, q4⟩
  have inWcI : ∀ c j n i k, (c, j, n, i) ∈ acc.wc → j ≤ k → k < j + n → inWc w2 ⟨true, c, k⟩ = true := by
    intro c j n i k h q1 q2
    obtain ⟨ls, m1, m2, _⟩ := c2 c j n i h
    exact inWc_mem.2 ⟨_, m1, rfl, rfl, q1, by rw [m2]; exact q2⟩
  have wbNo : ∀ p i, (p, i) ∈ acc.wb → p ∉ ps ∧ inWc w2 p = false := by
    intro p i h
    refine ⟨fun hp => hf.p4 p i (hps p hp) h, ?_⟩
    cases hin : inWc w2 p with
    | false => rfl
    | true =>
      obtain ⟨j, n, i', q1, q2, _⟩ := inWcE p hin
      have := hf.p3 p i j n i' h q2
      rw [this] at q1; cases q1
  have wbOwn : ∀ p i, (p, i) ∈ acc.wb → ∃ e xs, acc.args[i]? = some (.own e xs) ∧ C.E.leaf p = .own e xs ∧ E1.leaf p = .own e xs ∧ vs[i]? = some (C.cv p) ∧ i < vs.length := by
    intro p i h
    obtain ⟨hi, e, xs, q1, q2, q3⟩ := ha.wbi p i h
    obtain ⟨n1, n2⟩ := wbNo p i h
    refine ⟨e, xs, q1, q2, ?_, q3, hi⟩
    rw [hE1, fz.own p e xs n1 q2]
    simp [lf1, n2, killB]
  have cellNo : ∀ c j n i k, (c, j, n, i) ∈ acc.wc → (⟨true, c, k⟩ : Lf) ∉ ps := by
    intro c j n i k h hp
    have := hf.p5 ⟨true, c, k⟩ j n i (hps _ hp) h
    cases this
  have finPL : ∀ r b, FIn C acc r b → ∃ q, ((∃ i, (q, i) ∈ acc.wb) ∨ inWc w2 q = true) ∧ F0 q b := by
    rintro r b (⟨_, _, q, h, hb⟩ | ⟨_, c, j, n, h, hk, hb⟩)
    · exact ⟨q, .inl ⟨_, h⟩, by rw [fz.out q (wbNo q _ h).1]; exact hb⟩
    · exact ⟨⟨true, c, j + r.k⟩, .inr (inWcI c j n _ _ h (by omega) (by omega)), by rw [fz.out _ (cellNo c j n _ _ h)]; exact hb⟩
  have outPL : ∀ r b, F' r b → (∃ q, ((∃ i, (q, i) ∈ acc.wb) ∨ inWc w2 q = true) ∧ F0 q b) ∨ (C.w.heap.size ≤ b ∧ b < w'.heap.size) := by
    intro r b h
    rcases outBlk R ha hf Ro h with ⟨p, hp⟩ | h
    · exact .inl (finPL p b hp)
    · exact .inr h
  have noPL : ∀ p e xs, E1.leaf p = .own e xs → wbFind w1 p = none → ¬ ((∃ i, (p, i) ∈ acc.wb) ∨ inWc w2 p = true) := by
    rintro p e xs hp hn (⟨i, h⟩ | h)
    · have := b2 p i h; rw [hn] at this; cases this
    · rw [dead1 p h] at hp; cases hp
  have sc : ∀ i ls, i < acc.args.length → Eout.ce.getD i none = some ls → ∀ c j n, (c, j, n, i) ∈ acc.wc → ∃ cs e fr, w'.heap[(C.loc c).1]? = some (.cells cs e fr) ∧
      ∀ (k : Nat) (d : D), ls[k]? = some d → d.leafy = true ∧ one (cs.getD ((C.loc c).2 + (j + k)) undef) = true ∧ LRel { P := C.P, E := Eout, a := { tmps := vs.toArray.push v, defers := [] }, w := w', F := F', loc := loc', M := MIn C acc } ⟨true, i, k⟩ d (cs.getD ((C.loc c).2 + (j + k)) undef) := by
    intro i ls hi hls c j n hm
    have hl : Eout.ce[i]? = some (some ls) := by
      rw [List.getD_eq_getElem?_getD] at hls
      cases hx : Eout.ce[i]? with
      | none => rw [hx] at hls; cases hls
      | some y => rw [hx] at hls; simp at hls; rw [hls]
    obtain ⟨cs, e, fr, a1, a2, a3, a4⟩ := (Ro.cell i ls hl).out
    have e1 : loc' i = ((C.loc c).1, (C.loc c).2 + j) := by rw [hloc i hi, locIn_eq ha hm]
    refine ⟨cs, e, fr, ?_, fun k d hd => ?_⟩
    · have a1 : w'.heap[(loc' i).1]? = some (.cells cs e fr) := a1
      rw [e1] at a1; exact a1
    · have := a4 k d hd
      have e2 : (loc' i).2 + k = (C.loc c).2 + (j + k) := by rw [e1]; show (C.loc c).2 + j + k = _; omega
      have this : d.leafy = true ∧ one (cs.getD ((loc' i).2 + k) undef) = true ∧ LRel _ ⟨true, i, k⟩ d (cs.getD ((loc' i).2 + k) undef) := this
      rw [e2] at this; exact this
  have R2 := R1.havoc (w' := w') Ro.frame (PL := fun q => (∃ i, (q, i) ∈ acc.wb) ∨ inWc w2 q = true) (CR := fun c k => inWc w2 ⟨true, c, k⟩ = true) (by
      rintro b o (⟨p, hp⟩ | ⟨t, ds, g1, g2, g3, g4⟩)
      · exact .inl (finPL p b hp)
      · obtain ⟨c, j, n, dsC, m1, m2, m3, m4, m5, m6, m7⟩ := liveIn ha (show (CIn C acc vs).live t ds from g1)
        have e1 : (CIn C acc vs).loc t = ((C.loc c).1, (C.loc c).2 + j) := locIn_eq ha m1
        rw [e1] at g2 g3 g4
        simp only at g2 g3 g4
        obtain ⟨ds1, l1, l2⟩ := hlive1 c dsC m2
        exact .inr ⟨c, ds1, o - (C.loc c).2, l1, inWcI c j n t _ m1 (by omega) (by omega), by omega, g2, by show o = (C.loc c).2 + _; omega⟩) (fun c k h => dead1 _ h) (by
      intro c ds k hl hcr hk cs e fr hcs
      obtain ⟨x, hx, q1, q2, q3, q4⟩ := inWc_mem.1 hcr
      simp only at q2 q3 q4
      obtain ⟨i, m, g1, g2⟩ := c1 x hx
      rw [← q2] at m
      have hi : i < acc.args.length := by rw [ha.len]; exact (ha.wci _ _ _ _ m).1
      obtain ⟨cs2, e2, fr2, s1, s2⟩ := sc i _ hi g1 c _ _ m
      have hcs : w'.heap[(C.loc c).1]? = some (.cells cs e fr) := hcs
      rw [s1] at hcs; injection hcs with hcs; injection hcs with hcs; subst hcs
      have hx2 : x.2.2[k - x.2.1]? = some x.2.2[k - x.2.1] := List.getElem?_eq_getElem (by omega)
      have := (s2 _ _ hx2).2.1
      have e3 : x.2.1 + (k - x.2.1) = k := by omega
      rw [e3] at this; exact this) w1 (F'' := F2 acc C.E.sl.length w1 E1 F0 F') (by
      intro p e xs hp
      obtain ⟨i, xs0, m1, m2, m3⟩ := b1 p e xs hp
      obtain ⟨e0, xs1, q1, q2, q3, q4, q5⟩ := wbOwn p i m1
      have m2 : acc.args.getD i .dead = .own e xs0 := m2
      rw [getD_some q1] at m2
      injection m2 with m2 m4
      subst m2; subst m4
      have hle : Eout.leaf ⟨false, i, 0⟩ = .own e0 xs := by
        show (Eout.sl.getD i .dead).leafOf 0 = _
        rw [m3]; rfl
      have ho := Ro.ownLeaf hle
      have hoC := R.ownLeaf q2
      obtain ⟨bs, cp, hsv, _⟩ := hoC.slice
      have hcv : Ctx.cv { P := C.P, E := Eout, a := { tmps := vs.toArray.push v, defers := [] }, w := w', F := F', loc := loc', M := MIn C acc } ⟨false, i, 0⟩ = C.cv p := by
        show vleafOf ((vs.toArray.push v).getD i undef) 0 = C.cv p
        have : (vs.toArray.push v).getD i undef = C.cv p := by
          rw [arrGetD, Array.getElem?_push, if_neg (by simp; omega)]
          simp [q4]
        rw [this, hsv]; rfl
      rw [hcv] at ho
      obtain ⟨bs2, cp2, hsv2, _⟩ := ho.slice
      refine ⟨.inl ⟨i, m1⟩, xs1, q3, ?_, ho.mono (fun b hb => .inl ⟨i, m1, hb⟩) (fun _ _ _ => rfl)⟩
      rw [hsv] at hsv2
      injection hsv2 with _ h _
      exact h.symm) (by
      rintro p e xs (⟨i, h⟩ | h) hp
      · exact b2 p i h
      · rw [dead1 p h] at hp; cases hp) (by
      intro p e xs hp hn
      funext b
      apply propext
      constructor
      · rintro (⟨i, h, _⟩ | ⟨h, j, n, i, m, m1, m2, _⟩ | ⟨h, ht, _⟩ | ⟨_, _, h⟩)
        · exact absurd (.inl ⟨i, h⟩) (noPL p e xs hp hn)
        · obtain ⟨pc, pt, pk⟩ := p
          simp only at h; subst h
          exact absurd (.inr (inWcI _ _ _ _ _ m m1 m2)) (noPL _ e xs hp hn)
        · exfalso
          obtain ⟨pc, pt, pk⟩ := p
          simp only at h ht; subst h; subst ht
          have hp : (E1.sl.getD C.E.sl.length .dead).leafOf pk = .own e xs := hp
          have e1 : E1.sl.getD C.E.sl.length .dead = .dead := by rw [List.getD_eq_getElem?_getD, List.getElem?_eq_none (by omega)]; rfl
          rw [e1] at hp
          have := own_anyOwn hp
          simp [D.anyOwn, D.comps, D.leaves1, D.isOwn] at this
        · exact h
      · intro h; exact .inr (.inr (.inr ⟨hn, ⟨e, xs, hp⟩, h⟩))) (by
      rintro p b (⟨i, m, h⟩ | ⟨_, j, n, i, m, _, _, h⟩ | ⟨_, _, h⟩ | ⟨h1, h2, h⟩)
      · exact .inr (outPL _ b h)
      · exact .inr (outPL _ b h)
      · exact .inr (outPL _ b h)
      · exact .inl ⟨h, h1, h2⟩) (by
      have old : ∀ p q r b, (wbFind w1 p = none ∧ (∃ e xs, E1.leaf p = .own e xs) ∧ F0 p b) → F' r b → p = q := by
        rintro p q r b ⟨g1, ⟨e, xs, g2⟩, g3⟩ h
        rcases outPL r b h with ⟨q', hq, hb⟩ | hb
        · have := R0.disj _ _ _ g3 hb
          subst this
          exact absurd hq (noPL _ _ _ g2 g1)
        · have := R0.fbound _ _ g3
          have this : b < C.w.heap.size := this
          omega
      intro p q b hp hq
      obtain ⟨pc, pt, pk⟩ := p
      obtain ⟨qc, qt, qk⟩ := q
      rcases hp with ⟨i, m, h⟩ | ⟨hc, j, n, i, m, m1, m2, h⟩ | ⟨hc, ht, h⟩ | hp
      · rcases hq with ⟨i', m', h'⟩ | ⟨hc', j', n', i', m', m1', m2', h'⟩ | ⟨hc', ht', h'⟩ | hq
        · have := Ro.disj _ _ _ h h'
          injection this with _ e _; subst e
          exact ha.wbu _ _ _ m m'
        · have := Ro.disj _ _ _ h h'
          injection this with e _ _; cases e
        · have := Ro.disj _ _ _ h h'
          injection this with _ e _; subst e
          have := (ha.wbi _ _ m).1; rw [← ha.len] at this; omega
        · exact (old _ _ _ b hq h).symm
      · rcases hq with ⟨i', m', h'⟩ | ⟨hc', j', n', i', m', m1', m2', h'⟩ | ⟨hc', ht', h'⟩ | hq
        · have := Ro.disj _ _ _ h h'
          injection this with e _ _; cases e
        · have := Ro.disj _ _ _ h h'
          injection this with _ e e2; subst e
          simp only at hc hc' m m' m1 m1' e2
          have := ha.wcu (pt, j, n) (qt, j', n') i (List.mem_map.2 ⟨_, m, rfl⟩) (List.mem_map.2 ⟨_, m', rfl⟩)
          injection this with x1 x2; injection x2 with x2 x3
          subst hc; subst hc'; subst x1; subst x2; subst x3
          have : pk = qk := by omega
          rw [this]
        · have := Ro.disj _ _ _ h h'
          injection this with e _ _; cases e
        · exact (old _ _ _ b hq h).symm
      · rcases hq with ⟨i', m', h'⟩ | ⟨hc', j', n', i', m', m1', m2', h'⟩ | ⟨hc', ht', h'⟩ | hq
        · have := Ro.disj _ _ _ h h'
          injection this with _ e _; subst e
          have := (ha.wbi _ _ m').1; rw [← ha.len] at this; omega
        · have := Ro.disj _ _ _ h h'
          injection this with e _ _; cases e
        · have := Ro.disj _ _ _ h h'
          injection this with _ _ e
          simp only at hc hc' ht ht' e
          rw [hc, hc', ht, ht', e]
        · exact (old _ _ _ b hq h).symm
      · rcases hq with ⟨i', m', h'⟩ | ⟨hc', j', n', i', m', m1', m2', h'⟩ | ⟨hc', ht', h'⟩ | hq
        · exact old _ _ _ b hp h'
        · exact old _ _ _ b hp h'
        · exact old _ _ _ b hp h'
        · exact R0.disj _ _ b hp.2.2 hq.2.2)
  have mC : ∀ c ds, C.live c ds → 0 < ds.length → C.M (C.loc c).1 := by
    intro c ds h hpos
    by_cases hb : (C.loc c).1 < w0.heap.size
    · exact R.mL _ _ (R.clent c ds h hb 0 hpos)
    · exact R.mnew _ (by omega)
  have finC : ∀ r b, FIn C acc r b → ∃ q, C.F q b := by
    rintro r b (⟨_, _, q, _, hb⟩ | ⟨_, c, j, n, _, _, hb⟩)
    · exact ⟨q, hb⟩
    · exact ⟨_, hb⟩
  have rd2 : ps = acc.bor ∧ acc.borc = [] → ∀ b, ({ P := C.P, E := Eout, a := { tmps := vs.toArray.push v, defers := [] }, w := w', F := F', loc := loc', M := MIn C acc } : Ctx).Rd b →
      ({ C with E := E1.mapP (wbG w1), w := w', F := F2 acc C.E.sl.length w1 E1 F0 F' } : Ctx).Rd b := by
    rintro ⟨hp1, hp2⟩ b ⟨ho, hm⟩
    have hm : MIn C acc b := hm
    refine ⟨?_, ?_⟩
    · rintro (⟨p, hp⟩ | ⟨t, ds', hl, hb⟩)
      · rcases hp with ⟨i, _, h⟩ | ⟨_, j, n, i, _, _, _, h⟩ | ⟨_, _, h⟩ | ⟨g1, ⟨e, xs, g2⟩, g3⟩
        · exact ho (.inl ⟨_, h⟩)
        · exact ho (.inl ⟨_, h⟩)
        · exact ho (.inl ⟨_, h⟩)
        · rcases hm with h | (⟨r, h⟩ | ⟨c, j, n, i, m, hb⟩) | h | ⟨q, e', xs', hq, hl, hqb⟩ | ⟨c, ds, hc, _⟩
          · have := R0.fbound _ _ g3
            have this : b < C.w.heap.size := this
            omega
          · obtain ⟨q, hq, hqb⟩ := finPL r b h
            have := R0.disj _ _ _ g3 hqb
            subst this
            exact noPL _ _ _ g2 g1 hq
          · obtain ⟨_, ds, hl, _⟩ := ha.wci c j n i m
            exact R.fcd c ds p hl (by rw [hb]; exact fz.sub _ _ g3)
          · exact h.1 (.inl ⟨p, fz.sub _ _ g3⟩)
          · have := R.disj _ _ _ hqb (fz.sub _ _ g3)
            subst this
            exact fz.gone _ _ _ (by rw [hp1]; exact hq) hl b g3
          · rw [hp2] at hc; cases hc
      · obtain ⟨d1, l1, _⟩ := mapP_live' (C := { C with E := E1, w := w', F := F2 acc C.E.sl.length w1 E1 F0 F' }) hl
        obtain ⟨dC, lC, _⟩ := hlive1' t d1 l1
        have hb : (C.loc t).1 = b := hb
        rcases hm with h | (⟨r, h⟩ | ⟨c, j, n, i, m, hb'⟩) | h | ⟨q, e', xs', hq, hl, hqb⟩ | ⟨c, ds, hc, _⟩
        · obtain ⟨cs, e, fr, a1, _⟩ := (R.cell t dC lC).out
          have := (Array.getElem?_eq_some_iff.1 a1).1
          omega
        · obtain ⟨q, hq⟩ := finC r b h
          exact R.fcd t dC q lC (by rw [hb]; exact hq)
        · obtain ⟨hi, ds, hl, _⟩ := ha.wci c j n i m
          have := R.cdisj _ _ _ _ lC hl (hb.trans hb'.symm)
          subst this
          obtain ⟨ls, _, _, q3⟩ := c2 _ _ _ _ m
          have hll : Eout.ce[i]? = some (some ls) := by
            rw [List.getD_eq_getElem?_getD] at q3
            cases hx : Eout.ce[i]? with
            | none => rw [hx] at q3; cases q3
            | some y => rw [hx] at q3; simp at q3; rw [q3]
          refine ho (.inr ⟨i, ls, hll, ?_⟩)
          show (loc' i).1 = b
          rw [hloc i (by rw [ha.len]; exact hi), locIn_eq ha m]; exact hb
        · exact h.1 (.inr ⟨t, dC, lC, hb⟩)
        · exact R.fcd t dC q lC (by rw [hb]; exact hqb)
        · rw [hp2] at hc; cases hc
    · show C.M b
      rcases hm with h | (⟨r, h⟩ | ⟨c, j, n, i, m, hb'⟩) | h | ⟨q, e', xs', hq, hl, hqb⟩ | ⟨c, ds, hc, _⟩
      · exact R.mnew b (by have := R.frame.size; omega)
      · obtain ⟨q, hq⟩ := finC r b h
        exact R.mF hq
      · obtain ⟨hi, ds, hl, h5, h6, _⟩ := ha.wci c j n i m
        rw [← hb']; exact mC c ds hl (by omega)
      · exact h.2
      · exact R.mF hqb
      · rw [hp2] at hc; cases hc
  have hg1 : ∀ p d, d.leafy = true → (wbG w1 p d).leafy = true := by
    intro p d h
    unfold wbG
    split
    · rfl
    · split
      · split <;> rfl
      · exact h
  have key := Rel.setCs (S := ({ P := C.P, E := Eout, a := { tmps := vs.toArray.push v, defers := [] }, w := w', F := F', loc := loc', M := MIn C acc } : Ctx).Rd) w2 R2 (by
      intro x hx
      obtain ⟨i, m, _⟩ := c1 x hx
      obtain ⟨_, ds, hl, h5, _⟩ := ha.wci _ _ _ _ m
      obtain ⟨d1, l1, l2⟩ := hlive1 _ ds hl
      have := mapP_live (C := { C with E := E1, w := w', F := F2 acc C.E.sl.length w1 E1 F0 F' }) (g := wbG w1) l1
      exact ⟨_, this, by rw [mapLv_length]; omega⟩) (by rw [wcs_fst h2]; exact hnd) (by
      intro x hx j q1 q2
      show (E1.mapP (wbG w1)).leaf _ = _
      rw [mapP_leaf R1 _ hg1, dead1 _ (inWc_mem.2 ⟨x, hx, rfl, rfl, q1, q2⟩)]
      rfl) (by
      intro x hx i d hi
      obtain ⟨k, m, g1, g2⟩ := c1 x hx
      have hk : k < acc.args.length := by rw [ha.len]; exact (ha.wci _ _ _ _ m).1
      obtain ⟨cs, e, fr, s1, s2⟩ := sc k _ hk g1 _ _ _ m
      obtain ⟨t1, t2, t3⟩ := s2 i d hi
      have hr := List.all_eq_true.1 g2 d (List.mem_of_getElem? hi)
      have hcv : Ctx.cv { C with E := E1.mapP (wbG w1), w := w', F := F2 acc C.E.sl.length w1 E1 F0 F' } ⟨true, x.1, x.2.1 + i⟩ = cs.getD ((C.loc x.1).2 + (x.2.1 + i)) undef := cell_cv (C := { C with E := E1.mapP (wbG w1), w := w', F := F2 acc C.E.sl.length w1 E1 F0 F' }) s1
      rw [hcv]
      have hi2 : i < x.2.2.length := (List.getElem?_eq_some_iff.1 hi).1
      refine (t3.rl hr t1 t2).monoG fun b hb => ?_
      refine .inr (.inl ⟨rfl, x.2.1, x.2.2.length, k, m, by show x.2.1 ≤ x.2.1 + i; omega, by show x.2.1 + i < _; omega, ?_⟩)
      have e3 : x.2.1 + i - x.2.1 = i := by omega
      show F' ⟨true, k, x.2.1 + i - x.2.1⟩ b
      rw [e3]; exact hb) (by
      intro x d e xs hx hd he b hb hlb
      exact rd2 (him ⟨x, hx, d, hd, by rw [he]; rfl⟩) b hb)
  obtain ⟨i1, i2, i3⟩ := key
  unfold Env.called
  rw [hE1g]
  refine ⟨F2 acc C.E.sl.length w1 E1 F0 F', i1, fun k b h => .inr (.inr (.inl ⟨rfl, rfl, h⟩)), ?_, fun h b hb _ => i3 b (rd2 h b hb)⟩
  rw [i2]
  show (E1.mapP (wbG w1)).sl.length = _
  rw [mapP_sl]; exact hE1len
end Go.Proofs.Ytcnogcachboibaa.Fw
