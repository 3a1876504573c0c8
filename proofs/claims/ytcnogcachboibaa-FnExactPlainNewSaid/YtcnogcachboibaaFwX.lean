/- Framework, part X: what is computed of code holds. -/
import Derived.Test.YtcnogcachboibaaFwW
namespace Go.Proofs.Ytcnogcachboibaa.Fw
open Go
set_option linter.unusedVariables false

/-- Operations do what is computed of them. -/
def OpOk (P : Program) (cfg : Cfg) : Prop :=
  ∀ (w0 : World) (L : Nat → Nat → Prop) (C : Ctx), Rel w0 L C → C.P = P → ∀ (K : Env → Prop) (next : Act → World → Prop), Nxt w0 L cfg.np C K next → ∀ (Q : Go.Exit → Act → World → Prop) (o : Oper),
    (opR cfg o).wp C.E (Done P K C.E) → o.wp P C.a C.w next Q

/-- What was skipped: its temporary holds nothing. -/
theorem VRel.undef (C : Ctx) : VRel C (.tup []) Go.undef := ⟨rfl, fun t => .tup [] #[] rfl fun i d h => by simp at h⟩
theorem wanted_none {o : Oper} {y : Nat → Option Bool} (h : o.guard = none) : Region.wanted o y = true := by simp [Region.wanted, h]

/-- What an operation may change of the temporaries: its own. -/
theorem wp_dst {P : Program} {o : Oper} {a : Act} {w : World} {next : Act → World → Prop} {Q : Go.Exit → Act → World → Prop}
    (h : o.wp P a w (fun a' w' => (∃ v, a'.tmps = (a.put o.dst v).tmps) → next a' w') Q) : o.wp P a w next Q := by
  unfold Oper.wp at h ⊢
  generalize (execOp a.eval o).run P w = r at h
  cases r with
  | ok n w' =>
    cases n <;> first
      | exact h ⟨_, rfl⟩
      | exact h
      | skip
    case enter f args =>
      refine Calls.mono h fun e w'' h => ?_
      cases e with
      | returned v => exact h ⟨v, rfl⟩
      | panicked c => exact h
      | outgrown => exact h
    case row r args => exact Rows.mono h fun v w'' h => h ⟨v, rfl⟩
    case defer d =>
      refine h ⟨undef, ?_⟩
      cases o.dst <;> rfl
  | halt e w' => cases e <;> exact h
theorem put_keep {a : Act} {dst : Option Tmp} {v : Value} {t : Nat} (h : dst ≠ some t) : (a.put dst v).tmps.getD t undef = a.tmps.getD t undef := by
  cases dst with
  | none => rfl
  | some d =>
    have hne : d ≠ t := fun e => h (by rw [e])
    simp only [Act.put]
    rw [Array.getD_eq_getD_getElem?, Array.getD_eq_getD_getElem?, Array.getElem?_setIfInBounds_ne hne]
def KeepA (cfg : Cfg) (C C' : Ctx) : Prop := (∀ t, cfg.keep t = true → C'.a.tmps.getD t undef = C.a.tmps.getD t undef) ∧ C'.M = C.M
theorem KeepA.refl (cfg : Cfg) (C : Ctx) : KeepA cfg C C := ⟨fun _ _ => rfl, rfl⟩
theorem KeepA.trans {cfg : Cfg} {A B C : Ctx} (h : KeepA cfg A B) (k : KeepA cfg B C) : KeepA cfg A C := ⟨fun t ht => (k.1 t ht).trans (h.1 t ht), k.2.trans h.2⟩

theorem pOps_sound {P : Program} {cfg : Cfg} (hop : OpOk P cfg) {w0 : World} {L : Nat → Nat → Prop} {ops : Array Oper} {Q : Go.Exit → Act → World → Prop} {K : Env → Prop} :
    ∀ (l : List Oper) (C : Ctx), Rel w0 L C → C.P = P → pOps P cfg ops.toList l C.E K → (∀ C', Rel w0 L C' → C'.P = P → (∀ t, t < cfg.np → C'.loc t = C.loc t) → KeepA cfg C C' → K C'.E → Q .normal C'.a C'.w) → wpList P ops Q l C.a C.w
  | [], C, R, hP, h, hQ => hQ C R hP (fun _ _ => rfl) (KeepA.refl cfg C) h
  | o :: os, C, R, hP, h, hQ => by
    subst hP
    simp only [pOps] at h
    unfold wpList
    unfold opG at h
    cases hkp : kept cfg o.dst with
    | true => rw [hkp] at h; exact h.elim
    | false =>
    rw [hkp] at h
    simp only [Bool.false_eq_true, if_false] at h
    have hkd : ∀ t, cfg.keep t = true → o.dst ≠ some t := by
      intro t ht hd
      unfold kept at hkp
      rw [hd] at hkp
      simp only at hkp
      rw [ht] at hkp; cases hkp
    have hn : Nxt w0 L cfg.np C (fun E' => pOps C.P cfg ops.toList os E' K) (fun a' w' => (∃ v, a'.tmps = (C.a.put o.dst v).tmps) → wpList C.P ops Q os a' w') := by
      intro C' R' hPM hl' hK' hv
      obtain ⟨v, hv⟩ := hv
      injection hPM with hP' hM'
      have hk1 : KeepA cfg C C' := ⟨fun t ht => by rw [hv]; exact put_keep (hkd t ht), hM'⟩
      exact pOps_sound hop os C' R' hP' hK' fun C2 R2 hP2 hl2 hk2 hK2 => hQ C2 R2 hP2 (fun t ht => (hl2 t ht).trans (hl' t ht)) (hk1.trans hk2) hK2
    split at h
    · rename_i hg
      rw [if_pos (wanted_none hg)]
      exact .inl (wp_dst (hop w0 L C R rfl _ _ hn Q o h))
    · rename_i j want hg
      split at h
      · rename_i t ht
        simp only [Rdr.wp] at h
        split at h
        · rename_i b hb
          have hy : yielded ops C.a.tmps j = some b := by
            have hsl : C.E.sl[t]? = some (.v (.bool b)) := by
              rw [List.getD_eq_getElem?_getD] at hb
              cases hx : C.E.sl[t]? with
              | none => rw [hx] at hb; simp at hb
              | some y => rw [hx] at hb; simp at hb; rw [hb]
            have hs := R.slot t _ hsl
            have hlt : t < C.a.tmps.size := by rw [R.tmps]; exact (List.getElem?_eq_some_iff.1 hsl).1
            have hv : C.a.tmps.getD t undef = .bool b := by
              generalize C.a.tmps.getD t undef = v at hs
              cases hs with
              | comp _ _ _ hc => cases hc with | leaf _ _ a b c => cases c with | v _ _ => rfl
            have ht' : (ops[j]?).bind (·.dst) = some t := by rw [← ht, Array.getElem?_toList]
            unfold yielded
            rw [ht']
            simp only [Option.bind_some]
            rw [Array.getElem?_eq_getElem hlt]
            have : C.a.tmps[t] = .bool b := by rw [← hv]; simp [Array.getD, hlt]
            rw [this]
          split at h
          · rename_i hw
            rw [if_pos (by simp [Region.wanted, hg, hy, hw])]
            exact .inl (wp_dst (hop w0 L C R rfl _ _ hn Q o h))
          · rename_i hw
            rw [if_neg (by simp [Region.wanted, hg, hy, hw])]
            exact wrS_done R hn (.refl _) h (VRel.undef _) ⟨_, rfl⟩
        · rename_i hb
          have hsl : C.E.sl[t]? = some (.tup []) := by
            rw [List.getD_eq_getElem?_getD] at hb
            cases hx : C.E.sl[t]? with
            | none => rw [hx] at hb; simp at hb
            | some y => rw [hx] at hb; simp at hb; rw [hb]
          have hs := R.slot t _ hsl
          have hlt : t < C.a.tmps.size := by rw [R.tmps]; exact (List.getElem?_eq_some_iff.1 hsl).1
          have hv : ∀ b, C.a.tmps.getD t Go.undef ≠ .bool b := by
            intro b hb
            rw [hb] at hs
            cases hs with
            | comp _ _ ht _ => simp [D.isTup] at ht
          have ht' : (ops[j]?).bind (·.dst) = some t := by rw [← ht, Array.getElem?_toList]
          have hy : yielded ops C.a.tmps j = none := by
            unfold yielded
            rw [ht']
            simp only [Option.bind_some]
            rw [Array.getElem?_eq_getElem hlt]
            have e : C.a.tmps[t] = C.a.tmps.getD t Go.undef := by simp [Array.getD, hlt]
            rw [e]
            split
            · rename_i b he
              injection he with he
              exact absurd he (hv b)
            · rfl
          rw [if_neg (by simp [Region.wanted, hg, hy])]
          exact wrS_done R hn (.refl _) h (VRel.undef _) ⟨_, rfl⟩
        · exact h.elim
      · exact h.elim

theorem pwp_sound {P : Program} {cfg : Cfg} (hop : OpOk P cfg) {w0 : World} {L : Nat → Nat → Prop} :
    ∀ (c : Code) (C : Ctx) (Q : Go.Exit → Act → World → Prop) (Qp : Go.Exit → Env → Prop), Rel w0 L C → C.P = P → pwp P cfg c C.E Qp →
      (∀ e C', Rel w0 L C' → C'.P = P → (∀ t, t < cfg.np → C'.loc t = C.loc t) → KeepA cfg C C' → Qp e C'.E → Q e C'.a C'.w) → c.wp P Q C.a C.w := by
  intro c
  induction c with
  | skip => intro C Q Qp R hP h hQ; exact wp_skip (hQ _ C R hP (fun _ _ => rfl) (KeepA.refl cfg C) h)
  | seq x y ihx ihy =>
    intro C Q Qp R hP h hQ
    refine wp_seq (ihx C _ _ R hP h ?_)
    intro e C' R' hP' hl' hk' hq
    cases e with
    | normal => exact ihy C' Q Qp R' hP' hq fun e C2 R2 hP2 hl2 hk2 hq2 => hQ e C2 R2 hP2 (fun t ht => (hl2 t ht).trans (hl' t ht)) (hk'.trans hk2) hq2
    | _ => exact hQ _ C' R' hP' hl' hk' hq
  | region id ops draw =>
    intro C Q Qp R hP h hQ
    obtain ⟨rfl, h⟩ := h
    exact wp_region_list (pOps_sound hop _ C R hP h fun C' R' hP' hl' hk' hK => hQ _ C' R' hP' hl' hk' hK)
  | cond c x y ihx ihy =>
    intro C Q Qp R hP h hQ
    simp only [pwp, condR] at h
    replace h := opdR_wp R h
    obtain ⟨d, h, hv⟩ := h
    split at h
    · rename_i b
      have e := (hv rfl).v_inv.1
      refine wp_cond (t := b) e ?_
      simp only [Rdr.wp] at h
      split at h
      · rename_i hb; rw [if_pos hb]; exact ihx C Q Qp R hP h hQ
      · rename_i hb; rw [if_neg hb]; exact ihy C Q Qp R hP h hQ
    · exact h.elim
  | block id c ih =>
    intro C Q Qp R hP h hQ
    refine wp_block (ih C _ _ R hP h ?_)
    intro e C' R' hP' hl' hk' hq
    cases e with
    | exit id' =>
      simp only [Exit.blk] at hq
      simp only [Go.Exit.inBlock]
      split at hq
      · rename_i h; rw [if_pos h]; exact hQ _ C' R' hP' hl' hk' hq
      · rename_i h; rw [if_neg h]; exact hQ _ C' R' hP' hl' hk' hq
    | _ => exact hQ _ C' R' hP' hl' hk' hq
  | loop c ih =>
    intro C Q Qp R hP h hQ
    obtain ⟨I, μ, ⟨E0, hw0, h0⟩, hr⟩ := h
    refine wp_loop_rounds (μ E0 + 1) ?_
    have key : ∀ (n : Nat) (C1 : Ctx), Rel w0 L C1 → C1.P = P → (∀ t, t < cfg.np → C1.loc t = C.loc t) → KeepA cfg C C1 → I C1.E → μ C1.E < n → Code.rounds P c Q n C1.a C1.w := by
      intro n
      induction n with
      | zero => intro C1 _ _ _ _ _ h; omega
      | succ n ihn =>
        intro C1 R1 hP1 hl1 hk1 hI hμ
        rw [rounds_succ]
        refine ih C1 _ _ R1 hP1 (hr C1.E hI) ?_
        intro e C2 R2 hP2 hl2 hk2 hq
        have hk : KeepA cfg C C2 := hk1.trans hk2
        have hl : ∀ t, t < cfg.np → C2.loc t = C.loc t := fun t ht => (hl2 t ht).trans (hl1 t ht)
        cases e with
        | normal =>
          obtain ⟨E'', hw, hI', hμ'⟩ := hq
          exact ihn { C2 with E := E'' } (R2.weak' hw) hP2 hl hk hI' (by show μ E'' < n; omega)
        | _ => exact hQ _ C2 R2 hP2 hl hk hq
    exact key _ { C with E := E0 } (R.weak' hw0) hP (fun _ _ => rfl) (KeepA.refl cfg C) h0 (Nat.lt_succ_self _)
  | exit id => intro C Q Qp R hP h hQ; exact wp_exit (hQ _ C R hP (fun _ _ => rfl) (KeepA.refl cfg C) h)
  | ret => intro C Q Qp R hP h hQ; exact wp_ret (hQ _ C R hP (fun _ _ => rfl) (KeepA.refl cfg C) h)
  | _ => intro C Q Qp R hP h; exact h.elim
end Go.Proofs.Ytcnogcachboibaa.Fw
