/- Framework, part V: the append operation. -/
import Derived.Test.YtcnogcachboibaaFwU
namespace Go.Proofs.Ytcnogcachboibaa.Fw
open Go
set_option linter.unusedVariables false

/-- A block that belongs to a dead leaf is written. -/
theorem Rel.wrf {w0 : World} {L : Nat → Nat → Prop} {C : Ctx} (R : Rel w0 L C) {q : Lf} {b : Nat} (hb : C.F q b) (hdead : ∀ e xs, C.E.leaf q ≠ .own e xs)
    {w' : World} {cs : Array Value} {ce : TypeId} {fr : Nat × Nat} {cs' : Array Value} (x : Wrt C.w w' b cs ce fr cs') : Rel w0 L { C with w := w' } := by
  have hblk : ∀ t ds, C.live t ds → (C.loc t).1 ≠ b := fun t ds hl h => R.fcd t ds q hl (h ▸ hb)
  have hoth : ∀ p e xs b', C.E.leaf p = .own e xs → C.F p b' → b' ≠ b := by
    rintro p e xs b' hp hb' rfl
    have := R.disj _ _ _ hb' hb
    subst this
    exact hdead _ _ hp
  have hcv : ∀ p, C.E.leaf p ≠ .dead → Ctx.cv { C with w := w' } p = C.cv p := by
    rintro ⟨c, t, k⟩ hn
    cases c with
    | false => rfl
    | true =>
      obtain ⟨ds, hl⟩ := Rel.liveOf (w0 := w0) (L := L) hn
      show (w'.cell? _).getD undef = (C.w.cell? _).getD undef
      simp only [World.cell?, x.kept _ (hblk t ds hl)]
  have s : Same C { C with w := w' } (fun q => q) (fun _ => False) (fun _ => False) := by
    refine ⟨rfl, fun b' hb' hlb => ⟨hb', x.kept b' (by rintro rfl; exact hb' (.inl ⟨q, hb⟩))⟩, ?_, fun t ds _ hl => ⟨ds, hl, rfl, rfl⟩, fun _ h => h⟩
    intro p e xs _ hp
    refine ⟨xs, hp, rfl, hcv p (by rw [hp]; simp), fun i j e' ys hg => ⟨hg, fun b' o n cap v hc hv => ?_⟩⟩
    have ho := R.ownLeaf hp
    rw [hc] at ho
    cases ho with
    | row _ _ _ _ _ csr frr F G X g1 g2 =>
      have hb2 := hoth p e xs b' hp g2
      simp only [World.cell?, x.kept b' hb2] at hv ⊢
      exact hv
  have go1 : ∀ p d v, C.E.leaf p = d → LRel C p d v → LRel { C with w := w' } p d v := by
    intro p d v hp hv
    by_cases ho : d.isOwn = true
    · cases d <;> simp [D.isOwn] at ho
      cases hv with
      | own _ _ _ h => exact .own _ _ _ _ (h.mono (fun _ h => h) (fun b' hb' _ => x.kept b' (hoth p _ _ b' hp hb')))
    · have := LRel.same s hv p (by simpa using ho) ⟨fun q h => by simp, fun t ht => by simp⟩
      rwa [D.re_id] at this
  refine ⟨R.tmps, R.defers, ?_, ?_, R.disj, R.cdisj, R.fcd, fun p b hp => ?_, R.flent, R.clent, R.frame.wrt x fun j _ hlt => R.flent q b hb hlt j, R.mnew, R.mL⟩
  · intro t d hd
    have hs := R.slot t d hd
    exact hs.tr' fun k y v hy hv => go1 _ _ _ (hs.at hd k y hy) hv
  · intro t ds hl
    obtain ⟨c1, e1, f1, a1, a2, a3, a4⟩ := (R.cell t ds hl).out
    refine ⟨c1, e1, f1, (x.kept _ (hblk t ds hl)).trans a1, a2, a3, ?_⟩
    intro i d hd
    obtain ⟨b1, b2, b3⟩ := a4 i d hd
    exact ⟨b1, b2, go1 _ _ _ (by rw [leaf_cell _ _ _ _ hl]; exact getD_some hd) b3⟩
  · show b < w'.heap.size
    rw [x.size]; exact R.fbound p b hp

/-- A slot is written with an owned row whose blocks a dead leaf holds. -/
theorem Rel.put2 {w0 : World} {L : Nat → Nat → Prop} {C : Ctx} (R : Rel w0 L C) {q : Lf} (hdead : ∀ e xs, C.E.leaf q ≠ .own e xs) {t : Nat} (hno : (C.E.sl.getD t .dead).anyOwn = false) {e : TypeId} {zs : List (List T)} {v : Value}
    (ho : OwnT C.P C.w (.sl e zs) v (C.F q)) : ∃ F', Rel w0 L { C with E := { C.E with sl := C.E.sl.set t (.own e zs) }, a := C.a.put (some t) v, F := F' } := by
  have hnt := notOwn_inS hno
  have R1 : Rel w0 L { C with F := fun p => if p = ⟨false, t, 0⟩ then C.F q else if p = q then fun _ => False else C.F p } := by
    refine R.reF _ ?_ ?_ ?_
    · intro p e xs hp
      have h1 : p ≠ ⟨false, t, 0⟩ := by rintro rfl; exact hnt _ _ _ hp ⟨rfl, rfl⟩
      have h2 : p ≠ q := by rintro rfl; exact hdead _ _ hp
      rw [if_neg h1, if_neg h2]
    · intro p b hp
      split at hp
      · exact ⟨_, hp⟩
      · split at hp
        · exact hp.elim
        · exact ⟨_, hp⟩
    · intro p p' b h1 h2
      by_cases a1 : p = ⟨false, t, 0⟩
      · by_cases a2 : p' = ⟨false, t, 0⟩
        · rw [a1, a2]
        · rw [if_pos a1] at h1; rw [if_neg a2] at h2
          by_cases a3 : p' = q
          · rw [if_pos a3] at h2; exact h2.elim
          · rw [if_neg a3] at h2; exact absurd (R.disj _ _ b h1 h2).symm a3
      · rw [if_neg a1] at h1
        by_cases a3 : p = q
        · rw [if_pos a3] at h1; exact h1.elim
        · rw [if_neg a3] at h1
          by_cases a2 : p' = ⟨false, t, 0⟩
          · rw [if_pos a2] at h2; exact absurd (R.disj _ _ b h1 h2) a3
          · rw [if_neg a2] at h2
            by_cases a4 : p' = q
            · rw [if_pos a4] at h2; exact h2.elim
            · rw [if_neg a4] at h2; exact R.disj _ _ b h1 h2
  refine ⟨_, R1.put1 t (.own e zs) v hno (.comp _ _ rfl (.leaf _ _ _ rfl ?_ (.own _ _ _ _ ?_)))⟩
  · obtain ⟨base, cap, h, _⟩ := ho.slice; rw [h]; rfl
  · show OwnT C.P C.w (.sl e zs) v (if (⟨false, t, 0⟩ : Lf) = ⟨false, t, 0⟩ then C.F q else _)
    rw [if_pos rfl]; exact ho

theorem killP_dead {w0 : World} {L : Nat → Nat → Prop} {C : Ctx} (R : Rel w0 L C) (p : Lf) : (C.E.killP p).leaf p = .dead := by
  unfold Env.killP Env.kill
  rw [mapP_leaf R _ (by
    intro r d h
    split
    · rfl
    · exact killB_leafy _ d h)]
  cases C.E.leaf p <;> simp [lf1]

section ops
variable {w0 : World} {L : Nat → Nat → Prop} {C : Ctx} (R : Rel w0 L C)
variable {np : Nat} {K : Env → Prop} {next : Act → World → Prop} (hn : Nxt w0 L np C K next) {Q : Exit → Act → World → Prop} {o : Oper}
include R hn

/-- The end of an append onto an owned row (or a part of it). -/
theorem snd_fin {r : Nat} {p : Lf} {e : TypeId} {xs zs : List (List T)} {v : Value} (hd : o.dst = some r) {e0 : TypeId} {xs0 : List (List T)} (hp : C.E.leaf p = .own e0 xs0) (ho : OwnT C.P C.w (.sl e xs) v (C.F p))
    (hK : K (opAppend.fin C.E r p e zs))
    (h : (∃ v', (execOp C.a.eval o).run C.P C.w = .ok (.value v') C.w ∧ OwnT C.P C.w (.sl e zs) v' (C.F p)) ∨
      (∃ v' w' b cs fr cs', (execOp C.a.eval o).run C.P C.w = .ok (.value v') w' ∧ C.F p b ∧ Wrt C.w w' b cs e fr cs' ∧ OwnT C.P w' (.sl e zs) v' (C.F p)) ∨
      (∃ v' w', (execOp C.a.eval o).run C.P C.w = .ok (.value v') w' ∧ Ext C.w w' ∧ w'.heap.size = C.w.heap.size + 1 ∧ OwnT C.P w' (.sl e zs) v' (fun b => b = C.w.heap.size))) : o.wp C.P C.a C.w next Q := by
  have R1 : Rel w0 L { C with E := C.E.killP p } := R.kill _
  have hd1 : (C.E.killP p).leaf p = .dead := killP_dead R p
  generalize hE1 : C.E.killP p = E1 at R1 hd1
  have hfin : opAppend.fin C.E r p e zs = { (if (E1.sl.getD r .dead).anyOwn then E1.killS r else E1) with sl := (if (E1.sl.getD r .dead).anyOwn then E1.killS r else E1).sl.set r (.own e zs) } := by
    unfold opAppend.fin; rw [hE1]
  have key : Rel w0 L { C with E := (if (E1.sl.getD r .dead).anyOwn then E1.killS r else E1) } ∧ ((if (E1.sl.getD r .dead).anyOwn then E1.killS r else E1).sl.getD r .dead).anyOwn = false ∧ ∀ e xs, (if (E1.sl.getD r .dead).anyOwn then E1.killS r else E1).leaf p ≠ .own e xs := by
    by_cases hb : (E1.sl.getD r .dead).anyOwn = true
    · rw [if_pos hb]
      refine ⟨R1.kill (fun p => !p.c && p.t == r), killS_anyOwn E1 r, fun e xs h => ?_⟩
      unfold Env.killS Env.kill at h
      rw [mapP_leaf R1 _ (by
        intro r d h
        split
        · rfl
        · exact killB_leafy _ d h)] at h
      have h2 : lf1 (fun p d => if (!p.c && p.t == r) then D.dead else killB (fun p => !p.c && p.t == r) d) p (E1.leaf p) = .own e xs := h
      rw [hd1] at h2; cases h2
    · rw [if_neg hb]
      exact ⟨R1, by simpa using hb, fun e xs h => by rw [hd1] at h; cases h⟩
  rw [hfin] at hK
  generalize (if (E1.sl.getD r .dead).anyOwn then E1.killS r else E1) = E2 at key hK
  obtain ⟨R2, hno, hdead⟩ := key
  rcases h with ⟨v', h1, h2⟩ | ⟨v', w', b, cs, fr, cs', h1, hb, x, h2⟩ | ⟨v', w', h1, x, hs, h2⟩
  · obtain ⟨F', R3⟩ := R2.put2 (q := p) hdead (t := r) hno h2
    refine wp_value h1 ?_
    rw [hd]; exact hn _ R3 rfl (fun _ _ => rfl) hK
  · have R3 := R2.wrf (q := p) hb hdead x
    obtain ⟨F', R4⟩ := R3.put2 (q := p) hdead (t := r) hno h2
    refine wp_value h1 ?_
    rw [hd]; exact hn _ R4 rfl (fun _ _ => rfl) hK
  · obtain ⟨F', R3⟩ := R2.wr1 x r e zs v' (fun b => b = C.w.heap.size) (by rintro b rfl; rw [hs]; exact ⟨Nat.le_refl _, Nat.lt_succ_self _⟩) h2
    rw [if_neg (by rw [hno]; simp)] at R3
    refine wp_value h1 ?_
    rw [hd]; exact hn _ R3 rfl (fun _ _ => rfl) hK

theorem snd_append {tb : Tab} (hT : TabOk C.P tb) {t tx : TypeId} {s x : Operand} (hx : ∀ v, (Builtin.append_ #[t, tx] o.type #[C.a.eval s, C.a.eval x]).run C.P C.w = v → (execOp C.a.eval o).run C.P C.w = v.andThen fun n w => .ok (.value n) w)
    (h : (opAppend tb o.dst t tx s x).wp C.E (Done C.P K C.E)) : o.wp C.P C.a C.w next Q := by
  unfold opAppend at h
  split at h
  · rename_i e r hk hd
    have hu := hT.kd_slice hk
    cases ht : tb e with
    | none => rw [ht] at h; exact h.elim
    | some i =>
      rw [ht] at h
      have hi := hT e i ht
      simp only at h
      split at h
      · rename_i hc
        simp only [Bool.and_eq_true, decide_eq_true_eq] at hc
        obtain ⟨⟨c1, c2⟩, c3⟩ := hc
        have hfl : flatP C.P e = true := by rw [← hi.flat]; exact c1
        replace h := opdR_wp R h
        obtain ⟨d, h, hv⟩ := h
        replace h := opdR_wp R h
        obtain ⟨y, h, hvy⟩ := h
        replace h := srcR_wp R hT hi hfl c2 hvy h
        obtain ⟨ys, news, h, hs⟩ := h
        split at h
        · obtain ⟨hr, h⟩ := h
          have ex := (hv rfl).nil_inv
          have hown : OwnT C.P C.w (.sl e []) (C.a.eval s) (fun _ => False) := by rw [ex]; exact .emp e _
          rcases append_core (tx := tx) (ty := o.type) hu hi hfl c2 c3 hown hs (by simpa using hr) with ⟨v', h1, h2⟩ | ⟨v', w', b, cs, fr, cs', h1, hb, _⟩ | ⟨v', w', h1, x1, hsz, h2⟩
          · exact wp_value (hx _ h1) (wrS_own R hn (.refl _) h (G := fun _ => False) (fun b hb => hb.elim) (by simpa using h2))
          · exact hb.elim
          · exact wp_value (hx _ h1) (wrS_own R hn x1 h (G := fun b => b = C.w.heap.size) (by rintro b rfl; rw [hsz]; exact ⟨Nat.le_refl _, Nat.lt_succ_self _⟩) (by simpa using h2))
        · rename_i p
          obtain ⟨ex, e', xs, hl⟩ := (hv rfl).ali_inv
          rw [leafR_wp, hl] at h
          obtain ⟨⟨hr, rfl⟩, h⟩ := h
          simp only [Rdr.wp, Done, Env.app, Env.app1] at h
          have hown := R.ownLeaf hl
          rw [← ex] at hown
          refine snd_fin R hn hd hl hown h ?_
          rcases append_core (tx := tx) (ty := o.type) hu hi hfl c2 c3 hown hs hr with ⟨v', h1, h2⟩ | ⟨v', w', b, cs, fr, cs', h1, hb, x1, h2⟩ | ⟨v', w', h1, x1, hsz, h2⟩
          · exact .inl ⟨v', hx _ h1, h2⟩
          · exact .inr (.inl ⟨v', w', b, cs, fr, cs', hx _ h1, hb, x1, h2⟩)
          · exact .inr (.inr ⟨v', w', hx _ h1, x1, hsz, h2⟩)
        · rename_i p a b
          obtain ⟨e', xs, hl, g1, g2, ex⟩ := (hv rfl).sub_inv
          rw [leafR_wp, hl] at h
          obtain ⟨⟨hr, rfl⟩, h⟩ := h
          simp only [Rdr.wp, Done, Env.app, Env.app1] at h
          have hown := (R.ownLeaf hl).cut g1 g2
          rw [← ex] at hown
          have hlen : ((xs.drop a).take (b - a)).length = b - a := by simp; omega
          refine snd_fin R hn hd hl hown h ?_
          rcases append_core (tx := tx) (ty := o.type) hu hi hfl c2 c3 hown hs (by rw [hlen]; exact hr) with ⟨v', h1, h2⟩ | ⟨v', w', b', cs, fr, cs', h1, hb, x1, h2⟩ | ⟨v', w', h1, x1, hsz, h2⟩
          · exact .inl ⟨v', hx _ h1, h2⟩
          · exact .inr (.inl ⟨v', w', b', cs, fr, cs', hx _ h1, hb, x1, h2⟩)
          · exact .inr (.inr ⟨v', w', hx _ h1, x1, hsz, h2⟩)
        · exact h.elim
      · exact h.elim
  · exact h.elim
end ops
end Go.Proofs.Ytcnogcachboibaa.Fw
