/- Framework, part Ci: calls. -/
import Derived.Test.YtcnogcachboibaaFwCh
namespace Go.Proofs.Ytcnogcachboibaa.Fw
open Go
set_option linter.unusedVariables false

theorem SRel.mv {C C' : Ctx} {t t' : Nat} {d : D} {v : Value} (h : SRel C t d v) (hgo : ∀ k x v, At d k x → x.leafy = true → one v = true → LRel C ⟨false, t, k⟩ x v → LRel C' ⟨false, t', k⟩ x v) : SRel C' t' d v := by
  have comp : ∀ k0 (c : D) v, (∀ j x, j < 64 → c.leaves1[j]? = some x → At d (k0 + j) x) → CRel C t k0 c v → CRel C' t' k0 c v := by
    intro k0 c v hat hc
    cases hc with
    | dead => exact .dead _ _
    | agg ds vs hl h64 h =>
      refine .agg _ _ _ hl h64 fun i x hx => ?_
      obtain ⟨a1, a2, a3⟩ := h i x hx
      exact ⟨a1, a2, hgo _ _ _ (hat i x (by have := (List.getElem?_eq_some_iff.1 hx).1; omega) (by simpa [D.leaves1] using hx)) a1 a2 a3⟩
    | leaf _ _ a b c' =>
      have := hgo k0 c v (by have := hat 0 c (by omega) (by rw [leafy_leaves1 a]; rfl); simpa using this) a b c'
      exact .leaf _ _ _ a b this
  cases h with
  | tup cs vs hl h =>
    refine .tup _ _ hl fun i c hc => ?_
    obtain ⟨a1, a2⟩ := h i c hc
    exact ⟨a1, comp _ c _ (fun j x hj hx => At.tup cs i j c x hc hj hx) a2⟩
  | comp _ _ ht hc => exact .comp _ _ ht (comp 0 d v (fun j x hj hx => by rw [Nat.zero_add]; exact At.comp d j x ht hj hx) hc)

theorem at_anyL {d : D} {k : Nat} {x : D} (ha : At d k x) {p : D → Bool} (h : p x = true) : d.anyL p = true := by
  unfold D.anyL
  cases ha with
  | comp _ _ _ ht hk hx =>
    have : d.comps = [d] := by cases d <;> first | rfl | simp [D.isTup] at ht
    rw [this, List.any_eq_true]
    exact ⟨d, by simp, List.any_eq_true.2 ⟨_, List.mem_of_getElem? hx, h⟩⟩
  | tup cs i j c _ hc hj hx =>
    simp only [D.comps]
    rw [List.any_eq_true]
    exact ⟨c, List.mem_of_getElem? hc, List.any_eq_true.2 ⟨_, List.mem_of_getElem? hx, h⟩⟩

theorem accOk_nil (C : Ctx) : AccOk C ⟨[], [], [], [], [], []⟩ [] :=
  ⟨rfl, rfl, fun i d v h => by simp at h, fun p i h => (by cases h), fun c j n i h => (by cases h), fun p q i h => (by cases h), fun x y i h => (by cases h)⟩

section ops
variable {w0 : World} {L : Nat → Nat → Prop} {C : Ctx} (R : Rel w0 L C)
variable {np : Nat} {K : Env → Prop} {next : Act → World → Prop} (hn : Nxt w0 L np C K next) {Q : Go.Exit → Act → World → Prop} {o : Oper}
include R hn

/-- The result is written. -/
theorem snd_back {E3 : Env} {F3 : Lf → Nat → Prop} {w' : World} (R3 : Rel w0 L { C with E := E3, w := w', F := F3 }) (hlen : E3.sl.length = C.E.sl.length) {dst : Option Tmp} {ret : D} {v : Value} {Co : Ctx} {n : Nat} (hP : Co.P = C.P) (hw : Co.w = w') (hs : SRel Co n ret v)
    (hres : ret.anyL (fun d => !d.resLeaf) = false) (hG : ∀ k b, Co.F ⟨false, n, k⟩ b → F3 ⟨false, C.E.sl.length, k⟩ b)
    (hRd : ret.anyL D.isImm = true → ∀ b, Co.Rd b → b < w'.heap.size → ({ C with E := E3, w := w', F := F3 } : Ctx).Rd b)
    (hK : K (E3.app (match dst with | none => [] | some t => [.rw t ret]))) : next (C.a.put dst v) w' := by
  have _ := R
  cases dst with
  | none => exact hn _ R3 rfl (fun _ _ => rfl) hK
  | some t =>
    have hK : K (E3.app1 (.rw t ret)) := hK
    have key : ∃ E4 : Env, E3.app1 (.rw t ret) = { E4 with sl := E4.sl.set t ret } ∧ Rel w0 L { C with E := E4, w := w', F := F3 } ∧ (E4.sl.getD t .dead).anyOwn = false ∧ E4.sl.length = E3.sl.length ∧ (∀ (t' : Nat) (ds : List D), E4.ce[t']? = some (some ds) → ∃ ds', E3.ce[t']? = some (some ds')) := by
      by_cases hb : (E3.sl.getD t .dead).anyOwn = true
      · refine ⟨E3.killS t, ?_, R3.kill (fun p => !p.c && p.t == t), killS_anyOwn E3 t, ?_, ?_⟩
        · simp only [Env.app1, hb, if_true]
        · unfold Env.killS Env.kill; rw [mapP_sl]
        · intro t' ds h
          obtain ⟨d0, a, _⟩ := mapP_live' (C := { C with E := E3, w := w', F := F3 }) h
          exact ⟨d0, a⟩
      · refine ⟨E3, ?_, R3, by simpa using hb, rfl, fun t' ds h => ⟨ds, h⟩⟩
        simp only [Env.app1, hb]
        rfl
    obtain ⟨E4, e4, R4, hno, hl4, hlv⟩ := key
    rw [e4] at hK
    have R5 := R4.mvF (t := t) (T := C.E.sl.length) (by show E4.sl.length ≤ _; omega) hno
    refine hn _ (R5.put1 t ret v hno (hs.mv ?_)) rfl (fun _ _ => rfl) hK
    intro k x vx hx h1 h2 hl
    have hr : x.resLeaf = true := by
      cases hx' : x.resLeaf with
      | true => rfl
      | false => rw [at_anyL (p := fun d => !d.resLeaf) hx (by rw [hx']; rfl)] at hres; cases hres
    have hrl := hl.rl hr h1 h2
    rw [hP, hw] at hrl
    refine RL.rel (C := { C with E := E4, w := w', F := Fw.mvF F3 t C.E.sl.length }) hrl ?_ ?_
    · rintro e xs b rfl hb hlt
      obtain ⟨g1, g2⟩ := hRd (at_anyL hx rfl) b hb hlt
      refine ⟨?_, g2⟩
      rintro (⟨p, hp⟩ | ⟨t', ds, hlv', hb'⟩)
      · apply g1
        have hp : Fw.mvF F3 t C.E.sl.length p b := hp
        unfold Fw.mvF at hp
        split at hp
        · exact .inl ⟨_, hp⟩
        · split at hp
          · exact hp.elim
          · exact .inl ⟨_, hp⟩
      · obtain ⟨ds', h⟩ := hlv t' ds hlv'
        exact g1 (.inr ⟨t', ds', h, hb'⟩)
    · intro e xs _ b hb
      show Fw.mvF F3 t C.E.sl.length ⟨false, t, k⟩ b
      unfold Fw.mvF
      rw [if_pos ⟨rfl, rfl⟩]
      exact hG k b hb

theorem snd_came {acc : CallAcc} {ws : List Value} {wsx : List W} {Eout : Env} (ha : AccOk C acc ws) (hf : AccFine acc) (hnd : (acc.wc.map (·.1)).Nodup) (hret : retW acc o.dst Eout = some wsx) (hK : K (C.E.app wsx))
    {v : Value} {w' : World} {F' : Lf → Nat → Prop} {loc' : Nat → Nat × Nat} (hloc : ∀ t, t < acc.args.length → loc' t = locIn C acc t)
    (Ro : Rel C.w (lentOf (CIn C acc ws).E (CIn C acc ws).F (CIn C acc ws).loc) { P := C.P, E := Eout, a := { tmps := ws.toArray.push v, defers := [] }, w := w', F := F', loc := loc', M := MIn C acc }) : next (C.a.put o.dst v) w' := by
  unfold retW at hret
  split at hret
  · rename_i w1 w2 h1 h2
    split at hret
    · cases hret
    · rename_i hcond
      simp only [Bool.or_eq_true, decide_eq_true_eq, not_or, Bool.not_eq_true, Decidable.not_not, Bool.and_eq_false_iff, Bool.not_eq_false', List.isEmpty_iff] at hcond
      obtain ⟨⟨q1, q2⟩, q3⟩ := hcond
      injection hret with hret
      subst hret
      have hsl : Eout.sl[acc.args.length]? = some (Eout.sl.getD acc.args.length .dead) := by
        rw [List.getD_eq_getElem?_getD, List.getElem?_eq_getElem (by omega)]; rfl
      have hs := Ro.slot _ _ hsl
      have hvv : ({ tmps := ws.toArray.push v, defers := [] } : Act).tmps.getD acc.args.length undef = v := by
        show (ws.toArray.push v).getD acc.args.length undef = v
        rw [ha.len, arrGetD]
        simp
      have hs : SRel _ acc.args.length (Eout.sl.getD acc.args.length .dead) (({ tmps := ws.toArray.push v, defers := [] } : Act).tmps.getD acc.args.length undef) := hs
      rw [hvv] at hs
      have fin : ∀ (ps : List Lf) (E0 : Env) (F0 : Lf → Nat → Prop), Rel w0 L { C with E := E0, F := F0 } → Frz C ps E0 F0 → (∀ q, q ∈ ps → q ∈ acc.bor) → (retIm acc Eout w2 = true → ps = acc.bor ∧ acc.borc = []) →
          K (E0.app (.ca w1 w2 :: (match o.dst with | none => [] | some t => [.rw t (Eout.sl.getD acc.args.length .dead)]))) → next (C.a.put o.dst v) w' := by
        intro ps E0 F0 R0 fz hps him hK
        obtain ⟨F3, R3, g1, g2, g3⟩ := Rel.ret1 R ha hf hnd Ro hloc h1 h2 R0 fz hps (by
          rintro ⟨x, hx, d, hd, hi⟩
          apply him
          unfold retIm
          rw [Bool.or_eq_true]
          right
          rw [List.any_eq_true]
          exact ⟨x, hx, List.any_eq_true.2 ⟨d, hd, hi⟩⟩)
        exact snd_back R hn R3 g2 (Co := { P := C.P, E := Eout, a := { tmps := ws.toArray.push v, defers := [] }, w := w', F := F', loc := loc', M := MIn C acc }) (n := acc.args.length) rfl rfl hs q1 (fun k b hb => g1 k b hb) (fun hi b hb hlt => g3 (him (by unfold retIm; rw [hi]; rfl)) b hb hlt) hK
      cases him : retIm acc Eout w2 with
      | false =>
        rw [him] at hK
        exact fin [] C.E C.F R (Frz.refl C) (fun q h => by cases h) (fun h => by rw [him] at h; cases h) hK
      | true =>
        rw [him] at hK
        obtain ⟨F0, R0, fz⟩ := Rel.frzs acc.bor R
        have hb : acc.borc = [] := by
          rcases q2 with h | h
          · rw [him] at h; cases h
          · exact h
        exact fin acc.bor (C.E.frzs acc.bor) F0 R0 fz (fun q h => h) (fun _ => ⟨rfl, hb⟩) hK
  · cases hret

theorem snd_callR {cfg : Cfg} {f : FuncId} {ds : List D} {ws : List Value} (hlen : ds.length = ws.length) (hv : ∀ (i : Nat) (d : D), ds[i]? = some d → d.isTup = false → VRel C d (ws.getD i undef))
    (hx : (execOp C.a.eval o).run C.P C.w = (callFunc f ws.toArray).run C.P C.w) (h : (callR cfg o.dst f ds).wp C.E (Done C.P K C.E)) : o.wp C.P C.a C.w next Q := by
  unfold callR at h
  obtain ⟨acc, h, ha⟩ := argsR_wp R _ ds ws (accOk_nil C) hlen hv h
  rw [List.nil_append] at ha
  split at h
  · rename_i hok
    have hf := CallAcc.fine hok
    have hnd : (acc.wc.map (·.1)).Nodup := by
      simp only [CallAcc.ok, Bool.and_eq_true] at hok
      exact distinct_nodup hok.1.1.1.2
    obtain ⟨Eout, hsem, wsx, hret, hK⟩ := h
    have hc := hsem C.w { tmps := ws.toArray, defers := [] } (FIn C acc) (locIn C acc) (MIn C acc) (Rel.entry R ha hf)
    have back : ∀ v w', (∃ F' loc', (∀ t, t < acc.args.length → loc' t = locIn C acc t) ∧ Rel C.w (lentOf (CIn C acc ws).E (CIn C acc ws).F (CIn C acc ws).loc) { P := C.P, E := Eout, a := { tmps := ws.toArray.push v, defers := [] }, w := w', F := F', loc := loc', M := MIn C acc }) → next (C.a.put o.dst v) w' := by
     rintro v w' ⟨F', loc', hloc, Ro⟩
     exact snd_came R hn ha hf hnd hret hK hloc Ro
    rcases hc with ⟨c1, c2⟩ | ⟨v, w', c1, c2⟩
    · unfold Oper.wp
      rw [hx, c1, Oper.upon_enter]
      refine Calls.mono c2 ?_
      rintro e w' ⟨v, rfl, h⟩
      exact back v w' h
    · exact wp_value (hx.trans c1) (back v w' c2)
  · exact h.elim
end ops
end Go.Proofs.Ytcnogcachboibaa.Fw
