/- Framework: congruence lemmas that keep simp out of what follows; loops by a state. -/
import Derived.Test.YtcnogcachboibaaFwE2
namespace Go.Proofs.Ytcnogcachboibaa.Fw
open Go
set_option linter.unusedVariables false
/-- simp looks at this alone where it should not look further. -/
def tick : Prop := True
theorem tick_eq : tick = True := propext ⟨fun _ => trivial, fun _ => trivial⟩
section
variable {q : Prop} {α : Type}
theorem c_bnd {d d' : D} {k : D → Rdr α} (h : d = d') (ht : tick = q) : bnd d k = bnd d' k := by rw [h]
theorem c_slot {t t' : Nat} {k : D → Rdr α} (h : t = t') (ht : tick = q) : Rdr.slot t k = Rdr.slot t' k := by rw [h]
theorem c_cell {t t' : Nat} {k : Option (List D) → Rdr α} (h : t = t') (ht : tick = q) : Rdr.cell t k = Rdr.cell t' k := by rw [h]
theorem c_all {k : Env → Rdr α} (ht : tick = q) : Rdr.all k = Rdr.all k := rfl
theorem c_len {k : Nat → Rdr α} (ht : tick = q) : Rdr.len k = Rdr.len k := rfl
theorem c_chk {p p' : Prop} {k : Rdr α} (h : p = p') (ht : tick = q) : Rdr.chk p k = Rdr.chk p' k := by rw [h]
theorem c_asm {p p' : Prop} {k : Rdr α} (h : p = p') (ht : tick = q) : Rdr.asm p k = Rdr.asm p' k := by rw [h]
theorem c_opdR {x : Operand} {k : D → Rdr α} (ht : tick = q) : opdR x k = opdR x k := rfl
theorem c_wp {E E' : Env} {r r' : Rdr α} {Q : α → Prop} (h : E = E') (h2 : r = r') (ht : tick = q) : r.wp E Q = r'.wp E' Q := by rw [h, h2]
theorem c_pwp {P : Program} {cfg : Cfg} {c : Code} {E E' : Env} {Q : Go.Exit → Env → Prop} (h : E = E') (ht : tick = q) : pwp P cfg c E Q = pwp P cfg c E' Q := by rw [h]
theorem c_pOps {P : Program} {cfg : Cfg} {ops l : List Oper} {E E' : Env} {K : Env → Prop} (h : E = E') (ht : tick = q) : pOps P cfg ops l E K = pOps P cfg ops l E' K := by rw [h]
theorem c_Done {P : Program} {K : Env → Prop} {E E' : Env} {s s' : Stp} (h : E = E') (h2 : s = s') (ht : tick = q) : Done P K E s = Done P K E' s' := by rw [h, h2]
theorem c_nx {K : Env → Prop} {Q : Go.Exit → Env → Prop} {e e' : Go.Exit} {E E' : Env} (h : E = E') (h2 : e = e') (ht : tick = q) : Exit.nx K Q e E = Exit.nx K Q e' E' := by rw [h, h2]
theorem c_blk {Q : Go.Exit → Env → Prop} {e e' : Go.Exit} {i : Nat} {E E' : Env} (h : E = E') (h2 : e = e') (ht : tick = q) : Exit.blk i Q e E = Exit.blk i Q e' E' := by rw [h, h2]
theorem c_fin {cfg : Cfg} {ts : List RV} {Eout : Env} {e : Go.Exit} {E E' : Env} (h : E = E') (ht : tick = q) : Fin cfg ts Eout e E = Fin cfg ts Eout e E' := by rw [h]
theorem c_rowsR {d d' : D} {k : TypeId → List (List T) → Rdr α} (h : d = d') (ht : tick = q) : rowsR d k = rowsR d' k := by rw [h]
theorem c_leafR {p p' : Lf} {k : D → Rdr α} (h : p = p') (ht : tick = q) : leafR p k = leafR p' k := by rw [h]
theorem c_opdsR {xs ys : List Operand} {acc acc' : List D} {k : List D → Rdr α} (h : xs = ys) (h2 : acc = acc') (ht : tick = q) : opdsR xs acc k = opdsR ys acc' k := by rw [h, h2]
theorem c_coeLeaf {e e' : TypeId} {d d' : D} {k : D → List Lf → Rdr α} (h : e = e') (h2 : d = d') (ht : tick = q) : coeLeaf e d k = coeLeaf e' d' k := by rw [h, h2]
theorem c_coeLeaves {e e' : List TypeId} {d d' : List D} {k : List D → List Lf → Rdr α} (h : e = e') (h2 : d = d') (ht : tick = q) : coeLeaves e d k = coeLeaves e' d' k := by rw [h, h2]
theorem c_coeCapt {d d' : List D} {k : List D → List Lf → List Nat → Rdr α} (h2 : d = d') (ht : tick = q) : coeCapt d k = coeCapt d' k := by rw [h2]
theorem c_argR {tb : Tab} {pt pt' : TypeId} {m m' : Nat} {d d' : D} {acc acc' : CallAcc} {k : CallAcc → Rdr Stp} (h : pt = pt') (h1 : m = m') (h2 : d = d') (h3 : acc = acc') (ht : tick = q) : argR tb pt m d acc k = argR tb pt' m' d' acc' k := by rw [h, h1, h2, h3]
theorem c_argsR {tb : Tab} {md : Nat → Nat} {pts pts' : List TypeId} {ds ds' : List D} {acc acc' : CallAcc} {k : CallAcc → Rdr Stp} (h : pts = pts') (h2 : ds = ds') (h3 : acc = acc') (ht : tick = q) : argsR tb md pts ds acc k = argsR tb md pts' ds' acc' k := by rw [h, h2, h3]
theorem c_boundR {x x' : Option Operand} {n n' : Nat} {k : Nat → Rdr α} (h : x = x') (h2 : n = n') (ht : tick = q) : boundR x n k = boundR x' n' k := by rw [h, h2]
theorem c_partsR {z z' : List D} {ps ps' : List (Nat × Nat × Operand)} {k : List D → Rdr Stp} (h : z = z') (h2 : ps = ps') (ht : tick = q) : partsR z ps k = partsR z' ps' k := by rw [h, h2]
theorem c_srcR {tb : Tab} {tx e : TypeId} {sz : Nat} {d d' : D} {k : List (List T) → Rdr α} (h : d = d') (ht : tick = q) : srcR tb tx e sz d k = srcR tb tx e sz d' k := by rw [h]
theorem c_mfgo {xs ys : List Operand} {acc acc' : List D} {k : List D → Rdr Stp} (h : xs = ys) (h2 : acc = acc') (ht : tick = q) : opMakeFunc.go xs acc k = opMakeFunc.go ys acc' k := by rw [h, h2]
/-- A branch isn't looked into before its condition is known. -/
theorem c_ite {c c' : Prop} [Decidable c] [Decidable c'] {x y : α} (h : c = c') (ht : tick = q) : ite c x y = ite c' x y := by subst h; congr
end
section
variable {P : Program} {cfg : Cfg} {E : Env} {Q : Go.Exit → Env → Prop}
theorem pw_skip : pwp P cfg .skip E Q = Q .normal E := id rfl
theorem pw_seq {x y : Code} : pwp P cfg (.seq x y) E Q = pwp P cfg x E (Exit.nx (fun E' => pwp P cfg y E' Q) Q) := id rfl
theorem pw_region {i : Nat} {l : List Oper} : pwp P cfg (.region i l.toArray false) E Q = pOps P cfg l l E (Q .normal) := by
  show (false = false ∧ pOps P cfg l l E (Q .normal)) = _
  simp
theorem pw_cond {c : Operand} {x y : Code} : pwp P cfg (.cond c x y) E Q = (condR c).wp E fun b => if b = true then pwp P cfg x E Q else pwp P cfg y E Q := id rfl
theorem pw_block {i : Nat} {c : Code} : pwp P cfg (.block i c) E Q = pwp P cfg c E (Exit.blk i Q) := id rfl
theorem pw_exit {i : Nat} : pwp P cfg (.exit i) E Q = Q (.exit i) E := id rfl
theorem pw_ret : pwp P cfg .ret E Q = Q .ret E := id rfl
theorem nx_normal {K : Env → Prop} : Exit.nx K Q .normal E = K E := id rfl
theorem nx_ret {K : Env → Prop} : Exit.nx K Q .ret E = Q .ret E := id rfl
theorem nx_exit {K : Env → Prop} {i : Nat} : Exit.nx K Q (.exit i) E = Q (.exit i) E := id rfl
theorem blk_normal {i : Nat} : Exit.blk i Q .normal E = Q .normal E := id rfl
theorem blk_ret {i : Nat} : Exit.blk i Q .ret E = Q .ret E := id rfl
theorem blk_exit {i j : Nat} : Exit.blk i Q (.exit j) E = if j = i then Q .normal E else Q (.exit j) E := id rfl
theorem po_nil {ops : List Oper} {K : Env → Prop} : pOps P cfg ops [] E K = K E := id rfl
theorem po_cons {ops : List Oper} {o : Oper} {os : List Oper} {K : Env → Prop} : pOps P cfg ops (o :: os) E K = (opG cfg ops o).wp E (Done P (fun E' => pOps P cfg ops os E' K) E) := id rfl
end

theorem wp_mono {α : Type} {E : Env} {Q Q' : α → Prop} : ∀ (r : Rdr α), (∀ a, Q a → Q' a) → r.wp E Q → r.wp E Q'
  | .ret a, h, x => h a x
  | .fail, h, x => x
  | .slot t k, h, x => wp_mono (k _) h x
  | .cell t k, h, x => wp_mono (k _) h x
  | .all k, h, x => wp_mono (k _) h x
  | .len k, h, x => wp_mono (k _) h x
  | .chk p k, h, x => ⟨x.1, wp_mono k h x.2⟩
  | .asm p k, h, x => fun hp => wp_mono k h (x hp)
theorem Done_mono {P : Program} {K K' : Env → Prop} {E : Env} (h : ∀ E, K E → K' E) : ∀ s, Done P K E s → Done P K' E s
  | .done ws, x => h _ x
  | .call f Ein k, ⟨Eo, a, ws, b, x⟩ => ⟨Eo, a, ws, b, h _ x⟩
theorem pOps_mono {P : Program} {cfg : Cfg} {ops : List Oper} {K K' : Env → Prop} (h : ∀ E, K E → K' E) : ∀ (l : List Oper) (E : Env), pOps P cfg ops l E K → pOps P cfg ops l E K'
  | [], E, x => h E x
  | o :: os, E, x => wp_mono _ (fun s hs => Done_mono (fun E' hE => pOps_mono h os E' hE) s hs) x
theorem pwp_mono {P : Program} {cfg : Cfg} : ∀ (c : Code) (E : Env) {Q Q' : Go.Exit → Env → Prop}, (∀ e E, Q e E → Q' e E) → pwp P cfg c E Q → pwp P cfg c E Q' := by
  intro c
  induction c with
  | skip => intro E Q Q' h x; exact h _ _ x
  | seq a b iha ihb =>
    intro E Q Q' h x
    refine iha E ?_ x
    intro e E' hq
    cases e with
    | normal => exact ihb E' h hq
    | _ => exact h _ _ hq
  | region i ops d => intro E Q Q' h x; exact ⟨x.1, pOps_mono (fun E hE => h _ _ hE) _ _ x.2⟩
  | cond c a b iha ihb =>
    intro E Q Q' h x
    refine wp_mono _ ?_ x
    intro t ht
    split at ht
    · rw [if_pos ‹_›]; exact iha E h ht
    · rw [if_neg ‹_›]; exact ihb E h ht
  | block i a iha =>
    intro E Q Q' h x
    refine iha E ?_ x
    intro e E' hq
    cases e with
    | exit j =>
      simp only [Exit.blk] at hq ⊢
      split at hq
      · rw [if_pos ‹_›]; exact h _ _ hq
      · rw [if_neg ‹_›]; exact h _ _ hq
    | _ => exact h _ _ hq
  | loop a iha =>
    intro E Q Q' h x
    obtain ⟨I, μ, h0, h1⟩ := x
    refine ⟨I, μ, h0, fun E1 hI => iha E1 ?_ (h1 E1 hI)⟩
    intro e E' hq
    cases e with
    | normal => exact hq
    | _ => exact h _ _ hq
  | exit i => intro E Q Q' h x; exact h _ _ x
  | ret => intro E Q Q' h x; exact h _ _ x
  | _ => intro E Q Q' h x; exact x.elim
theorem wrapN {i : Nat} {n : Nat} (h : i < n) (hn : n ≤ 9223372036854775807) : IntKind.i64.wrap ((i : Int) + 1) = ((i + 1 : Nat) : Int) := by
  rw [IntKind.wrap_i64]; omega
theorem wrapI {n : Int} (h : -9223372036854775808 ≤ n ∧ n ≤ 9223372036854775807) : IntKind.i64.wrap n = n := by
  rw [IntKind.wrap_i64]; omega
theorem wrap_0 : IntKind.i64.wrap 0 = 0 := by decide
theorem wrap_1 : IntKind.i64.wrap 1 = 1 := by decide
theorem wrap_2 : IntKind.i64.wrap 2 = 2 := by decide
theorem ofN_lt {m n : Nat} : ((m : Int) < (n : Int)) = (m < n) := by simp
theorem ofN_le {m n : Nat} : ((m : Int) ≤ (n : Int)) = (m ≤ n) := by simp
theorem all_take_succ {α : Type} {l : List α} {p : α → Bool} {i : Nat} {d : α} (h : i < l.length) : (l.take (i + 1)).all p = ((l.take i).all p && p (l.getD i d)) := by
  rw [List.take_succ_eq_append_getElem h, List.all_append]
  simp [List.getD_eq_getElem?_getD, h]
theorem any_take_succ {α : Type} {l : List α} {p : α → Bool} {i : Nat} {d : α} (h : i < l.length) : (l.take (i + 1)).any p = ((l.take i).any p || p (l.getD i d)) := by
  rw [List.take_succ_eq_append_getElem h, List.any_append]
  simp [List.getD_eq_getElem?_getD, h]
theorem all_false_at {α : Type} {l : List α} {p : α → Bool} {i : Nat} {d : α} (h : i < l.length) (hp : p (l.getD i d) = false) : l.all p = false := by
  rw [List.all_eq_false]
  refine ⟨l.getD i d, ?_, by rw [hp]; decide⟩
  rw [List.getD_eq_getElem?_getD, List.getElem?_eq_getElem h]
  exact List.getElem_mem h
theorem any_true_at {α : Type} {l : List α} {p : α → Bool} {i : Nat} {d : α} (h : i < l.length) (hp : p (l.getD i d) = true) : l.any p = true := by
  rw [List.any_eq_true]
  refine ⟨l.getD i d, ?_, hp⟩
  rw [List.getD_eq_getElem?_getD, List.getElem?_eq_getElem h]
  exact List.getElem_mem h
theorem ev_ks {E : Env} {t : Nat} {d : D} : E.app1 (.ks t d) = { (E.killS t) with sl := (E.killS t).sl.set t (d.mapP fun _ x => killB (fun p => !p.c && p.t == t) x) } := rfl
theorem ev_kp {E : Env} {p : Lf} : E.app1 (.kp p) = E.killP p := rfl
theorem ev_lf {E : Env} {p : Lf} {d : D} : E.app1 (.lf p d) = E.setLeaf p d := rfl
theorem ev_alle {E E' : Env} : E.app1 (.all E') = E' := rfl
theorem mt_tmp {dst : Option Tmp} {t : Nat} {E : Env} {Q : Stp → Prop} : (opMoveT dst (.tmp t)).wp E Q = (bnd (E.sl.getD t .dead) fun | .tup cs => wrS dst (.tup (mvCs t 0 cs)) | d => wrS dst (asMove t d)).wp E Q := id rfl
theorem mt_const {dst : Option Tmp} {v : Value} : opMoveT dst (.const v) = opMove dst (.const v) := id rfl
theorem mt_func {dst : Option Tmp} {v : FuncId} : opMoveT dst (.func v) = opMove dst (.func v) := id rfl
theorem exists_least (p : Nat → Prop) (h : ∃ n, p n) : ∃ n, p n ∧ ∀ m, p m → n ≤ m := by
  obtain ⟨n, hn⟩ := h
  induction n using Nat.strongRecOn with
  | _ n ih =>
    by_cases hm : ∃ m, p m ∧ m < n
    · obtain ⟨m, h1, h2⟩ := hm
      exact ih m h2 h1
    · exact ⟨n, hn, fun m h => by
        by_cases hlt : m < n
        · exact absurd ⟨m, h, hlt⟩ hm
        · omega⟩
/-- A loop by a state from which its environment is told. -/
theorem loop_by {P : Program} {cfg : Cfg} {c : Code} {E : Env} {Q : Go.Exit → Env → Prop} {σ : Type} (env : σ → Env) (m : Nat) (inv : σ → Prop) (μ : σ → Nat) (s0 : σ) (hE : E.forget m = env s0) (h0 : inv s0)
    (h : ∀ s, inv s → pwp P cfg c (env s) (Exit.nx (fun E' => ∃ s', E'.forget m = env s' ∧ inv s' ∧ μ s' < μ s) Q)) : pwp P cfg (.loop c) E Q := by
  let p : Env → Nat → Prop := fun E n => ∃ s, inv s ∧ env s = E ∧ μ s = n
  refine ⟨fun E => ∃ s, inv s ∧ env s = E, fun E => open Classical in if h : ∃ n, p E n then (exists_least (p E) h).choose else 0, ⟨env s0, .inr (.inr ⟨m, hE.symm⟩), s0, h0, rfl⟩, ?_⟩
  rintro E ⟨s, hs, rfl⟩
  have hx : ∃ n, p (env s) n := ⟨_, s, hs, rfl, rfl⟩
  obtain ⟨⟨s1, h1, e1, m1⟩, hle⟩ := (exists_least (p (env s)) hx).choose_spec
  have := h s1 h1
  rw [e1] at this
  refine pwp_mono _ _ ?_ this
  intro e E' hq
  cases e <;> try exact hq
  obtain ⟨s', g1, g2, g3⟩ := hq
  refine ⟨env s', .inr (.inr ⟨m, g1.symm⟩), ⟨s', g2, rfl⟩, ?_⟩
  have hx' : ∃ n, p (env s') n := ⟨_, s', g2, rfl, rfl⟩
  obtain ⟨_, hle'⟩ := (exists_least (p (env s')) hx').choose_spec
  have h3 := hle' (μ s') ⟨s', g2, rfl, rfl⟩
  simp only [hx, hx', dif_pos]
  omega
end Go.Proofs.Ytcnogcachboibaa.Fw
