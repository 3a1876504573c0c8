/- Framework: lemmas by which simp computes. -/
import Derived.Test.YtcnogcachboibaaFwX
namespace Go.Proofs.Ytcnogcachboibaa.Fw
open Go
set_option linter.unusedVariables false
/-- A leaf is looked at: computed first, then handed on. -/
def bnd {α : Type} (d : D) (k : D → Rdr α) : Rdr α := k d
theorem bnd_v {α : Type} {x : Value} {k : D → Rdr α} : bnd (.v x) k = k (.v x) := id rfl
theorem bnd_dead {α : Type} {k : D → Rdr α} : bnd .dead k = k .dead := id rfl
theorem bnd_nil {α : Type} {k : D → Rdr α} : bnd .nil k = k .nil := id rfl
theorem bnd_own {α : Type} {e : TypeId} {xs : List (List T)} {k : D → Rdr α} : bnd (.own e xs) k = k (.own e xs) := id rfl
theorem bnd_imm {α : Type} {e : TypeId} {xs : List (List T)} {k : D → Rdr α} : bnd (.imm e xs) k = k (.imm e xs) := id rfl
theorem bnd_ali {α : Type} {p : Lf} {k : D → Rdr α} : bnd (.ali p) k = k (.ali p) := id rfl
theorem bnd_sub {α : Type} {p : Lf} {a b : Nat} {k : D → Rdr α} : bnd (.sub p a b) k = k (.sub p a b) := id rfl
theorem bnd_ela {α : Type} {p : Lf} {a b : Nat} {k : D → Rdr α} : bnd (.ela p a b) k = k (.ela p a b) := id rfl
theorem bnd_cref {α : Type} {a b : Nat} {k : D → Rdr α} : bnd (.cref a b) k = k (.cref a b) := id rfl
theorem bnd_eref {α : Type} {p : Lf} {a b : Nat} {k : D → Rdr α} : bnd (.eref p a b) k = k (.eref p a b) := id rfl
theorem bnd_rptr {α : Type} {ds : List D} {k : D → Rdr α} : bnd (.rptr ds) k = k (.rptr ds) := id rfl
theorem bnd_agg {α : Type} {ds : List D} {k : D → Rdr α} : bnd (.agg ds) k = k (.agg ds) := id rfl
theorem bnd_tup {α : Type} {ds : List D} {k : D → Rdr α} : bnd (.tup ds) k = k (.tup ds) := id rfl
theorem bnd_clo {α : Type} {f : FuncId} {ds : List D} {k : D → Rdr α} : bnd (.clo f ds) k = k (.clo f ds) := id rfl
theorem bnd_congr {α : Type} {d d' : D} {k : D → Rdr α} (h : d = d') : bnd d k = bnd d' k := by rw [h]
theorem slot_congr {α : Type} {t t' : Nat} {k : D → Rdr α} (h : t = t') : Rdr.slot t k = Rdr.slot t' k := by rw [h]
theorem cell_congr {α : Type} {t t' : Nat} {k : Option (List D) → Rdr α} (h : t = t') : Rdr.cell t k = Rdr.cell t' k := by rw [h]
theorem all_congr {α : Type} {k : Env → Rdr α} : Rdr.all k = Rdr.all k := rfl
theorem len_congr {α : Type} {k : Nat → Rdr α} : Rdr.len k = Rdr.len k := rfl
theorem chk_congr {α : Type} {p p' : Prop} {k : Rdr α} (h : p = p') : Rdr.chk p k = Rdr.chk p' k := by rw [h]
theorem asm_congr {α : Type} {p p' : Prop} {k : Rdr α} (h : p = p') : Rdr.asm p k = Rdr.asm p' k := by rw [h]
theorem opdR_congr {α : Type} {x : Operand} {k : D → Rdr α} : opdR x k = opdR x k := rfl
theorem wp_congr {α : Type} {E E' : Env} {r r' : Rdr α} {Q : α → Prop} (h : E = E') (h2 : r = r') : r.wp E Q = r'.wp E' Q := by rw [h, h2]
theorem pwp_congr {P : Program} {cfg : Cfg} {c : Code} {E E' : Env} {Q : Go.Exit → Env → Prop} (h : E = E') : pwp P cfg c E Q = pwp P cfg c E' Q := by rw [h]
theorem pOps_congr {P : Program} {cfg : Cfg} {ops l : List Oper} {E E' : Env} {K : Env → Prop} (h : E = E') : pOps P cfg ops l E K = pOps P cfg ops l E' K := by rw [h]
theorem Done_congr {P : Program} {K : Env → Prop} {E E' : Env} {s s' : Stp} (h : E = E') (h2 : s = s') : Done P K E s = Done P K E' s' := by rw [h, h2]
theorem nx_congr {K : Env → Prop} {Q : Go.Exit → Env → Prop} {e e' : Go.Exit} {E E' : Env} (h : E = E') (h2 : e = e') : Exit.nx K Q e E = Exit.nx K Q e' E' := by rw [h, h2]
theorem blk_congr {Q : Go.Exit → Env → Prop} {e e' : Go.Exit} {i : Nat} {E E' : Env} (h : E = E') (h2 : e = e') : Exit.blk i Q e E = Exit.blk i Q e' E' := by rw [h, h2]
/-! steps -/
theorem ev_slot {α : Type} {E : Env} {t : Nat} {k : D → Rdr α} {Q : α → Prop} : (Rdr.slot t k).wp E Q = (bnd (E.sl.getD t .dead) k).wp E Q := id rfl
theorem ev_tmp {α : Type} {E : Env} {t : Nat} {k : D → Rdr α} {Q : α → Prop} : (opdR (.tmp t) k).wp E Q = (bnd (asMove t (E.sl.getD t .dead)) k).wp E Q := id rfl
theorem ev_const {α : Type} {E : Env} {v : Value} {k : D → Rdr α} {Q : α → Prop} : (opdR (.const v) k).wp E Q = (bnd (constD v) k).wp E Q := id rfl
theorem ev_func {α : Type} {E : Env} {f : FuncId} {k : D → Rdr α} {Q : α → Prop} : (opdR (.func f) k).wp E Q = (k (.clo f [])).wp E Q := id rfl
theorem ev_ret {α : Type} {E : Env} {a : α} {Q : α → Prop} : (Rdr.ret a).wp E Q = Q a := id rfl
theorem ev_chk {α : Type} {E : Env} {p : Prop} {k : Rdr α} {Q : α → Prop} : (Rdr.chk p k).wp E Q = (p ∧ k.wp E Q) := id rfl
theorem ev_asm {α : Type} {E : Env} {p : Prop} {k : Rdr α} {Q : α → Prop} : (Rdr.asm p k).wp E Q = (p → k.wp E Q) := id rfl
theorem ev_fail {α : Type} {E : Env} {Q : α → Prop} : (Rdr.fail : Rdr α).wp E Q = False := id rfl
theorem ev_all {α : Type} {E : Env} {k : Env → Rdr α} {Q : α → Prop} : (Rdr.all k).wp E Q = (k E).wp E Q := id rfl
theorem ev_len {α : Type} {E : Env} {k : Nat → Rdr α} {Q : α → Prop} : (Rdr.len k).wp E Q = (k E.ce.length).wp E Q := id rfl
theorem ev_cell {α : Type} {E : Env} {t : Nat} {k : Option (List D) → Rdr α} {Q : α → Prop} : (Rdr.cell t k).wp E Q = (k (E.ce.getD t none)).wp E Q := id rfl
theorem ev_done {P : Program} {K : Env → Prop} {E : Env} {ws : List W} : Done P K E (.done ws) = K (E.app ws) := id rfl
theorem ev_move {dst : Option Tmp} {x : Operand} : opMove dst x = opdR x fun d => if d.isTup then .fail else wrS dst d := id rfl
theorem ev_app0 {E : Env} : E.app [] = E := id rfl
theorem ev_app1 {E : Env} {w : W} {ws : List W} : E.app (w :: ws) = (E.app1 w).app ws := id rfl
theorem ev_s {l : List D} {ce : List (Option (List D))} {t : Nat} {d : D} : (Env.mk l ce).app1 (.s t d) = ⟨l.set t d, ce⟩ := id rfl
theorem ev_c {l : List D} {ce : List (Option (List D))} {t : Nat} {d : Option (List D)} : (Env.mk l ce).app1 (.c t d) = ⟨l, ce.set t d⟩ := id rfl
theorem as_v {t : Nat} {x : Value} : asMove t (.v x) = .v x := id rfl
theorem as_nil {t : Nat} : asMove t .nil = .nil := id rfl
theorem as_dead {t : Nat} : asMove t .dead = .dead := id rfl
theorem as_own {t : Nat} {e : TypeId} {xs : List (List T)} : asMove t (.own e xs) = .ali ⟨false, t, 0⟩ := id rfl
theorem as_imm {t : Nat} {e : TypeId} {xs : List (List T)} : asMove t (.imm e xs) = .imm e xs := id rfl
theorem as_ali {t : Nat} {p : Lf} : asMove t (.ali p) = .ali p := id rfl
theorem as_sub {t : Nat} {p : Lf} {a b : Nat} : asMove t (.sub p a b) = .sub p a b := id rfl
theorem as_ela {t : Nat} {p : Lf} {a b : Nat} : asMove t (.ela p a b) = .ela p a b := id rfl
theorem as_cref {t : Nat} {a b : Nat} : asMove t (.cref a b) = .cref a b := id rfl
theorem as_eref {t : Nat} {p : Lf} {a b : Nat} : asMove t (.eref p a b) = .eref p a b := id rfl
theorem as_rptr {t : Nat} {ds : List D} : asMove t (.rptr ds) = .rptr ds := id rfl
theorem as_clo {t : Nat} {f : FuncId} {ds : List D} : asMove t (.clo f ds) = .clo f ds := id rfl
theorem as_tup {t : Nat} {ds : List D} : asMove t (.tup ds) = .tup ds := id rfl
theorem as_agg {t : Nat} {ds : List D} : asMove t (.agg ds) = .agg (mvList false t 0 ds) := id rfl
theorem constD_int {k : IntKind} {n : Int} : constD (.int k n) = .v (.int k n) := rfl
theorem constD_bool {b : Bool} : constD (.bool b) = .v (.bool b) := rfl
theorem constD_str {l : List UInt8} (h : decide (l.length ≤ 9223372036854775807) = true) : constD (.string ⟨l.toArray⟩) = .v (vS l) := by
  have h2 : scal (.string ⟨l.toArray⟩) = true := h
  simp only [constD, constLeaf, h2, if_true]
  rfl
theorem constD_nils : constD (.slice none 0 0) = .nil := rfl
theorem constD_nilp : constD (.pointer none) = .v (.pointer none) := rfl
theorem ev_wr {E : Env} {t : Nat} {d : D} {Q : Stp → Prop} {old : D} (h : E.sl.getD t .dead = old) (h2 : old.anyOwn = false) : (wrS (some t) d).wp E Q = Q (.done [.s t d]) := by
  show Q (.done [if (E.sl.getD t .dead).anyOwn then _ else _]) = _
  rw [h, h2]; rfl
end Go.Proofs.Ytcnogcachboibaa.Fw
