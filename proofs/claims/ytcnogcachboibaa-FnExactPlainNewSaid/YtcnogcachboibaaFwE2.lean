/- Framework: more lemmas by which simp computes: calls. -/
import Derived.Test.YtcnogcachboibaaFwE1
import Derived.Test.YtcnogcachboibaaFwSem
namespace Go.Proofs.Ytcnogcachboibaa.Fw
open Go
set_option linter.unusedVariables false
theorem rowsR_congr {α : Type} {d d' : D} {k : TypeId → List (List T) → Rdr α} (h : d = d') : rowsR d k = rowsR d' k := by rw [h]
theorem leafR_congr {α : Type} {p p' : Lf} {k : D → Rdr α} (h : p = p') : leafR p k = leafR p' k := by rw [h]
theorem opdsR_congr {α : Type} {xs ys : List Operand} {acc acc' : List D} {k : List D → Rdr α} (h : xs = ys) (h2 : acc = acc') : opdsR xs acc k = opdsR ys acc' k := by rw [h, h2]
theorem coeLeaf_congr {α : Type} {e e' : TypeId} {d d' : D} {k : D → List Lf → Rdr α} (h : e = e') (h2 : d = d') : coeLeaf e d k = coeLeaf e' d' k := by rw [h, h2]
theorem coeLeaves_congr {α : Type} {e e' : List TypeId} {d d' : List D} {k : List D → List Lf → Rdr α} (h : e = e') (h2 : d = d') : coeLeaves e d k = coeLeaves e' d' k := by rw [h, h2]
theorem coeCapt_congr {α : Type} {d d' : List D} {k : List D → List Lf → List Nat → Rdr α} (h2 : d = d') : coeCapt d k = coeCapt d' k := by rw [h2]
theorem argR_congr {tb : Tab} {pt pt' : TypeId} {m m' : Nat} {d d' : D} {acc acc' : CallAcc} {k : CallAcc → Rdr Stp} (h : pt = pt') (h1 : m = m') (h2 : d = d') (h3 : acc = acc') : argR tb pt m d acc k = argR tb pt' m' d' acc' k := by rw [h, h1, h2, h3]
theorem argsR_congr {tb : Tab} {md : Nat → Nat} {pts pts' : List TypeId} {ds ds' : List D} {acc acc' : CallAcc} {k : CallAcc → Rdr Stp} (h : pts = pts') (h2 : ds = ds') (h3 : acc = acc') : argsR tb md pts ds acc k = argsR tb md pts' ds' acc' k := by rw [h, h2, h3]
theorem boundR_congr {β : Type} {x x' : Option Operand} {n n' : Nat} {k : Nat → Rdr β} (h : x = x') (h2 : n = n') : boundR x n k = boundR x' n' k := by rw [h, h2]
theorem partsR_congr {z z' : List D} {ps ps' : List (Nat × Nat × Operand)} {k : List D → Rdr Stp} (h : z = z') (h2 : ps = ps') : partsR z ps k = partsR z' ps' k := by rw [h, h2]
theorem srcR_congr {α : Type} {tb : Tab} {tx e : TypeId} {sz : Nat} {d d' : D} {k : List (List T) → Rdr α} (h : d = d') : srcR tb tx e sz d k = srcR tb tx e sz d' k := by rw [h]
theorem mfgo_congr {xs ys : List Operand} {acc acc' : List D} {k : List D → Rdr Stp} (h : xs = ys) (h2 : acc = acc') : opMakeFunc.go xs acc k = opMakeFunc.go ys acc' k := by rw [h, h2]
section
variable {α : Type} {tb : Tab} {pt e : TypeId} {acc : CallAcc} {k : CallAcc → Rdr Stp} {k2 : D → List Lf → Rdr α}
theorem ar_v {x : Value} : argR tb pt 0 (.v x) acc k = k (acc.push (.v x) [] []) := id rfl
theorem ar_imm {e : TypeId} {xs : List (List T)} : argR tb pt 0 (.imm e xs) acc k = k (acc.push (.imm e xs) [] []) := id rfl
theorem ar_rptr {ds : List D} : argR tb pt 0 (.rptr ds) acc k = k (acc.push (.rptr ds) [] []) := id rfl
theorem ar_nil : argR tb pt 0 .nil acc k = (match tb.kd pt with | some (.slice e) => k (acc.push (if e == 0 then .nil else .imm e []) [] []) | _ => k (acc.push .nil [] [])) := by
  unfold argR coeLeaf
  cases tb.kd pt with
  | none => rfl
  | some x => cases x <;> rfl
theorem ar_ali {p : Lf} : argR tb pt 0 (.ali p) acc k = rowsR (.ali p) fun e' xs => k (acc.push (.imm e' xs) [p] []) := id rfl
theorem ar_sub {p : Lf} {a b : Nat} : argR tb pt 0 (.sub p a b) acc k = rowsR (.sub p a b) fun e' xs => k (acc.push (.imm e' xs) [p] []) := id rfl
theorem ar_ela {p : Lf} {a b : Nat} : argR tb pt 0 (.ela p a b) acc k = rowsR (.ela p a b) fun e' xs => k (acc.push (.imm e' xs) [p] []) := id rfl
theorem ar_clo {f : FuncId} {cs : List D} : argR tb pt 0 (.clo f cs) acc k = coeCapt cs fun cs' bs bc => k (acc.push (.clo f cs') bs bc) := id rfl
theorem ar_agg {ds : List D} : argR tb pt 0 (.agg ds) acc k = (match tb pt with | some i => coeLeaves i.les ds fun ds' bs => k (acc.push (.agg ds') bs []) | none => .fail) := id rfl
theorem ar_cref {c j : Nat} : argR tb pt 0 (.cref c j) acc k = (match tb.kd pt with
      | some (.ptr e) => (match tb e with
        | none => .fail
        | some ie => .cell c fun
          | none => .fail
          | some ls => if 0 < ie.size ∧ j + ie.size ≤ ls.length then coeLeaves ie.les (mvList true c j ((ls.drop j).take ie.size)) fun ls' bs => if ls'.all D.pure then k (acc.push (.rptr ls') bs [c]) else .fail else .fail)
      | _ => .fail) := rfl
theorem cl_v {x : Value} : coeLeaf e (.v x) k2 = k2 (.v x) [] := id rfl
theorem cl_nil : coeLeaf e .nil k2 = k2 (if e == 0 then .nil else .imm e []) [] := id rfl
theorem cl_imm {e' : TypeId} {xs : List (List T)} : coeLeaf e (.imm e' xs) k2 = k2 (.imm e' xs) [] := id rfl
theorem cl_rptr {ds : List D} : coeLeaf e (.rptr ds) k2 = k2 (.rptr ds) [] := id rfl
theorem cl_clo {f : FuncId} : coeLeaf e (.clo f []) k2 = k2 (.clo f []) [] := id rfl
theorem cl_ali {p : Lf} : coeLeaf e (.ali p) k2 = rowsR (.ali p) fun e' xs => k2 (.imm e' xs) [p] := id rfl
theorem cl_sub {p : Lf} {a b : Nat} : coeLeaf e (.sub p a b) k2 = rowsR (.sub p a b) fun e' xs => k2 (.imm e' xs) [p] := id rfl
theorem cl_ela {p : Lf} {a b : Nat} : coeLeaf e (.ela p a b) k2 = rowsR (.ela p a b) fun e' xs => k2 (.imm e' xs) [p] := id rfl
theorem cs_cons {e : TypeId} {es : List TypeId} {d : D} {ds : List D} {k : List D → List Lf → Rdr α} : coeLeaves (e :: es) (d :: ds) k = coeLeaf e d fun d bs => coeLeaves es ds fun ds bs' => k (d :: ds) (bs ++ bs') := id rfl
theorem cs_nil {es : List TypeId} {k : List D → List Lf → Rdr α} : coeLeaves es [] k = k [] [] := by cases es <;> rfl
theorem as_cons {md : Nat → Nat} {pts : List TypeId} {d : D} {ds : List D} : argsR tb md (pt :: pts) (d :: ds) acc k = argR tb pt (md acc.args.length) d acc fun acc => argsR tb md pts ds acc k := id rfl
theorem as_end {md : Nat → Nat} : argsR tb md [] [] acc k = k acc := id rfl
end
theorem Env.called_nil (E : Env) : E.called [] [] = E := by
  show (E.mapP fun p d => if (fun p => inWc [] p) p then .dead else killB (fun p => inWc [] p) d).mapP (wbG []) = E
  have e1 : (fun (p : Lf) (d : D) => if (fun p => inWc [] p) p then .dead else killB (fun p => inWc [] p) d) = fun _ d => d := by
    funext p d
    show (if inWc [] p = true then D.dead else killB _ d) = d
    simp only [inWc, Bool.false_eq_true, if_false]
    cases d <;> simp [killB]
  have e2 : wbG [] = fun _ d => d := by
    funext p d
    simp only [wbG, wbFind]
    cases d <;> simp
  rw [e1, Env.mapP_id, e2, Env.mapP_id]
theorem ev_ca0 {E : Env} : E.app1 (.ca [] []) = E := Env.called_nil E
theorem ev_fz0 {E : Env} : E.app1 (.fz []) = E := id rfl
theorem ev_rw {l : List D} {ce : List (Option (List D))} {t : Nat} {d : D} (h : (l.getD t .dead).anyOwn = false) : (Env.mk l ce).app1 (.rw t d) = ⟨l.set t d, ce⟩ := by
  show (if (l.getD t .dead).anyOwn then _ else _) = _
  rw [h]; rfl
theorem ev_call {P : Program} {K : Env → Prop} {E Ein Eout : Env} {f : FuncId} {k : Env → Option (List W)} {ws : List W} (h : Sem P f Ein Eout) (hk : k Eout = some ws) (h2 : K (E.app ws)) : Done P K E (.call f Ein k) := ⟨Eout, h, ws, hk, h2⟩
/-- What a call that lends nothing writes. -/
theorem retW0 {dst : Option Tmp} {args : List D} {ce : List (Option (List D))} {bor : List Lf} {borc : List Nat} {Eout : Env} {r : D} (h1 : Eout.sl.length = args.length + 1) (h2 : Eout.sl.getD args.length .dead = r) (h3 : r.anyL (fun d => !d.resLeaf) = false) (h4 : r.anyL D.isImm = false) :
    retW ⟨args, ce, [], [], bor, borc⟩ dst Eout = some (.ca [] [] :: (match dst with | none => [] | some t => [.rw t r])) := by
  simp only [retW, wbs, wcs, retIm, h2, h3, h4, h1]
  simp
  cases dst <;> rfl
/-- The end of a contract. -/
def Fin (cfg : Cfg) (ts : List RV) (Eout : Env) (e : Go.Exit) (E : Env) : Prop := (e = .normal ∨ e = .ret) ∧ ∃ E', Wk E E' ∧ shutOk cfg ts E' = true ∧ shut cfg ts E' = Eout
theorem fin_congr {cfg : Cfg} {ts : List RV} {Eout : Env} {e : Go.Exit} {E E' : Env} (h : E = E') : Fin cfg ts Eout e E = Fin cfg ts Eout e E' := by rw [h]
theorem shutP_none {cfg : Cfg} (hk : cfg.keep = fun _ => false) {E : Env} {i : Nat} : shutP cfg.keep E i = .dead := by rw [hk]; rfl
theorem map_const_range {α : Type} (n : Nat) (f : Nat → α) (x : α) (h : ∀ i, i < n → f i = x) : (List.range n).map f = List.replicate n x := by
  induction n with
  | zero => rfl
  | succ n ih =>
    rw [List.range_succ, List.map_append, ih fun i hi => h i (by omega), List.replicate_succ']
    simp [h n (by omega)]
/-- Nothing was lent: the result is all that is told. -/
theorem fin0 {cfg : Cfg} {ts : List RV} {E : Env} {r : D} {e : Go.Exit} (he : e = .normal ∨ e = .ret) (hk : cfg.keep = fun _ => false) (hce : E.ce.take cfg.np = List.replicate cfg.np none) (hok : shutOk cfg ts E = true) (hr : shutR E ts = r) :
    Fin cfg ts ⟨List.replicate cfg.np .dead ++ [r], List.replicate cfg.np none⟩ e E := by
  refine ⟨he, E, .inl rfl, hok, ?_⟩
  unfold shut
  rw [hr, map_const_range cfg.np (shutP cfg.keep E) .dead fun i _ => shutP_none hk, map_const_range cfg.np (fun i => E.ce.getD i none) none]
  intro i hi
  have : (E.ce.take cfg.np)[i]? = some none := by rw [hce, List.getElem?_replicate, if_pos hi]
  rw [List.getElem?_take_of_lt hi] at this
  rw [List.getD_eq_getElem?_getD, this]; rfl
theorem sem_fin {P : Program} {cfg : Cfg} {f : FuncId} {fn : Func} {c : Code} {ts : List RV} (hT : TabOk P cfg.tb) (hf : P.funcs[f]? = some fn) (hname : (fn.name == "runtime.NumGoroutine") = false) (hb : fn.body = some c)
    (hres : fn.results = (ts.map RV.toR).toArray) {Ein Eout : Env} (hnp : Ein.sl.length = cfg.np) (hkeep : ∀ t, cfg.keep t = true → t < cfg.np)
    (h : pwp P cfg c (Ein.pad (fn.ntmps - cfg.np)) (Fin cfg ts Eout)) : Sem P f Ein Eout := sem_intro hT hf hname hb hres hnp hkeep h
end Go.Proofs.Ytcnogcachboibaa.Fw
