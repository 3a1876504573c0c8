/- Texts of the proof: FcH FcI FcJ FcK FcL FcM FcN. -/
import Derived.Shelf.Strings.OnBuilder
import Derived.Test.YtcnogcachboibaaAddVia3
/- Contracts: marks held. -/
namespace Go.Proofs.Ytcnogcachboibaa.Fw
open Go
open Go.Proofs.Try
set_option maxRecDepth 100000
set_option maxHeartbeats 600000
set_option linter.unusedSimpArgs false
set_option linter.unusedVariables false
attribute [local congr] c_bnd c_slot c_cell c_all c_len c_chk c_asm c_opdR c_wp c_pwp c_pOps c_Done c_nx c_blk c_fin c_rowsR c_leafR c_opdsR c_coeLeaf c_coeLeaves c_coeCapt c_argR c_argsR c_boundR c_partsR c_srcR c_mfgo c_ite c_wpF c_OutF c_pHead c_pDraw
theorem c18 (n : Nat) (hl : n ≤ 1048576) (k : Nat) (h1 : 0 < k) (hk : k ≤ 4) : Sem prog 18 ⟨[.imm 57 (rowsF (marks n k)), .v (vI k)], [none, none]⟩ ⟨[.dead, .dead, .v (vI (k + 2 * n : Nat))], [none, none]⟩ := by
  refine sem_fin (cfg := cfg 2) (ts := [.tm 4]) tbOk func18 rfl rfl rfl rfl (fun t h => by cases h) ?_
  simp only [f18, tb_3, kd_3, tb_5, kd_5, tb_9, kd_9, tb_23, kd_23, tb_25, kd_25, tb_26, kd_26, tb_28, kd_28, tb_30, kd_30, tb_39, kd_39, tb_57, kd_57, pts_37, md_37_0, go_sem, cfg, Nat.reduceLeDiff, Nat.reduceLT, Nat.reduceAdd, Nat.reduceSub, Nat.reduceMul, Nat.reduceBEq, Nat.reduceBNe, Nat.reduceEqDiff, reduceCtorEq, reduceIte, Int.reduceLT, Int.reduceLE, Int.reduceAdd, Int.reduceSub, Int.reduceNeg, Int.reduceEq, Int.reduceBEq, Int.reduceBNe, Int.reduceToNat, Nat.reduceDiv, Nat.reduceMod, rowsF_length, marks_length]
  refine loop_on (fun i : Nat => ⟨[.imm 57 (rowsF (marks n k)), .v (vI (k + 2 * i : Nat)), .dead, .dead, .v (vI 0), .v (vI i), .dead, .dead, .dead, .dead, .dead, .dead, .dead, .dead, .dead, .dead, .dead, .dead, .dead, .dead, .dead, .dead, .dead, .dead, .dead, .dead, .dead, .dead, .dead, .dead, .dead, .dead, .dead], List.replicate 33 none⟩) [0, 1, 4, 5] (fun i => i ≤ n) (fun i => n - i) 0 rfl (by omega) ?_
  intro i hi
  have hll : n ≤ 9223372036854775807 := by omega
  simp only [f18, tb_3, kd_3, tb_5, kd_5, tb_9, kd_9, tb_23, kd_23, tb_25, kd_25, tb_26, kd_26, tb_28, kd_28, tb_30, kd_30, tb_39, kd_39, tb_57, kd_57, pts_37, md_37_0, go_sem, cfg, Nat.reduceLeDiff, Nat.reduceLT, Nat.reduceAdd, Nat.reduceSub, Nat.reduceMul, Nat.reduceBEq, Nat.reduceBNe, Nat.reduceEqDiff, reduceCtorEq, reduceIte, Int.reduceLT, Int.reduceLE, Int.reduceAdd, Int.reduceSub, Int.reduceNeg, Int.reduceEq, Int.reduceBEq, Int.reduceBNe, Int.reduceToNat, Nat.reduceDiv, Nat.reduceMod, rowsF_length, marks_length, hll]
  by_cases hc : i < n
  · have hw := wrapN hc hll
    have hcm : i < (marks n k).length := by rw [marks_length]; exact hc
    have hw1 : IntKind.i64.wrap (((k + 2 * i : Nat) : Int) + 1) = ((k + 2 * i + 1 : Nat) : Int) := by rw [IntKind.wrap_i64]; omega
    have hw2 : IntKind.i64.wrap (((k + 2 * i + 1 : Nat) : Int) + 1) = ((k + 2 * (i + 1) : Nat) : Int) := by rw [IntKind.wrap_i64]; omega
    have g1 : (rowsF (marks n k)).getD i [] = [.v (vS (markT (k + 2 * i))), .v (vS (markT (k + 2 * i + 1)))] := by rw [rowsF_getD hcm, marks_getD n k i hc]
    simp only [f18, tb_3, kd_3, tb_5, kd_5, tb_9, kd_9, tb_23, kd_23, tb_25, kd_25, tb_26, kd_26, tb_28, kd_28, tb_30, kd_30, tb_39, kd_39, tb_57, kd_57, pts_37, md_37_0, go_sem, cfg, Nat.reduceLeDiff, Nat.reduceLT, Nat.reduceAdd, Nat.reduceSub, Nat.reduceMul, Nat.reduceBEq, Nat.reduceBNe, Nat.reduceEqDiff, reduceCtorEq, reduceIte, Int.reduceLT, Int.reduceLE, Int.reduceAdd, Int.reduceSub, Int.reduceNeg, Int.reduceEq, Int.reduceBEq, Int.reduceBNe, Int.reduceToNat, Nat.reduceDiv, Nat.reduceMod, rowsF_length, marks_length, hc]
    refine draw_intro 8 [[13, 14, 15, 16, 17, 18, 19], [12, 14, 15, 16, 17, 18, 19], [15, 16, 17, 18, 19], [12, 13, 16, 17, 18, 19], [12, 13, 14, 17, 18, 19], [12, 13, 14, 15, 16, 18, 19], [12, 13, 14, 15, 16, 19], [12, 13, 14, 15, 17]] mixedOk rfl ?_
    simp only [f18, tb_3, kd_3, tb_5, kd_5, tb_9, kd_9, tb_23, kd_23, tb_25, kd_25, tb_26, kd_26, tb_28, kd_28, tb_30, kd_30, tb_39, kd_39, tb_57, kd_57, pts_37, md_37_0, go_sem, cfg, Nat.reduceLeDiff, Nat.reduceLT, Nat.reduceAdd, Nat.reduceSub, Nat.reduceMul, Nat.reduceBEq, Nat.reduceBNe, Nat.reduceEqDiff, reduceCtorEq, reduceIte, Int.reduceLT, Int.reduceLE, Int.reduceAdd, Int.reduceSub, Int.reduceNeg, Int.reduceEq, Int.reduceBEq, Int.reduceBNe, Int.reduceToNat, Nat.reduceDiv, Nat.reduceMod, rowsF_length, marks_length, hc, g1]
    refine of_call (c37 (k + 2 * i) (by omega) (by omega)) (retW0 rfl rfl rfl rfl) rfl rfl rfl ?_
    simp only [f18, tb_3, kd_3, tb_5, kd_5, tb_9, kd_9, tb_23, kd_23, tb_25, kd_25, tb_26, kd_26, tb_28, kd_28, tb_30, kd_30, tb_39, kd_39, tb_57, kd_57, pts_37, md_37_0, go_sem, cfg, Nat.reduceLeDiff, Nat.reduceLT, Nat.reduceAdd, Nat.reduceSub, Nat.reduceMul, Nat.reduceBEq, Nat.reduceBNe, Nat.reduceEqDiff, reduceCtorEq, reduceIte, Int.reduceLT, Int.reduceLE, Int.reduceAdd, Int.reduceSub, Int.reduceNeg, Int.reduceEq, Int.reduceBEq, Int.reduceBNe, Int.reduceToNat, Nat.reduceDiv, Nat.reduceMod, rowsF_length, marks_length, hc, g1, hw1]
    refine draw_intro 8 [[23, 24, 25, 26, 27, 28, 29], [22, 24, 25, 26, 27, 28, 29], [25, 26, 27, 28, 29], [22, 23, 26, 27, 28, 29], [22, 23, 24, 27, 28, 29], [22, 23, 24, 25, 26, 28, 29], [22, 23, 24, 25, 26, 29], [22, 23, 24, 25, 27]] mixedOk rfl ?_
    simp only [f18, tb_3, kd_3, tb_5, kd_5, tb_9, kd_9, tb_23, kd_23, tb_25, kd_25, tb_26, kd_26, tb_28, kd_28, tb_30, kd_30, tb_39, kd_39, tb_57, kd_57, pts_37, md_37_0, go_sem, cfg, Nat.reduceLeDiff, Nat.reduceLT, Nat.reduceAdd, Nat.reduceSub, Nat.reduceMul, Nat.reduceBEq, Nat.reduceBNe, Nat.reduceEqDiff, reduceCtorEq, reduceIte, Int.reduceLT, Int.reduceLE, Int.reduceAdd, Int.reduceSub, Int.reduceNeg, Int.reduceEq, Int.reduceBEq, Int.reduceBNe, Int.reduceToNat, Nat.reduceDiv, Nat.reduceMod, rowsF_length, marks_length, hc, g1]
    refine of_call (c37 (k + 2 * i + 1) (by omega) (by omega)) (retW0 rfl rfl rfl rfl) rfl rfl rfl ?_
    simp only [f18, tb_3, kd_3, tb_5, kd_5, tb_9, kd_9, tb_23, kd_23, tb_25, kd_25, tb_26, kd_26, tb_28, kd_28, tb_30, kd_30, tb_39, kd_39, tb_57, kd_57, pts_37, md_37_0, go_sem, cfg, Nat.reduceLeDiff, Nat.reduceLT, Nat.reduceAdd, Nat.reduceSub, Nat.reduceMul, Nat.reduceBEq, Nat.reduceBNe, Nat.reduceEqDiff, reduceCtorEq, reduceIte, Int.reduceLT, Int.reduceLE, Int.reduceAdd, Int.reduceSub, Int.reduceNeg, Int.reduceEq, Int.reduceBEq, Int.reduceBNe, Int.reduceToNat, Nat.reduceDiv, Nat.reduceMod, rowsF_length, marks_length, hc, g1, hw1, hw2, hw]
    first | exact ⟨i + 1, rfl, hc, by omega⟩ | trace_state
  · have he : i = n := by omega
    subst he
    simp only [f18, tb_3, kd_3, tb_5, kd_5, tb_9, kd_9, tb_23, kd_23, tb_25, kd_25, tb_26, kd_26, tb_28, kd_28, tb_30, kd_30, tb_39, kd_39, tb_57, kd_57, pts_37, md_37_0, go_sem, cfg, Nat.reduceLeDiff, Nat.reduceLT, Nat.reduceAdd, Nat.reduceSub, Nat.reduceMul, Nat.reduceBEq, Nat.reduceBNe, Nat.reduceEqDiff, reduceCtorEq, reduceIte, Int.reduceLT, Int.reduceLE, Int.reduceAdd, Int.reduceSub, Int.reduceNeg, Int.reduceEq, Int.reduceBEq, Int.reduceBNe, Int.reduceToNat, Nat.reduceDiv, Nat.reduceMod, rowsF_length, hc]
    first | exact fin0 (.inr rfl) rfl rfl rfl rfl | trace_state

end Go.Proofs.Ytcnogcachboibaa.Fw

/- Contracts: values of fields. -/
namespace Go.Proofs.Ytcnogcachboibaa.Fw
open Go
open Go.Proofs.Try
set_option maxRecDepth 100000
set_option maxHeartbeats 600000
set_option linter.unusedSimpArgs false
set_option linter.unusedVariables false
attribute [local congr] c_bnd c_slot c_cell c_all c_len c_chk c_asm c_opdR c_wp c_pwp c_pOps c_Done c_nx c_blk c_fin c_rowsR c_leafR c_opdsR c_coeLeaf c_coeLeaves c_coeCapt c_argR c_argsR c_boundR c_partsR c_srcR c_mfgo c_ite c_wpF c_OutF c_pHead c_pDraw
/-- A slice that is appended to: nil at first. -/
def sd (e : TypeId) (xs : List (List T)) : D := match xs with | [] => .nil | x :: l => .own e (x :: l)
theorem sd_nil {e : TypeId} : sd e [] = .nil := rfl
theorem sd_cons {e : TypeId} {x : List T} {l : List (List T)} : sd e (x :: l) = .own e (x :: l) := rfl
theorem sd_snoc {e : TypeId} {x : List T} {l : List (List T)} : sd e (l ++ [x]) = .own e (l ++ [x]) := by cases l <;> rfl
def rowsS (l : List (List UInt8)) : List (List T) := l.map fun s => [.v (vS s)]
def hitB (name : List UInt8) (p : Fld) : Bool := foldB p.1 == foldB name
def valsB (name : List UInt8) (l : List Fld) : List (List UInt8) := (l.filter (hitB name)).map (·.2)
def withoutB (name : List UInt8) (l : List Fld) : List Fld := l.filter fun p => !hitB name p
theorem rowsS_snoc {l : List (List UInt8)} {s : List UInt8} : rowsS (l ++ [s]) = rowsS l ++ [[.v (vS s)]] := by simp [rowsS]
theorem rowsF_snoc {l : List Fld} {p : Fld} : rowsF (l ++ [p]) = rowsF l ++ [[.v (vS p.1), .v (vS p.2)]] := by simp [rowsF, rowF]
theorem vals_hit {l : List Fld} {name : List UInt8} {i : Nat} (h : i < l.length) (hb : hitB name (l.getD i ([], [])) = true) : valsB name (l.take (i + 1)) = valsB name (l.take i) ++ [(l.getD i ([], [])).2] := by
  rw [take_at (d := ([], [])) h, valsB, List.filter_append]; simp only [List.filter_cons, List.filter_nil, hb, if_true, Bool.false_eq_true, if_false, List.map_cons, List.map_nil, List.append_nil, List.map_append, Bool.not_true, Bool.not_false]; rfl
theorem vals_miss {l : List Fld} {name : List UInt8} {i : Nat} (h : i < l.length) (hb : hitB name (l.getD i ([], [])) = false) : valsB name (l.take (i + 1)) = valsB name (l.take i) := by
  rw [take_at (d := ([], [])) h, valsB, List.filter_append]; simp only [List.filter_cons, List.filter_nil, hb, if_true, Bool.false_eq_true, if_false, List.map_cons, List.map_nil, List.append_nil, List.map_append, Bool.not_true, Bool.not_false]; rfl
theorem wo_hit {l : List Fld} {name : List UInt8} {i : Nat} (h : i < l.length) (hb : hitB name (l.getD i ([], [])) = true) : withoutB name (l.take (i + 1)) = withoutB name (l.take i) := by
  rw [take_at (d := ([], [])) h, withoutB, List.filter_append]; simp only [List.filter_cons, List.filter_nil, hb, if_true, Bool.false_eq_true, if_false, List.map_cons, List.map_nil, List.append_nil, List.map_append, Bool.not_true, Bool.not_false]; rfl
theorem wo_miss {l : List Fld} {name : List UInt8} {i : Nat} (h : i < l.length) (hb : hitB name (l.getD i ([], [])) = false) : withoutB name (l.take (i + 1)) = withoutB name (l.take i) ++ [l.getD i ([], [])] := by
  rw [take_at (d := ([], [])) h, withoutB, List.filter_append]; simp only [List.filter_cons, List.filter_nil, hb, if_true, Bool.false_eq_true, if_false, List.map_cons, List.map_nil, List.append_nil, List.map_append, Bool.not_true, Bool.not_false]; rfl
theorem vals_le (name : List UInt8) (l : List Fld) (i : Nat) : (rowsS (valsB name (l.take i))).length ≤ i := by
  simp only [rowsS, valsB, List.length_map]
  exact Nat.le_trans (List.length_filter_le _ _) (by simp; omega)
theorem wo_le (name : List UInt8) (l : List Fld) (i : Nat) : (rowsF (withoutB name (l.take i))).length ≤ i := by
  rw [rowsF_length]
  exact Nat.le_trans (List.length_filter_le _ _) (by simp; omega)
theorem fields_len {l : List Fld} (h : fieldsB l = true) : l.length ≤ 20 := by
  simp only [fieldsB, Bool.and_eq_true, decide_eq_true_eq] at h; exact h.1

theorem c45 (l : List Fld) (hl : Small l) (name : List UInt8) (hn : name.length ≤ 9223372036854775807) (h : fieldsB l = true) : Sem prog 45 ⟨[.imm 57 (rowsF l), .v (vS name)], [none, none]⟩ ⟨[.dead, .dead, sd 9 (rowsS (valsB name l))], [none, none]⟩ := by
  refine sem_fin (cfg := cfg 2) (ts := [.tm 4]) tbOk func45 rfl rfl rfl rfl (fun t h => by cases h) ?_
  simp only [f45, tb_3, kd_3, tb_4, kd_4, tb_5, kd_5, tb_9, kd_9, tb_25, kd_25, tb_26, kd_26, tb_28, kd_28, tb_30, kd_30, tb_39, kd_39, tb_57, kd_57, tb_79, kd_79, pts_27, pts_58, md_27_0, md_58_0, md_58_1, go_sem, cfg, Nat.reduceLeDiff, Nat.reduceLT, Nat.reduceAdd, Nat.reduceSub, Nat.reduceMul, Nat.reduceBEq, Nat.reduceBNe, Nat.reduceEqDiff, reduceCtorEq, reduceIte, Int.reduceLT, Int.reduceLE, Int.reduceAdd, Int.reduceSub, Int.reduceNeg, Int.reduceEq, Int.reduceBEq, Int.reduceBNe, Int.reduceToNat, Nat.reduceDiv, Nat.reduceMod, rowsF_length, sd_nil, sd_cons, List.length_map, List.length_append, List.nil_append]
  refine ev_call (c27 l hl) (retW0 rfl rfl rfl rfl) ?_
  simp only [f45, tb_3, kd_3, tb_4, kd_4, tb_5, kd_5, tb_9, kd_9, tb_25, kd_25, tb_26, kd_26, tb_28, kd_28, tb_30, kd_30, tb_39, kd_39, tb_57, kd_57, tb_79, kd_79, pts_27, pts_58, md_27_0, md_58_0, md_58_1, go_sem, cfg, Nat.reduceLeDiff, Nat.reduceLT, Nat.reduceAdd, Nat.reduceSub, Nat.reduceMul, Nat.reduceBEq, Nat.reduceBNe, Nat.reduceEqDiff, reduceCtorEq, reduceIte, Int.reduceLT, Int.reduceLE, Int.reduceAdd, Int.reduceSub, Int.reduceNeg, Int.reduceEq, Int.reduceBEq, Int.reduceBNe, Int.reduceToNat, Nat.reduceDiv, Nat.reduceMod, rowsF_length, sd_nil, sd_cons, List.length_map, List.length_append, List.nil_append, h]
  have hs : l.length ≤ 9223372036854775807 := hl.1
  have h20 := fields_len h
  try simp only [f45, tb_3, kd_3, tb_4, kd_4, tb_5, kd_5, tb_9, kd_9, tb_25, kd_25, tb_26, kd_26, tb_28, kd_28, tb_30, kd_30, tb_39, kd_39, tb_57, kd_57, tb_79, kd_79, pts_27, pts_58, md_27_0, md_58_0, md_58_1, go_sem, cfg, Nat.reduceLeDiff, Nat.reduceLT, Nat.reduceAdd, Nat.reduceSub, Nat.reduceMul, Nat.reduceBEq, Nat.reduceBNe, Nat.reduceEqDiff, reduceCtorEq, reduceIte, Int.reduceLT, Int.reduceLE, Int.reduceAdd, Int.reduceSub, Int.reduceNeg, Int.reduceEq, Int.reduceBEq, Int.reduceBNe, Int.reduceToNat, Nat.reduceDiv, Nat.reduceMod, rowsF_length, sd_nil, sd_cons, List.length_map, List.length_append, List.nil_append, hs]
  refine loop_on (fun i : Nat => ⟨[.imm 57 (rowsF l), .v (vS name), .dead, .dead, .nil, sd 9 (rowsS (valsB name (l.take i))), .v (vI i), .dead, .dead, .dead, .dead, .dead, .dead, .dead, .dead, .dead, .dead, .dead, .dead, .dead, .dead, .dead, .dead, .dead, .dead, .dead, .dead, .dead, .dead, .dead, .dead, .dead], List.replicate 32 none⟩) [0, 1, 4, 5, 6] (fun i => i ≤ l.length) (fun i => l.length - i) 0 rfl (by omega) ?_
  intro i hi
  have hle := vals_le name l i
  have hmiss := vals_miss (name := name) (l := l) (i := i)
  have hhit := vals_hit (name := name) (l := l) (i := i)
  have hend : i = l.length → valsB name (l.take i) = valsB name l := fun e => by rw [e, List.take_length]
  generalize hacc : rowsS (valsB name (l.take i)) = acc at hle ⊢
  simp only [f45, tb_3, kd_3, tb_4, kd_4, tb_5, kd_5, tb_9, kd_9, tb_25, kd_25, tb_26, kd_26, tb_28, kd_28, tb_30, kd_30, tb_39, kd_39, tb_57, kd_57, tb_79, kd_79, pts_27, pts_58, md_27_0, md_58_0, md_58_1, go_sem, cfg, Nat.reduceLeDiff, Nat.reduceLT, Nat.reduceAdd, Nat.reduceSub, Nat.reduceMul, Nat.reduceBEq, Nat.reduceBNe, Nat.reduceEqDiff, reduceCtorEq, reduceIte, Int.reduceLT, Int.reduceLE, Int.reduceAdd, Int.reduceSub, Int.reduceNeg, Int.reduceEq, Int.reduceBEq, Int.reduceBNe, Int.reduceToNat, Nat.reduceDiv, Nat.reduceMod, rowsF_length, sd_nil, sd_cons, List.length_map, List.length_append, List.nil_append, hs]
  cases acc with
  | nil =>
    try simp only [f45, tb_3, kd_3, tb_4, kd_4, tb_5, kd_5, tb_9, kd_9, tb_25, kd_25, tb_26, kd_26, tb_28, kd_28, tb_30, kd_30, tb_39, kd_39, tb_57, kd_57, tb_79, kd_79, pts_27, pts_58, md_27_0, md_58_0, md_58_1, go_sem, cfg, Nat.reduceLeDiff, Nat.reduceLT, Nat.reduceAdd, Nat.reduceSub, Nat.reduceMul, Nat.reduceBEq, Nat.reduceBNe, Nat.reduceEqDiff, reduceCtorEq, reduceIte, Int.reduceLT, Int.reduceLE, Int.reduceAdd, Int.reduceSub, Int.reduceNeg, Int.reduceEq, Int.reduceBEq, Int.reduceBNe, Int.reduceToNat, Nat.reduceDiv, Nat.reduceMod, rowsF_length, sd_nil, sd_cons, List.length_map, List.length_append, List.nil_append, hs]
    by_cases hc : i < l.length
    · have hw := wrapN hc hs
      have h1 := rowsF_getD hc
      have hsm := hl.at hc
      have hhit := hhit hc
      have hmiss := hmiss hc
      simp only [f45, tb_3, kd_3, tb_4, kd_4, tb_5, kd_5, tb_9, kd_9, tb_25, kd_25, tb_26, kd_26, tb_28, kd_28, tb_30, kd_30, tb_39, kd_39, tb_57, kd_57, tb_79, kd_79, pts_27, pts_58, md_27_0, md_58_0, md_58_1, go_sem, cfg, Nat.reduceLeDiff, Nat.reduceLT, Nat.reduceAdd, Nat.reduceSub, Nat.reduceMul, Nat.reduceBEq, Nat.reduceBNe, Nat.reduceEqDiff, reduceCtorEq, reduceIte, Int.reduceLT, Int.reduceLE, Int.reduceAdd, Int.reduceSub, Int.reduceNeg, Int.reduceEq, Int.reduceBEq, Int.reduceBNe, Int.reduceToNat, Nat.reduceDiv, Nat.reduceMod, rowsF_length, sd_nil, sd_cons, List.length_map, List.length_append, List.nil_append, hs, hc, h1]
      refine ev_call (c58 _ _ hsm.1 hn) (retW0 rfl rfl rfl rfl) ?_
      cases hb : hitB name (l.getD i ([], []))
      · have hb' : (foldB (l.getD i ([], [])).1 == foldB name) = false := hb
        simp only [f45, tb_3, kd_3, tb_4, kd_4, tb_5, kd_5, tb_9, kd_9, tb_25, kd_25, tb_26, kd_26, tb_28, kd_28, tb_30, kd_30, tb_39, kd_39, tb_57, kd_57, tb_79, kd_79, pts_27, pts_58, md_27_0, md_58_0, md_58_1, go_sem, cfg, Nat.reduceLeDiff, Nat.reduceLT, Nat.reduceAdd, Nat.reduceSub, Nat.reduceMul, Nat.reduceBEq, Nat.reduceBNe, Nat.reduceEqDiff, reduceCtorEq, reduceIte, Int.reduceLT, Int.reduceLE, Int.reduceAdd, Int.reduceSub, Int.reduceNeg, Int.reduceEq, Int.reduceBEq, Int.reduceBNe, Int.reduceToNat, Nat.reduceDiv, Nat.reduceMod, rowsF_length, sd_nil, sd_cons, List.length_map, List.length_append, List.nil_append, hs, hc, h1, hb', hw]
        exact ⟨i + 1, by rw [hmiss hb, hacc]; rfl, hc, by omega⟩
      · have hb' : (foldB (l.getD i ([], [])).1 == foldB name) = true := hb
        simp only [f45, tb_3, kd_3, tb_4, kd_4, tb_5, kd_5, tb_9, kd_9, tb_25, kd_25, tb_26, kd_26, tb_28, kd_28, tb_30, kd_30, tb_39, kd_39, tb_57, kd_57, tb_79, kd_79, pts_27, pts_58, md_27_0, md_58_0, md_58_1, go_sem, cfg, Nat.reduceLeDiff, Nat.reduceLT, Nat.reduceAdd, Nat.reduceSub, Nat.reduceMul, Nat.reduceBEq, Nat.reduceBNe, Nat.reduceEqDiff, reduceCtorEq, reduceIte, Int.reduceLT, Int.reduceLE, Int.reduceAdd, Int.reduceSub, Int.reduceNeg, Int.reduceEq, Int.reduceBEq, Int.reduceBNe, Int.reduceToNat, Nat.reduceDiv, Nat.reduceMod, rowsF_length, sd_nil, sd_cons, List.length_map, List.length_append, List.nil_append, hs, hc, h1, hb', hw]
        have hb1 : (1 : Nat) * 16 ≤ 140737488355328 := by omega
        try simp only [f45, tb_3, kd_3, tb_4, kd_4, tb_5, kd_5, tb_9, kd_9, tb_25, kd_25, tb_26, kd_26, tb_28, kd_28, tb_30, kd_30, tb_39, kd_39, tb_57, kd_57, tb_79, kd_79, pts_27, pts_58, md_27_0, md_58_0, md_58_1, go_sem, cfg, Nat.reduceLeDiff, Nat.reduceLT, Nat.reduceAdd, Nat.reduceSub, Nat.reduceMul, Nat.reduceBEq, Nat.reduceBNe, Nat.reduceEqDiff, reduceCtorEq, reduceIte, Int.reduceLT, Int.reduceLE, Int.reduceAdd, Int.reduceSub, Int.reduceNeg, Int.reduceEq, Int.reduceBEq, Int.reduceBNe, Int.reduceToNat, Nat.reduceDiv, Nat.reduceMod, rowsF_length, sd_nil, sd_cons, List.length_map, List.length_append, List.nil_append, hs, hc, h1, hb', hw, hb1]
        first | exact ⟨i + 1, by rw [hhit hb, rowsS_snoc, hacc]; rfl, hc, by omega⟩ | trace_state
    · have he := hend (by omega)
      rw [he] at hacc
      simp only [f45, tb_3, kd_3, tb_4, kd_4, tb_5, kd_5, tb_9, kd_9, tb_25, kd_25, tb_26, kd_26, tb_28, kd_28, tb_30, kd_30, tb_39, kd_39, tb_57, kd_57, tb_79, kd_79, pts_27, pts_58, md_27_0, md_58_0, md_58_1, go_sem, cfg, Nat.reduceLeDiff, Nat.reduceLT, Nat.reduceAdd, Nat.reduceSub, Nat.reduceMul, Nat.reduceBEq, Nat.reduceBNe, Nat.reduceEqDiff, reduceCtorEq, reduceIte, Int.reduceLT, Int.reduceLE, Int.reduceAdd, Int.reduceSub, Int.reduceNeg, Int.reduceEq, Int.reduceBEq, Int.reduceBNe, Int.reduceToNat, Nat.reduceDiv, Nat.reduceMod, rowsF_length, sd_nil, sd_cons, List.length_map, List.length_append, List.nil_append, hc]
      first | (refine fin0 (.inr rfl) rfl rfl rfl ?_; rw [hacc]; rfl) | trace_state
  | cons x xs =>
    try simp only [f45, tb_3, kd_3, tb_4, kd_4, tb_5, kd_5, tb_9, kd_9, tb_25, kd_25, tb_26, kd_26, tb_28, kd_28, tb_30, kd_30, tb_39, kd_39, tb_57, kd_57, tb_79, kd_79, pts_27, pts_58, md_27_0, md_58_0, md_58_1, go_sem, cfg, Nat.reduceLeDiff, Nat.reduceLT, Nat.reduceAdd, Nat.reduceSub, Nat.reduceMul, Nat.reduceBEq, Nat.reduceBNe, Nat.reduceEqDiff, reduceCtorEq, reduceIte, Int.reduceLT, Int.reduceLE, Int.reduceAdd, Int.reduceSub, Int.reduceNeg, Int.reduceEq, Int.reduceBEq, Int.reduceBNe, Int.reduceToNat, Nat.reduceDiv, Nat.reduceMod, rowsF_length, sd_nil, sd_cons, List.length_map, List.length_append, List.nil_append, hs]
    by_cases hc : i < l.length
    · have hw := wrapN hc hs
      have h1 := rowsF_getD hc
      have hsm := hl.at hc
      have hhit := hhit hc
      have hmiss := hmiss hc
      simp only [f45, tb_3, kd_3, tb_4, kd_4, tb_5, kd_5, tb_9, kd_9, tb_25, kd_25, tb_26, kd_26, tb_28, kd_28, tb_30, kd_30, tb_39, kd_39, tb_57, kd_57, tb_79, kd_79, pts_27, pts_58, md_27_0, md_58_0, md_58_1, go_sem, cfg, Nat.reduceLeDiff, Nat.reduceLT, Nat.reduceAdd, Nat.reduceSub, Nat.reduceMul, Nat.reduceBEq, Nat.reduceBNe, Nat.reduceEqDiff, reduceCtorEq, reduceIte, Int.reduceLT, Int.reduceLE, Int.reduceAdd, Int.reduceSub, Int.reduceNeg, Int.reduceEq, Int.reduceBEq, Int.reduceBNe, Int.reduceToNat, Nat.reduceDiv, Nat.reduceMod, rowsF_length, sd_nil, sd_cons, List.length_map, List.length_append, List.nil_append, hs, hc, h1]
      refine ev_call (c58 _ _ hsm.1 hn) (retW0 rfl rfl rfl rfl) ?_
      cases hb : hitB name (l.getD i ([], []))
      · have hb' : (foldB (l.getD i ([], [])).1 == foldB name) = false := hb
        simp only [f45, tb_3, kd_3, tb_4, kd_4, tb_5, kd_5, tb_9, kd_9, tb_25, kd_25, tb_26, kd_26, tb_28, kd_28, tb_30, kd_30, tb_39, kd_39, tb_57, kd_57, tb_79, kd_79, pts_27, pts_58, md_27_0, md_58_0, md_58_1, go_sem, cfg, Nat.reduceLeDiff, Nat.reduceLT, Nat.reduceAdd, Nat.reduceSub, Nat.reduceMul, Nat.reduceBEq, Nat.reduceBNe, Nat.reduceEqDiff, reduceCtorEq, reduceIte, Int.reduceLT, Int.reduceLE, Int.reduceAdd, Int.reduceSub, Int.reduceNeg, Int.reduceEq, Int.reduceBEq, Int.reduceBNe, Int.reduceToNat, Nat.reduceDiv, Nat.reduceMod, rowsF_length, sd_nil, sd_cons, List.length_map, List.length_append, List.nil_append, hs, hc, h1, hb', hw]
        exact ⟨i + 1, by rw [hmiss hb, hacc]; rfl, hc, by omega⟩
      · have hb' : (foldB (l.getD i ([], [])).1 == foldB name) = true := hb
        simp only [f45, tb_3, kd_3, tb_4, kd_4, tb_5, kd_5, tb_9, kd_9, tb_25, kd_25, tb_26, kd_26, tb_28, kd_28, tb_30, kd_30, tb_39, kd_39, tb_57, kd_57, tb_79, kd_79, pts_27, pts_58, md_27_0, md_58_0, md_58_1, go_sem, cfg, Nat.reduceLeDiff, Nat.reduceLT, Nat.reduceAdd, Nat.reduceSub, Nat.reduceMul, Nat.reduceBEq, Nat.reduceBNe, Nat.reduceEqDiff, reduceCtorEq, reduceIte, Int.reduceLT, Int.reduceLE, Int.reduceAdd, Int.reduceSub, Int.reduceNeg, Int.reduceEq, Int.reduceBEq, Int.reduceBNe, Int.reduceToNat, Nat.reduceDiv, Nat.reduceMod, rowsF_length, sd_nil, sd_cons, List.length_map, List.length_append, List.nil_append, hs, hc, h1, hb', hw]
        have hb1 : (xs.length + 1 + 1) * 16 ≤ 140737488355328 := by simp only [List.length_cons] at hle; omega
        try simp only [f45, tb_3, kd_3, tb_4, kd_4, tb_5, kd_5, tb_9, kd_9, tb_25, kd_25, tb_26, kd_26, tb_28, kd_28, tb_30, kd_30, tb_39, kd_39, tb_57, kd_57, tb_79, kd_79, pts_27, pts_58, md_27_0, md_58_0, md_58_1, go_sem, cfg, Nat.reduceLeDiff, Nat.reduceLT, Nat.reduceAdd, Nat.reduceSub, Nat.reduceMul, Nat.reduceBEq, Nat.reduceBNe, Nat.reduceEqDiff, reduceCtorEq, reduceIte, Int.reduceLT, Int.reduceLE, Int.reduceAdd, Int.reduceSub, Int.reduceNeg, Int.reduceEq, Int.reduceBEq, Int.reduceBNe, Int.reduceToNat, Nat.reduceDiv, Nat.reduceMod, rowsF_length, sd_nil, sd_cons, List.length_map, List.length_append, List.nil_append, hs, hc, h1, hb', hw, hb1]
        first | exact ⟨i + 1, by rw [hhit hb, rowsS_snoc, hacc]; rfl, hc, by omega⟩ | trace_state
    · have he := hend (by omega)
      rw [he] at hacc
      simp only [f45, tb_3, kd_3, tb_4, kd_4, tb_5, kd_5, tb_9, kd_9, tb_25, kd_25, tb_26, kd_26, tb_28, kd_28, tb_30, kd_30, tb_39, kd_39, tb_57, kd_57, tb_79, kd_79, pts_27, pts_58, md_27_0, md_58_0, md_58_1, go_sem, cfg, Nat.reduceLeDiff, Nat.reduceLT, Nat.reduceAdd, Nat.reduceSub, Nat.reduceMul, Nat.reduceBEq, Nat.reduceBNe, Nat.reduceEqDiff, reduceCtorEq, reduceIte, Int.reduceLT, Int.reduceLE, Int.reduceAdd, Int.reduceSub, Int.reduceNeg, Int.reduceEq, Int.reduceBEq, Int.reduceBNe, Int.reduceToNat, Nat.reduceDiv, Nat.reduceMod, rowsF_length, sd_nil, sd_cons, List.length_map, List.length_append, List.nil_append, hc]
      first | (refine fin0 (.inr rfl) rfl rfl rfl ?_; rw [hacc]; rfl) | trace_state

theorem c50 (l : List Fld) (hl : Small l) (name : List UInt8) (hn : name.length ≤ 9223372036854775807) (h : fieldsB l = true) : Sem prog 50 ⟨[.imm 57 (rowsF l), .v (vS name)], [none, none]⟩ ⟨[.dead, .dead, sd 9 (rowsS (valsB name l))], [none, none]⟩ := by
  refine sem_fin (cfg := cfg 2) (ts := [.tm 4]) tbOk func50 rfl rfl rfl rfl (fun t h => by cases h) ?_
  simp only [f50, tb_3, kd_3, tb_4, kd_4, tb_5, kd_5, tb_9, kd_9, tb_23, kd_23, tb_25, kd_25, tb_26, kd_26, tb_39, kd_39, tb_57, kd_57, tb_79, kd_79, pts_32, pts_66, md_32_0, md_66_0, md_66_1, go_sem, cfg, Nat.reduceLeDiff, Nat.reduceLT, Nat.reduceAdd, Nat.reduceSub, Nat.reduceMul, Nat.reduceBEq, Nat.reduceBNe, Nat.reduceEqDiff, reduceCtorEq, reduceIte, Int.reduceLT, Int.reduceLE, Int.reduceAdd, Int.reduceSub, Int.reduceNeg, Int.reduceEq, Int.reduceBEq, Int.reduceBNe, Int.reduceToNat, Nat.reduceDiv, Nat.reduceMod, rowsF_length, sd_nil, sd_cons, List.length_map, List.length_append, List.nil_append]
  refine ev_call (c32 l hl) (retW0 rfl rfl rfl rfl) ?_
  simp only [f50, tb_3, kd_3, tb_4, kd_4, tb_5, kd_5, tb_9, kd_9, tb_23, kd_23, tb_25, kd_25, tb_26, kd_26, tb_39, kd_39, tb_57, kd_57, tb_79, kd_79, pts_32, pts_66, md_32_0, md_66_0, md_66_1, go_sem, cfg, Nat.reduceLeDiff, Nat.reduceLT, Nat.reduceAdd, Nat.reduceSub, Nat.reduceMul, Nat.reduceBEq, Nat.reduceBNe, Nat.reduceEqDiff, reduceCtorEq, reduceIte, Int.reduceLT, Int.reduceLE, Int.reduceAdd, Int.reduceSub, Int.reduceNeg, Int.reduceEq, Int.reduceBEq, Int.reduceBNe, Int.reduceToNat, Nat.reduceDiv, Nat.reduceMod, rowsF_length, sd_nil, sd_cons, List.length_map, List.length_append, List.nil_append, h]
  have hs : l.length ≤ 9223372036854775807 := hl.1
  have h20 := fields_len h
  try simp only [f50, tb_3, kd_3, tb_4, kd_4, tb_5, kd_5, tb_9, kd_9, tb_23, kd_23, tb_25, kd_25, tb_26, kd_26, tb_39, kd_39, tb_57, kd_57, tb_79, kd_79, pts_32, pts_66, md_32_0, md_66_0, md_66_1, go_sem, cfg, Nat.reduceLeDiff, Nat.reduceLT, Nat.reduceAdd, Nat.reduceSub, Nat.reduceMul, Nat.reduceBEq, Nat.reduceBNe, Nat.reduceEqDiff, reduceCtorEq, reduceIte, Int.reduceLT, Int.reduceLE, Int.reduceAdd, Int.reduceSub, Int.reduceNeg, Int.reduceEq, Int.reduceBEq, Int.reduceBNe, Int.reduceToNat, Nat.reduceDiv, Nat.reduceMod, rowsF_length, sd_nil, sd_cons, List.length_map, List.length_append, List.nil_append, hs]
  refine loop_on (fun i : Nat => ⟨[.imm 57 (rowsF l), .v (vS name), .dead, .dead, .nil, sd 9 (rowsS (valsB name (l.take i))), .dead, .dead, .dead, .dead, .dead, .imm 57 (rowsF l), .v (vI l.length), .v (vI i), .dead, .dead, .dead, .dead, .dead, .dead, .dead, .dead, .dead, .dead, .dead, .dead, .dead, .dead], List.replicate 28 none⟩) [0, 1, 4, 5, 11, 12, 13] (fun i => i ≤ l.length) (fun i => l.length - i) 0 rfl (by omega) ?_
  intro i hi
  have hle := vals_le name l i
  have hmiss := vals_miss (name := name) (l := l) (i := i)
  have hhit := vals_hit (name := name) (l := l) (i := i)
  have hend : i = l.length → valsB name (l.take i) = valsB name l := fun e => by rw [e, List.take_length]
  generalize hacc : rowsS (valsB name (l.take i)) = acc at hle ⊢
  simp only [f50, tb_3, kd_3, tb_4, kd_4, tb_5, kd_5, tb_9, kd_9, tb_23, kd_23, tb_25, kd_25, tb_26, kd_26, tb_39, kd_39, tb_57, kd_57, tb_79, kd_79, pts_32, pts_66, md_32_0, md_66_0, md_66_1, go_sem, cfg, Nat.reduceLeDiff, Nat.reduceLT, Nat.reduceAdd, Nat.reduceSub, Nat.reduceMul, Nat.reduceBEq, Nat.reduceBNe, Nat.reduceEqDiff, reduceCtorEq, reduceIte, Int.reduceLT, Int.reduceLE, Int.reduceAdd, Int.reduceSub, Int.reduceNeg, Int.reduceEq, Int.reduceBEq, Int.reduceBNe, Int.reduceToNat, Nat.reduceDiv, Nat.reduceMod, rowsF_length, sd_nil, sd_cons, List.length_map, List.length_append, List.nil_append, hs]
  cases acc with
  | nil =>
    try simp only [f50, tb_3, kd_3, tb_4, kd_4, tb_5, kd_5, tb_9, kd_9, tb_23, kd_23, tb_25, kd_25, tb_26, kd_26, tb_39, kd_39, tb_57, kd_57, tb_79, kd_79, pts_32, pts_66, md_32_0, md_66_0, md_66_1, go_sem, cfg, Nat.reduceLeDiff, Nat.reduceLT, Nat.reduceAdd, Nat.reduceSub, Nat.reduceMul, Nat.reduceBEq, Nat.reduceBNe, Nat.reduceEqDiff, reduceCtorEq, reduceIte, Int.reduceLT, Int.reduceLE, Int.reduceAdd, Int.reduceSub, Int.reduceNeg, Int.reduceEq, Int.reduceBEq, Int.reduceBNe, Int.reduceToNat, Nat.reduceDiv, Nat.reduceMod, rowsF_length, sd_nil, sd_cons, List.length_map, List.length_append, List.nil_append, hs]
    by_cases hc : i < l.length
    · have hw := wrapN hc hs
      have h1 := rowsF_getD hc
      have hsm := hl.at hc
      have hhit := hhit hc
      have hmiss := hmiss hc
      simp only [f50, tb_3, kd_3, tb_4, kd_4, tb_5, kd_5, tb_9, kd_9, tb_23, kd_23, tb_25, kd_25, tb_26, kd_26, tb_39, kd_39, tb_57, kd_57, tb_79, kd_79, pts_32, pts_66, md_32_0, md_66_0, md_66_1, go_sem, cfg, Nat.reduceLeDiff, Nat.reduceLT, Nat.reduceAdd, Nat.reduceSub, Nat.reduceMul, Nat.reduceBEq, Nat.reduceBNe, Nat.reduceEqDiff, reduceCtorEq, reduceIte, Int.reduceLT, Int.reduceLE, Int.reduceAdd, Int.reduceSub, Int.reduceNeg, Int.reduceEq, Int.reduceBEq, Int.reduceBNe, Int.reduceToNat, Nat.reduceDiv, Nat.reduceMod, rowsF_length, sd_nil, sd_cons, List.length_map, List.length_append, List.nil_append, hs, hc, h1]
      refine ev_call (c66 _ _ hsm.1 hn) (retW0 rfl rfl rfl rfl) ?_
      cases hb : hitB name (l.getD i ([], []))
      · have hb' : (foldB (l.getD i ([], [])).1 == foldB name) = false := hb
        simp only [f50, tb_3, kd_3, tb_4, kd_4, tb_5, kd_5, tb_9, kd_9, tb_23, kd_23, tb_25, kd_25, tb_26, kd_26, tb_39, kd_39, tb_57, kd_57, tb_79, kd_79, pts_32, pts_66, md_32_0, md_66_0, md_66_1, go_sem, cfg, Nat.reduceLeDiff, Nat.reduceLT, Nat.reduceAdd, Nat.reduceSub, Nat.reduceMul, Nat.reduceBEq, Nat.reduceBNe, Nat.reduceEqDiff, reduceCtorEq, reduceIte, Int.reduceLT, Int.reduceLE, Int.reduceAdd, Int.reduceSub, Int.reduceNeg, Int.reduceEq, Int.reduceBEq, Int.reduceBNe, Int.reduceToNat, Nat.reduceDiv, Nat.reduceMod, rowsF_length, sd_nil, sd_cons, List.length_map, List.length_append, List.nil_append, hs, hc, h1, hb', hw]
        exact ⟨i + 1, by rw [hmiss hb, hacc]; rfl, hc, by omega⟩
      · have hb' : (foldB (l.getD i ([], [])).1 == foldB name) = true := hb
        simp only [f50, tb_3, kd_3, tb_4, kd_4, tb_5, kd_5, tb_9, kd_9, tb_23, kd_23, tb_25, kd_25, tb_26, kd_26, tb_39, kd_39, tb_57, kd_57, tb_79, kd_79, pts_32, pts_66, md_32_0, md_66_0, md_66_1, go_sem, cfg, Nat.reduceLeDiff, Nat.reduceLT, Nat.reduceAdd, Nat.reduceSub, Nat.reduceMul, Nat.reduceBEq, Nat.reduceBNe, Nat.reduceEqDiff, reduceCtorEq, reduceIte, Int.reduceLT, Int.reduceLE, Int.reduceAdd, Int.reduceSub, Int.reduceNeg, Int.reduceEq, Int.reduceBEq, Int.reduceBNe, Int.reduceToNat, Nat.reduceDiv, Nat.reduceMod, rowsF_length, sd_nil, sd_cons, List.length_map, List.length_append, List.nil_append, hs, hc, h1, hb', hw]
        have hb1 : (1 : Nat) * 16 ≤ 140737488355328 := by omega
        try simp only [f50, tb_3, kd_3, tb_4, kd_4, tb_5, kd_5, tb_9, kd_9, tb_23, kd_23, tb_25, kd_25, tb_26, kd_26, tb_39, kd_39, tb_57, kd_57, tb_79, kd_79, pts_32, pts_66, md_32_0, md_66_0, md_66_1, go_sem, cfg, Nat.reduceLeDiff, Nat.reduceLT, Nat.reduceAdd, Nat.reduceSub, Nat.reduceMul, Nat.reduceBEq, Nat.reduceBNe, Nat.reduceEqDiff, reduceCtorEq, reduceIte, Int.reduceLT, Int.reduceLE, Int.reduceAdd, Int.reduceSub, Int.reduceNeg, Int.reduceEq, Int.reduceBEq, Int.reduceBNe, Int.reduceToNat, Nat.reduceDiv, Nat.reduceMod, rowsF_length, sd_nil, sd_cons, List.length_map, List.length_append, List.nil_append, hs, hc, h1, hb', hw, hb1]
        first | exact ⟨i + 1, by rw [hhit hb, rowsS_snoc, hacc]; rfl, hc, by omega⟩ | trace_state
    · have he := hend (by omega)
      rw [he] at hacc
      simp only [f50, tb_3, kd_3, tb_4, kd_4, tb_5, kd_5, tb_9, kd_9, tb_23, kd_23, tb_25, kd_25, tb_26, kd_26, tb_39, kd_39, tb_57, kd_57, tb_79, kd_79, pts_32, pts_66, md_32_0, md_66_0, md_66_1, go_sem, cfg, Nat.reduceLeDiff, Nat.reduceLT, Nat.reduceAdd, Nat.reduceSub, Nat.reduceMul, Nat.reduceBEq, Nat.reduceBNe, Nat.reduceEqDiff, reduceCtorEq, reduceIte, Int.reduceLT, Int.reduceLE, Int.reduceAdd, Int.reduceSub, Int.reduceNeg, Int.reduceEq, Int.reduceBEq, Int.reduceBNe, Int.reduceToNat, Nat.reduceDiv, Nat.reduceMod, rowsF_length, sd_nil, sd_cons, List.length_map, List.length_append, List.nil_append, hc]
      first | (refine fin0 (.inr rfl) rfl rfl rfl ?_; rw [hacc]; rfl) | trace_state
  | cons x xs =>
    try simp only [f50, tb_3, kd_3, tb_4, kd_4, tb_5, kd_5, tb_9, kd_9, tb_23, kd_23, tb_25, kd_25, tb_26, kd_26, tb_39, kd_39, tb_57, kd_57, tb_79, kd_79, pts_32, pts_66, md_32_0, md_66_0, md_66_1, go_sem, cfg, Nat.reduceLeDiff, Nat.reduceLT, Nat.reduceAdd, Nat.reduceSub, Nat.reduceMul, Nat.reduceBEq, Nat.reduceBNe, Nat.reduceEqDiff, reduceCtorEq, reduceIte, Int.reduceLT, Int.reduceLE, Int.reduceAdd, Int.reduceSub, Int.reduceNeg, Int.reduceEq, Int.reduceBEq, Int.reduceBNe, Int.reduceToNat, Nat.reduceDiv, Nat.reduceMod, rowsF_length, sd_nil, sd_cons, List.length_map, List.length_append, List.nil_append, hs]
    by_cases hc : i < l.length
    · have hw := wrapN hc hs
      have h1 := rowsF_getD hc
      have hsm := hl.at hc
      have hhit := hhit hc
      have hmiss := hmiss hc
      simp only [f50, tb_3, kd_3, tb_4, kd_4, tb_5, kd_5, tb_9, kd_9, tb_23, kd_23, tb_25, kd_25, tb_26, kd_26, tb_39, kd_39, tb_57, kd_57, tb_79, kd_79, pts_32, pts_66, md_32_0, md_66_0, md_66_1, go_sem, cfg, Nat.reduceLeDiff, Nat.reduceLT, Nat.reduceAdd, Nat.reduceSub, Nat.reduceMul, Nat.reduceBEq, Nat.reduceBNe, Nat.reduceEqDiff, reduceCtorEq, reduceIte, Int.reduceLT, Int.reduceLE, Int.reduceAdd, Int.reduceSub, Int.reduceNeg, Int.reduceEq, Int.reduceBEq, Int.reduceBNe, Int.reduceToNat, Nat.reduceDiv, Nat.reduceMod, rowsF_length, sd_nil, sd_cons, List.length_map, List.length_append, List.nil_append, hs, hc, h1]
      refine ev_call (c66 _ _ hsm.1 hn) (retW0 rfl rfl rfl rfl) ?_
      cases hb : hitB name (l.getD i ([], []))
      · have hb' : (foldB (l.getD i ([], [])).1 == foldB name) = false := hb
        simp only [f50, tb_3, kd_3, tb_4, kd_4, tb_5, kd_5, tb_9, kd_9, tb_23, kd_23, tb_25, kd_25, tb_26, kd_26, tb_39, kd_39, tb_57, kd_57, tb_79, kd_79, pts_32, pts_66, md_32_0, md_66_0, md_66_1, go_sem, cfg, Nat.reduceLeDiff, Nat.reduceLT, Nat.reduceAdd, Nat.reduceSub, Nat.reduceMul, Nat.reduceBEq, Nat.reduceBNe, Nat.reduceEqDiff, reduceCtorEq, reduceIte, Int.reduceLT, Int.reduceLE, Int.reduceAdd, Int.reduceSub, Int.reduceNeg, Int.reduceEq, Int.reduceBEq, Int.reduceBNe, Int.reduceToNat, Nat.reduceDiv, Nat.reduceMod, rowsF_length, sd_nil, sd_cons, List.length_map, List.length_append, List.nil_append, hs, hc, h1, hb', hw]
        exact ⟨i + 1, by rw [hmiss hb, hacc]; rfl, hc, by omega⟩
      · have hb' : (foldB (l.getD i ([], [])).1 == foldB name) = true := hb
        simp only [f50, tb_3, kd_3, tb_4, kd_4, tb_5, kd_5, tb_9, kd_9, tb_23, kd_23, tb_25, kd_25, tb_26, kd_26, tb_39, kd_39, tb_57, kd_57, tb_79, kd_79, pts_32, pts_66, md_32_0, md_66_0, md_66_1, go_sem, cfg, Nat.reduceLeDiff, Nat.reduceLT, Nat.reduceAdd, Nat.reduceSub, Nat.reduceMul, Nat.reduceBEq, Nat.reduceBNe, Nat.reduceEqDiff, reduceCtorEq, reduceIte, Int.reduceLT, Int.reduceLE, Int.reduceAdd, Int.reduceSub, Int.reduceNeg, Int.reduceEq, Int.reduceBEq, Int.reduceBNe, Int.reduceToNat, Nat.reduceDiv, Nat.reduceMod, rowsF_length, sd_nil, sd_cons, List.length_map, List.length_append, List.nil_append, hs, hc, h1, hb', hw]
        have hb1 : (xs.length + 1 + 1) * 16 ≤ 140737488355328 := by simp only [List.length_cons] at hle; omega
        try simp only [f50, tb_3, kd_3, tb_4, kd_4, tb_5, kd_5, tb_9, kd_9, tb_23, kd_23, tb_25, kd_25, tb_26, kd_26, tb_39, kd_39, tb_57, kd_57, tb_79, kd_79, pts_32, pts_66, md_32_0, md_66_0, md_66_1, go_sem, cfg, Nat.reduceLeDiff, Nat.reduceLT, Nat.reduceAdd, Nat.reduceSub, Nat.reduceMul, Nat.reduceBEq, Nat.reduceBNe, Nat.reduceEqDiff, reduceCtorEq, reduceIte, Int.reduceLT, Int.reduceLE, Int.reduceAdd, Int.reduceSub, Int.reduceNeg, Int.reduceEq, Int.reduceBEq, Int.reduceBNe, Int.reduceToNat, Nat.reduceDiv, Nat.reduceMod, rowsF_length, sd_nil, sd_cons, List.length_map, List.length_append, List.nil_append, hs, hc, h1, hb', hw, hb1]
        first | exact ⟨i + 1, by rw [hhit hb, rowsS_snoc, hacc]; rfl, hc, by omega⟩ | trace_state
    · have he := hend (by omega)
      rw [he] at hacc
      simp only [f50, tb_3, kd_3, tb_4, kd_4, tb_5, kd_5, tb_9, kd_9, tb_23, kd_23, tb_25, kd_25, tb_26, kd_26, tb_39, kd_39, tb_57, kd_57, tb_79, kd_79, pts_32, pts_66, md_32_0, md_66_0, md_66_1, go_sem, cfg, Nat.reduceLeDiff, Nat.reduceLT, Nat.reduceAdd, Nat.reduceSub, Nat.reduceMul, Nat.reduceBEq, Nat.reduceBNe, Nat.reduceEqDiff, reduceCtorEq, reduceIte, Int.reduceLT, Int.reduceLE, Int.reduceAdd, Int.reduceSub, Int.reduceNeg, Int.reduceEq, Int.reduceBEq, Int.reduceBNe, Int.reduceToNat, Nat.reduceDiv, Nat.reduceMod, rowsF_length, sd_nil, sd_cons, List.length_map, List.length_append, List.nil_append, hc]
      first | (refine fin0 (.inr rfl) rfl rfl rfl ?_; rw [hacc]; rfl) | trace_state

theorem c46 (l : List Fld) (hl : Small l) (name : List UInt8) (hn : name.length ≤ 9223372036854775807) (h : fieldsB l = true) : Sem prog 46 ⟨[.imm 57 (rowsF l), .v (vS name)], [none, none]⟩ ⟨[.dead, .dead, sd 57 (rowsF (withoutB name l))], [none, none]⟩ := by
  refine sem_fin (cfg := cfg 2) (ts := [.tm 4]) tbOk func46 rfl rfl rfl rfl (fun t h => by cases h) ?_
  simp only [f46, tb_3, kd_3, tb_4, kd_4, tb_5, kd_5, tb_9, kd_9, tb_25, kd_25, tb_26, kd_26, tb_28, kd_28, tb_30, kd_30, tb_39, kd_39, tb_57, kd_57, pts_27, pts_58, md_27_0, md_58_0, md_58_1, go_sem, cfg, Nat.reduceLeDiff, Nat.reduceLT, Nat.reduceAdd, Nat.reduceSub, Nat.reduceMul, Nat.reduceBEq, Nat.reduceBNe, Nat.reduceEqDiff, reduceCtorEq, reduceIte, Int.reduceLT, Int.reduceLE, Int.reduceAdd, Int.reduceSub, Int.reduceNeg, Int.reduceEq, Int.reduceBEq, Int.reduceBNe, Int.reduceToNat, Nat.reduceDiv, Nat.reduceMod, rowsF_length, sd_nil, sd_cons, List.length_map, List.length_append, List.nil_append]
  refine ev_call (c27 l hl) (retW0 rfl rfl rfl rfl) ?_
  simp only [f46, tb_3, kd_3, tb_4, kd_4, tb_5, kd_5, tb_9, kd_9, tb_25, kd_25, tb_26, kd_26, tb_28, kd_28, tb_30, kd_30, tb_39, kd_39, tb_57, kd_57, pts_27, pts_58, md_27_0, md_58_0, md_58_1, go_sem, cfg, Nat.reduceLeDiff, Nat.reduceLT, Nat.reduceAdd, Nat.reduceSub, Nat.reduceMul, Nat.reduceBEq, Nat.reduceBNe, Nat.reduceEqDiff, reduceCtorEq, reduceIte, Int.reduceLT, Int.reduceLE, Int.reduceAdd, Int.reduceSub, Int.reduceNeg, Int.reduceEq, Int.reduceBEq, Int.reduceBNe, Int.reduceToNat, Nat.reduceDiv, Nat.reduceMod, rowsF_length, sd_nil, sd_cons, List.length_map, List.length_append, List.nil_append, h]
  have hs : l.length ≤ 9223372036854775807 := hl.1
  have h20 := fields_len h
  try simp only [f46, tb_3, kd_3, tb_4, kd_4, tb_5, kd_5, tb_9, kd_9, tb_25, kd_25, tb_26, kd_26, tb_28, kd_28, tb_30, kd_30, tb_39, kd_39, tb_57, kd_57, pts_27, pts_58, md_27_0, md_58_0, md_58_1, go_sem, cfg, Nat.reduceLeDiff, Nat.reduceLT, Nat.reduceAdd, Nat.reduceSub, Nat.reduceMul, Nat.reduceBEq, Nat.reduceBNe, Nat.reduceEqDiff, reduceCtorEq, reduceIte, Int.reduceLT, Int.reduceLE, Int.reduceAdd, Int.reduceSub, Int.reduceNeg, Int.reduceEq, Int.reduceBEq, Int.reduceBNe, Int.reduceToNat, Nat.reduceDiv, Nat.reduceMod, rowsF_length, sd_nil, sd_cons, List.length_map, List.length_append, List.nil_append, hs]
  refine loop_on (fun i : Nat => ⟨[.imm 57 (rowsF l), .v (vS name), .dead, .dead, .nil, sd 57 (rowsF (withoutB name (l.take i))), .v (vI i), .dead, .dead, .dead, .dead, .dead, .dead, .dead, .dead, .dead, .dead, .dead, .dead, .dead, .dead, .dead, .dead, .dead, .dead, .dead, .dead, .dead, .dead, .dead, .dead, .dead], List.replicate 32 none⟩) [0, 1, 4, 5, 6] (fun i => i ≤ l.length) (fun i => l.length - i) 0 rfl (by omega) ?_
  intro i hi
  have hle := wo_le name l i
  have hmiss := wo_miss (name := name) (l := l) (i := i)
  have hhit := wo_hit (name := name) (l := l) (i := i)
  have hend : i = l.length → withoutB name (l.take i) = withoutB name l := fun e => by rw [e, List.take_length]
  generalize hacc : rowsF (withoutB name (l.take i)) = acc at hle ⊢
  simp only [f46, tb_3, kd_3, tb_4, kd_4, tb_5, kd_5, tb_9, kd_9, tb_25, kd_25, tb_26, kd_26, tb_28, kd_28, tb_30, kd_30, tb_39, kd_39, tb_57, kd_57, pts_27, pts_58, md_27_0, md_58_0, md_58_1, go_sem, cfg, Nat.reduceLeDiff, Nat.reduceLT, Nat.reduceAdd, Nat.reduceSub, Nat.reduceMul, Nat.reduceBEq, Nat.reduceBNe, Nat.reduceEqDiff, reduceCtorEq, reduceIte, Int.reduceLT, Int.reduceLE, Int.reduceAdd, Int.reduceSub, Int.reduceNeg, Int.reduceEq, Int.reduceBEq, Int.reduceBNe, Int.reduceToNat, Nat.reduceDiv, Nat.reduceMod, rowsF_length, sd_nil, sd_cons, List.length_map, List.length_append, List.nil_append, hs]
  cases acc with
  | nil =>
    try simp only [f46, tb_3, kd_3, tb_4, kd_4, tb_5, kd_5, tb_9, kd_9, tb_25, kd_25, tb_26, kd_26, tb_28, kd_28, tb_30, kd_30, tb_39, kd_39, tb_57, kd_57, pts_27, pts_58, md_27_0, md_58_0, md_58_1, go_sem, cfg, Nat.reduceLeDiff, Nat.reduceLT, Nat.reduceAdd, Nat.reduceSub, Nat.reduceMul, Nat.reduceBEq, Nat.reduceBNe, Nat.reduceEqDiff, reduceCtorEq, reduceIte, Int.reduceLT, Int.reduceLE, Int.reduceAdd, Int.reduceSub, Int.reduceNeg, Int.reduceEq, Int.reduceBEq, Int.reduceBNe, Int.reduceToNat, Nat.reduceDiv, Nat.reduceMod, rowsF_length, sd_nil, sd_cons, List.length_map, List.length_append, List.nil_append, hs]
    by_cases hc : i < l.length
    · have hw := wrapN hc hs
      have h1 := rowsF_getD hc
      have hsm := hl.at hc
      have hhit := hhit hc
      have hmiss := hmiss hc
      simp only [f46, tb_3, kd_3, tb_4, kd_4, tb_5, kd_5, tb_9, kd_9, tb_25, kd_25, tb_26, kd_26, tb_28, kd_28, tb_30, kd_30, tb_39, kd_39, tb_57, kd_57, pts_27, pts_58, md_27_0, md_58_0, md_58_1, go_sem, cfg, Nat.reduceLeDiff, Nat.reduceLT, Nat.reduceAdd, Nat.reduceSub, Nat.reduceMul, Nat.reduceBEq, Nat.reduceBNe, Nat.reduceEqDiff, reduceCtorEq, reduceIte, Int.reduceLT, Int.reduceLE, Int.reduceAdd, Int.reduceSub, Int.reduceNeg, Int.reduceEq, Int.reduceBEq, Int.reduceBNe, Int.reduceToNat, Nat.reduceDiv, Nat.reduceMod, rowsF_length, sd_nil, sd_cons, List.length_map, List.length_append, List.nil_append, hs, hc, h1]
      refine ev_call (c58 _ _ hsm.1 hn) (retW0 rfl rfl rfl rfl) ?_
      cases hb : hitB name (l.getD i ([], []))
      · have hb' : (foldB (l.getD i ([], [])).1 == foldB name) = false := hb
        simp only [f46, tb_3, kd_3, tb_4, kd_4, tb_5, kd_5, tb_9, kd_9, tb_25, kd_25, tb_26, kd_26, tb_28, kd_28, tb_30, kd_30, tb_39, kd_39, tb_57, kd_57, pts_27, pts_58, md_27_0, md_58_0, md_58_1, go_sem, cfg, Nat.reduceLeDiff, Nat.reduceLT, Nat.reduceAdd, Nat.reduceSub, Nat.reduceMul, Nat.reduceBEq, Nat.reduceBNe, Nat.reduceEqDiff, reduceCtorEq, reduceIte, Int.reduceLT, Int.reduceLE, Int.reduceAdd, Int.reduceSub, Int.reduceNeg, Int.reduceEq, Int.reduceBEq, Int.reduceBNe, Int.reduceToNat, Nat.reduceDiv, Nat.reduceMod, rowsF_length, sd_nil, sd_cons, List.length_map, List.length_append, List.nil_append, hs, hc, h1, hb', hw]
        have hb1 : (1 : Nat) * 32 ≤ 140737488355328 := by omega
        try simp only [f46, tb_3, kd_3, tb_4, kd_4, tb_5, kd_5, tb_9, kd_9, tb_25, kd_25, tb_26, kd_26, tb_28, kd_28, tb_30, kd_30, tb_39, kd_39, tb_57, kd_57, pts_27, pts_58, md_27_0, md_58_0, md_58_1, go_sem, cfg, Nat.reduceLeDiff, Nat.reduceLT, Nat.reduceAdd, Nat.reduceSub, Nat.reduceMul, Nat.reduceBEq, Nat.reduceBNe, Nat.reduceEqDiff, reduceCtorEq, reduceIte, Int.reduceLT, Int.reduceLE, Int.reduceAdd, Int.reduceSub, Int.reduceNeg, Int.reduceEq, Int.reduceBEq, Int.reduceBNe, Int.reduceToNat, Nat.reduceDiv, Nat.reduceMod, rowsF_length, sd_nil, sd_cons, List.length_map, List.length_append, List.nil_append, hs, hc, h1, hb', hw, hb1]
        first | exact ⟨i + 1, by rw [hmiss hb, rowsF_snoc, hacc]; rfl, hc, by omega⟩ | trace_state
      · have hb' : (foldB (l.getD i ([], [])).1 == foldB name) = true := hb
        simp only [f46, tb_3, kd_3, tb_4, kd_4, tb_5, kd_5, tb_9, kd_9, tb_25, kd_25, tb_26, kd_26, tb_28, kd_28, tb_30, kd_30, tb_39, kd_39, tb_57, kd_57, pts_27, pts_58, md_27_0, md_58_0, md_58_1, go_sem, cfg, Nat.reduceLeDiff, Nat.reduceLT, Nat.reduceAdd, Nat.reduceSub, Nat.reduceMul, Nat.reduceBEq, Nat.reduceBNe, Nat.reduceEqDiff, reduceCtorEq, reduceIte, Int.reduceLT, Int.reduceLE, Int.reduceAdd, Int.reduceSub, Int.reduceNeg, Int.reduceEq, Int.reduceBEq, Int.reduceBNe, Int.reduceToNat, Nat.reduceDiv, Nat.reduceMod, rowsF_length, sd_nil, sd_cons, List.length_map, List.length_append, List.nil_append, hs, hc, h1, hb', hw]
        exact ⟨i + 1, by rw [hhit hb, hacc]; rfl, hc, by omega⟩
    · have he := hend (by omega)
      rw [he] at hacc
      simp only [f46, tb_3, kd_3, tb_4, kd_4, tb_5, kd_5, tb_9, kd_9, tb_25, kd_25, tb_26, kd_26, tb_28, kd_28, tb_30, kd_30, tb_39, kd_39, tb_57, kd_57, pts_27, pts_58, md_27_0, md_58_0, md_58_1, go_sem, cfg, Nat.reduceLeDiff, Nat.reduceLT, Nat.reduceAdd, Nat.reduceSub, Nat.reduceMul, Nat.reduceBEq, Nat.reduceBNe, Nat.reduceEqDiff, reduceCtorEq, reduceIte, Int.reduceLT, Int.reduceLE, Int.reduceAdd, Int.reduceSub, Int.reduceNeg, Int.reduceEq, Int.reduceBEq, Int.reduceBNe, Int.reduceToNat, Nat.reduceDiv, Nat.reduceMod, rowsF_length, sd_nil, sd_cons, List.length_map, List.length_append, List.nil_append, hc]
      first | (refine fin0 (.inr rfl) rfl rfl rfl ?_; rw [hacc]; rfl) | trace_state
  | cons x xs =>
    try simp only [f46, tb_3, kd_3, tb_4, kd_4, tb_5, kd_5, tb_9, kd_9, tb_25, kd_25, tb_26, kd_26, tb_28, kd_28, tb_30, kd_30, tb_39, kd_39, tb_57, kd_57, pts_27, pts_58, md_27_0, md_58_0, md_58_1, go_sem, cfg, Nat.reduceLeDiff, Nat.reduceLT, Nat.reduceAdd, Nat.reduceSub, Nat.reduceMul, Nat.reduceBEq, Nat.reduceBNe, Nat.reduceEqDiff, reduceCtorEq, reduceIte, Int.reduceLT, Int.reduceLE, Int.reduceAdd, Int.reduceSub, Int.reduceNeg, Int.reduceEq, Int.reduceBEq, Int.reduceBNe, Int.reduceToNat, Nat.reduceDiv, Nat.reduceMod, rowsF_length, sd_nil, sd_cons, List.length_map, List.length_append, List.nil_append, hs]
    by_cases hc : i < l.length
    · have hw := wrapN hc hs
      have h1 := rowsF_getD hc
      have hsm := hl.at hc
      have hhit := hhit hc
      have hmiss := hmiss hc
      simp only [f46, tb_3, kd_3, tb_4, kd_4, tb_5, kd_5, tb_9, kd_9, tb_25, kd_25, tb_26, kd_26, tb_28, kd_28, tb_30, kd_30, tb_39, kd_39, tb_57, kd_57, pts_27, pts_58, md_27_0, md_58_0, md_58_1, go_sem, cfg, Nat.reduceLeDiff, Nat.reduceLT, Nat.reduceAdd, Nat.reduceSub, Nat.reduceMul, Nat.reduceBEq, Nat.reduceBNe, Nat.reduceEqDiff, reduceCtorEq, reduceIte, Int.reduceLT, Int.reduceLE, Int.reduceAdd, Int.reduceSub, Int.reduceNeg, Int.reduceEq, Int.reduceBEq, Int.reduceBNe, Int.reduceToNat, Nat.reduceDiv, Nat.reduceMod, rowsF_length, sd_nil, sd_cons, List.length_map, List.length_append, List.nil_append, hs, hc, h1]
      refine ev_call (c58 _ _ hsm.1 hn) (retW0 rfl rfl rfl rfl) ?_
      cases hb : hitB name (l.getD i ([], []))
      · have hb' : (foldB (l.getD i ([], [])).1 == foldB name) = false := hb
        simp only [f46, tb_3, kd_3, tb_4, kd_4, tb_5, kd_5, tb_9, kd_9, tb_25, kd_25, tb_26, kd_26, tb_28, kd_28, tb_30, kd_30, tb_39, kd_39, tb_57, kd_57, pts_27, pts_58, md_27_0, md_58_0, md_58_1, go_sem, cfg, Nat.reduceLeDiff, Nat.reduceLT, Nat.reduceAdd, Nat.reduceSub, Nat.reduceMul, Nat.reduceBEq, Nat.reduceBNe, Nat.reduceEqDiff, reduceCtorEq, reduceIte, Int.reduceLT, Int.reduceLE, Int.reduceAdd, Int.reduceSub, Int.reduceNeg, Int.reduceEq, Int.reduceBEq, Int.reduceBNe, Int.reduceToNat, Nat.reduceDiv, Nat.reduceMod, rowsF_length, sd_nil, sd_cons, List.length_map, List.length_append, List.nil_append, hs, hc, h1, hb', hw]
        have hb1 : (xs.length + 1 + 1) * 32 ≤ 140737488355328 := by simp only [List.length_cons] at hle; omega
        try simp only [f46, tb_3, kd_3, tb_4, kd_4, tb_5, kd_5, tb_9, kd_9, tb_25, kd_25, tb_26, kd_26, tb_28, kd_28, tb_30, kd_30, tb_39, kd_39, tb_57, kd_57, pts_27, pts_58, md_27_0, md_58_0, md_58_1, go_sem, cfg, Nat.reduceLeDiff, Nat.reduceLT, Nat.reduceAdd, Nat.reduceSub, Nat.reduceMul, Nat.reduceBEq, Nat.reduceBNe, Nat.reduceEqDiff, reduceCtorEq, reduceIte, Int.reduceLT, Int.reduceLE, Int.reduceAdd, Int.reduceSub, Int.reduceNeg, Int.reduceEq, Int.reduceBEq, Int.reduceBNe, Int.reduceToNat, Nat.reduceDiv, Nat.reduceMod, rowsF_length, sd_nil, sd_cons, List.length_map, List.length_append, List.nil_append, hs, hc, h1, hb', hw, hb1]
        first | exact ⟨i + 1, by rw [hmiss hb, rowsF_snoc, hacc]; rfl, hc, by omega⟩ | trace_state
      · have hb' : (foldB (l.getD i ([], [])).1 == foldB name) = true := hb
        simp only [f46, tb_3, kd_3, tb_4, kd_4, tb_5, kd_5, tb_9, kd_9, tb_25, kd_25, tb_26, kd_26, tb_28, kd_28, tb_30, kd_30, tb_39, kd_39, tb_57, kd_57, pts_27, pts_58, md_27_0, md_58_0, md_58_1, go_sem, cfg, Nat.reduceLeDiff, Nat.reduceLT, Nat.reduceAdd, Nat.reduceSub, Nat.reduceMul, Nat.reduceBEq, Nat.reduceBNe, Nat.reduceEqDiff, reduceCtorEq, reduceIte, Int.reduceLT, Int.reduceLE, Int.reduceAdd, Int.reduceSub, Int.reduceNeg, Int.reduceEq, Int.reduceBEq, Int.reduceBNe, Int.reduceToNat, Nat.reduceDiv, Nat.reduceMod, rowsF_length, sd_nil, sd_cons, List.length_map, List.length_append, List.nil_append, hs, hc, h1, hb', hw]
        exact ⟨i + 1, by rw [hhit hb, hacc]; rfl, hc, by omega⟩
    · have he := hend (by omega)
      rw [he] at hacc
      simp only [f46, tb_3, kd_3, tb_4, kd_4, tb_5, kd_5, tb_9, kd_9, tb_25, kd_25, tb_26, kd_26, tb_28, kd_28, tb_30, kd_30, tb_39, kd_39, tb_57, kd_57, pts_27, pts_58, md_27_0, md_58_0, md_58_1, go_sem, cfg, Nat.reduceLeDiff, Nat.reduceLT, Nat.reduceAdd, Nat.reduceSub, Nat.reduceMul, Nat.reduceBEq, Nat.reduceBNe, Nat.reduceEqDiff, reduceCtorEq, reduceIte, Int.reduceLT, Int.reduceLE, Int.reduceAdd, Int.reduceSub, Int.reduceNeg, Int.reduceEq, Int.reduceBEq, Int.reduceBNe, Int.reduceToNat, Nat.reduceDiv, Nat.reduceMod, rowsF_length, sd_nil, sd_cons, List.length_map, List.length_append, List.nil_append, hc]
      first | (refine fin0 (.inr rfl) rfl rfl rfl ?_; rw [hacc]; rfl) | trace_state

end Go.Proofs.Ytcnogcachboibaa.Fw

/- Contracts: what is kept. -/
namespace Go.Proofs.Ytcnogcachboibaa.Fw
open Go
open Go.Proofs.Try
set_option maxRecDepth 100000
set_option maxHeartbeats 600000
set_option linter.unusedSimpArgs false
set_option linter.unusedVariables false
attribute [local congr] c_bnd c_slot c_cell c_all c_len c_chk c_asm c_opdR c_wp c_pwp c_pOps c_Done c_nx c_blk c_fin c_rowsR c_leafR c_opdsR c_coeLeaf c_coeLeaves c_coeCapt c_argR c_argsR c_boundR c_partsR c_srcR c_mfgo c_ite c_wpF c_OutF c_pHead c_pDraw
theorem c68 (a name : List UInt8) (ha : a.length ≤ 9223372036854775807) (hn : name.length ≤ 9223372036854775807) : Sem prog 68 ⟨[.v (vS a), .rptr [.v (vS name)]], [none, none]⟩ ⟨[.dead, .dead, .v (vB (!(foldB a == foldB name)))], [none, none]⟩ := by
  refine sem_fin (cfg := cfg 2) (ts := [.tm 3]) tbOk func68 rfl rfl rfl rfl (fun t h => by cases h) ?_
  simp only [f68, tb_4, kd_4, tb_9, kd_9, pts_66, md_66_0, md_66_1, go_sem, cfg, Nat.reduceLeDiff, Nat.reduceLT, Nat.reduceAdd, Nat.reduceSub, Nat.reduceMul, Nat.reduceBEq, Nat.reduceBNe, Nat.reduceEqDiff, reduceCtorEq, reduceIte, Int.reduceLT, Int.reduceLE, Int.reduceAdd, Int.reduceSub, Int.reduceNeg, Int.reduceEq, Int.reduceBEq, Int.reduceBNe, Int.reduceToNat, Nat.reduceDiv, Nat.reduceMod, *]
  repeat' ((first | refine ev_call (c66 _ _ ha hn) (retW0 rfl rfl rfl rfl) ?_ | with_reducible intro _ | split) <;> (try simp only [f68, tb_4, kd_4, tb_9, kd_9, pts_66, md_66_0, md_66_1, go_sem, cfg, Nat.reduceLeDiff, Nat.reduceLT, Nat.reduceAdd, Nat.reduceSub, Nat.reduceMul, Nat.reduceBEq, Nat.reduceBNe, Nat.reduceEqDiff, reduceCtorEq, reduceIte, Int.reduceLT, Int.reduceLE, Int.reduceAdd, Int.reduceSub, Int.reduceNeg, Int.reduceEq, Int.reduceBEq, Int.reduceBNe, Int.reduceToNat, Nat.reduceDiv, Nat.reduceMod, *]))
  all_goals
    exact fin0 (.inr rfl) rfl rfl rfl rfl

theorem c67 (l : List Fld) (hl : Small l) (name : List UInt8) (hn : name.length ≤ 9223372036854775807) (h : fieldsB l = true) : Sem prog 67 ⟨[.imm 57 (rowsF l), .clo 68 [.rptr [.v (vS name)]]], [none, none]⟩ ⟨[.dead, .dead, sd 57 (rowsF (withoutB name l))], [none, none]⟩ := by
  refine sem_fin (cfg := cfg 2) (ts := [.tm 4]) tbOk func67 rfl rfl rfl rfl (fun t h => by cases h) ?_
  simp only [f67, tb_3, kd_3, tb_4, kd_4, tb_5, kd_5, tb_9, kd_9, tb_25, kd_25, tb_26, kd_26, tb_39, kd_39, tb_57, kd_57, pts_32, md_32_0, go_sem, cfg, Nat.reduceLeDiff, Nat.reduceLT, Nat.reduceAdd, Nat.reduceSub, Nat.reduceMul, Nat.reduceBEq, Nat.reduceBNe, Nat.reduceEqDiff, reduceCtorEq, reduceIte, Int.reduceLT, Int.reduceLE, Int.reduceAdd, Int.reduceSub, Int.reduceNeg, Int.reduceEq, Int.reduceBEq, Int.reduceBNe, Int.reduceToNat, Nat.reduceDiv, Nat.reduceMod, rowsF_length, sd_nil, sd_cons, List.length_map, List.length_append, List.nil_append, pts_68, md_68_0, md_68_1]
  refine ev_call (c32 l hl) (retW0 rfl rfl rfl rfl) ?_
  simp only [f67, tb_3, kd_3, tb_4, kd_4, tb_5, kd_5, tb_9, kd_9, tb_25, kd_25, tb_26, kd_26, tb_39, kd_39, tb_57, kd_57, pts_32, md_32_0, go_sem, cfg, Nat.reduceLeDiff, Nat.reduceLT, Nat.reduceAdd, Nat.reduceSub, Nat.reduceMul, Nat.reduceBEq, Nat.reduceBNe, Nat.reduceEqDiff, reduceCtorEq, reduceIte, Int.reduceLT, Int.reduceLE, Int.reduceAdd, Int.reduceSub, Int.reduceNeg, Int.reduceEq, Int.reduceBEq, Int.reduceBNe, Int.reduceToNat, Nat.reduceDiv, Nat.reduceMod, rowsF_length, sd_nil, sd_cons, List.length_map, List.length_append, List.nil_append, pts_68, md_68_0, md_68_1, h]
  have hs : l.length ≤ 9223372036854775807 := hl.1
  have h20 := fields_len h
  try simp only [f67, tb_3, kd_3, tb_4, kd_4, tb_5, kd_5, tb_9, kd_9, tb_25, kd_25, tb_26, kd_26, tb_39, kd_39, tb_57, kd_57, pts_32, md_32_0, go_sem, cfg, Nat.reduceLeDiff, Nat.reduceLT, Nat.reduceAdd, Nat.reduceSub, Nat.reduceMul, Nat.reduceBEq, Nat.reduceBNe, Nat.reduceEqDiff, reduceCtorEq, reduceIte, Int.reduceLT, Int.reduceLE, Int.reduceAdd, Int.reduceSub, Int.reduceNeg, Int.reduceEq, Int.reduceBEq, Int.reduceBNe, Int.reduceToNat, Nat.reduceDiv, Nat.reduceMod, rowsF_length, sd_nil, sd_cons, List.length_map, List.length_append, List.nil_append, pts_68, md_68_0, md_68_1, hs]
  refine loop_on (fun i : Nat => ⟨[.imm 57 (rowsF l), .clo 68 [.rptr [.v (vS name)]], .dead, .dead, .nil, sd 57 (rowsF (withoutB name (l.take i))), .dead, .dead, .dead, .dead, .dead, .imm 57 (rowsF l), .v (vI l.length), .v (vI i), .dead, .dead, .dead, .dead, .dead, .dead, .dead, .dead, .dead, .dead, .dead, .dead, .dead], List.replicate 27 none⟩) [0, 1, 4, 5, 11, 12, 13] (fun i => i ≤ l.length) (fun i => l.length - i) 0 rfl (by omega) ?_
  intro i hi
  have hle := wo_le name l i
  have hmiss := wo_miss (name := name) (l := l) (i := i)
  have hhit := wo_hit (name := name) (l := l) (i := i)
  have hend : i = l.length → withoutB name (l.take i) = withoutB name l := fun e => by rw [e, List.take_length]
  generalize hacc : rowsF (withoutB name (l.take i)) = acc at hle ⊢
  simp only [f67, tb_3, kd_3, tb_4, kd_4, tb_5, kd_5, tb_9, kd_9, tb_25, kd_25, tb_26, kd_26, tb_39, kd_39, tb_57, kd_57, pts_32, md_32_0, go_sem, cfg, Nat.reduceLeDiff, Nat.reduceLT, Nat.reduceAdd, Nat.reduceSub, Nat.reduceMul, Nat.reduceBEq, Nat.reduceBNe, Nat.reduceEqDiff, reduceCtorEq, reduceIte, Int.reduceLT, Int.reduceLE, Int.reduceAdd, Int.reduceSub, Int.reduceNeg, Int.reduceEq, Int.reduceBEq, Int.reduceBNe, Int.reduceToNat, Nat.reduceDiv, Nat.reduceMod, rowsF_length, sd_nil, sd_cons, List.length_map, List.length_append, List.nil_append, pts_68, md_68_0, md_68_1, hs]
  cases acc with
  | nil =>
    try simp only [f67, tb_3, kd_3, tb_4, kd_4, tb_5, kd_5, tb_9, kd_9, tb_25, kd_25, tb_26, kd_26, tb_39, kd_39, tb_57, kd_57, pts_32, md_32_0, go_sem, cfg, Nat.reduceLeDiff, Nat.reduceLT, Nat.reduceAdd, Nat.reduceSub, Nat.reduceMul, Nat.reduceBEq, Nat.reduceBNe, Nat.reduceEqDiff, reduceCtorEq, reduceIte, Int.reduceLT, Int.reduceLE, Int.reduceAdd, Int.reduceSub, Int.reduceNeg, Int.reduceEq, Int.reduceBEq, Int.reduceBNe, Int.reduceToNat, Nat.reduceDiv, Nat.reduceMod, rowsF_length, sd_nil, sd_cons, List.length_map, List.length_append, List.nil_append, pts_68, md_68_0, md_68_1, hs]
    by_cases hc : i < l.length
    · have hw := wrapN hc hs
      have h1 := rowsF_getD hc
      have hsm := hl.at hc
      have hhit := hhit hc
      have hmiss := hmiss hc
      simp only [f67, tb_3, kd_3, tb_4, kd_4, tb_5, kd_5, tb_9, kd_9, tb_25, kd_25, tb_26, kd_26, tb_39, kd_39, tb_57, kd_57, pts_32, md_32_0, go_sem, cfg, Nat.reduceLeDiff, Nat.reduceLT, Nat.reduceAdd, Nat.reduceSub, Nat.reduceMul, Nat.reduceBEq, Nat.reduceBNe, Nat.reduceEqDiff, reduceCtorEq, reduceIte, Int.reduceLT, Int.reduceLE, Int.reduceAdd, Int.reduceSub, Int.reduceNeg, Int.reduceEq, Int.reduceBEq, Int.reduceBNe, Int.reduceToNat, Nat.reduceDiv, Nat.reduceMod, rowsF_length, sd_nil, sd_cons, List.length_map, List.length_append, List.nil_append, pts_68, md_68_0, md_68_1, hs, hc, h1]
      refine ev_call (c68 _ _ hsm.1 hn) (retW0 rfl rfl rfl rfl) ?_
      cases hb : hitB name (l.getD i ([], []))
      · have hb' : (foldB (l.getD i ([], [])).1 == foldB name) = false := hb
        simp only [f67, tb_3, kd_3, tb_4, kd_4, tb_5, kd_5, tb_9, kd_9, tb_25, kd_25, tb_26, kd_26, tb_39, kd_39, tb_57, kd_57, pts_32, md_32_0, go_sem, cfg, Nat.reduceLeDiff, Nat.reduceLT, Nat.reduceAdd, Nat.reduceSub, Nat.reduceMul, Nat.reduceBEq, Nat.reduceBNe, Nat.reduceEqDiff, reduceCtorEq, reduceIte, Int.reduceLT, Int.reduceLE, Int.reduceAdd, Int.reduceSub, Int.reduceNeg, Int.reduceEq, Int.reduceBEq, Int.reduceBNe, Int.reduceToNat, Nat.reduceDiv, Nat.reduceMod, rowsF_length, sd_nil, sd_cons, List.length_map, List.length_append, List.nil_append, pts_68, md_68_0, md_68_1, hs, hc, h1, hb', hw]
        have hb1 : (1 : Nat) * 32 ≤ 140737488355328 := by omega
        try simp only [f67, tb_3, kd_3, tb_4, kd_4, tb_5, kd_5, tb_9, kd_9, tb_25, kd_25, tb_26, kd_26, tb_39, kd_39, tb_57, kd_57, pts_32, md_32_0, go_sem, cfg, Nat.reduceLeDiff, Nat.reduceLT, Nat.reduceAdd, Nat.reduceSub, Nat.reduceMul, Nat.reduceBEq, Nat.reduceBNe, Nat.reduceEqDiff, reduceCtorEq, reduceIte, Int.reduceLT, Int.reduceLE, Int.reduceAdd, Int.reduceSub, Int.reduceNeg, Int.reduceEq, Int.reduceBEq, Int.reduceBNe, Int.reduceToNat, Nat.reduceDiv, Nat.reduceMod, rowsF_length, sd_nil, sd_cons, List.length_map, List.length_append, List.nil_append, pts_68, md_68_0, md_68_1, hs, hc, h1, hb', hw, hb1]
        first | exact ⟨i + 1, by rw [hmiss hb, rowsF_snoc, hacc]; rfl, hc, by omega⟩ | trace_state
      · have hb' : (foldB (l.getD i ([], [])).1 == foldB name) = true := hb
        simp only [f67, tb_3, kd_3, tb_4, kd_4, tb_5, kd_5, tb_9, kd_9, tb_25, kd_25, tb_26, kd_26, tb_39, kd_39, tb_57, kd_57, pts_32, md_32_0, go_sem, cfg, Nat.reduceLeDiff, Nat.reduceLT, Nat.reduceAdd, Nat.reduceSub, Nat.reduceMul, Nat.reduceBEq, Nat.reduceBNe, Nat.reduceEqDiff, reduceCtorEq, reduceIte, Int.reduceLT, Int.reduceLE, Int.reduceAdd, Int.reduceSub, Int.reduceNeg, Int.reduceEq, Int.reduceBEq, Int.reduceBNe, Int.reduceToNat, Nat.reduceDiv, Nat.reduceMod, rowsF_length, sd_nil, sd_cons, List.length_map, List.length_append, List.nil_append, pts_68, md_68_0, md_68_1, hs, hc, h1, hb', hw]
        exact ⟨i + 1, by rw [hhit hb, hacc]; rfl, hc, by omega⟩
    · have he := hend (by omega)
      rw [he] at hacc
      simp only [f67, tb_3, kd_3, tb_4, kd_4, tb_5, kd_5, tb_9, kd_9, tb_25, kd_25, tb_26, kd_26, tb_39, kd_39, tb_57, kd_57, pts_32, md_32_0, go_sem, cfg, Nat.reduceLeDiff, Nat.reduceLT, Nat.reduceAdd, Nat.reduceSub, Nat.reduceMul, Nat.reduceBEq, Nat.reduceBNe, Nat.reduceEqDiff, reduceCtorEq, reduceIte, Int.reduceLT, Int.reduceLE, Int.reduceAdd, Int.reduceSub, Int.reduceNeg, Int.reduceEq, Int.reduceBEq, Int.reduceBNe, Int.reduceToNat, Nat.reduceDiv, Nat.reduceMod, rowsF_length, sd_nil, sd_cons, List.length_map, List.length_append, List.nil_append, pts_68, md_68_0, md_68_1, hc]
      first | (refine fin0 (.inr rfl) rfl rfl rfl ?_; rw [hacc]; rfl) | trace_state
  | cons x xs =>
    try simp only [f67, tb_3, kd_3, tb_4, kd_4, tb_5, kd_5, tb_9, kd_9, tb_25, kd_25, tb_26, kd_26, tb_39, kd_39, tb_57, kd_57, pts_32, md_32_0, go_sem, cfg, Nat.reduceLeDiff, Nat.reduceLT, Nat.reduceAdd, Nat.reduceSub, Nat.reduceMul, Nat.reduceBEq, Nat.reduceBNe, Nat.reduceEqDiff, reduceCtorEq, reduceIte, Int.reduceLT, Int.reduceLE, Int.reduceAdd, Int.reduceSub, Int.reduceNeg, Int.reduceEq, Int.reduceBEq, Int.reduceBNe, Int.reduceToNat, Nat.reduceDiv, Nat.reduceMod, rowsF_length, sd_nil, sd_cons, List.length_map, List.length_append, List.nil_append, pts_68, md_68_0, md_68_1, hs]
    by_cases hc : i < l.length
    · have hw := wrapN hc hs
      have h1 := rowsF_getD hc
      have hsm := hl.at hc
      have hhit := hhit hc
      have hmiss := hmiss hc
      simp only [f67, tb_3, kd_3, tb_4, kd_4, tb_5, kd_5, tb_9, kd_9, tb_25, kd_25, tb_26, kd_26, tb_39, kd_39, tb_57, kd_57, pts_32, md_32_0, go_sem, cfg, Nat.reduceLeDiff, Nat.reduceLT, Nat.reduceAdd, Nat.reduceSub, Nat.reduceMul, Nat.reduceBEq, Nat.reduceBNe, Nat.reduceEqDiff, reduceCtorEq, reduceIte, Int.reduceLT, Int.reduceLE, Int.reduceAdd, Int.reduceSub, Int.reduceNeg, Int.reduceEq, Int.reduceBEq, Int.reduceBNe, Int.reduceToNat, Nat.reduceDiv, Nat.reduceMod, rowsF_length, sd_nil, sd_cons, List.length_map, List.length_append, List.nil_append, pts_68, md_68_0, md_68_1, hs, hc, h1]
      refine ev_call (c68 _ _ hsm.1 hn) (retW0 rfl rfl rfl rfl) ?_
      cases hb : hitB name (l.getD i ([], []))
      · have hb' : (foldB (l.getD i ([], [])).1 == foldB name) = false := hb
        simp only [f67, tb_3, kd_3, tb_4, kd_4, tb_5, kd_5, tb_9, kd_9, tb_25, kd_25, tb_26, kd_26, tb_39, kd_39, tb_57, kd_57, pts_32, md_32_0, go_sem, cfg, Nat.reduceLeDiff, Nat.reduceLT, Nat.reduceAdd, Nat.reduceSub, Nat.reduceMul, Nat.reduceBEq, Nat.reduceBNe, Nat.reduceEqDiff, reduceCtorEq, reduceIte, Int.reduceLT, Int.reduceLE, Int.reduceAdd, Int.reduceSub, Int.reduceNeg, Int.reduceEq, Int.reduceBEq, Int.reduceBNe, Int.reduceToNat, Nat.reduceDiv, Nat.reduceMod, rowsF_length, sd_nil, sd_cons, List.length_map, List.length_append, List.nil_append, pts_68, md_68_0, md_68_1, hs, hc, h1, hb', hw]
        have hb1 : (xs.length + 1 + 1) * 32 ≤ 140737488355328 := by simp only [List.length_cons] at hle; omega
        try simp only [f67, tb_3, kd_3, tb_4, kd_4, tb_5, kd_5, tb_9, kd_9, tb_25, kd_25, tb_26, kd_26, tb_39, kd_39, tb_57, kd_57, pts_32, md_32_0, go_sem, cfg, Nat.reduceLeDiff, Nat.reduceLT, Nat.reduceAdd, Nat.reduceSub, Nat.reduceMul, Nat.reduceBEq, Nat.reduceBNe, Nat.reduceEqDiff, reduceCtorEq, reduceIte, Int.reduceLT, Int.reduceLE, Int.reduceAdd, Int.reduceSub, Int.reduceNeg, Int.reduceEq, Int.reduceBEq, Int.reduceBNe, Int.reduceToNat, Nat.reduceDiv, Nat.reduceMod, rowsF_length, sd_nil, sd_cons, List.length_map, List.length_append, List.nil_append, pts_68, md_68_0, md_68_1, hs, hc, h1, hb', hw, hb1]
        first | exact ⟨i + 1, by rw [hmiss hb, rowsF_snoc, hacc]; rfl, hc, by omega⟩ | trace_state
      · have hb' : (foldB (l.getD i ([], [])).1 == foldB name) = true := hb
        simp only [f67, tb_3, kd_3, tb_4, kd_4, tb_5, kd_5, tb_9, kd_9, tb_25, kd_25, tb_26, kd_26, tb_39, kd_39, tb_57, kd_57, pts_32, md_32_0, go_sem, cfg, Nat.reduceLeDiff, Nat.reduceLT, Nat.reduceAdd, Nat.reduceSub, Nat.reduceMul, Nat.reduceBEq, Nat.reduceBNe, Nat.reduceEqDiff, reduceCtorEq, reduceIte, Int.reduceLT, Int.reduceLE, Int.reduceAdd, Int.reduceSub, Int.reduceNeg, Int.reduceEq, Int.reduceBEq, Int.reduceBNe, Int.reduceToNat, Nat.reduceDiv, Nat.reduceMod, rowsF_length, sd_nil, sd_cons, List.length_map, List.length_append, List.nil_append, pts_68, md_68_0, md_68_1, hs, hc, h1, hb', hw]
        exact ⟨i + 1, by rw [hhit hb, hacc]; rfl, hc, by omega⟩
    · have he := hend (by omega)
      rw [he] at hacc
      simp only [f67, tb_3, kd_3, tb_4, kd_4, tb_5, kd_5, tb_9, kd_9, tb_25, kd_25, tb_26, kd_26, tb_39, kd_39, tb_57, kd_57, pts_32, md_32_0, go_sem, cfg, Nat.reduceLeDiff, Nat.reduceLT, Nat.reduceAdd, Nat.reduceSub, Nat.reduceMul, Nat.reduceBEq, Nat.reduceBNe, Nat.reduceEqDiff, reduceCtorEq, reduceIte, Int.reduceLT, Int.reduceLE, Int.reduceAdd, Int.reduceSub, Int.reduceNeg, Int.reduceEq, Int.reduceBEq, Int.reduceBNe, Int.reduceToNat, Nat.reduceDiv, Nat.reduceMod, rowsF_length, sd_nil, sd_cons, List.length_map, List.length_append, List.nil_append, pts_68, md_68_0, md_68_1, hc]
      first | (refine fin0 (.inr rfl) rfl rfl rfl ?_; rw [hacc]; rfl) | trace_state

theorem c51 (l : List Fld) (hl : Small l) (name : List UInt8) (hn : name.length ≤ 9223372036854775807) (h : fieldsB l = true) : Sem prog 51 ⟨[.imm 57 (rowsF l), .v (vS name)], [none, none]⟩ ⟨[.dead, .dead, sd 57 (rowsF (withoutB name l))], [none, none]⟩ := by
  refine sem_fin (cfg := cfg 2) (ts := [.tm 4]) tbOk func51 rfl rfl rfl rfl (fun t h => by cases h) ?_
  simp only [f51, tb_3, kd_3, tb_9, kd_9, tb_39, kd_39, tb_54, kd_54, pts_67, md_67_0, md_67_1, go_sem, cfg, Nat.reduceLeDiff, Nat.reduceLT, Nat.reduceAdd, Nat.reduceSub, Nat.reduceMul, Nat.reduceBEq, Nat.reduceBNe, Nat.reduceEqDiff, reduceCtorEq, reduceIte, Int.reduceLT, Int.reduceLE, Int.reduceAdd, Int.reduceSub, Int.reduceNeg, Int.reduceEq, Int.reduceBEq, Int.reduceBNe, Int.reduceToNat, Nat.reduceDiv, Nat.reduceMod, rowsF_length, sd_nil, sd_cons, List.length_map, List.length_append, List.nil_append]
  have h67 := c67 l hl name hn h
  cases hr : rowsF (withoutB name l) with
  | nil =>
    rw [hr] at h67
    refine ev_call h67 (retW0 rfl rfl rfl rfl) ?_
    simp only [f51, tb_3, kd_3, tb_9, kd_9, tb_39, kd_39, tb_54, kd_54, pts_67, md_67_0, md_67_1, go_sem, cfg, Nat.reduceLeDiff, Nat.reduceLT, Nat.reduceAdd, Nat.reduceSub, Nat.reduceMul, Nat.reduceBEq, Nat.reduceBNe, Nat.reduceEqDiff, reduceCtorEq, reduceIte, Int.reduceLT, Int.reduceLE, Int.reduceAdd, Int.reduceSub, Int.reduceNeg, Int.reduceEq, Int.reduceBEq, Int.reduceBNe, Int.reduceToNat, Nat.reduceDiv, Nat.reduceMod, rowsF_length, sd_nil, sd_cons, List.length_map, List.length_append, List.nil_append]
    first | exact fin0 (.inr rfl) rfl rfl rfl rfl | trace_state
  | cons x xs =>
    rw [hr] at h67
    refine ev_call h67 (retW0 rfl rfl rfl rfl) ?_
    simp only [f51, tb_3, kd_3, tb_9, kd_9, tb_39, kd_39, tb_54, kd_54, pts_67, md_67_0, md_67_1, go_sem, cfg, Nat.reduceLeDiff, Nat.reduceLT, Nat.reduceAdd, Nat.reduceSub, Nat.reduceMul, Nat.reduceBEq, Nat.reduceBNe, Nat.reduceEqDiff, reduceCtorEq, reduceIte, Int.reduceLT, Int.reduceLE, Int.reduceAdd, Int.reduceSub, Int.reduceNeg, Int.reduceEq, Int.reduceBEq, Int.reduceBNe, Int.reduceToNat, Nat.reduceDiv, Nat.reduceMod, rowsF_length, sd_nil, sd_cons, List.length_map, List.length_append, List.nil_append]
    first | exact fin0 (.inr rfl) rfl rfl rfl rfl | trace_state

def withB (l : List Fld) (f : Fld) : Option (List Fld) := if fieldsB l && fieldB f && decide ((withoutB f.1 l).length + 1 ≤ 20) then some (withoutB f.1 l ++ [f]) else none
def optD : Option (List Fld) → D
  | none => .nil
  | some l => .own 57 (rowsF l)
theorem wo_len (name : List UInt8) (l : List Fld) : (withoutB name l).length ≤ l.length := List.length_filter_le _ _

theorem c35 (l : List Fld) (hl : Small l) (f : Fld) (h1 : f.1.length ≤ 9223372036854775807) (h2 : f.2.length ≤ 9223372036854775807) : Sem prog 35 ⟨[.imm 57 (rowsF l), .agg [.v (vS f.1), .v (vS f.2)]], [none, none]⟩ ⟨[.dead, .dead, optD (withB l f)], [none, none]⟩ := by
  refine sem_fin (cfg := cfg 2) (ts := [.tm 4]) tbOk func35 rfl rfl rfl rfl (fun t h => by cases h) ?_
  simp only [f35, tb_3, kd_3, tb_4, kd_4, tb_5, kd_5, tb_9, kd_9, tb_39, kd_39, tb_57, kd_57, pts_32, pts_47, pts_51, md_32_0, md_47_0, md_51_0, md_51_1, go_sem, cfg, Nat.reduceLeDiff, Nat.reduceLT, Nat.reduceAdd, Nat.reduceSub, Nat.reduceMul, Nat.reduceBEq, Nat.reduceBNe, Nat.reduceEqDiff, reduceCtorEq, reduceIte, Int.reduceLT, Int.reduceLE, Int.reduceAdd, Int.reduceSub, Int.reduceNeg, Int.reduceEq, Int.reduceBEq, Int.reduceBNe, Int.reduceToNat, Nat.reduceDiv, Nat.reduceMod, rowsF_length, sd_nil, sd_cons, List.length_map, List.length_append, List.nil_append]
  refine ev_call (c32 l hl) (retW0 rfl rfl rfl rfl) ?_
  cases hf : fieldsB l
  · have hw : withB l f = none := by unfold withB; rw [hf]; rfl
    rw [hw]
    simp only [f35, tb_3, kd_3, tb_4, kd_4, tb_5, kd_5, tb_9, kd_9, tb_39, kd_39, tb_57, kd_57, pts_32, pts_47, pts_51, md_32_0, md_47_0, md_51_0, md_51_1, go_sem, cfg, Nat.reduceLeDiff, Nat.reduceLT, Nat.reduceAdd, Nat.reduceSub, Nat.reduceMul, Nat.reduceBEq, Nat.reduceBNe, Nat.reduceEqDiff, reduceCtorEq, reduceIte, Int.reduceLT, Int.reduceLE, Int.reduceAdd, Int.reduceSub, Int.reduceNeg, Int.reduceEq, Int.reduceBEq, Int.reduceBNe, Int.reduceToNat, Nat.reduceDiv, Nat.reduceMod, rowsF_length, sd_nil, sd_cons, List.length_map, List.length_append, List.nil_append]
    first | exact fin0 (.inr rfl) rfl rfl rfl rfl | trace_state
  simp only [f35, tb_3, kd_3, tb_4, kd_4, tb_5, kd_5, tb_9, kd_9, tb_39, kd_39, tb_57, kd_57, pts_32, pts_47, pts_51, md_32_0, md_47_0, md_51_0, md_51_1, go_sem, cfg, Nat.reduceLeDiff, Nat.reduceLT, Nat.reduceAdd, Nat.reduceSub, Nat.reduceMul, Nat.reduceBEq, Nat.reduceBNe, Nat.reduceEqDiff, reduceCtorEq, reduceIte, Int.reduceLT, Int.reduceLE, Int.reduceAdd, Int.reduceSub, Int.reduceNeg, Int.reduceEq, Int.reduceBEq, Int.reduceBNe, Int.reduceToNat, Nat.reduceDiv, Nat.reduceMod, rowsF_length, sd_nil, sd_cons, List.length_map, List.length_append, List.nil_append]
  refine ev_call (c47 f.1 f.2 h1 h2) (retW0 rfl rfl rfl rfl) ?_
  cases hff : fieldB f
  · have hw : withB l f = none := by unfold withB; rw [hff]; simp
    rw [hw]
    have hff' : fieldB (f.1, f.2) = false := hff
    simp only [f35, tb_3, kd_3, tb_4, kd_4, tb_5, kd_5, tb_9, kd_9, tb_39, kd_39, tb_57, kd_57, pts_32, pts_47, pts_51, md_32_0, md_47_0, md_51_0, md_51_1, go_sem, cfg, Nat.reduceLeDiff, Nat.reduceLT, Nat.reduceAdd, Nat.reduceSub, Nat.reduceMul, Nat.reduceBEq, Nat.reduceBNe, Nat.reduceEqDiff, reduceCtorEq, reduceIte, Int.reduceLT, Int.reduceLE, Int.reduceAdd, Int.reduceSub, Int.reduceNeg, Int.reduceEq, Int.reduceBEq, Int.reduceBNe, Int.reduceToNat, Nat.reduceDiv, Nat.reduceMod, rowsF_length, sd_nil, sd_cons, List.length_map, List.length_append, List.nil_append, hff']
    first | exact fin0 (.inr rfl) rfl rfl rfl rfl | trace_state
  have hff' : fieldB (f.1, f.2) = true := hff
  have h20 := fields_len hf
  have hwl := wo_len f.1 l
  simp only [f35, tb_3, kd_3, tb_4, kd_4, tb_5, kd_5, tb_9, kd_9, tb_39, kd_39, tb_57, kd_57, pts_32, pts_47, pts_51, md_32_0, md_47_0, md_51_0, md_51_1, go_sem, cfg, Nat.reduceLeDiff, Nat.reduceLT, Nat.reduceAdd, Nat.reduceSub, Nat.reduceMul, Nat.reduceBEq, Nat.reduceBNe, Nat.reduceEqDiff, reduceCtorEq, reduceIte, Int.reduceLT, Int.reduceLE, Int.reduceAdd, Int.reduceSub, Int.reduceNeg, Int.reduceEq, Int.reduceBEq, Int.reduceBNe, Int.reduceToNat, Nat.reduceDiv, Nat.reduceMod, rowsF_length, sd_nil, sd_cons, List.length_map, List.length_append, List.nil_append, hff']
  refine draw_intro 6 [[15, 16, 17, 18, 19], [14, 16, 17, 18, 19], [14, 17, 18, 19], [15, 18, 19], [14, 15, 16, 17, 19], [14, 15, 16, 17]] mixedOk rfl ?_
  simp only [f35, tb_3, kd_3, tb_4, kd_4, tb_5, kd_5, tb_9, kd_9, tb_39, kd_39, tb_57, kd_57, pts_32, pts_47, pts_51, md_32_0, md_47_0, md_51_0, md_51_1, go_sem, cfg, Nat.reduceLeDiff, Nat.reduceLT, Nat.reduceAdd, Nat.reduceSub, Nat.reduceMul, Nat.reduceBEq, Nat.reduceBNe, Nat.reduceEqDiff, reduceCtorEq, reduceIte, Int.reduceLT, Int.reduceLE, Int.reduceAdd, Int.reduceSub, Int.reduceNeg, Int.reduceEq, Int.reduceBEq, Int.reduceBNe, Int.reduceToNat, Nat.reduceDiv, Nat.reduceMod, rowsF_length, sd_nil, sd_cons, List.length_map, List.length_append, List.nil_append]
  have hwo := c51 l hl f.1 h1 hf
  have hrl : (rowsF (withoutB f.1 l)).length = (withoutB f.1 l).length := rowsF_length _
  have hsn : rowsF (withoutB f.1 l ++ [f]) = rowsF (withoutB f.1 l) ++ [[.v (vS f.1), .v (vS f.2)]] := rowsF_snoc
  have hwb : withB l f = if (withoutB f.1 l).length + 1 ≤ 20 then some (withoutB f.1 l ++ [f]) else none := by unfold withB; rw [hf, hff]; simp
  have hod : ∀ x : List Fld, optD (some x) = .own 57 (rowsF x) := fun _ => rfl
  have hlc : (withoutB f.1 l).length + 1 ≤ 20 → ¬ (20 : Int) < (((withoutB f.1 l).length : Int) + 1) := fun h => by omega
  cases hr : rowsF (withoutB f.1 l) with
  | nil =>
    rw [hr] at hwo hrl hsn
    have hz : (withoutB f.1 l).length = 0 := hrl.symm
    rw [hwb, hz, if_pos (by omega), hod, hsn]
    refine of_call hwo (retW0 rfl rfl rfl rfl) rfl rfl rfl ?_
    simp only [f35, tb_3, kd_3, tb_4, kd_4, tb_5, kd_5, tb_9, kd_9, tb_39, kd_39, tb_57, kd_57, pts_32, pts_47, pts_51, md_32_0, md_47_0, md_51_0, md_51_1, go_sem, cfg, Nat.reduceLeDiff, Nat.reduceLT, Nat.reduceAdd, Nat.reduceSub, Nat.reduceMul, Nat.reduceBEq, Nat.reduceBNe, Nat.reduceEqDiff, reduceCtorEq, reduceIte, Int.reduceLT, Int.reduceLE, Int.reduceAdd, Int.reduceSub, Int.reduceNeg, Int.reduceEq, Int.reduceBEq, Int.reduceBNe, Int.reduceToNat, Nat.reduceDiv, Nat.reduceMod, rowsF_length, sd_nil, sd_cons, List.length_map, List.length_append, List.nil_append]
    first | exact fin0 (.inr rfl) rfl rfl rfl rfl | trace_state
  | cons x xs =>
    rw [hr] at hwo hrl hsn
    have hlx : xs.length + 1 = (withoutB f.1 l).length := hrl
    have hb32 : (xs.length + 1 + 1) * 32 ≤ 140737488355328 := by omega
    have hb9 : xs.length + 1 + 1 ≤ 9223372036854775807 := by omega
    refine of_call hwo (retW0 rfl rfl rfl rfl) rfl rfl rfl ?_
    refine Or.elim (Classical.em ((withoutB f.1 l).length + 1 ≤ 20)) (fun hc => ?_) fun hc => ?_
    · have hc' : ¬ (20 : Int) < ((xs.length + 1 + 1 : Nat) : Int) := by omega
      rw [hwb, if_pos hc, hod, hsn]
      simp only [f35, tb_3, kd_3, tb_4, kd_4, tb_5, kd_5, tb_9, kd_9, tb_39, kd_39, tb_57, kd_57, pts_32, pts_47, pts_51, md_32_0, md_47_0, md_51_0, md_51_1, go_sem, cfg, Nat.reduceLeDiff, Nat.reduceLT, Nat.reduceAdd, Nat.reduceSub, Nat.reduceMul, Nat.reduceBEq, Nat.reduceBNe, Nat.reduceEqDiff, reduceCtorEq, reduceIte, Int.reduceLT, Int.reduceLE, Int.reduceAdd, Int.reduceSub, Int.reduceNeg, Int.reduceEq, Int.reduceBEq, Int.reduceBNe, Int.reduceToNat, Nat.reduceDiv, Nat.reduceMod, rowsF_length, sd_nil, sd_cons, List.length_map, List.length_append, List.nil_append, hb32, hb9, hc']
      first | exact fin0 (.inr rfl) rfl rfl rfl rfl | trace_state
    · have hc' : (20 : Int) < ((xs.length + 1 + 1 : Nat) : Int) := by omega
      rw [hwb, if_neg hc]
      simp only [f35, tb_3, kd_3, tb_4, kd_4, tb_5, kd_5, tb_9, kd_9, tb_39, kd_39, tb_57, kd_57, pts_32, pts_47, pts_51, md_32_0, md_47_0, md_51_0, md_51_1, go_sem, cfg, Nat.reduceLeDiff, Nat.reduceLT, Nat.reduceAdd, Nat.reduceSub, Nat.reduceMul, Nat.reduceBEq, Nat.reduceBNe, Nat.reduceEqDiff, reduceCtorEq, reduceIte, Int.reduceLT, Int.reduceLE, Int.reduceAdd, Int.reduceSub, Int.reduceNeg, Int.reduceEq, Int.reduceBEq, Int.reduceBNe, Int.reduceToNat, Nat.reduceDiv, Nat.reduceMod, rowsF_length, sd_nil, sd_cons, List.length_map, List.length_append, List.nil_append, hb32, hb9, hc']
      first | exact fin0 (.inr rfl) rfl rfl rfl rfl | trace_state

theorem c30 (l : List Fld) (hl : Small l) (f : Fld) (h1 : f.1.length ≤ 9223372036854775807) (h2 : f.2.length ≤ 9223372036854775807) : Sem prog 30 ⟨[.imm 57 (rowsF l), .agg [.v (vS f.1), .v (vS f.2)]], [none, none]⟩ ⟨[.dead, .dead, optD (withB l f)], [none, none]⟩ := by
  refine sem_fin (cfg := cfg 2) (ts := [.tm 4]) tbOk func30 rfl rfl rfl rfl (fun t h => by cases h) ?_
  simp only [f30, tb_3, kd_3, tb_4, kd_4, tb_5, kd_5, tb_9, kd_9, tb_39, kd_39, tb_57, kd_57, pts_27, pts_43, pts_46, md_27_0, md_43_0, md_46_0, md_46_1, go_sem, cfg, Nat.reduceLeDiff, Nat.reduceLT, Nat.reduceAdd, Nat.reduceSub, Nat.reduceMul, Nat.reduceBEq, Nat.reduceBNe, Nat.reduceEqDiff, reduceCtorEq, reduceIte, Int.reduceLT, Int.reduceLE, Int.reduceAdd, Int.reduceSub, Int.reduceNeg, Int.reduceEq, Int.reduceBEq, Int.reduceBNe, Int.reduceToNat, Nat.reduceDiv, Nat.reduceMod, rowsF_length, sd_nil, sd_cons, List.length_map, List.length_append, List.nil_append]
  refine ev_call (c27 l hl) (retW0 rfl rfl rfl rfl) ?_
  cases hf : fieldsB l
  · have hw : withB l f = none := by unfold withB; rw [hf]; rfl
    rw [hw]
    simp only [f30, tb_3, kd_3, tb_4, kd_4, tb_5, kd_5, tb_9, kd_9, tb_39, kd_39, tb_57, kd_57, pts_27, pts_43, pts_46, md_27_0, md_43_0, md_46_0, md_46_1, go_sem, cfg, Nat.reduceLeDiff, Nat.reduceLT, Nat.reduceAdd, Nat.reduceSub, Nat.reduceMul, Nat.reduceBEq, Nat.reduceBNe, Nat.reduceEqDiff, reduceCtorEq, reduceIte, Int.reduceLT, Int.reduceLE, Int.reduceAdd, Int.reduceSub, Int.reduceNeg, Int.reduceEq, Int.reduceBEq, Int.reduceBNe, Int.reduceToNat, Nat.reduceDiv, Nat.reduceMod, rowsF_length, sd_nil, sd_cons, List.length_map, List.length_append, List.nil_append]
    first | exact fin0 (.inr rfl) rfl rfl rfl rfl | trace_state
  simp only [f30, tb_3, kd_3, tb_4, kd_4, tb_5, kd_5, tb_9, kd_9, tb_39, kd_39, tb_57, kd_57, pts_27, pts_43, pts_46, md_27_0, md_43_0, md_46_0, md_46_1, go_sem, cfg, Nat.reduceLeDiff, Nat.reduceLT, Nat.reduceAdd, Nat.reduceSub, Nat.reduceMul, Nat.reduceBEq, Nat.reduceBNe, Nat.reduceEqDiff, reduceCtorEq, reduceIte, Int.reduceLT, Int.reduceLE, Int.reduceAdd, Int.reduceSub, Int.reduceNeg, Int.reduceEq, Int.reduceBEq, Int.reduceBNe, Int.reduceToNat, Nat.reduceDiv, Nat.reduceMod, rowsF_length, sd_nil, sd_cons, List.length_map, List.length_append, List.nil_append]
  refine ev_call (c43 f.1 f.2 h1 h2) (retW0 rfl rfl rfl rfl) ?_
  cases hff : fieldB f
  · have hw : withB l f = none := by unfold withB; rw [hff]; simp
    rw [hw]
    have hff' : fieldB (f.1, f.2) = false := hff
    simp only [f30, tb_3, kd_3, tb_4, kd_4, tb_5, kd_5, tb_9, kd_9, tb_39, kd_39, tb_57, kd_57, pts_27, pts_43, pts_46, md_27_0, md_43_0, md_46_0, md_46_1, go_sem, cfg, Nat.reduceLeDiff, Nat.reduceLT, Nat.reduceAdd, Nat.reduceSub, Nat.reduceMul, Nat.reduceBEq, Nat.reduceBNe, Nat.reduceEqDiff, reduceCtorEq, reduceIte, Int.reduceLT, Int.reduceLE, Int.reduceAdd, Int.reduceSub, Int.reduceNeg, Int.reduceEq, Int.reduceBEq, Int.reduceBNe, Int.reduceToNat, Nat.reduceDiv, Nat.reduceMod, rowsF_length, sd_nil, sd_cons, List.length_map, List.length_append, List.nil_append, hff']
    first | exact fin0 (.inr rfl) rfl rfl rfl rfl | trace_state
  have hff' : fieldB (f.1, f.2) = true := hff
  have h20 := fields_len hf
  have hwl := wo_len f.1 l
  simp only [f30, tb_3, kd_3, tb_4, kd_4, tb_5, kd_5, tb_9, kd_9, tb_39, kd_39, tb_57, kd_57, pts_27, pts_43, pts_46, md_27_0, md_43_0, md_46_0, md_46_1, go_sem, cfg, Nat.reduceLeDiff, Nat.reduceLT, Nat.reduceAdd, Nat.reduceSub, Nat.reduceMul, Nat.reduceBEq, Nat.reduceBNe, Nat.reduceEqDiff, reduceCtorEq, reduceIte, Int.reduceLT, Int.reduceLE, Int.reduceAdd, Int.reduceSub, Int.reduceNeg, Int.reduceEq, Int.reduceBEq, Int.reduceBNe, Int.reduceToNat, Nat.reduceDiv, Nat.reduceMod, rowsF_length, sd_nil, sd_cons, List.length_map, List.length_append, List.nil_append, hff']
  refine draw_intro 6 [[15, 16, 17, 18, 19], [14, 16, 17, 18, 19], [14, 17, 18, 19], [15, 18, 19], [14, 15, 16, 17, 19], [14, 15, 16, 17]] mixedOk rfl ?_
  simp only [f30, tb_3, kd_3, tb_4, kd_4, tb_5, kd_5, tb_9, kd_9, tb_39, kd_39, tb_57, kd_57, pts_27, pts_43, pts_46, md_27_0, md_43_0, md_46_0, md_46_1, go_sem, cfg, Nat.reduceLeDiff, Nat.reduceLT, Nat.reduceAdd, Nat.reduceSub, Nat.reduceMul, Nat.reduceBEq, Nat.reduceBNe, Nat.reduceEqDiff, reduceCtorEq, reduceIte, Int.reduceLT, Int.reduceLE, Int.reduceAdd, Int.reduceSub, Int.reduceNeg, Int.reduceEq, Int.reduceBEq, Int.reduceBNe, Int.reduceToNat, Nat.reduceDiv, Nat.reduceMod, rowsF_length, sd_nil, sd_cons, List.length_map, List.length_append, List.nil_append]
  have hwo := c46 l hl f.1 h1 hf
  have hrl : (rowsF (withoutB f.1 l)).length = (withoutB f.1 l).length := rowsF_length _
  have hsn : rowsF (withoutB f.1 l ++ [f]) = rowsF (withoutB f.1 l) ++ [[.v (vS f.1), .v (vS f.2)]] := rowsF_snoc
  have hwb : withB l f = if (withoutB f.1 l).length + 1 ≤ 20 then some (withoutB f.1 l ++ [f]) else none := by unfold withB; rw [hf, hff]; simp
  have hod : ∀ x : List Fld, optD (some x) = .own 57 (rowsF x) := fun _ => rfl
  have hlc : (withoutB f.1 l).length + 1 ≤ 20 → ¬ (20 : Int) < (((withoutB f.1 l).length : Int) + 1) := fun h => by omega
  cases hr : rowsF (withoutB f.1 l) with
  | nil =>
    rw [hr] at hwo hrl hsn
    have hz : (withoutB f.1 l).length = 0 := hrl.symm
    rw [hwb, hz, if_pos (by omega), hod, hsn]
    refine of_call hwo (retW0 rfl rfl rfl rfl) rfl rfl rfl ?_
    simp only [f30, tb_3, kd_3, tb_4, kd_4, tb_5, kd_5, tb_9, kd_9, tb_39, kd_39, tb_57, kd_57, pts_27, pts_43, pts_46, md_27_0, md_43_0, md_46_0, md_46_1, go_sem, cfg, Nat.reduceLeDiff, Nat.reduceLT, Nat.reduceAdd, Nat.reduceSub, Nat.reduceMul, Nat.reduceBEq, Nat.reduceBNe, Nat.reduceEqDiff, reduceCtorEq, reduceIte, Int.reduceLT, Int.reduceLE, Int.reduceAdd, Int.reduceSub, Int.reduceNeg, Int.reduceEq, Int.reduceBEq, Int.reduceBNe, Int.reduceToNat, Nat.reduceDiv, Nat.reduceMod, rowsF_length, sd_nil, sd_cons, List.length_map, List.length_append, List.nil_append]
    first | exact fin0 (.inr rfl) rfl rfl rfl rfl | trace_state
  | cons x xs =>
    rw [hr] at hwo hrl hsn
    have hlx : xs.length + 1 = (withoutB f.1 l).length := hrl
    have hb32 : (xs.length + 1 + 1) * 32 ≤ 140737488355328 := by omega
    have hb9 : xs.length + 1 + 1 ≤ 9223372036854775807 := by omega
    refine of_call hwo (retW0 rfl rfl rfl rfl) rfl rfl rfl ?_
    refine Or.elim (Classical.em ((withoutB f.1 l).length + 1 ≤ 20)) (fun hc => ?_) fun hc => ?_
    · have hc' : ¬ (20 : Int) < ((xs.length + 1 + 1 : Nat) : Int) := by omega
      rw [hwb, if_pos hc, hod, hsn]
      simp only [f30, tb_3, kd_3, tb_4, kd_4, tb_5, kd_5, tb_9, kd_9, tb_39, kd_39, tb_57, kd_57, pts_27, pts_43, pts_46, md_27_0, md_43_0, md_46_0, md_46_1, go_sem, cfg, Nat.reduceLeDiff, Nat.reduceLT, Nat.reduceAdd, Nat.reduceSub, Nat.reduceMul, Nat.reduceBEq, Nat.reduceBNe, Nat.reduceEqDiff, reduceCtorEq, reduceIte, Int.reduceLT, Int.reduceLE, Int.reduceAdd, Int.reduceSub, Int.reduceNeg, Int.reduceEq, Int.reduceBEq, Int.reduceBNe, Int.reduceToNat, Nat.reduceDiv, Nat.reduceMod, rowsF_length, sd_nil, sd_cons, List.length_map, List.length_append, List.nil_append, hb32, hb9, hc']
      first | exact fin0 (.inr rfl) rfl rfl rfl rfl | trace_state
    · have hc' : (20 : Int) < ((xs.length + 1 + 1 : Nat) : Int) := by omega
      rw [hwb, if_neg hc]
      simp only [f30, tb_3, kd_3, tb_4, kd_4, tb_5, kd_5, tb_9, kd_9, tb_39, kd_39, tb_57, kd_57, pts_27, pts_43, pts_46, md_27_0, md_43_0, md_46_0, md_46_1, go_sem, cfg, Nat.reduceLeDiff, Nat.reduceLT, Nat.reduceAdd, Nat.reduceSub, Nat.reduceMul, Nat.reduceBEq, Nat.reduceBNe, Nat.reduceEqDiff, reduceCtorEq, reduceIte, Int.reduceLT, Int.reduceLE, Int.reduceAdd, Int.reduceSub, Int.reduceNeg, Int.reduceEq, Int.reduceBEq, Int.reduceBNe, Int.reduceToNat, Nat.reduceDiv, Nat.reduceMod, rowsF_length, sd_nil, sd_cons, List.length_map, List.length_append, List.nil_append, hb32, hb9, hc']
      first | exact fin0 (.inr rfl) rfl rfl rfl rfl | trace_state

end Go.Proofs.Ytcnogcachboibaa.Fw

/- The library's strings.Join, off the kit's shelf, and as a contract here. -/
namespace Go.Proofs.Ytcnogcachboibaa.Fw
open Go Go.Proofs
open Go.Shelf
def join_lays156_ren : Go.Shelf.Ren := ⟨fun | 156 => 49 | 165 => 63 | 166 => 64 | 169 => 65 | 240 => 81 | 241 => 82 | 276 => 85 | 277 => 86 | n => n, fun | 31 => 79 | 9 => 9 | 3 => 3 | 4 => 4 | 0 => 0 | 20 => 20 | 72 => 92 | 76 => 96 | 70 => 90 | 37 => 82 | 75 => 95 | 127 => 106 | 164 => 107 | 5 => 5 | 80 => 98 | n => n, fun | n => n⟩
theorem join_lays156 : Go.Proofs.Lays.n156 Try.prog join_lays156_ren := {
  mixed := by kernel_rfl
  f156 := Try.func49.trans (congrArg some (by kernel_rfl))
  f165 := Try.func63.trans (congrArg some (by kernel_rfl))
  f166 := Try.func64.trans (congrArg some (by kernel_rfl))
  f169 := Try.func65.trans (congrArg some (by kernel_rfl))
  f240 := Try.func81.trans (congrArg some (by kernel_rfl))
  f241 := Try.func82.trans (congrArg some (by kernel_rfl))
  f276 := Try.func85.trans (congrArg some (by kernel_rfl))
  f277 := Try.func86.trans (congrArg some (by kernel_rfl))
  t0 := Try.underlying0
  a0 := Try.isAgg0
  z0 := Try.sizeOf0
  v0 := Try.zeroValue0
  t3 := Try.underlying3
  a3 := Try.isAgg3
  z3 := Try.sizeOf3
  v3 := Try.zeroValue3
  t4 := Try.underlying4
  a4 := Try.isAgg4
  z4 := Try.sizeOf4
  v4 := Try.zeroValue4
  t9 := Try.underlying9
  a9 := Try.isAgg9
  z9 := Try.sizeOf9
  v9 := Try.zeroValue9
  t20 := Try.underlying20
  a20 := Try.isAgg20
  z20 := Try.sizeOf20
  v20 := Try.zeroValue20
  t31 := Try.underlying79
  a31 := Try.isAgg79
  z31 := Try.sizeOf79
  v31 := Try.zeroValue79
  t37 := Try.underlying82
  a37 := Try.isAgg82
  z37 := Try.sizeOf82
  v37 := Try.zeroValue82
  t70 := Try.underlying90
  a70 := Try.isAgg90
  z70 := Try.sizeOf90
  v70 := Try.zeroValue90
  t72 := Try.underlying92
  a72 := Try.isAgg92
  z72 := Try.sizeOf92
  v72 := Try.zeroValue92
  t75 := Try.underlying95
  a75 := Try.isAgg95
  z75 := Try.sizeOf95
  v75 := Try.zeroValue95
  t76 := Try.underlying96
  a76 := Try.isAgg96
  z76 := Try.sizeOf96
  v76 := Try.zeroValue96
  t127 := Try.underlying106
  a127 := Try.isAgg106
  z127 := Try.sizeOf106
  v127 := Try.zeroValue106
  t164 := Try.underlying107
  a164 := Try.isAgg107
  z164 := Try.sizeOf107
  v164 := Try.zeroValue107 }
theorem join_Builder_Extra_156 : Builder.Extra Try.prog join_lays156_ren := {
  sizeBuilder := by kernel_rfl
  liesBuilder := by kernel_rfl
  t5 := Try.underlying5
  a5 := Try.isAgg5
  z5 := Try.sizeOf5
  v5 := Try.zeroValue5
  infoByte := by kernel_rfl
  cellsByte := by kernel_rfl
  sizeByte := by kernel_rfl
  neB5 := by decide }
open Go.RowKit in
theorem join_strings_Join_none (a : Option Addr) (c : Nat) (sep : ByteArray) (w : World) :
    Calls Try.prog 49 #[.slice a 0 c, .string sep] w fun e w' => e = .returned (.string ⟨#[]⟩) ∧ w' = w := Any.strings_Join_none join_lays156 join_Builder_Extra_156 a c sep w
open Go.RowKit in
theorem join_strings_Join (bk o c : Nat) (xs : List ByteArray) (sep : ByteArray) (w : World) (hcells : ∀ (j : Nat) x, xs[j]? = some x → w.cell? ⟨bk, o + j, none⟩ = some (.string x)) (hbk : bk < w.heap.size) (hN : xs.length ≤ 140737488355328) (hcap : xs.length ≤ c) (hlen : (Lib.join (xs.map (·.data.toList)) sep.data.toList).length ≤ 140737488355328) :
    Calls Try.prog 49 #[.slice (some ⟨bk, o, none⟩) xs.length c, .string sep] w fun e w' => e = .returned (.string ⟨(Lib.join (xs.map (·.data.toList)) sep.data.toList).toArray⟩) ∧ Below w.heap.size w w' := Any.strings_Join join_lays156 join_Builder_Extra_156 bk o c xs sep w hcells hbk hN hcap hlen
theorem c49 (vs : List (List UInt8)) (sep : List UInt8) (hN : vs.length ≤ 1048576) (hlen : (Lib.join vs sep).length ≤ 140737488355328) :
    Sem Try.prog 49 ⟨[.imm 9 (rowsS vs), .v (vS sep)], [none, none]⟩ ⟨[.imm 9 (rowsS vs), .v (vS sep), .v (vS (Lib.join vs sep))], [none, none, none]⟩ := by
  refine sem_calls (Ein := ⟨[.imm 9 (rowsS vs), .v (vS sep)], [none, none]⟩) (r := vS (Lib.join vs sep)) (enter_of Try.func49 rfl rfl) rfl (by simp only [scal, decide_eq_true_eq]; show (Lib.join vs sep).length ≤ _; omega) rfl ?_
  intro w a F loc M R
  have h0 := slot_of R (i := 0) (d := .imm 9 (rowsS vs)) rfl rfl (by simp)
  have h1 := slot_of R (i := 1) (d := .v (vS sep)) rfl rfl (by simp)
  have hsz : a.tmps.size = 2 := R.tmps
  have ha : a.tmps = #[a.tmps.getD 0 undef, a.tmps.getD 1 undef] := by
    apply Array.ext
    · simpa using hsz
    · intro i hi hi2
      have : i = 0 ∨ i = 1 := by simp at hi2; omega
      rcases this with rfl | rfl <;> simp [Array.getD, hsz]
  rw [ha]
  generalize a.tmps.getD 0 undef = v0 at h0
  generalize a.tmps.getD 1 undef = v1 at h1
  cases h1
  cases h0 with
  | imm _ _ _ h =>
    have hm : (vs.map ofL).map (·.data.toList) = vs := by
      rw [List.map_map]
      exact (List.map_congr_left (fun s _ => rfl)).trans (List.map_id vs)
    have hsd : (ofL sep).data.toList = sep := rfl
    rcases strs_of (by kernel_rfl) h with ⟨rfl, base, cap, rfl⟩ | ⟨b, o, cap, rfl, hb, hc, hcells⟩
    · exact (join_strings_Join_none base cap (ofL sep) w).mono fun e w' ⟨he, hw⟩ => ⟨he, hw ▸ RowKit.Below.refl _ _⟩
    · have := join_strings_Join b o cap (vs.map ofL) (ofL sep) w hcells hb (by simp; omega) hc (by rw [hm, hsd]; exact hlen)
      rw [hm, hsd] at this
      exact this
end Go.Proofs.Ytcnogcachboibaa.Fw

/- Contracts: joined values. -/
namespace Go.Proofs.Ytcnogcachboibaa.Fw
open Go
open Go.Proofs.Try
set_option maxRecDepth 100000
set_option maxHeartbeats 600000
set_option linter.unusedSimpArgs false
set_option linter.unusedVariables false
attribute [local congr] c_bnd c_slot c_cell c_all c_len c_chk c_asm c_opdR c_wp c_pwp c_pOps c_Done c_nx c_blk c_fin c_rowsR c_leafR c_opdsR c_coeLeaf c_coeLeaves c_coeCapt c_argR c_argsR c_boundR c_partsR c_srcR c_mfgo c_ite c_wpF c_OutF c_pHead c_pDraw
theorem rowsS_length (l : List (List UInt8)) : (rowsS l).length = l.length := by simp [rowsS]
theorem rowsS_getD {l : List (List UInt8)} {i : Nat} (h : i < l.length) : (rowsS l).getD i [] = [.v (vS (l.getD i []))] := by
  simp [rowsS, List.getD_eq_getElem?_getD, h]
theorem sd_ne {e : TypeId} {xs : List (List T)} (h : xs ≠ []) : sd e xs = .own e xs := by
  cases xs with
  | nil => exact absurd rfl h
  | cons => rfl
theorem rowsS_ne {l : List (List UInt8)} (h : l ≠ []) : rowsS l ≠ [] := by
  cases l with
  | nil => exact absurd rfl h
  | cons => simp [rowsS]
def sepB : List UInt8 := [44, 32]
def joinB (l : List (List UInt8)) : List UInt8 := Lib.join l sepB
theorem joinTail_snoc (s y : List UInt8) (r : List (List UInt8)) : Lib.joinTail s (r ++ [y]) = Lib.joinTail s r ++ (s ++ y) := by simp [Lib.joinTail]
theorem joinB_snoc {xs : List (List UInt8)} {y : List UInt8} (h : xs ≠ []) : joinB (xs ++ [y]) = joinB xs ++ sepB ++ y := by
  cases xs with
  | nil => exact absurd rfl h
  | cons x r =>
    unfold joinB
    rw [List.cons_append, Lib.join_cons, Lib.join_cons, joinTail_snoc]
    simp
theorem joinB_nil : joinB [] = [] := rfl
theorem joinB_one (y : List UInt8) : joinB [y] = y := Lib.join_one y sepB
theorem joinB_len : ∀ {l : List (List UInt8)}, (∀ v, v ∈ l → v.length ≤ 190) → (joinB l).length ≤ 192 * l.length := by
  intro l h
  cases l with
  | nil => simp [joinB_nil]
  | cons x r =>
    have key : ∀ (r : List (List UInt8)), (∀ v, v ∈ r → v.length ≤ 190) → (Lib.joinTail sepB r).length ≤ 192 * r.length := by
      intro r
      induction r with
      | nil => intro _; simp [Lib.joinTail]
      | cons y r ih =>
        intro h
        have h1 := h y List.mem_cons_self
        have h2 := ih fun v hv => h v (List.mem_cons_of_mem _ hv)
        simp only [Lib.joinTail, List.map_cons, List.flatten_cons, List.length_append, List.length_cons] at h2 ⊢
        have : sepB.length = 2 := rfl
        omega
    have h1 := h x List.mem_cons_self
    have h2 := key r fun v hv => h v (List.mem_cons_of_mem _ hv)
    unfold joinB
    rw [Lib.join_cons, List.length_append, List.length_cons]
    omega
theorem vals_190 {l : List Fld} {name : List UInt8} (h : fieldsB l = true) : ∀ v, v ∈ valsB name l → v.length ≤ 190 := by
  intro v hv
  simp only [valsB, List.mem_map, List.mem_filter] at hv
  obtain ⟨p, ⟨hp, _⟩, rfl⟩ := hv
  simp only [fieldsB, Bool.and_eq_true, List.all_eq_true] at h
  have := h.2 p hp
  simp only [fieldB, Bool.and_eq_true, decide_eq_true_eq] at this
  exact this.1.1.2
theorem vals_20 {l : List Fld} {name : List UInt8} (h : fieldsB l = true) : (valsB name l).length ≤ 20 := by
  have h1 := fields_len h
  simp only [valsB, List.length_map]
  exact Nat.le_trans (List.length_filter_le _ _) h1
theorem joined_len {l : List Fld} {name : List UInt8} (h : fieldsB l = true) : (joinB (valsB name l)).length ≤ 3840 := by
  have h1 := joinB_len (vals_190 (name := name) h)
  have h2 := vals_20 (name := name) h
  omega

theorem c34 (l : List Fld) (hl : Small l) (name : List UInt8) (hn : name.length ≤ 9223372036854775807) (h : fieldsB l = true) : Sem prog 34 ⟨[.imm 57 (rowsF l), .v (vS name)], [none, none]⟩ ⟨[.dead, .dead, .v (vS (joinB (valsB name l)))], [none, none]⟩ := by
  refine sem_fin (cfg := cfg 2) (ts := [.tm 4]) tbOk func34 rfl rfl rfl rfl (fun t h => by cases h) ?_
  simp only [f34, tb_9, kd_9, tb_39, kd_39, tb_79, kd_79, pts_49, pts_50, md_49_0, md_49_1, md_50_0, md_50_1, go_sem, cfg, Nat.reduceLeDiff, Nat.reduceLT, Nat.reduceAdd, Nat.reduceSub, Nat.reduceMul, Nat.reduceBEq, Nat.reduceBNe, Nat.reduceEqDiff, reduceCtorEq, reduceIte, Int.reduceLT, Int.reduceLE, Int.reduceAdd, Int.reduceSub, Int.reduceNeg, Int.reduceEq, Int.reduceBEq, Int.reduceBNe, Int.reduceToNat, Nat.reduceDiv, Nat.reduceMod, rowsF_length, rowsS_length]
  have h50 := c50 l hl name hn h
  have hj := joined_len (name := name) h
  have h20 := vals_20 (name := name) h
  generalize valsB name l = vs at h50 hj h20 ⊢
  have h49 := c49 vs sepB (by omega) (by show (joinB vs).length ≤ _; omega)
  refine Or.elim (Classical.em (vs = [])) (fun hz => ?_) fun hz => ?_
  · rw [hz] at h50 h49 ⊢
    rw [show sd 9 (rowsS []) = .nil from rfl] at h50
    refine ev_call h50 (retW0 rfl rfl rfl rfl) ?_
    simp only [f34, tb_9, kd_9, tb_39, kd_39, tb_79, kd_79, pts_49, pts_50, md_49_0, md_49_1, md_50_0, md_50_1, go_sem, cfg, Nat.reduceLeDiff, Nat.reduceLT, Nat.reduceAdd, Nat.reduceSub, Nat.reduceMul, Nat.reduceBEq, Nat.reduceBNe, Nat.reduceEqDiff, reduceCtorEq, reduceIte, Int.reduceLT, Int.reduceLE, Int.reduceAdd, Int.reduceSub, Int.reduceNeg, Int.reduceEq, Int.reduceBEq, Int.reduceBNe, Int.reduceToNat, Nat.reduceDiv, Nat.reduceMod, rowsF_length, rowsS_length]
    refine ev_call h49 (retW0 rfl rfl rfl rfl) ?_
    simp only [f34, tb_9, kd_9, tb_39, kd_39, tb_79, kd_79, pts_49, pts_50, md_49_0, md_49_1, md_50_0, md_50_1, go_sem, cfg, Nat.reduceLeDiff, Nat.reduceLT, Nat.reduceAdd, Nat.reduceSub, Nat.reduceMul, Nat.reduceBEq, Nat.reduceBNe, Nat.reduceEqDiff, reduceCtorEq, reduceIte, Int.reduceLT, Int.reduceLE, Int.reduceAdd, Int.reduceSub, Int.reduceNeg, Int.reduceEq, Int.reduceBEq, Int.reduceBNe, Int.reduceToNat, Nat.reduceDiv, Nat.reduceMod, rowsF_length, rowsS_length]
    first | exact fin0 (.inr rfl) rfl rfl rfl rfl | trace_state
  · rw [sd_ne (rowsS_ne hz)] at h50
    refine ev_call h50 (retW0 rfl rfl rfl rfl) ?_
    simp only [f34, tb_9, kd_9, tb_39, kd_39, tb_79, kd_79, pts_49, pts_50, md_49_0, md_49_1, md_50_0, md_50_1, go_sem, cfg, Nat.reduceLeDiff, Nat.reduceLT, Nat.reduceAdd, Nat.reduceSub, Nat.reduceMul, Nat.reduceBEq, Nat.reduceBNe, Nat.reduceEqDiff, reduceCtorEq, reduceIte, Int.reduceLT, Int.reduceLE, Int.reduceAdd, Int.reduceSub, Int.reduceNeg, Int.reduceEq, Int.reduceBEq, Int.reduceBNe, Int.reduceToNat, Nat.reduceDiv, Nat.reduceMod, rowsF_length, rowsS_length]
    refine ev_call h49 (retW0 rfl rfl rfl rfl) ?_
    simp only [f34, tb_9, kd_9, tb_39, kd_39, tb_79, kd_79, pts_49, pts_50, md_49_0, md_49_1, md_50_0, md_50_1, go_sem, cfg, Nat.reduceLeDiff, Nat.reduceLT, Nat.reduceAdd, Nat.reduceSub, Nat.reduceMul, Nat.reduceBEq, Nat.reduceBNe, Nat.reduceEqDiff, reduceCtorEq, reduceIte, Int.reduceLT, Int.reduceLE, Int.reduceAdd, Int.reduceSub, Int.reduceNeg, Int.reduceEq, Int.reduceBEq, Int.reduceBNe, Int.reduceToNat, Nat.reduceDiv, Nat.reduceMod, rowsF_length, rowsS_length]
    first | exact fin0 (.inr rfl) rfl rfl rfl rfl | trace_state

theorem c29 (l : List Fld) (hl : Small l) (name : List UInt8) (hn : name.length ≤ 9223372036854775807) (h : fieldsB l = true) : Sem prog 29 ⟨[.imm 57 (rowsF l), .v (vS name)], [none, none]⟩ ⟨[.dead, .dead, .v (vS (joinB (valsB name l)))], [none, none]⟩ := by
  refine sem_fin (cfg := cfg 2) (ts := [.tm 4]) tbOk func29 rfl rfl rfl rfl (fun t h => by cases h) ?_
  simp only [f29, tb_3, kd_3, tb_5, kd_5, tb_9, kd_9, tb_23, kd_23, tb_25, kd_25, tb_26, kd_26, tb_39, kd_39, tb_79, kd_79, pts_45, md_45_0, md_45_1, go_sem, cfg, Nat.reduceLeDiff, Nat.reduceLT, Nat.reduceAdd, Nat.reduceSub, Nat.reduceMul, Nat.reduceBEq, Nat.reduceBNe, Nat.reduceEqDiff, reduceCtorEq, reduceIte, Int.reduceLT, Int.reduceLE, Int.reduceAdd, Int.reduceSub, Int.reduceNeg, Int.reduceEq, Int.reduceBEq, Int.reduceBNe, Int.reduceToNat, Nat.reduceDiv, Nat.reduceMod, rowsF_length, rowsS_length, List.length_append]
  have h45 := c45 l hl name hn h
  have h190 := vals_190 (name := name) h
  have h20 := vals_20 (name := name) h
  generalize valsB name l = vs at h45 h190 h20 ⊢
  refine Or.elim (Classical.em (vs = [])) (fun hz => ?_) fun hz => ?_
  · rw [hz] at h45 ⊢
    rw [show sd 9 (rowsS []) = .nil from rfl] at h45
    rw [joinB_nil]
    refine ev_call h45 (retW0 rfl rfl rfl rfl) ?_
    simp only [f29, tb_3, kd_3, tb_5, kd_5, tb_9, kd_9, tb_23, kd_23, tb_25, kd_25, tb_26, kd_26, tb_39, kd_39, tb_79, kd_79, pts_45, md_45_0, md_45_1, go_sem, cfg, Nat.reduceLeDiff, Nat.reduceLT, Nat.reduceAdd, Nat.reduceSub, Nat.reduceMul, Nat.reduceBEq, Nat.reduceBNe, Nat.reduceEqDiff, reduceCtorEq, reduceIte, Int.reduceLT, Int.reduceLE, Int.reduceAdd, Int.reduceSub, Int.reduceNeg, Int.reduceEq, Int.reduceBEq, Int.reduceBNe, Int.reduceToNat, Nat.reduceDiv, Nat.reduceMod, rowsF_length, rowsS_length, List.length_append]
    refine loop_on (fun _ : Unit => ⟨[.imm 57 (rowsF l), .v (vS name), .dead, .dead, .v (vS []), .nil, .v (vS []), .v (vI 0), .dead, .dead, .dead, .dead, .dead, .dead, .dead, .dead, .dead, .dead, .dead, .dead, .dead, .dead, .dead, .dead, .dead, .dead, .dead, .dead], List.replicate 28 none⟩) [0, 1, 4, 5, 6, 7] (fun _ => True) (fun _ => 0) () rfl trivial ?_
    intro _ _
    simp only [f29, tb_3, kd_3, tb_5, kd_5, tb_9, kd_9, tb_23, kd_23, tb_25, kd_25, tb_26, kd_26, tb_39, kd_39, tb_79, kd_79, pts_45, md_45_0, md_45_1, go_sem, cfg, Nat.reduceLeDiff, Nat.reduceLT, Nat.reduceAdd, Nat.reduceSub, Nat.reduceMul, Nat.reduceBEq, Nat.reduceBNe, Nat.reduceEqDiff, reduceCtorEq, reduceIte, Int.reduceLT, Int.reduceLE, Int.reduceAdd, Int.reduceSub, Int.reduceNeg, Int.reduceEq, Int.reduceBEq, Int.reduceBNe, Int.reduceToNat, Nat.reduceDiv, Nat.reduceMod, rowsF_length, rowsS_length, List.length_append]
    first | exact fin0 (.inr rfl) rfl rfl rfl rfl | trace_state
  · rw [sd_ne (rowsS_ne hz)] at h45
    refine ev_call h45 (retW0 rfl rfl rfl rfl) ?_
    simp only [f29, tb_3, kd_3, tb_5, kd_5, tb_9, kd_9, tb_23, kd_23, tb_25, kd_25, tb_26, kd_26, tb_39, kd_39, tb_79, kd_79, pts_45, md_45_0, md_45_1, go_sem, cfg, Nat.reduceLeDiff, Nat.reduceLT, Nat.reduceAdd, Nat.reduceSub, Nat.reduceMul, Nat.reduceBEq, Nat.reduceBNe, Nat.reduceEqDiff, reduceCtorEq, reduceIte, Int.reduceLT, Int.reduceLE, Int.reduceAdd, Int.reduceSub, Int.reduceNeg, Int.reduceEq, Int.reduceBEq, Int.reduceBNe, Int.reduceToNat, Nat.reduceDiv, Nat.reduceMod, rowsF_length, rowsS_length, List.length_append]
    refine loop_on (fun i : Nat => ⟨[.imm 57 (rowsF l), .v (vS name), .dead, .dead, .v (vS []), .own 9 (rowsS vs), .v (vS (joinB (vs.take i))), .v (vI i), .dead, .dead, .dead, .dead, .dead, .dead, .dead, .dead, .dead, .dead, .dead, .dead, .dead, .dead, .dead, .dead, .dead, .dead, .dead, .dead], List.replicate 28 none⟩) [0, 1, 4, 5, 6, 7] (fun i => i ≤ vs.length) (fun i => vs.length - i) 0 (by simp only [List.take_zero, joinB_nil]; rfl) (by omega) ?_
    intro i hi
    have hs : vs.length ≤ 9223372036854775807 := by omega
    simp only [f29, tb_3, kd_3, tb_5, kd_5, tb_9, kd_9, tb_23, kd_23, tb_25, kd_25, tb_26, kd_26, tb_39, kd_39, tb_79, kd_79, pts_45, md_45_0, md_45_1, go_sem, cfg, Nat.reduceLeDiff, Nat.reduceLT, Nat.reduceAdd, Nat.reduceSub, Nat.reduceMul, Nat.reduceBEq, Nat.reduceBNe, Nat.reduceEqDiff, reduceCtorEq, reduceIte, Int.reduceLT, Int.reduceLE, Int.reduceAdd, Int.reduceSub, Int.reduceNeg, Int.reduceEq, Int.reduceBEq, Int.reduceBNe, Int.reduceToNat, Nat.reduceDiv, Nat.reduceMod, rowsF_length, rowsS_length, List.length_append, hs]
    by_cases hc : i < vs.length
    · have hw := wrapN hc hs
      have h1 := rowsS_getD hc
      have ht := take_at (d := []) hc
      have hjl : (joinB (vs.take i)).length ≤ 192 * (vs.take i).length := joinB_len fun v hv => h190 v (List.mem_of_mem_take hv)
      have hvl : (vs.getD i []).length ≤ 190 := h190 _ (by rw [List.getD_eq_getElem?_getD, List.getElem?_eq_getElem hc]; exact List.getElem_mem hc)
      rw [List.length_take] at hjl
      by_cases h0 : i = 0
      · subst h0
        have hlo : (vs.getD 0 []).length ≤ 9223372036854775807 := by omega
        have hc0 : (0 : Int) < (vs.length : Int) := by omega
        have ht1 : joinB (vs.take 1) = vs.getD 0 [] := by rw [show vs.take 1 = [vs.getD 0 []] from ht, joinB_one]
        simp only [f29, tb_3, kd_3, tb_5, kd_5, tb_9, kd_9, tb_23, kd_23, tb_25, kd_25, tb_26, kd_26, tb_39, kd_39, tb_79, kd_79, pts_45, md_45_0, md_45_1, go_sem, cfg, Nat.reduceLeDiff, Nat.reduceLT, Nat.reduceAdd, Nat.reduceSub, Nat.reduceMul, Nat.reduceBEq, Nat.reduceBNe, Nat.reduceEqDiff, reduceCtorEq, reduceIte, Int.reduceLT, Int.reduceLE, Int.reduceAdd, Int.reduceSub, Int.reduceNeg, Int.reduceEq, Int.reduceBEq, Int.reduceBNe, Int.reduceToNat, Nat.reduceDiv, Nat.reduceMod, rowsF_length, rowsS_length, List.length_append, hs, hc, h1, hw, hlo, hc0, joinB_nil]
        first | exact ⟨1, by rw [ht1]; rfl, hc, by omega⟩ | trace_state
      · have hi0 : (0 : Int) < (i : Int) := by omega
        have hne : vs.take i ≠ [] := by
          intro h; have := congrArg List.length h; rw [List.length_take, List.length_nil] at this; omega
        have hlo : (joinB (vs.take i)).length + 2 ≤ 9223372036854775807 := by omega
        have hlo2 : (joinB (vs.take i)).length + 2 + (vs.getD i []).length ≤ 9223372036854775807 := by omega
        simp only [f29, tb_3, kd_3, tb_5, kd_5, tb_9, kd_9, tb_23, kd_23, tb_25, kd_25, tb_26, kd_26, tb_39, kd_39, tb_79, kd_79, pts_45, md_45_0, md_45_1, go_sem, cfg, Nat.reduceLeDiff, Nat.reduceLT, Nat.reduceAdd, Nat.reduceSub, Nat.reduceMul, Nat.reduceBEq, Nat.reduceBNe, Nat.reduceEqDiff, reduceCtorEq, reduceIte, Int.reduceLT, Int.reduceLE, Int.reduceAdd, Int.reduceSub, Int.reduceNeg, Int.reduceEq, Int.reduceBEq, Int.reduceBNe, Int.reduceToNat, Nat.reduceDiv, Nat.reduceMod, rowsF_length, rowsS_length, List.length_append, hs, hc, h1, hw, hlo, hlo2, hi0]
        first | exact ⟨i + 1, by rw [ht, joinB_snoc hne]; rfl, hc, by omega⟩ | trace_state
    · have he : i = vs.length := by omega
      subst he
      simp only [f29, tb_3, kd_3, tb_5, kd_5, tb_9, kd_9, tb_23, kd_23, tb_25, kd_25, tb_26, kd_26, tb_39, kd_39, tb_79, kd_79, pts_45, md_45_0, md_45_1, go_sem, cfg, Nat.reduceLeDiff, Nat.reduceLT, Nat.reduceAdd, Nat.reduceSub, Nat.reduceMul, Nat.reduceBEq, Nat.reduceBNe, Nat.reduceEqDiff, reduceCtorEq, reduceIte, Int.reduceLT, Int.reduceLE, Int.reduceAdd, Int.reduceSub, Int.reduceNeg, Int.reduceEq, Int.reduceBEq, Int.reduceBNe, Int.reduceToNat, Nat.reduceDiv, Nat.reduceMod, rowsF_length, rowsS_length, List.length_append, hc, List.take_length]
      first | exact fin0 (.inr rfl) rfl rfl rfl rfl | trace_state

end Go.Proofs.Ytcnogcachboibaa.Fw

/- Contracts: the via field. -/
namespace Go.Proofs.Ytcnogcachboibaa.Fw
open Go
open Go.Proofs.Try
set_option maxRecDepth 100000
set_option maxHeartbeats 600000
set_option linter.unusedSimpArgs false
set_option linter.unusedVariables false
attribute [local congr] c_bnd c_slot c_cell c_all c_len c_chk c_asm c_opdR c_wp c_pwp c_pOps c_Done c_nx c_blk c_fin c_rowsR c_leafR c_opdsR c_coeLeaf c_coeLeaves c_coeCapt c_argR c_argsR c_boundR c_partsR c_srcR c_mfgo c_ite c_wpF c_OutF c_pHead c_pDraw
def viaN : List UInt8 := [118, 105, 97]
def viaV (old name : List UInt8) : List UInt8 := if old = [] then [49, 46, 49, 32] ++ name else old ++ ([44, 32] ++ ([49, 46, 49, 32] ++ name))
def nickB (name : List UInt8) : Bool := tokenI name && decide (name.length ≤ 20)
def addB (l : List Fld) (name : List UInt8) : Option (List Fld) :=
  if fieldsB l && nickB name then withB l ([86, 105, 97], viaV (joinB (valsB viaN l)) name) else none

theorem c15 (l : List Fld) (hl : Small l) (name : List UInt8) (hn : name.length ≤ 9223372036854775807) : Sem prog 15 ⟨[.imm 57 (rowsF l), .v (vS name)], [none, none]⟩ ⟨[.dead, .dead, optD (addB l name)], [none, none]⟩ := by
  refine sem_fin (cfg := cfg 2) (ts := [.tm 4]) tbOk func15 rfl rfl rfl rfl (fun t h => by cases h) ?_
  simp only [f15, tb_4, kd_4, tb_5, kd_5, tb_9, kd_9, tb_23, kd_23, tb_26, kd_26, tb_39, kd_39, tb_57, kd_57, pts_32, pts_33, pts_34, pts_35, md_32_0, md_33_0, md_34_0, md_34_1, md_35_0, md_35_1, go_sem, cfg, Nat.reduceLeDiff, Nat.reduceLT, Nat.reduceAdd, Nat.reduceSub, Nat.reduceMul, Nat.reduceBEq, Nat.reduceBNe, Nat.reduceEqDiff, reduceCtorEq, reduceIte, Int.reduceLT, Int.reduceLE, Int.reduceAdd, Int.reduceSub, Int.reduceNeg, Int.reduceEq, Int.reduceBEq, Int.reduceBNe, Int.reduceToNat, Nat.reduceDiv, Nat.reduceMod, rowsF_length, rowsS_length, List.length_append, List.cons_append, List.nil_append, List.append_assoc]
  refine ev_call (c32 l hl) (retW0 rfl rfl rfl rfl) ?_
  cases hf : fieldsB l
  · have ha : addB l name = none := by unfold addB; rw [hf]; rfl
    rw [ha]
    simp only [f15, tb_4, kd_4, tb_5, kd_5, tb_9, kd_9, tb_23, kd_23, tb_26, kd_26, tb_39, kd_39, tb_57, kd_57, pts_32, pts_33, pts_34, pts_35, md_32_0, md_33_0, md_34_0, md_34_1, md_35_0, md_35_1, go_sem, cfg, Nat.reduceLeDiff, Nat.reduceLT, Nat.reduceAdd, Nat.reduceSub, Nat.reduceMul, Nat.reduceBEq, Nat.reduceBNe, Nat.reduceEqDiff, reduceCtorEq, reduceIte, Int.reduceLT, Int.reduceLE, Int.reduceAdd, Int.reduceSub, Int.reduceNeg, Int.reduceEq, Int.reduceBEq, Int.reduceBNe, Int.reduceToNat, Nat.reduceDiv, Nat.reduceMod, rowsF_length, rowsS_length, List.length_append, List.cons_append, List.nil_append, List.append_assoc]
    first | exact fin0 (.inr rfl) rfl rfl rfl rfl | trace_state
  simp only [f15, tb_4, kd_4, tb_5, kd_5, tb_9, kd_9, tb_23, kd_23, tb_26, kd_26, tb_39, kd_39, tb_57, kd_57, pts_32, pts_33, pts_34, pts_35, md_32_0, md_33_0, md_34_0, md_34_1, md_35_0, md_35_1, go_sem, cfg, Nat.reduceLeDiff, Nat.reduceLT, Nat.reduceAdd, Nat.reduceSub, Nat.reduceMul, Nat.reduceBEq, Nat.reduceBNe, Nat.reduceEqDiff, reduceCtorEq, reduceIte, Int.reduceLT, Int.reduceLE, Int.reduceAdd, Int.reduceSub, Int.reduceNeg, Int.reduceEq, Int.reduceBEq, Int.reduceBNe, Int.reduceToNat, Nat.reduceDiv, Nat.reduceMod, rowsF_length, rowsS_length, List.length_append, List.cons_append, List.nil_append, List.append_assoc]
  refine Or.elim (Classical.em (nickB name = false)) (fun hk => ?_) fun hk => ?_
  · refine ev_call (c33 name hn) (retW0 rfl rfl rfl rfl) ?_
    have ha : addB l name = none := by unfold addB; rw [hk]; simp
    rw [ha]
    have hk' : (tokenI name && decide (name.length ≤ 20)) = false := by rw [← hk]; rfl
    simp only [f15, tb_4, kd_4, tb_5, kd_5, tb_9, kd_9, tb_23, kd_23, tb_26, kd_26, tb_39, kd_39, tb_57, kd_57, pts_32, pts_33, pts_34, pts_35, md_32_0, md_33_0, md_34_0, md_34_1, md_35_0, md_35_1, go_sem, cfg, Nat.reduceLeDiff, Nat.reduceLT, Nat.reduceAdd, Nat.reduceSub, Nat.reduceMul, Nat.reduceBEq, Nat.reduceBNe, Nat.reduceEqDiff, reduceCtorEq, reduceIte, Int.reduceLT, Int.reduceLE, Int.reduceAdd, Int.reduceSub, Int.reduceNeg, Int.reduceEq, Int.reduceBEq, Int.reduceBNe, Int.reduceToNat, Nat.reduceDiv, Nat.reduceMod, rowsF_length, rowsS_length, List.length_append, List.cons_append, List.nil_append, List.append_assoc, hk']
    first | exact fin0 (.inr rfl) rfl rfl rfl rfl | trace_state
  have hk : nickB name = true := by simpa using hk
  refine ev_call (c33 name hn) (retW0 rfl rfl rfl rfl) ?_
  have hk' : (tokenI name && decide (name.length ≤ 20)) = true := by rw [← hk]; rfl
  have hn20 : name.length ≤ 20 := by
    simp only [nickB, Bool.and_eq_true, decide_eq_true_eq] at hk; exact hk.2
  have hjl := joined_len (name := viaN) hf
  have ha : addB l name = withB l ([86, 105, 97], viaV (joinB (valsB viaN l)) name) := by unfold addB; rw [hf, hk]; rfl
  rw [ha]
  have hj := c34 l hl viaN (by decide) hf
  generalize joinB (valsB viaN l) = old at hj hjl ⊢
  have hlo1 : 4 + name.length ≤ 9223372036854775807 := by omega
  simp only [f15, tb_4, kd_4, tb_5, kd_5, tb_9, kd_9, tb_23, kd_23, tb_26, kd_26, tb_39, kd_39, tb_57, kd_57, pts_32, pts_33, pts_34, pts_35, md_32_0, md_33_0, md_34_0, md_34_1, md_35_0, md_35_1, go_sem, cfg, Nat.reduceLeDiff, Nat.reduceLT, Nat.reduceAdd, Nat.reduceSub, Nat.reduceMul, Nat.reduceBEq, Nat.reduceBNe, Nat.reduceEqDiff, reduceCtorEq, reduceIte, Int.reduceLT, Int.reduceLE, Int.reduceAdd, Int.reduceSub, Int.reduceNeg, Int.reduceEq, Int.reduceBEq, Int.reduceBNe, Int.reduceToNat, Nat.reduceDiv, Nat.reduceMod, rowsF_length, rowsS_length, List.length_append, List.cons_append, List.nil_append, List.append_assoc, hk', hlo1]
  try simp only [f15, tb_4, kd_4, tb_5, kd_5, tb_9, kd_9, tb_23, kd_23, tb_26, kd_26, tb_39, kd_39, tb_57, kd_57, pts_32, pts_33, pts_34, pts_35, md_32_0, md_33_0, md_34_0, md_34_1, md_35_0, md_35_1, go_sem, cfg, Nat.reduceLeDiff, Nat.reduceLT, Nat.reduceAdd, Nat.reduceSub, Nat.reduceMul, Nat.reduceBEq, Nat.reduceBNe, Nat.reduceEqDiff, reduceCtorEq, reduceIte, Int.reduceLT, Int.reduceLE, Int.reduceAdd, Int.reduceSub, Int.reduceNeg, Int.reduceEq, Int.reduceBEq, Int.reduceBNe, Int.reduceToNat, Nat.reduceDiv, Nat.reduceMod, rowsF_length, rowsS_length, List.length_append, List.cons_append, List.nil_append, List.append_assoc, hlo1]
  refine Or.elim (Classical.em (old = [])) (fun hz => ?_) fun hz => ?_
  · refine ev_call hj (retW0 rfl rfl rfl rfl) ?_
    have hv : viaV old name = [49, 46, 49, 32] ++ name := by unfold viaV; rw [if_pos hz]
    rw [hv]
    have hlv : ([49, 46, 49, 32] ++ name).length ≤ 9223372036854775807 := by simp; omega
    have hw := c35 l hl ([86, 105, 97], [49, 46, 49, 32] ++ name) (by simp) hlv
    rw [hz]
    generalize withB l ([86, 105, 97], [49, 46, 49, 32] ++ name) = r at hw ⊢
    simp only [f15, tb_4, kd_4, tb_5, kd_5, tb_9, kd_9, tb_23, kd_23, tb_26, kd_26, tb_39, kd_39, tb_57, kd_57, pts_32, pts_33, pts_34, pts_35, md_32_0, md_33_0, md_34_0, md_34_1, md_35_0, md_35_1, go_sem, cfg, Nat.reduceLeDiff, Nat.reduceLT, Nat.reduceAdd, Nat.reduceSub, Nat.reduceMul, Nat.reduceBEq, Nat.reduceBNe, Nat.reduceEqDiff, reduceCtorEq, reduceIte, Int.reduceLT, Int.reduceLE, Int.reduceAdd, Int.reduceSub, Int.reduceNeg, Int.reduceEq, Int.reduceBEq, Int.reduceBNe, Int.reduceToNat, Nat.reduceDiv, Nat.reduceMod, rowsF_length, rowsS_length, List.length_append, List.cons_append, List.nil_append, List.append_assoc, hlo1, hlv]
    cases r with
    | none =>
      refine ev_call hw (retW0 rfl rfl rfl rfl) ?_
      simp only [f15, tb_4, kd_4, tb_5, kd_5, tb_9, kd_9, tb_23, kd_23, tb_26, kd_26, tb_39, kd_39, tb_57, kd_57, pts_32, pts_33, pts_34, pts_35, md_32_0, md_33_0, md_34_0, md_34_1, md_35_0, md_35_1, go_sem, cfg, Nat.reduceLeDiff, Nat.reduceLT, Nat.reduceAdd, Nat.reduceSub, Nat.reduceMul, Nat.reduceBEq, Nat.reduceBNe, Nat.reduceEqDiff, reduceCtorEq, reduceIte, Int.reduceLT, Int.reduceLE, Int.reduceAdd, Int.reduceSub, Int.reduceNeg, Int.reduceEq, Int.reduceBEq, Int.reduceBNe, Int.reduceToNat, Nat.reduceDiv, Nat.reduceMod, rowsF_length, rowsS_length, List.length_append, List.cons_append, List.nil_append, List.append_assoc]
      first | exact fin0 (.inr rfl) rfl rfl rfl rfl | trace_state
    | some x =>
      refine ev_call hw (retW0 rfl rfl rfl rfl) ?_
      simp only [f15, tb_4, kd_4, tb_5, kd_5, tb_9, kd_9, tb_23, kd_23, tb_26, kd_26, tb_39, kd_39, tb_57, kd_57, pts_32, pts_33, pts_34, pts_35, md_32_0, md_33_0, md_34_0, md_34_1, md_35_0, md_35_1, go_sem, cfg, Nat.reduceLeDiff, Nat.reduceLT, Nat.reduceAdd, Nat.reduceSub, Nat.reduceMul, Nat.reduceBEq, Nat.reduceBNe, Nat.reduceEqDiff, reduceCtorEq, reduceIte, Int.reduceLT, Int.reduceLE, Int.reduceAdd, Int.reduceSub, Int.reduceNeg, Int.reduceEq, Int.reduceBEq, Int.reduceBNe, Int.reduceToNat, Nat.reduceDiv, Nat.reduceMod, rowsF_length, rowsS_length, List.length_append, List.cons_append, List.nil_append, List.append_assoc]
      first | exact fin0 (.inr rfl) rfl rfl rfl rfl | trace_state
  · refine ev_call hj (retW0 rfl rfl rfl rfl) ?_
    have hv : viaV old name = old ++ ([44, 32] ++ ([49, 46, 49, 32] ++ name)) := by unfold viaV; rw [if_neg hz]
    rw [hv]
    have hnb := beq_nil_false hz
    have hlv : (old ++ ([44, 32] ++ ([49, 46, 49, 32] ++ name))).length ≤ 9223372036854775807 := by simp; omega
    have hw := c35 l hl ([86, 105, 97], old ++ ([44, 32] ++ ([49, 46, 49, 32] ++ name))) (by simp) hlv
    generalize hr : withB l ([86, 105, 97], old ++ ([44, 32] ++ ([49, 46, 49, 32] ++ name))) = r at hw ⊢
    have hs1 : old.length + 2 ≤ 9223372036854775807 := by omega
    have hs2 : old.length + 2 + 4 ≤ 9223372036854775807 := by omega
    have hs3 : old.length + (2 + 4) ≤ 9223372036854775807 := by omega
    have hs4 : old.length + 2 + 4 + name.length ≤ 9223372036854775807 := by omega
    have hs5 : old.length + (2 + 4) + name.length ≤ 9223372036854775807 := by omega
    have hs6 : old.length + 2 + (4 + name.length) ≤ 9223372036854775807 := by omega
    have hs7 : old.length + 2 + (name.length + 1 + 1 + 1 + 1) ≤ 9223372036854775807 := by omega
    have hs8 : name.length + 1 + 1 + 1 + 1 ≤ 9223372036854775807 := by omega
    simp only [f15, tb_4, kd_4, tb_5, kd_5, tb_9, kd_9, tb_23, kd_23, tb_26, kd_26, tb_39, kd_39, tb_57, kd_57, pts_32, pts_33, pts_34, pts_35, md_32_0, md_33_0, md_34_0, md_34_1, md_35_0, md_35_1, go_sem, cfg, Nat.reduceLeDiff, Nat.reduceLT, Nat.reduceAdd, Nat.reduceSub, Nat.reduceMul, Nat.reduceBEq, Nat.reduceBNe, Nat.reduceEqDiff, reduceCtorEq, reduceIte, Int.reduceLT, Int.reduceLE, Int.reduceAdd, Int.reduceSub, Int.reduceNeg, Int.reduceEq, Int.reduceBEq, Int.reduceBNe, Int.reduceToNat, Nat.reduceDiv, Nat.reduceMod, rowsF_length, rowsS_length, List.length_append, List.cons_append, List.nil_append, List.append_assoc, hlo1, hnb, hs1, hs2, hs3, hs4, hs5, hs6, hs7, hs8]
    cases r with
    | none =>
      refine ev_call hw (retW0 rfl rfl rfl rfl) ?_
      simp only [f15, tb_4, kd_4, tb_5, kd_5, tb_9, kd_9, tb_23, kd_23, tb_26, kd_26, tb_39, kd_39, tb_57, kd_57, pts_32, pts_33, pts_34, pts_35, md_32_0, md_33_0, md_34_0, md_34_1, md_35_0, md_35_1, go_sem, cfg, Nat.reduceLeDiff, Nat.reduceLT, Nat.reduceAdd, Nat.reduceSub, Nat.reduceMul, Nat.reduceBEq, Nat.reduceBNe, Nat.reduceEqDiff, reduceCtorEq, reduceIte, Int.reduceLT, Int.reduceLE, Int.reduceAdd, Int.reduceSub, Int.reduceNeg, Int.reduceEq, Int.reduceBEq, Int.reduceBNe, Int.reduceToNat, Nat.reduceDiv, Nat.reduceMod, rowsF_length, rowsS_length, List.length_append, List.cons_append, List.nil_append, List.append_assoc]
      first | exact fin0 (.inr rfl) rfl rfl rfl rfl | trace_state
    | some x =>
      refine ev_call hw (retW0 rfl rfl rfl rfl) ?_
      simp only [f15, tb_4, kd_4, tb_5, kd_5, tb_9, kd_9, tb_23, kd_23, tb_26, kd_26, tb_39, kd_39, tb_57, kd_57, pts_32, pts_33, pts_34, pts_35, md_32_0, md_33_0, md_34_0, md_34_1, md_35_0, md_35_1, go_sem, cfg, Nat.reduceLeDiff, Nat.reduceLT, Nat.reduceAdd, Nat.reduceSub, Nat.reduceMul, Nat.reduceBEq, Nat.reduceBNe, Nat.reduceEqDiff, reduceCtorEq, reduceIte, Int.reduceLT, Int.reduceLE, Int.reduceAdd, Int.reduceSub, Int.reduceNeg, Int.reduceEq, Int.reduceBEq, Int.reduceBNe, Int.reduceToNat, Nat.reduceDiv, Nat.reduceMod, rowsF_length, rowsS_length, List.length_append, List.cons_append, List.nil_append, List.append_assoc]
      first | exact fin0 (.inr rfl) rfl rfl rfl rfl | trace_state

theorem c13 (l : List Fld) (hl : Small l) (name : List UInt8) (hn : name.length ≤ 9223372036854775807) : Sem prog 13 ⟨[.imm 57 (rowsF l), .v (vS name)], [none, none]⟩ ⟨[.dead, .dead, optD (addB l name)], [none, none]⟩ := by
  refine sem_fin (cfg := cfg 2) (ts := [.tm 4]) tbOk func13 rfl rfl rfl rfl (fun t h => by cases h) ?_
  simp only [f13, tb_4, kd_4, tb_5, kd_5, tb_9, kd_9, tb_23, kd_23, tb_28, kd_28, tb_39, kd_39, tb_57, kd_57, pts_27, pts_28, pts_29, pts_30, md_27_0, md_28_0, md_29_0, md_29_1, md_30_0, md_30_1, go_sem, cfg, Nat.reduceLeDiff, Nat.reduceLT, Nat.reduceAdd, Nat.reduceSub, Nat.reduceMul, Nat.reduceBEq, Nat.reduceBNe, Nat.reduceEqDiff, reduceCtorEq, reduceIte, Int.reduceLT, Int.reduceLE, Int.reduceAdd, Int.reduceSub, Int.reduceNeg, Int.reduceEq, Int.reduceBEq, Int.reduceBNe, Int.reduceToNat, Nat.reduceDiv, Nat.reduceMod, rowsF_length, rowsS_length, List.length_append, List.cons_append, List.nil_append, List.append_assoc]
  refine ev_call (c27 l hl) (retW0 rfl rfl rfl rfl) ?_
  cases hf : fieldsB l
  · have ha : addB l name = none := by unfold addB; rw [hf]; rfl
    rw [ha]
    simp only [f13, tb_4, kd_4, tb_5, kd_5, tb_9, kd_9, tb_23, kd_23, tb_28, kd_28, tb_39, kd_39, tb_57, kd_57, pts_27, pts_28, pts_29, pts_30, md_27_0, md_28_0, md_29_0, md_29_1, md_30_0, md_30_1, go_sem, cfg, Nat.reduceLeDiff, Nat.reduceLT, Nat.reduceAdd, Nat.reduceSub, Nat.reduceMul, Nat.reduceBEq, Nat.reduceBNe, Nat.reduceEqDiff, reduceCtorEq, reduceIte, Int.reduceLT, Int.reduceLE, Int.reduceAdd, Int.reduceSub, Int.reduceNeg, Int.reduceEq, Int.reduceBEq, Int.reduceBNe, Int.reduceToNat, Nat.reduceDiv, Nat.reduceMod, rowsF_length, rowsS_length, List.length_append, List.cons_append, List.nil_append, List.append_assoc]
    first | exact fin0 (.inr rfl) rfl rfl rfl rfl | trace_state
  simp only [f13, tb_4, kd_4, tb_5, kd_5, tb_9, kd_9, tb_23, kd_23, tb_28, kd_28, tb_39, kd_39, tb_57, kd_57, pts_27, pts_28, pts_29, pts_30, md_27_0, md_28_0, md_29_0, md_29_1, md_30_0, md_30_1, go_sem, cfg, Nat.reduceLeDiff, Nat.reduceLT, Nat.reduceAdd, Nat.reduceSub, Nat.reduceMul, Nat.reduceBEq, Nat.reduceBNe, Nat.reduceEqDiff, reduceCtorEq, reduceIte, Int.reduceLT, Int.reduceLE, Int.reduceAdd, Int.reduceSub, Int.reduceNeg, Int.reduceEq, Int.reduceBEq, Int.reduceBNe, Int.reduceToNat, Nat.reduceDiv, Nat.reduceMod, rowsF_length, rowsS_length, List.length_append, List.cons_append, List.nil_append, List.append_assoc]
  refine Or.elim (Classical.em (nickB name = false)) (fun hk => ?_) fun hk => ?_
  · refine ev_call (c28 name hn) (retW0 rfl rfl rfl rfl) ?_
    have ha : addB l name = none := by unfold addB; rw [hk]; simp
    rw [ha]
    have hk' : (decide (name.length ≤ 20) && tokenS name) = false := by rw [token_eq, Bool.and_comm, ← hk]; rfl
    simp only [f13, tb_4, kd_4, tb_5, kd_5, tb_9, kd_9, tb_23, kd_23, tb_28, kd_28, tb_39, kd_39, tb_57, kd_57, pts_27, pts_28, pts_29, pts_30, md_27_0, md_28_0, md_29_0, md_29_1, md_30_0, md_30_1, go_sem, cfg, Nat.reduceLeDiff, Nat.reduceLT, Nat.reduceAdd, Nat.reduceSub, Nat.reduceMul, Nat.reduceBEq, Nat.reduceBNe, Nat.reduceEqDiff, reduceCtorEq, reduceIte, Int.reduceLT, Int.reduceLE, Int.reduceAdd, Int.reduceSub, Int.reduceNeg, Int.reduceEq, Int.reduceBEq, Int.reduceBNe, Int.reduceToNat, Nat.reduceDiv, Nat.reduceMod, rowsF_length, rowsS_length, List.length_append, List.cons_append, List.nil_append, List.append_assoc, hk']
    first | exact fin0 (.inr rfl) rfl rfl rfl rfl | trace_state
  have hk : nickB name = true := by simpa using hk
  refine ev_call (c28 name hn) (retW0 rfl rfl rfl rfl) ?_
  have hk' : (decide (name.length ≤ 20) && tokenS name) = true := by rw [token_eq, Bool.and_comm, ← hk]; rfl
  have hn20 : name.length ≤ 20 := by
    simp only [nickB, Bool.and_eq_true, decide_eq_true_eq] at hk; exact hk.2
  have hjl := joined_len (name := viaN) hf
  have ha : addB l name = withB l ([86, 105, 97], viaV (joinB (valsB viaN l)) name) := by unfold addB; rw [hf, hk]; rfl
  rw [ha]
  have hj := c29 l hl viaN (by decide) hf
  generalize joinB (valsB viaN l) = old at hj hjl ⊢
  have hlo1 : 4 + name.length ≤ 9223372036854775807 := by omega
  simp only [f13, tb_4, kd_4, tb_5, kd_5, tb_9, kd_9, tb_23, kd_23, tb_28, kd_28, tb_39, kd_39, tb_57, kd_57, pts_27, pts_28, pts_29, pts_30, md_27_0, md_28_0, md_29_0, md_29_1, md_30_0, md_30_1, go_sem, cfg, Nat.reduceLeDiff, Nat.reduceLT, Nat.reduceAdd, Nat.reduceSub, Nat.reduceMul, Nat.reduceBEq, Nat.reduceBNe, Nat.reduceEqDiff, reduceCtorEq, reduceIte, Int.reduceLT, Int.reduceLE, Int.reduceAdd, Int.reduceSub, Int.reduceNeg, Int.reduceEq, Int.reduceBEq, Int.reduceBNe, Int.reduceToNat, Nat.reduceDiv, Nat.reduceMod, rowsF_length, rowsS_length, List.length_append, List.cons_append, List.nil_append, List.append_assoc, hk', hlo1]
  try simp only [f13, tb_4, kd_4, tb_5, kd_5, tb_9, kd_9, tb_23, kd_23, tb_28, kd_28, tb_39, kd_39, tb_57, kd_57, pts_27, pts_28, pts_29, pts_30, md_27_0, md_28_0, md_29_0, md_29_1, md_30_0, md_30_1, go_sem, cfg, Nat.reduceLeDiff, Nat.reduceLT, Nat.reduceAdd, Nat.reduceSub, Nat.reduceMul, Nat.reduceBEq, Nat.reduceBNe, Nat.reduceEqDiff, reduceCtorEq, reduceIte, Int.reduceLT, Int.reduceLE, Int.reduceAdd, Int.reduceSub, Int.reduceNeg, Int.reduceEq, Int.reduceBEq, Int.reduceBNe, Int.reduceToNat, Nat.reduceDiv, Nat.reduceMod, rowsF_length, rowsS_length, List.length_append, List.cons_append, List.nil_append, List.append_assoc, hlo1]
  refine Or.elim (Classical.em (old = [])) (fun hz => ?_) fun hz => ?_
  · refine ev_call hj (retW0 rfl rfl rfl rfl) ?_
    have hv : viaV old name = [49, 46, 49, 32] ++ name := by unfold viaV; rw [if_pos hz]
    rw [hv]
    have hlv : ([49, 46, 49, 32] ++ name).length ≤ 9223372036854775807 := by simp; omega
    have hw := c30 l hl ([86, 105, 97], [49, 46, 49, 32] ++ name) (by simp) hlv
    rw [hz]
    generalize withB l ([86, 105, 97], [49, 46, 49, 32] ++ name) = r at hw ⊢
    simp only [f13, tb_4, kd_4, tb_5, kd_5, tb_9, kd_9, tb_23, kd_23, tb_28, kd_28, tb_39, kd_39, tb_57, kd_57, pts_27, pts_28, pts_29, pts_30, md_27_0, md_28_0, md_29_0, md_29_1, md_30_0, md_30_1, go_sem, cfg, Nat.reduceLeDiff, Nat.reduceLT, Nat.reduceAdd, Nat.reduceSub, Nat.reduceMul, Nat.reduceBEq, Nat.reduceBNe, Nat.reduceEqDiff, reduceCtorEq, reduceIte, Int.reduceLT, Int.reduceLE, Int.reduceAdd, Int.reduceSub, Int.reduceNeg, Int.reduceEq, Int.reduceBEq, Int.reduceBNe, Int.reduceToNat, Nat.reduceDiv, Nat.reduceMod, rowsF_length, rowsS_length, List.length_append, List.cons_append, List.nil_append, List.append_assoc, hlo1, hlv]
    cases r with
    | none =>
      refine ev_call hw (retW0 rfl rfl rfl rfl) ?_
      simp only [f13, tb_4, kd_4, tb_5, kd_5, tb_9, kd_9, tb_23, kd_23, tb_28, kd_28, tb_39, kd_39, tb_57, kd_57, pts_27, pts_28, pts_29, pts_30, md_27_0, md_28_0, md_29_0, md_29_1, md_30_0, md_30_1, go_sem, cfg, Nat.reduceLeDiff, Nat.reduceLT, Nat.reduceAdd, Nat.reduceSub, Nat.reduceMul, Nat.reduceBEq, Nat.reduceBNe, Nat.reduceEqDiff, reduceCtorEq, reduceIte, Int.reduceLT, Int.reduceLE, Int.reduceAdd, Int.reduceSub, Int.reduceNeg, Int.reduceEq, Int.reduceBEq, Int.reduceBNe, Int.reduceToNat, Nat.reduceDiv, Nat.reduceMod, rowsF_length, rowsS_length, List.length_append, List.cons_append, List.nil_append, List.append_assoc]
      first | exact fin0 (.inr rfl) rfl rfl rfl rfl | trace_state
    | some x =>
      refine ev_call hw (retW0 rfl rfl rfl rfl) ?_
      simp only [f13, tb_4, kd_4, tb_5, kd_5, tb_9, kd_9, tb_23, kd_23, tb_28, kd_28, tb_39, kd_39, tb_57, kd_57, pts_27, pts_28, pts_29, pts_30, md_27_0, md_28_0, md_29_0, md_29_1, md_30_0, md_30_1, go_sem, cfg, Nat.reduceLeDiff, Nat.reduceLT, Nat.reduceAdd, Nat.reduceSub, Nat.reduceMul, Nat.reduceBEq, Nat.reduceBNe, Nat.reduceEqDiff, reduceCtorEq, reduceIte, Int.reduceLT, Int.reduceLE, Int.reduceAdd, Int.reduceSub, Int.reduceNeg, Int.reduceEq, Int.reduceBEq, Int.reduceBNe, Int.reduceToNat, Nat.reduceDiv, Nat.reduceMod, rowsF_length, rowsS_length, List.length_append, List.cons_append, List.nil_append, List.append_assoc]
      first | exact fin0 (.inr rfl) rfl rfl rfl rfl | trace_state
  · refine ev_call hj (retW0 rfl rfl rfl rfl) ?_
    have hv : viaV old name = old ++ ([44, 32] ++ ([49, 46, 49, 32] ++ name)) := by unfold viaV; rw [if_neg hz]
    rw [hv]
    have hnb := beq_nil_false hz
    have hlv : (old ++ ([44, 32] ++ ([49, 46, 49, 32] ++ name))).length ≤ 9223372036854775807 := by simp; omega
    have hw := c30 l hl ([86, 105, 97], old ++ ([44, 32] ++ ([49, 46, 49, 32] ++ name))) (by simp) hlv
    generalize hr : withB l ([86, 105, 97], old ++ ([44, 32] ++ ([49, 46, 49, 32] ++ name))) = r at hw ⊢
    have hs1 : old.length + 2 ≤ 9223372036854775807 := by omega
    have hs2 : old.length + 2 + 4 ≤ 9223372036854775807 := by omega
    have hs3 : old.length + (2 + 4) ≤ 9223372036854775807 := by omega
    have hs4 : old.length + 2 + 4 + name.length ≤ 9223372036854775807 := by omega
    have hs5 : old.length + (2 + 4) + name.length ≤ 9223372036854775807 := by omega
    have hs6 : old.length + 2 + (4 + name.length) ≤ 9223372036854775807 := by omega
    have hs7 : old.length + 2 + (name.length + 1 + 1 + 1 + 1) ≤ 9223372036854775807 := by omega
    have hs8 : name.length + 1 + 1 + 1 + 1 ≤ 9223372036854775807 := by omega
    simp only [f13, tb_4, kd_4, tb_5, kd_5, tb_9, kd_9, tb_23, kd_23, tb_28, kd_28, tb_39, kd_39, tb_57, kd_57, pts_27, pts_28, pts_29, pts_30, md_27_0, md_28_0, md_29_0, md_29_1, md_30_0, md_30_1, go_sem, cfg, Nat.reduceLeDiff, Nat.reduceLT, Nat.reduceAdd, Nat.reduceSub, Nat.reduceMul, Nat.reduceBEq, Nat.reduceBNe, Nat.reduceEqDiff, reduceCtorEq, reduceIte, Int.reduceLT, Int.reduceLE, Int.reduceAdd, Int.reduceSub, Int.reduceNeg, Int.reduceEq, Int.reduceBEq, Int.reduceBNe, Int.reduceToNat, Nat.reduceDiv, Nat.reduceMod, rowsF_length, rowsS_length, List.length_append, List.cons_append, List.nil_append, List.append_assoc, hlo1, hnb, hs1, hs2, hs3, hs4, hs5, hs6, hs7, hs8]
    cases r with
    | none =>
      refine ev_call hw (retW0 rfl rfl rfl rfl) ?_
      simp only [f13, tb_4, kd_4, tb_5, kd_5, tb_9, kd_9, tb_23, kd_23, tb_28, kd_28, tb_39, kd_39, tb_57, kd_57, pts_27, pts_28, pts_29, pts_30, md_27_0, md_28_0, md_29_0, md_29_1, md_30_0, md_30_1, go_sem, cfg, Nat.reduceLeDiff, Nat.reduceLT, Nat.reduceAdd, Nat.reduceSub, Nat.reduceMul, Nat.reduceBEq, Nat.reduceBNe, Nat.reduceEqDiff, reduceCtorEq, reduceIte, Int.reduceLT, Int.reduceLE, Int.reduceAdd, Int.reduceSub, Int.reduceNeg, Int.reduceEq, Int.reduceBEq, Int.reduceBNe, Int.reduceToNat, Nat.reduceDiv, Nat.reduceMod, rowsF_length, rowsS_length, List.length_append, List.cons_append, List.nil_append, List.append_assoc]
      first | exact fin0 (.inr rfl) rfl rfl rfl rfl | trace_state
    | some x =>
      refine ev_call hw (retW0 rfl rfl rfl rfl) ?_
      simp only [f13, tb_4, kd_4, tb_5, kd_5, tb_9, kd_9, tb_23, kd_23, tb_28, kd_28, tb_39, kd_39, tb_57, kd_57, pts_27, pts_28, pts_29, pts_30, md_27_0, md_28_0, md_29_0, md_29_1, md_30_0, md_30_1, go_sem, cfg, Nat.reduceLeDiff, Nat.reduceLT, Nat.reduceAdd, Nat.reduceSub, Nat.reduceMul, Nat.reduceBEq, Nat.reduceBNe, Nat.reduceEqDiff, reduceCtorEq, reduceIte, Int.reduceLT, Int.reduceLE, Int.reduceAdd, Int.reduceSub, Int.reduceNeg, Int.reduceEq, Int.reduceBEq, Int.reduceBNe, Int.reduceToNat, Nat.reduceDiv, Nat.reduceMod, rowsF_length, rowsS_length, List.length_append, List.cons_append, List.nil_append, List.append_assoc]
      first | exact fin0 (.inr rfl) rfl rfl rfl rfl | trace_state

end Go.Proofs.Ytcnogcachboibaa.Fw

/- Contracts: the law AddVia. -/
namespace Go.Proofs.Ytcnogcachboibaa.Fw
open Go
open Go.Proofs.Try
set_option maxRecDepth 100000
set_option maxHeartbeats 4000000
set_option linter.unusedSimpArgs false
set_option linter.unusedVariables false
attribute [local congr] c_bnd c_slot c_cell c_all c_len c_chk c_asm c_opdR c_wp c_pwp c_pOps c_Done c_nx c_blk c_fin c_rowsR c_leafR c_opdsR c_coeLeaf c_coeLeaves c_coeCapt c_argR c_argsR c_boundR c_partsR c_srcR c_mfgo c_ite c_wpF c_OutF c_pHead c_pDraw
theorem optD_none : optD none = .nil := id rfl
theorem optD_some {x : List Fld} : optD (some x) = .own 57 (rowsF x) := id rfl
theorem withB_len {l x : List Fld} {f : Fld} (h : withB l f = some x) : x.length ≤ 20 := by
  unfold withB at h
  split at h
  · rename_i hc
    injection h with h
    subst h
    simp only [Bool.and_eq_true, decide_eq_true_eq] at hc
    rw [List.length_append]
    exact hc.2
  · cases h
theorem addB_len {l x : List Fld} {name : List UInt8} (h : addB l name = some x) : x.length ≤ 20 := by
  unfold addB at h
  split at h
  · exact withB_len h
  · cases h
theorem szL_le : ∀ (l : List Fld) (k : Int), szL l k ≤ k ∨ szL l k = -1
  | [], k => .inl (Int.le_refl k)
  | p :: l, k => by
    have hup : szF p k ≤ k ∨ szF p k < 0 := by unfold szF; split <;> (try split) <;> omega
    unfold szL
    split
    · exact .inr rfl
    · have := szL_le l (szF p k)
      omega

theorem c4 (l : List Fld) (hl : Small l) (name : List UInt8) (hn : name.length ≤ 9223372036854775807) : Sem prog 4 ⟨[.imm 52 (rowsF l), .v (vS name)], [none, none]⟩ ⟨[.dead, .dead, .v (vB true)], [none, none]⟩ := by
  refine sem_fin (cfg := cfg 2) (ts := [.tm 4]) tbOk func4 rfl rfl rfl rfl (fun t h => by cases h) ?_
  simp only [f4, tb_3, kd_3, tb_4, kd_4, tb_5, kd_5, tb_9, kd_9, tb_26, kd_26, tb_37, kd_37, tb_39, kd_39, tb_52, kd_52, tb_71, kd_71, pts_12, pts_13, pts_14, pts_15, pts_16, pts_17, pts_18, md_12_0, md_12_1, md_13_0, md_13_1, md_14_0, md_15_0, md_15_1, md_16_0, md_16_1, md_17_0, md_17_1, md_18_0, md_18_1, go_sem, cfg, Nat.reduceLeDiff, Nat.reduceLT, Nat.reduceAdd, Nat.reduceSub, Nat.reduceMul, Nat.reduceBEq, Nat.reduceBNe, Nat.reduceEqDiff, reduceCtorEq, reduceIte, Int.reduceLT, Int.reduceLE, Int.reduceAdd, Int.reduceSub, Int.reduceNeg, Int.reduceEq, Int.reduceBEq, Int.reduceBNe, Int.reduceToNat, Nat.reduceDiv, Nat.reduceMod, rowsF_length, marks_length, optD_none, optD_some, hn]
  try (with_reducible intro _)
  refine Or.elim (Classical.em ((1048576 : Int) < (name.length : Int))) (fun hb => ?_) fun hb => ?_
  · simp only [f4, tb_3, kd_3, tb_4, kd_4, tb_5, kd_5, tb_9, kd_9, tb_26, kd_26, tb_37, kd_37, tb_39, kd_39, tb_52, kd_52, tb_71, kd_71, pts_12, pts_13, pts_14, pts_15, pts_16, pts_17, pts_18, md_12_0, md_12_1, md_13_0, md_13_1, md_14_0, md_15_0, md_15_1, md_16_0, md_16_1, md_17_0, md_17_1, md_18_0, md_18_1, go_sem, cfg, Nat.reduceLeDiff, Nat.reduceLT, Nat.reduceAdd, Nat.reduceSub, Nat.reduceMul, Nat.reduceBEq, Nat.reduceBNe, Nat.reduceEqDiff, reduceCtorEq, reduceIte, Int.reduceLT, Int.reduceLE, Int.reduceAdd, Int.reduceSub, Int.reduceNeg, Int.reduceEq, Int.reduceBEq, Int.reduceBNe, Int.reduceToNat, Nat.reduceDiv, Nat.reduceMod, rowsF_length, marks_length, optD_none, optD_some, hb]
    exact fin0 (.inr rfl) rfl rfl rfl rfl
  simp only [f4, tb_3, kd_3, tb_4, kd_4, tb_5, kd_5, tb_9, kd_9, tb_26, kd_26, tb_37, kd_37, tb_39, kd_39, tb_52, kd_52, tb_71, kd_71, pts_12, pts_13, pts_14, pts_15, pts_16, pts_17, pts_18, md_12_0, md_12_1, md_13_0, md_13_1, md_14_0, md_15_0, md_15_1, md_16_0, md_16_1, md_17_0, md_17_1, md_18_0, md_18_1, go_sem, cfg, Nat.reduceLeDiff, Nat.reduceLT, Nat.reduceAdd, Nat.reduceSub, Nat.reduceMul, Nat.reduceBEq, Nat.reduceBNe, Nat.reduceEqDiff, reduceCtorEq, reduceIte, Int.reduceLT, Int.reduceLE, Int.reduceAdd, Int.reduceSub, Int.reduceNeg, Int.reduceEq, Int.reduceBEq, Int.reduceBNe, Int.reduceToNat, Nat.reduceDiv, Nat.reduceMod, rowsF_length, marks_length, optD_none, optD_some, hb]
  have h12 := c12 l hl 1048576 (by decide) (by decide)
  have hz : ¬ (if (1048576 : Int) < (l.length : Int) then -1 else szL l (1048576 - l.length)) < 0 → l.length ≤ 1048576 := by
    intro h
    split at h
    · exact absurd (by decide) h
    · omega
  generalize (if (1048576 : Int) < (l.length : Int) then -1 else szL l (1048576 - l.length)) = z at h12 hz
  refine ev_call h12 (retW0 rfl rfl rfl rfl) ?_
  simp only [f4, tb_3, kd_3, tb_4, kd_4, tb_5, kd_5, tb_9, kd_9, tb_26, kd_26, tb_37, kd_37, tb_39, kd_39, tb_52, kd_52, tb_71, kd_71, pts_12, pts_13, pts_14, pts_15, pts_16, pts_17, pts_18, md_12_0, md_12_1, md_13_0, md_13_1, md_14_0, md_15_0, md_15_1, md_16_0, md_16_1, md_17_0, md_17_1, md_18_0, md_18_1, go_sem, cfg, Nat.reduceLeDiff, Nat.reduceLT, Nat.reduceAdd, Nat.reduceSub, Nat.reduceMul, Nat.reduceBEq, Nat.reduceBNe, Nat.reduceEqDiff, reduceCtorEq, reduceIte, Int.reduceLT, Int.reduceLE, Int.reduceAdd, Int.reduceSub, Int.reduceNeg, Int.reduceEq, Int.reduceBEq, Int.reduceBNe, Int.reduceToNat, Nat.reduceDiv, Nat.reduceMod, rowsF_length, marks_length, optD_none, optD_some]
  refine Or.elim (Classical.em (z < 0)) (fun hz0 => ?_) fun hz0 => ?_
  · simp only [f4, tb_3, kd_3, tb_4, kd_4, tb_5, kd_5, tb_9, kd_9, tb_26, kd_26, tb_37, kd_37, tb_39, kd_39, tb_52, kd_52, tb_71, kd_71, pts_12, pts_13, pts_14, pts_15, pts_16, pts_17, pts_18, md_12_0, md_12_1, md_13_0, md_13_1, md_14_0, md_15_0, md_15_1, md_16_0, md_16_1, md_17_0, md_17_1, md_18_0, md_18_1, go_sem, cfg, Nat.reduceLeDiff, Nat.reduceLT, Nat.reduceAdd, Nat.reduceSub, Nat.reduceMul, Nat.reduceBEq, Nat.reduceBNe, Nat.reduceEqDiff, reduceCtorEq, reduceIte, Int.reduceLT, Int.reduceLE, Int.reduceAdd, Int.reduceSub, Int.reduceNeg, Int.reduceEq, Int.reduceBEq, Int.reduceBNe, Int.reduceToNat, Nat.reduceDiv, Nat.reduceMod, rowsF_length, marks_length, optD_none, optD_some, hz0]
    exact fin0 (.inr rfl) rfl rfl rfl rfl
  have hm := hz hz0
  have hs : l.length ≤ 9223372036854775807 := hl.1
  have h14 := c14 l hl hm
  have h13 := c13 l hl name hn
  have h15 := c15 l hl name hn
  have hlen : ∀ x, addB l name = some x → x.length ≤ 20 := fun x h => addB_len h
  have hll : (l == l) = true := by simp
  have h16 := c16 l l hs hs
  rw [hll] at h16
  have h17 := c17 l hm 1 (by decide) (by decide)
  have hk : ¬ ((1 + 2 * l.length : Nat) : Int) < 0 := by omega
  simp only [f4, tb_3, kd_3, tb_4, kd_4, tb_5, kd_5, tb_9, kd_9, tb_26, kd_26, tb_37, kd_37, tb_39, kd_39, tb_52, kd_52, tb_71, kd_71, pts_12, pts_13, pts_14, pts_15, pts_16, pts_17, pts_18, md_12_0, md_12_1, md_13_0, md_13_1, md_14_0, md_15_0, md_15_1, md_16_0, md_16_1, md_17_0, md_17_1, md_18_0, md_18_1, go_sem, cfg, Nat.reduceLeDiff, Nat.reduceLT, Nat.reduceAdd, Nat.reduceSub, Nat.reduceMul, Nat.reduceBEq, Nat.reduceBNe, Nat.reduceEqDiff, reduceCtorEq, reduceIte, Int.reduceLT, Int.reduceLE, Int.reduceAdd, Int.reduceSub, Int.reduceNeg, Int.reduceEq, Int.reduceBEq, Int.reduceBNe, Int.reduceToNat, Nat.reduceDiv, Nat.reduceMod, rowsF_length, marks_length, optD_none, optD_some, hz0]
  generalize addB l name = r at h13 h15 hlen
  cases r with
  | none =>
    have h16n : Sem prog 16 ⟨[.imm 57 [], .imm 57 []], [none, none]⟩ ⟨[.dead, .dead, .v (vB true)], [none, none]⟩ := c16 [] [] (by decide) (by decide)
    have h17n : Sem prog 17 ⟨[.own 57 [], .v (vI 1)], [none, none]⟩ ⟨[.own 57 [], .dead, .v (vI 1)], [none, none]⟩ := c17 [] (by decide) 1 (by decide) (by decide)
    have h18n : Sem prog 18 ⟨[.imm 57 [], .v (vI 1)], [none, none]⟩ ⟨[.dead, .dead, .v (vI 1)], [none, none]⟩ := c18 0 (by decide) 1 (by decide) (by decide)
    refine ev_call (h14) (retW0 rfl rfl rfl rfl) ?_
    simp only [f4, tb_3, kd_3, tb_4, kd_4, tb_5, kd_5, tb_9, kd_9, tb_26, kd_26, tb_37, kd_37, tb_39, kd_39, tb_52, kd_52, tb_71, kd_71, pts_12, pts_13, pts_14, pts_15, pts_16, pts_17, pts_18, md_12_0, md_12_1, md_13_0, md_13_1, md_14_0, md_15_0, md_15_1, md_16_0, md_16_1, md_17_0, md_17_1, md_18_0, md_18_1, go_sem, cfg, Nat.reduceLeDiff, Nat.reduceLT, Nat.reduceAdd, Nat.reduceSub, Nat.reduceMul, Nat.reduceBEq, Nat.reduceBNe, Nat.reduceEqDiff, reduceCtorEq, reduceIte, Int.reduceLT, Int.reduceLE, Int.reduceAdd, Int.reduceSub, Int.reduceNeg, Int.reduceEq, Int.reduceBEq, Int.reduceBNe, Int.reduceToNat, Nat.reduceDiv, Nat.reduceMod, rowsF_length, marks_length, optD_none, optD_some, hk]
    refine ev_call (h13) (retW0 rfl rfl rfl rfl) ?_
    simp only [f4, tb_3, kd_3, tb_4, kd_4, tb_5, kd_5, tb_9, kd_9, tb_26, kd_26, tb_37, kd_37, tb_39, kd_39, tb_52, kd_52, tb_71, kd_71, pts_12, pts_13, pts_14, pts_15, pts_16, pts_17, pts_18, md_12_0, md_12_1, md_13_0, md_13_1, md_14_0, md_15_0, md_15_1, md_16_0, md_16_1, md_17_0, md_17_1, md_18_0, md_18_1, go_sem, cfg, Nat.reduceLeDiff, Nat.reduceLT, Nat.reduceAdd, Nat.reduceSub, Nat.reduceMul, Nat.reduceBEq, Nat.reduceBNe, Nat.reduceEqDiff, reduceCtorEq, reduceIte, Int.reduceLT, Int.reduceLE, Int.reduceAdd, Int.reduceSub, Int.reduceNeg, Int.reduceEq, Int.reduceBEq, Int.reduceBNe, Int.reduceToNat, Nat.reduceDiv, Nat.reduceMod, rowsF_length, marks_length, optD_none, optD_some, hk]
    refine ev_call (h14) (retW0 rfl rfl rfl rfl) ?_
    simp only [f4, tb_3, kd_3, tb_4, kd_4, tb_5, kd_5, tb_9, kd_9, tb_26, kd_26, tb_37, kd_37, tb_39, kd_39, tb_52, kd_52, tb_71, kd_71, pts_12, pts_13, pts_14, pts_15, pts_16, pts_17, pts_18, md_12_0, md_12_1, md_13_0, md_13_1, md_14_0, md_15_0, md_15_1, md_16_0, md_16_1, md_17_0, md_17_1, md_18_0, md_18_1, go_sem, cfg, Nat.reduceLeDiff, Nat.reduceLT, Nat.reduceAdd, Nat.reduceSub, Nat.reduceMul, Nat.reduceBEq, Nat.reduceBNe, Nat.reduceEqDiff, reduceCtorEq, reduceIte, Int.reduceLT, Int.reduceLE, Int.reduceAdd, Int.reduceSub, Int.reduceNeg, Int.reduceEq, Int.reduceBEq, Int.reduceBNe, Int.reduceToNat, Nat.reduceDiv, Nat.reduceMod, rowsF_length, marks_length, optD_none, optD_some, hk]
    refine ev_call (h15) (retW0 rfl rfl rfl rfl) ?_
    simp only [f4, tb_3, kd_3, tb_4, kd_4, tb_5, kd_5, tb_9, kd_9, tb_26, kd_26, tb_37, kd_37, tb_39, kd_39, tb_52, kd_52, tb_71, kd_71, pts_12, pts_13, pts_14, pts_15, pts_16, pts_17, pts_18, md_12_0, md_12_1, md_13_0, md_13_1, md_14_0, md_15_0, md_15_1, md_16_0, md_16_1, md_17_0, md_17_1, md_18_0, md_18_1, go_sem, cfg, Nat.reduceLeDiff, Nat.reduceLT, Nat.reduceAdd, Nat.reduceSub, Nat.reduceMul, Nat.reduceBEq, Nat.reduceBNe, Nat.reduceEqDiff, reduceCtorEq, reduceIte, Int.reduceLT, Int.reduceLE, Int.reduceAdd, Int.reduceSub, Int.reduceNeg, Int.reduceEq, Int.reduceBEq, Int.reduceBNe, Int.reduceToNat, Nat.reduceDiv, Nat.reduceMod, rowsF_length, marks_length, optD_none, optD_some, hk]
    refine ev_call (h16n) (retW0 rfl rfl rfl rfl) ?_
    simp only [f4, tb_3, kd_3, tb_4, kd_4, tb_5, kd_5, tb_9, kd_9, tb_26, kd_26, tb_37, kd_37, tb_39, kd_39, tb_52, kd_52, tb_71, kd_71, pts_12, pts_13, pts_14, pts_15, pts_16, pts_17, pts_18, md_12_0, md_12_1, md_13_0, md_13_1, md_14_0, md_15_0, md_15_1, md_16_0, md_16_1, md_17_0, md_17_1, md_18_0, md_18_1, go_sem, cfg, Nat.reduceLeDiff, Nat.reduceLT, Nat.reduceAdd, Nat.reduceSub, Nat.reduceMul, Nat.reduceBEq, Nat.reduceBNe, Nat.reduceEqDiff, reduceCtorEq, reduceIte, Int.reduceLT, Int.reduceLE, Int.reduceAdd, Int.reduceSub, Int.reduceNeg, Int.reduceEq, Int.reduceBEq, Int.reduceBNe, Int.reduceToNat, Nat.reduceDiv, Nat.reduceMod, rowsF_length, marks_length, optD_none, optD_some, hk]
    refine ev_call (h14) (retW0 rfl rfl rfl rfl) ?_
    simp only [f4, tb_3, kd_3, tb_4, kd_4, tb_5, kd_5, tb_9, kd_9, tb_26, kd_26, tb_37, kd_37, tb_39, kd_39, tb_52, kd_52, tb_71, kd_71, pts_12, pts_13, pts_14, pts_15, pts_16, pts_17, pts_18, md_12_0, md_12_1, md_13_0, md_13_1, md_14_0, md_15_0, md_15_1, md_16_0, md_16_1, md_17_0, md_17_1, md_18_0, md_18_1, go_sem, cfg, Nat.reduceLeDiff, Nat.reduceLT, Nat.reduceAdd, Nat.reduceSub, Nat.reduceMul, Nat.reduceBEq, Nat.reduceBNe, Nat.reduceEqDiff, reduceCtorEq, reduceIte, Int.reduceLT, Int.reduceLE, Int.reduceAdd, Int.reduceSub, Int.reduceNeg, Int.reduceEq, Int.reduceBEq, Int.reduceBNe, Int.reduceToNat, Nat.reduceDiv, Nat.reduceMod, rowsF_length, marks_length, optD_none, optD_some, hk]
    refine ev_call (h16) (retW0 rfl rfl rfl rfl) ?_
    simp only [f4, tb_3, kd_3, tb_4, kd_4, tb_5, kd_5, tb_9, kd_9, tb_26, kd_26, tb_37, kd_37, tb_39, kd_39, tb_52, kd_52, tb_71, kd_71, pts_12, pts_13, pts_14, pts_15, pts_16, pts_17, pts_18, md_12_0, md_12_1, md_13_0, md_13_1, md_14_0, md_15_0, md_15_1, md_16_0, md_16_1, md_17_0, md_17_1, md_18_0, md_18_1, go_sem, cfg, Nat.reduceLeDiff, Nat.reduceLT, Nat.reduceAdd, Nat.reduceSub, Nat.reduceMul, Nat.reduceBEq, Nat.reduceBNe, Nat.reduceEqDiff, reduceCtorEq, reduceIte, Int.reduceLT, Int.reduceLE, Int.reduceAdd, Int.reduceSub, Int.reduceNeg, Int.reduceEq, Int.reduceBEq, Int.reduceBNe, Int.reduceToNat, Nat.reduceDiv, Nat.reduceMod, rowsF_length, marks_length, optD_none, optD_some, hk]
    refine ev_call (h17) (retW1 rfl rfl rfl rfl rfl rfl) ?_
    simp only [f4, tb_3, kd_3, tb_4, kd_4, tb_5, kd_5, tb_9, kd_9, tb_26, kd_26, tb_37, kd_37, tb_39, kd_39, tb_52, kd_52, tb_71, kd_71, pts_12, pts_13, pts_14, pts_15, pts_16, pts_17, pts_18, md_12_0, md_12_1, md_13_0, md_13_1, md_14_0, md_15_0, md_15_1, md_16_0, md_16_1, md_17_0, md_17_1, md_18_0, md_18_1, go_sem, cfg, Nat.reduceLeDiff, Nat.reduceLT, Nat.reduceAdd, Nat.reduceSub, Nat.reduceMul, Nat.reduceBEq, Nat.reduceBNe, Nat.reduceEqDiff, reduceCtorEq, reduceIte, Int.reduceLT, Int.reduceLE, Int.reduceAdd, Int.reduceSub, Int.reduceNeg, Int.reduceEq, Int.reduceBEq, Int.reduceBNe, Int.reduceToNat, Nat.reduceDiv, Nat.reduceMod, rowsF_length, marks_length, optD_none, optD_some, hk]
    refine ev_call (h16n) (retW0 rfl rfl rfl rfl) ?_
    simp only [f4, tb_3, kd_3, tb_4, kd_4, tb_5, kd_5, tb_9, kd_9, tb_26, kd_26, tb_37, kd_37, tb_39, kd_39, tb_52, kd_52, tb_71, kd_71, pts_12, pts_13, pts_14, pts_15, pts_16, pts_17, pts_18, md_12_0, md_12_1, md_13_0, md_13_1, md_14_0, md_15_0, md_15_1, md_16_0, md_16_1, md_17_0, md_17_1, md_18_0, md_18_1, go_sem, cfg, Nat.reduceLeDiff, Nat.reduceLT, Nat.reduceAdd, Nat.reduceSub, Nat.reduceMul, Nat.reduceBEq, Nat.reduceBNe, Nat.reduceEqDiff, reduceCtorEq, reduceIte, Int.reduceLT, Int.reduceLE, Int.reduceAdd, Int.reduceSub, Int.reduceNeg, Int.reduceEq, Int.reduceBEq, Int.reduceBNe, Int.reduceToNat, Nat.reduceDiv, Nat.reduceMod, rowsF_length, marks_length, optD_none, optD_some, hk]
    refine ev_call (h17n) (retW0 rfl rfl rfl rfl) ?_
    simp only [f4, tb_3, kd_3, tb_4, kd_4, tb_5, kd_5, tb_9, kd_9, tb_26, kd_26, tb_37, kd_37, tb_39, kd_39, tb_52, kd_52, tb_71, kd_71, pts_12, pts_13, pts_14, pts_15, pts_16, pts_17, pts_18, md_12_0, md_12_1, md_13_0, md_13_1, md_14_0, md_15_0, md_15_1, md_16_0, md_16_1, md_17_0, md_17_1, md_18_0, md_18_1, go_sem, cfg, Nat.reduceLeDiff, Nat.reduceLT, Nat.reduceAdd, Nat.reduceSub, Nat.reduceMul, Nat.reduceBEq, Nat.reduceBNe, Nat.reduceEqDiff, reduceCtorEq, reduceIte, Int.reduceLT, Int.reduceLE, Int.reduceAdd, Int.reduceSub, Int.reduceNeg, Int.reduceEq, Int.reduceBEq, Int.reduceBNe, Int.reduceToNat, Nat.reduceDiv, Nat.reduceMod, rowsF_length, marks_length, optD_none, optD_some, hk]
    refine ev_call (h18n) (retW0 rfl rfl rfl rfl) ?_
    simp only [f4, tb_3, kd_3, tb_4, kd_4, tb_5, kd_5, tb_9, kd_9, tb_26, kd_26, tb_37, kd_37, tb_39, kd_39, tb_52, kd_52, tb_71, kd_71, pts_12, pts_13, pts_14, pts_15, pts_16, pts_17, pts_18, md_12_0, md_12_1, md_13_0, md_13_1, md_14_0, md_15_0, md_15_1, md_16_0, md_16_1, md_17_0, md_17_1, md_18_0, md_18_1, go_sem, cfg, Nat.reduceLeDiff, Nat.reduceLT, Nat.reduceAdd, Nat.reduceSub, Nat.reduceMul, Nat.reduceBEq, Nat.reduceBNe, Nat.reduceEqDiff, reduceCtorEq, reduceIte, Int.reduceLT, Int.reduceLE, Int.reduceAdd, Int.reduceSub, Int.reduceNeg, Int.reduceEq, Int.reduceBEq, Int.reduceBNe, Int.reduceToNat, Nat.reduceDiv, Nat.reduceMod, rowsF_length, marks_length, optD_none, optD_some, hk]
    refine ev_call (h14) (retW0 rfl rfl rfl rfl) ?_
    simp only [f4, tb_3, kd_3, tb_4, kd_4, tb_5, kd_5, tb_9, kd_9, tb_26, kd_26, tb_37, kd_37, tb_39, kd_39, tb_52, kd_52, tb_71, kd_71, pts_12, pts_13, pts_14, pts_15, pts_16, pts_17, pts_18, md_12_0, md_12_1, md_13_0, md_13_1, md_14_0, md_15_0, md_15_1, md_16_0, md_16_1, md_17_0, md_17_1, md_18_0, md_18_1, go_sem, cfg, Nat.reduceLeDiff, Nat.reduceLT, Nat.reduceAdd, Nat.reduceSub, Nat.reduceMul, Nat.reduceBEq, Nat.reduceBNe, Nat.reduceEqDiff, reduceCtorEq, reduceIte, Int.reduceLT, Int.reduceLE, Int.reduceAdd, Int.reduceSub, Int.reduceNeg, Int.reduceEq, Int.reduceBEq, Int.reduceBNe, Int.reduceToNat, Nat.reduceDiv, Nat.reduceMod, rowsF_length, marks_length, optD_none, optD_some, hk]
    refine ev_call (h15) (retW0 rfl rfl rfl rfl) ?_
    simp only [f4, tb_3, kd_3, tb_4, kd_4, tb_5, kd_5, tb_9, kd_9, tb_26, kd_26, tb_37, kd_37, tb_39, kd_39, tb_52, kd_52, tb_71, kd_71, pts_12, pts_13, pts_14, pts_15, pts_16, pts_17, pts_18, md_12_0, md_12_1, md_13_0, md_13_1, md_14_0, md_15_0, md_15_1, md_16_0, md_16_1, md_17_0, md_17_1, md_18_0, md_18_1, go_sem, cfg, Nat.reduceLeDiff, Nat.reduceLT, Nat.reduceAdd, Nat.reduceSub, Nat.reduceMul, Nat.reduceBEq, Nat.reduceBNe, Nat.reduceEqDiff, reduceCtorEq, reduceIte, Int.reduceLT, Int.reduceLE, Int.reduceAdd, Int.reduceSub, Int.reduceNeg, Int.reduceEq, Int.reduceBEq, Int.reduceBNe, Int.reduceToNat, Nat.reduceDiv, Nat.reduceMod, rowsF_length, marks_length, optD_none, optD_some, hk]
    refine ev_call (h16n) (retW0 rfl rfl rfl rfl) ?_
    simp only [f4, tb_3, kd_3, tb_4, kd_4, tb_5, kd_5, tb_9, kd_9, tb_26, kd_26, tb_37, kd_37, tb_39, kd_39, tb_52, kd_52, tb_71, kd_71, pts_12, pts_13, pts_14, pts_15, pts_16, pts_17, pts_18, md_12_0, md_12_1, md_13_0, md_13_1, md_14_0, md_15_0, md_15_1, md_16_0, md_16_1, md_17_0, md_17_1, md_18_0, md_18_1, go_sem, cfg, Nat.reduceLeDiff, Nat.reduceLT, Nat.reduceAdd, Nat.reduceSub, Nat.reduceMul, Nat.reduceBEq, Nat.reduceBNe, Nat.reduceEqDiff, reduceCtorEq, reduceIte, Int.reduceLT, Int.reduceLE, Int.reduceAdd, Int.reduceSub, Int.reduceNeg, Int.reduceEq, Int.reduceBEq, Int.reduceBNe, Int.reduceToNat, Nat.reduceDiv, Nat.reduceMod, rowsF_length, marks_length, optD_none, optD_some, hk]
    refine ev_call (h18n) (retW0 rfl rfl rfl rfl) ?_
    simp only [f4, tb_3, kd_3, tb_4, kd_4, tb_5, kd_5, tb_9, kd_9, tb_26, kd_26, tb_37, kd_37, tb_39, kd_39, tb_52, kd_52, tb_71, kd_71, pts_12, pts_13, pts_14, pts_15, pts_16, pts_17, pts_18, md_12_0, md_12_1, md_13_0, md_13_1, md_14_0, md_15_0, md_15_1, md_16_0, md_16_1, md_17_0, md_17_1, md_18_0, md_18_1, go_sem, cfg, Nat.reduceLeDiff, Nat.reduceLT, Nat.reduceAdd, Nat.reduceSub, Nat.reduceMul, Nat.reduceBEq, Nat.reduceBNe, Nat.reduceEqDiff, reduceCtorEq, reduceIte, Int.reduceLT, Int.reduceLE, Int.reduceAdd, Int.reduceSub, Int.reduceNeg, Int.reduceEq, Int.reduceBEq, Int.reduceBNe, Int.reduceToNat, Nat.reduceDiv, Nat.reduceMod, rowsF_length, marks_length, optD_none, optD_some, hk]
    all_goals first | exact fin0 (.inr rfl) rfl rfl rfl rfl | trace_state
  | some x =>
    have hx := hlen x rfl
    have hxx : (x == x) = true := by simp
    have h16x := c16 x x (by omega) (by omega)
    rw [hxx] at h16x
    have h17x := c17 x (by omega) 1 (by decide) (by decide)
    have h18x := c18 x.length (by omega) 1 (by decide) (by decide)
    have hq : ¬ ((1 + 2 * x.length : Nat) : Int) < 0 := by omega
    refine ev_call (h14) (retW0 rfl rfl rfl rfl) ?_
    simp only [f4, tb_3, kd_3, tb_4, kd_4, tb_5, kd_5, tb_9, kd_9, tb_26, kd_26, tb_37, kd_37, tb_39, kd_39, tb_52, kd_52, tb_71, kd_71, pts_12, pts_13, pts_14, pts_15, pts_16, pts_17, pts_18, md_12_0, md_12_1, md_13_0, md_13_1, md_14_0, md_15_0, md_15_1, md_16_0, md_16_1, md_17_0, md_17_1, md_18_0, md_18_1, go_sem, cfg, Nat.reduceLeDiff, Nat.reduceLT, Nat.reduceAdd, Nat.reduceSub, Nat.reduceMul, Nat.reduceBEq, Nat.reduceBNe, Nat.reduceEqDiff, reduceCtorEq, reduceIte, Int.reduceLT, Int.reduceLE, Int.reduceAdd, Int.reduceSub, Int.reduceNeg, Int.reduceEq, Int.reduceBEq, Int.reduceBNe, Int.reduceToNat, Nat.reduceDiv, Nat.reduceMod, rowsF_length, marks_length, optD_none, optD_some, hk, hq]
    refine ev_call (h13) (retW0 rfl rfl rfl rfl) ?_
    simp only [f4, tb_3, kd_3, tb_4, kd_4, tb_5, kd_5, tb_9, kd_9, tb_26, kd_26, tb_37, kd_37, tb_39, kd_39, tb_52, kd_52, tb_71, kd_71, pts_12, pts_13, pts_14, pts_15, pts_16, pts_17, pts_18, md_12_0, md_12_1, md_13_0, md_13_1, md_14_0, md_15_0, md_15_1, md_16_0, md_16_1, md_17_0, md_17_1, md_18_0, md_18_1, go_sem, cfg, Nat.reduceLeDiff, Nat.reduceLT, Nat.reduceAdd, Nat.reduceSub, Nat.reduceMul, Nat.reduceBEq, Nat.reduceBNe, Nat.reduceEqDiff, reduceCtorEq, reduceIte, Int.reduceLT, Int.reduceLE, Int.reduceAdd, Int.reduceSub, Int.reduceNeg, Int.reduceEq, Int.reduceBEq, Int.reduceBNe, Int.reduceToNat, Nat.reduceDiv, Nat.reduceMod, rowsF_length, marks_length, optD_none, optD_some, hk, hq]
    refine ev_call (h14) (retW0 rfl rfl rfl rfl) ?_
    simp only [f4, tb_3, kd_3, tb_4, kd_4, tb_5, kd_5, tb_9, kd_9, tb_26, kd_26, tb_37, kd_37, tb_39, kd_39, tb_52, kd_52, tb_71, kd_71, pts_12, pts_13, pts_14, pts_15, pts_16, pts_17, pts_18, md_12_0, md_12_1, md_13_0, md_13_1, md_14_0, md_15_0, md_15_1, md_16_0, md_16_1, md_17_0, md_17_1, md_18_0, md_18_1, go_sem, cfg, Nat.reduceLeDiff, Nat.reduceLT, Nat.reduceAdd, Nat.reduceSub, Nat.reduceMul, Nat.reduceBEq, Nat.reduceBNe, Nat.reduceEqDiff, reduceCtorEq, reduceIte, Int.reduceLT, Int.reduceLE, Int.reduceAdd, Int.reduceSub, Int.reduceNeg, Int.reduceEq, Int.reduceBEq, Int.reduceBNe, Int.reduceToNat, Nat.reduceDiv, Nat.reduceMod, rowsF_length, marks_length, optD_none, optD_some, hk, hq]
    refine ev_call (h15) (retW0 rfl rfl rfl rfl) ?_
    simp only [f4, tb_3, kd_3, tb_4, kd_4, tb_5, kd_5, tb_9, kd_9, tb_26, kd_26, tb_37, kd_37, tb_39, kd_39, tb_52, kd_52, tb_71, kd_71, pts_12, pts_13, pts_14, pts_15, pts_16, pts_17, pts_18, md_12_0, md_12_1, md_13_0, md_13_1, md_14_0, md_15_0, md_15_1, md_16_0, md_16_1, md_17_0, md_17_1, md_18_0, md_18_1, go_sem, cfg, Nat.reduceLeDiff, Nat.reduceLT, Nat.reduceAdd, Nat.reduceSub, Nat.reduceMul, Nat.reduceBEq, Nat.reduceBNe, Nat.reduceEqDiff, reduceCtorEq, reduceIte, Int.reduceLT, Int.reduceLE, Int.reduceAdd, Int.reduceSub, Int.reduceNeg, Int.reduceEq, Int.reduceBEq, Int.reduceBNe, Int.reduceToNat, Nat.reduceDiv, Nat.reduceMod, rowsF_length, marks_length, optD_none, optD_some, hk, hq]
    refine ev_call (h16x) (retW0 rfl rfl rfl rfl) ?_
    simp only [f4, tb_3, kd_3, tb_4, kd_4, tb_5, kd_5, tb_9, kd_9, tb_26, kd_26, tb_37, kd_37, tb_39, kd_39, tb_52, kd_52, tb_71, kd_71, pts_12, pts_13, pts_14, pts_15, pts_16, pts_17, pts_18, md_12_0, md_12_1, md_13_0, md_13_1, md_14_0, md_15_0, md_15_1, md_16_0, md_16_1, md_17_0, md_17_1, md_18_0, md_18_1, go_sem, cfg, Nat.reduceLeDiff, Nat.reduceLT, Nat.reduceAdd, Nat.reduceSub, Nat.reduceMul, Nat.reduceBEq, Nat.reduceBNe, Nat.reduceEqDiff, reduceCtorEq, reduceIte, Int.reduceLT, Int.reduceLE, Int.reduceAdd, Int.reduceSub, Int.reduceNeg, Int.reduceEq, Int.reduceBEq, Int.reduceBNe, Int.reduceToNat, Nat.reduceDiv, Nat.reduceMod, rowsF_length, marks_length, optD_none, optD_some, hk, hq]
    refine ev_call (h14) (retW0 rfl rfl rfl rfl) ?_
    simp only [f4, tb_3, kd_3, tb_4, kd_4, tb_5, kd_5, tb_9, kd_9, tb_26, kd_26, tb_37, kd_37, tb_39, kd_39, tb_52, kd_52, tb_71, kd_71, pts_12, pts_13, pts_14, pts_15, pts_16, pts_17, pts_18, md_12_0, md_12_1, md_13_0, md_13_1, md_14_0, md_15_0, md_15_1, md_16_0, md_16_1, md_17_0, md_17_1, md_18_0, md_18_1, go_sem, cfg, Nat.reduceLeDiff, Nat.reduceLT, Nat.reduceAdd, Nat.reduceSub, Nat.reduceMul, Nat.reduceBEq, Nat.reduceBNe, Nat.reduceEqDiff, reduceCtorEq, reduceIte, Int.reduceLT, Int.reduceLE, Int.reduceAdd, Int.reduceSub, Int.reduceNeg, Int.reduceEq, Int.reduceBEq, Int.reduceBNe, Int.reduceToNat, Nat.reduceDiv, Nat.reduceMod, rowsF_length, marks_length, optD_none, optD_some, hk, hq]
    refine ev_call (h16) (retW0 rfl rfl rfl rfl) ?_
    simp only [f4, tb_3, kd_3, tb_4, kd_4, tb_5, kd_5, tb_9, kd_9, tb_26, kd_26, tb_37, kd_37, tb_39, kd_39, tb_52, kd_52, tb_71, kd_71, pts_12, pts_13, pts_14, pts_15, pts_16, pts_17, pts_18, md_12_0, md_12_1, md_13_0, md_13_1, md_14_0, md_15_0, md_15_1, md_16_0, md_16_1, md_17_0, md_17_1, md_18_0, md_18_1, go_sem, cfg, Nat.reduceLeDiff, Nat.reduceLT, Nat.reduceAdd, Nat.reduceSub, Nat.reduceMul, Nat.reduceBEq, Nat.reduceBNe, Nat.reduceEqDiff, reduceCtorEq, reduceIte, Int.reduceLT, Int.reduceLE, Int.reduceAdd, Int.reduceSub, Int.reduceNeg, Int.reduceEq, Int.reduceBEq, Int.reduceBNe, Int.reduceToNat, Nat.reduceDiv, Nat.reduceMod, rowsF_length, marks_length, optD_none, optD_some, hk, hq]
    refine ev_call (h17) (retW1 rfl rfl rfl rfl rfl rfl) ?_
    simp only [f4, tb_3, kd_3, tb_4, kd_4, tb_5, kd_5, tb_9, kd_9, tb_26, kd_26, tb_37, kd_37, tb_39, kd_39, tb_52, kd_52, tb_71, kd_71, pts_12, pts_13, pts_14, pts_15, pts_16, pts_17, pts_18, md_12_0, md_12_1, md_13_0, md_13_1, md_14_0, md_15_0, md_15_1, md_16_0, md_16_1, md_17_0, md_17_1, md_18_0, md_18_1, go_sem, cfg, Nat.reduceLeDiff, Nat.reduceLT, Nat.reduceAdd, Nat.reduceSub, Nat.reduceMul, Nat.reduceBEq, Nat.reduceBNe, Nat.reduceEqDiff, reduceCtorEq, reduceIte, Int.reduceLT, Int.reduceLE, Int.reduceAdd, Int.reduceSub, Int.reduceNeg, Int.reduceEq, Int.reduceBEq, Int.reduceBNe, Int.reduceToNat, Nat.reduceDiv, Nat.reduceMod, rowsF_length, marks_length, optD_none, optD_some, hk, hq]
    refine ev_call (h16x) (retW0 rfl rfl rfl rfl) ?_
    simp only [f4, tb_3, kd_3, tb_4, kd_4, tb_5, kd_5, tb_9, kd_9, tb_26, kd_26, tb_37, kd_37, tb_39, kd_39, tb_52, kd_52, tb_71, kd_71, pts_12, pts_13, pts_14, pts_15, pts_16, pts_17, pts_18, md_12_0, md_12_1, md_13_0, md_13_1, md_14_0, md_15_0, md_15_1, md_16_0, md_16_1, md_17_0, md_17_1, md_18_0, md_18_1, go_sem, cfg, Nat.reduceLeDiff, Nat.reduceLT, Nat.reduceAdd, Nat.reduceSub, Nat.reduceMul, Nat.reduceBEq, Nat.reduceBNe, Nat.reduceEqDiff, reduceCtorEq, reduceIte, Int.reduceLT, Int.reduceLE, Int.reduceAdd, Int.reduceSub, Int.reduceNeg, Int.reduceEq, Int.reduceBEq, Int.reduceBNe, Int.reduceToNat, Nat.reduceDiv, Nat.reduceMod, rowsF_length, marks_length, optD_none, optD_some, hk, hq]
    refine ev_call (h17x) (retW1 rfl rfl rfl rfl rfl rfl) ?_
    simp only [f4, tb_3, kd_3, tb_4, kd_4, tb_5, kd_5, tb_9, kd_9, tb_26, kd_26, tb_37, kd_37, tb_39, kd_39, tb_52, kd_52, tb_71, kd_71, pts_12, pts_13, pts_14, pts_15, pts_16, pts_17, pts_18, md_12_0, md_12_1, md_13_0, md_13_1, md_14_0, md_15_0, md_15_1, md_16_0, md_16_1, md_17_0, md_17_1, md_18_0, md_18_1, go_sem, cfg, Nat.reduceLeDiff, Nat.reduceLT, Nat.reduceAdd, Nat.reduceSub, Nat.reduceMul, Nat.reduceBEq, Nat.reduceBNe, Nat.reduceEqDiff, reduceCtorEq, reduceIte, Int.reduceLT, Int.reduceLE, Int.reduceAdd, Int.reduceSub, Int.reduceNeg, Int.reduceEq, Int.reduceBEq, Int.reduceBNe, Int.reduceToNat, Nat.reduceDiv, Nat.reduceMod, rowsF_length, marks_length, optD_none, optD_some, hk, hq]
    refine ev_call (h18x) (retW0 rfl rfl rfl rfl) ?_
    simp only [f4, tb_3, kd_3, tb_4, kd_4, tb_5, kd_5, tb_9, kd_9, tb_26, kd_26, tb_37, kd_37, tb_39, kd_39, tb_52, kd_52, tb_71, kd_71, pts_12, pts_13, pts_14, pts_15, pts_16, pts_17, pts_18, md_12_0, md_12_1, md_13_0, md_13_1, md_14_0, md_15_0, md_15_1, md_16_0, md_16_1, md_17_0, md_17_1, md_18_0, md_18_1, go_sem, cfg, Nat.reduceLeDiff, Nat.reduceLT, Nat.reduceAdd, Nat.reduceSub, Nat.reduceMul, Nat.reduceBEq, Nat.reduceBNe, Nat.reduceEqDiff, reduceCtorEq, reduceIte, Int.reduceLT, Int.reduceLE, Int.reduceAdd, Int.reduceSub, Int.reduceNeg, Int.reduceEq, Int.reduceBEq, Int.reduceBNe, Int.reduceToNat, Nat.reduceDiv, Nat.reduceMod, rowsF_length, marks_length, optD_none, optD_some, hk, hq]
    refine ev_call (h14) (retW0 rfl rfl rfl rfl) ?_
    simp only [f4, tb_3, kd_3, tb_4, kd_4, tb_5, kd_5, tb_9, kd_9, tb_26, kd_26, tb_37, kd_37, tb_39, kd_39, tb_52, kd_52, tb_71, kd_71, pts_12, pts_13, pts_14, pts_15, pts_16, pts_17, pts_18, md_12_0, md_12_1, md_13_0, md_13_1, md_14_0, md_15_0, md_15_1, md_16_0, md_16_1, md_17_0, md_17_1, md_18_0, md_18_1, go_sem, cfg, Nat.reduceLeDiff, Nat.reduceLT, Nat.reduceAdd, Nat.reduceSub, Nat.reduceMul, Nat.reduceBEq, Nat.reduceBNe, Nat.reduceEqDiff, reduceCtorEq, reduceIte, Int.reduceLT, Int.reduceLE, Int.reduceAdd, Int.reduceSub, Int.reduceNeg, Int.reduceEq, Int.reduceBEq, Int.reduceBNe, Int.reduceToNat, Nat.reduceDiv, Nat.reduceMod, rowsF_length, marks_length, optD_none, optD_some, hk, hq]
    refine ev_call (h15) (retW0 rfl rfl rfl rfl) ?_
    simp only [f4, tb_3, kd_3, tb_4, kd_4, tb_5, kd_5, tb_9, kd_9, tb_26, kd_26, tb_37, kd_37, tb_39, kd_39, tb_52, kd_52, tb_71, kd_71, pts_12, pts_13, pts_14, pts_15, pts_16, pts_17, pts_18, md_12_0, md_12_1, md_13_0, md_13_1, md_14_0, md_15_0, md_15_1, md_16_0, md_16_1, md_17_0, md_17_1, md_18_0, md_18_1, go_sem, cfg, Nat.reduceLeDiff, Nat.reduceLT, Nat.reduceAdd, Nat.reduceSub, Nat.reduceMul, Nat.reduceBEq, Nat.reduceBNe, Nat.reduceEqDiff, reduceCtorEq, reduceIte, Int.reduceLT, Int.reduceLE, Int.reduceAdd, Int.reduceSub, Int.reduceNeg, Int.reduceEq, Int.reduceBEq, Int.reduceBNe, Int.reduceToNat, Nat.reduceDiv, Nat.reduceMod, rowsF_length, marks_length, optD_none, optD_some, hk, hq]
    refine ev_call (h16x) (retW0 rfl rfl rfl rfl) ?_
    simp only [f4, tb_3, kd_3, tb_4, kd_4, tb_5, kd_5, tb_9, kd_9, tb_26, kd_26, tb_37, kd_37, tb_39, kd_39, tb_52, kd_52, tb_71, kd_71, pts_12, pts_13, pts_14, pts_15, pts_16, pts_17, pts_18, md_12_0, md_12_1, md_13_0, md_13_1, md_14_0, md_15_0, md_15_1, md_16_0, md_16_1, md_17_0, md_17_1, md_18_0, md_18_1, go_sem, cfg, Nat.reduceLeDiff, Nat.reduceLT, Nat.reduceAdd, Nat.reduceSub, Nat.reduceMul, Nat.reduceBEq, Nat.reduceBNe, Nat.reduceEqDiff, reduceCtorEq, reduceIte, Int.reduceLT, Int.reduceLE, Int.reduceAdd, Int.reduceSub, Int.reduceNeg, Int.reduceEq, Int.reduceBEq, Int.reduceBNe, Int.reduceToNat, Nat.reduceDiv, Nat.reduceMod, rowsF_length, marks_length, optD_none, optD_some, hk, hq]
    refine ev_call (h18x) (retW0 rfl rfl rfl rfl) ?_
    simp only [f4, tb_3, kd_3, tb_4, kd_4, tb_5, kd_5, tb_9, kd_9, tb_26, kd_26, tb_37, kd_37, tb_39, kd_39, tb_52, kd_52, tb_71, kd_71, pts_12, pts_13, pts_14, pts_15, pts_16, pts_17, pts_18, md_12_0, md_12_1, md_13_0, md_13_1, md_14_0, md_15_0, md_15_1, md_16_0, md_16_1, md_17_0, md_17_1, md_18_0, md_18_1, go_sem, cfg, Nat.reduceLeDiff, Nat.reduceLT, Nat.reduceAdd, Nat.reduceSub, Nat.reduceMul, Nat.reduceBEq, Nat.reduceBNe, Nat.reduceEqDiff, reduceCtorEq, reduceIte, Int.reduceLT, Int.reduceLE, Int.reduceAdd, Int.reduceSub, Int.reduceNeg, Int.reduceEq, Int.reduceBEq, Int.reduceBNe, Int.reduceToNat, Nat.reduceDiv, Nat.reduceMod, rowsF_length, marks_length, optD_none, optD_some, hk, hq]
    all_goals first | exact fin0 (.inr rfl) rfl rfl rfl rfl | trace_state

end Go.Proofs.Ytcnogcachboibaa.Fw
