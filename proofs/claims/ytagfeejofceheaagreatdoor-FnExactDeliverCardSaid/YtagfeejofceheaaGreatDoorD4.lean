/- Texts of the proof: FcI FcJ FcK FcL FcM FdA FdB FdC. -/
import Derived.Shelf.Strings.OnBuilder
import Derived.Test.YtagfeejofceheaaGreatDoorD3
set_option linter.unusedSimpArgs false
set_option linter.unusedVariables false
/- Contracts: values of fields. -/
namespace Go.Proofs.YtagfeejofceheaaGreatDoor.Fw
open Go
open Go.Proofs.Tryz
set_option maxRecDepth 100000
set_option maxHeartbeats 600000
set_option linter.unusedSimpArgs false
set_option linter.unusedVariables false
attribute [local congr] c_bnd c_slot c_cell c_all c_len c_chk c_asm c_opdR c_wp c_pwp c_pOps c_Done c_nx c_blk c_fin c_rowsR c_leafR c_opdsR c_coeLeaf c_coeLeaves c_lendLeaf c_lendLeaves c_coeCapt c_argR c_argsR c_boundR c_partsR c_srcR c_mfgo c_ite c_wpF c_OutF c_pHead c_pDraw
def sd (e : TypeId) (xs : List (List T)) : D := match xs with | [] => .nil | x :: l => .own e (x :: l)
theorem sd_nil {e : TypeId} : sd e [] = .nil := rfl
theorem sd_cons {e : TypeId} {x : List T} {l : List (List T)} : sd e (x :: l) = .own e (x :: l) := rfl
theorem sd_snoc {e : TypeId} {x : List T} {l : List (List T)} : sd e (l ++ [x]) = .own e (l ++ [x]) := by cases l <;> rfl
def rowsS (l : List (List UInt8)) : List (List T) := l.map fun s => [.v (vS s)]
def hitB (name : List UInt8) (p : Fld) : Bool := foldB p.1 == foldB name
def valsB (name : List UInt8) (l : List Fld) : List (List UInt8) := (l.filter (hitB name)).map (·.2)
def withoutB (name : List UInt8) (l : List Fld) : List Fld := l.filter fun p => !hitB name p
theorem rowsS_snoc {l : List (List UInt8)} {s : List UInt8} : rowsS (l ++ [s]) = rowsS l ++ [[.v (vS s)]] := by simp [rowsS]
theorem rowsF_snoc {l : List Fld} {p : Fld} : rowsF (l ++ [p]) = rowsF l ++ [[.v (vS p.1),.v (vS p.2)]] := by simp [rowsF,rowF]
theorem vals_hit {l : List Fld} {name : List UInt8} {i : Nat} (h : i < l.length) (hb : hitB name (l.getD i ([],[])) = true) : valsB name (l.take (i + 1)) = valsB name (l.take i) ++ [(l.getD i ([],[])).2] := by
  rw [take_at (d := ([],[])) h,valsB,List.filter_append]; simp only [List.filter_cons,List.filter_nil,hb,if_true,Bool.false_eq_true,if_false,List.map_cons,List.map_nil,List.append_nil,List.map_append,Bool.not_true,Bool.not_false]; rfl
theorem vals_miss {l : List Fld} {name : List UInt8} {i : Nat} (h : i < l.length) (hb : hitB name (l.getD i ([],[])) = false) : valsB name (l.take (i + 1)) = valsB name (l.take i) := by
  rw [take_at (d := ([],[])) h,valsB,List.filter_append]; simp only [List.filter_cons,List.filter_nil,hb,if_true,Bool.false_eq_true,if_false,List.map_cons,List.map_nil,List.append_nil,List.map_append,Bool.not_true,Bool.not_false]; rfl
theorem wo_hit {l : List Fld} {name : List UInt8} {i : Nat} (h : i < l.length) (hb : hitB name (l.getD i ([],[])) = true) : withoutB name (l.take (i + 1)) = withoutB name (l.take i) := by
  rw [take_at (d := ([],[])) h,withoutB,List.filter_append]; simp only [List.filter_cons,List.filter_nil,hb,if_true,Bool.false_eq_true,if_false,List.map_cons,List.map_nil,List.append_nil,List.map_append,Bool.not_true,Bool.not_false]; rfl
theorem wo_miss {l : List Fld} {name : List UInt8} {i : Nat} (h : i < l.length) (hb : hitB name (l.getD i ([],[])) = false) : withoutB name (l.take (i + 1)) = withoutB name (l.take i) ++ [l.getD i ([],[])] := by
  rw [take_at (d := ([],[])) h,withoutB,List.filter_append]; simp only [List.filter_cons,List.filter_nil,hb,if_true,Bool.false_eq_true,if_false,List.map_cons,List.map_nil,List.append_nil,List.map_append,Bool.not_true,Bool.not_false]; rfl
theorem vals_le (name : List UInt8) (l : List Fld) (i : Nat) : (rowsS (valsB name (l.take i))).length ≤ i := by
  simp only [rowsS,valsB,List.length_map]
  exact Nat.le_trans (List.length_filter_le _ _) (by simp; omega)
theorem wo_le (name : List UInt8) (l : List Fld) (i : Nat) : (rowsF (withoutB name (l.take i))).length ≤ i := by
  rw [rowsF_length]
  exact Nat.le_trans (List.length_filter_le _ _) (by simp; omega)
theorem fields_len {l : List Fld} (h : fieldsB l = true) : l.length ≤ 20 := by
  simp only [fieldsB,Bool.and_eq_true,decide_eq_true_eq] at h; exact h.1
theorem c62 (l : List Fld) (hl : Small l) (name : List UInt8) (hn : name.length ≤ 9223372036854775807) (h : fieldsB l = true) : Sem prog 62 ⟨[.imm 51 (rowsF l),.v (vS name)],[none,none]⟩ ⟨[.dead,.dead,sd 9 (rowsS (valsB name l))],[none,none]⟩ := by
  refine sem_fin (cfg := cfg 2) (ts := [.tm 4]) tbOk func62 rfl rfl rfl rfl (fun t h => by cases h) ?_
  simp only [f62,go_sem,cfg,Nat.reduceLeDiff,Nat.reduceLT,Nat.reduceAdd,Nat.reduceSub,Nat.reduceMul,Nat.reduceBEq,Nat.reduceBNe,Nat.reduceEqDiff,reduceCtorEq,reduceIte,Int.reduceLT,Int.reduceLE,Int.reduceAdd,Int.reduceSub,Int.reduceNeg,Int.reduceEq,Int.reduceBEq,Int.reduceBNe,Int.reduceToNat,Nat.reduceDiv,Nat.reduceMod,rowsF_length,sd_nil,sd_cons,List.length_map,List.length_append,List.nil_append]
  refine ev_call (c24 l hl) (retW0 rfl rfl rfl rfl) ?_
  simp only [f62,go_sem,cfg,Nat.reduceLeDiff,Nat.reduceLT,Nat.reduceAdd,Nat.reduceSub,Nat.reduceMul,Nat.reduceBEq,Nat.reduceBNe,Nat.reduceEqDiff,reduceCtorEq,reduceIte,Int.reduceLT,Int.reduceLE,Int.reduceAdd,Int.reduceSub,Int.reduceNeg,Int.reduceEq,Int.reduceBEq,Int.reduceBNe,Int.reduceToNat,Nat.reduceDiv,Nat.reduceMod,rowsF_length,sd_nil,sd_cons,List.length_map,List.length_append,List.nil_append,h]
  have hs : l.length ≤ 9223372036854775807 := hl.1
  have h20 := fields_len h
  try simp only [f62,go_sem,cfg,Nat.reduceLeDiff,Nat.reduceLT,Nat.reduceAdd,Nat.reduceSub,Nat.reduceMul,Nat.reduceBEq,Nat.reduceBNe,Nat.reduceEqDiff,reduceCtorEq,reduceIte,Int.reduceLT,Int.reduceLE,Int.reduceAdd,Int.reduceSub,Int.reduceNeg,Int.reduceEq,Int.reduceBEq,Int.reduceBNe,Int.reduceToNat,Nat.reduceDiv,Nat.reduceMod,rowsF_length,sd_nil,sd_cons,List.length_map,List.length_append,List.nil_append,hs]
  refine loop_on (fun i : Nat => ⟨[.imm 51 (rowsF l),.v (vS name),.dead,.dead,.nil,sd 9 (rowsS (valsB name (l.take i))),.v (vI i),.dead,.dead,.dead,.dead,.dead,.dead,.dead,.dead,.dead,.dead,.dead,.dead,.dead,.dead,.dead,.dead,.dead,.dead,.dead,.dead,.dead,.dead,.dead,.dead,.dead],List.replicate 32 none⟩) [0,1,4,5,6] (fun i => i ≤ l.length) (fun i => l.length - i) 0 rfl (by omega) ?_
  intro i hi
  have hle := vals_le name l i
  have hmiss := vals_miss (name := name) (l := l) (i := i)
  have hhit := vals_hit (name := name) (l := l) (i := i)
  have hend : i = l.length → valsB name (l.take i) = valsB name l := fun e => by rw [e,List.take_length]
  generalize hacc : rowsS (valsB name (l.take i)) = acc at hle ⊢
  simp only [f62,go_sem,cfg,Nat.reduceLeDiff,Nat.reduceLT,Nat.reduceAdd,Nat.reduceSub,Nat.reduceMul,Nat.reduceBEq,Nat.reduceBNe,Nat.reduceEqDiff,reduceCtorEq,reduceIte,Int.reduceLT,Int.reduceLE,Int.reduceAdd,Int.reduceSub,Int.reduceNeg,Int.reduceEq,Int.reduceBEq,Int.reduceBNe,Int.reduceToNat,Nat.reduceDiv,Nat.reduceMod,rowsF_length,sd_nil,sd_cons,List.length_map,List.length_append,List.nil_append,hs]
  cases acc with
  | nil =>
    try simp only [f62,go_sem,cfg,Nat.reduceLeDiff,Nat.reduceLT,Nat.reduceAdd,Nat.reduceSub,Nat.reduceMul,Nat.reduceBEq,Nat.reduceBNe,Nat.reduceEqDiff,reduceCtorEq,reduceIte,Int.reduceLT,Int.reduceLE,Int.reduceAdd,Int.reduceSub,Int.reduceNeg,Int.reduceEq,Int.reduceBEq,Int.reduceBNe,Int.reduceToNat,Nat.reduceDiv,Nat.reduceMod,rowsF_length,sd_nil,sd_cons,List.length_map,List.length_append,List.nil_append,hs]
    by_cases hc : i < l.length
    · have hw := wrapN hc hs
      have h1 := rowsF_getD hc
      have hsm := hl.at hc
      have hhit := hhit hc
      have hmiss := hmiss hc
      simp only [f62,go_sem,cfg,Nat.reduceLeDiff,Nat.reduceLT,Nat.reduceAdd,Nat.reduceSub,Nat.reduceMul,Nat.reduceBEq,Nat.reduceBNe,Nat.reduceEqDiff,reduceCtorEq,reduceIte,Int.reduceLT,Int.reduceLE,Int.reduceAdd,Int.reduceSub,Int.reduceNeg,Int.reduceEq,Int.reduceBEq,Int.reduceBNe,Int.reduceToNat,Nat.reduceDiv,Nat.reduceMod,rowsF_length,sd_nil,sd_cons,List.length_map,List.length_append,List.nil_append,hs,hc,h1]
      refine ev_call (c88 _ _ hsm.1 hn) (retW0 rfl rfl rfl rfl) ?_
      cases hb : hitB name (l.getD i ([],[]))
      · have hb' : (foldB (l.getD i ([],[])).1 == foldB name) = false := hb
        simp only [f62,go_sem,cfg,Nat.reduceLeDiff,Nat.reduceLT,Nat.reduceAdd,Nat.reduceSub,Nat.reduceMul,Nat.reduceBEq,Nat.reduceBNe,Nat.reduceEqDiff,reduceCtorEq,reduceIte,Int.reduceLT,Int.reduceLE,Int.reduceAdd,Int.reduceSub,Int.reduceNeg,Int.reduceEq,Int.reduceBEq,Int.reduceBNe,Int.reduceToNat,Nat.reduceDiv,Nat.reduceMod,rowsF_length,sd_nil,sd_cons,List.length_map,List.length_append,List.nil_append,hs,hc,h1,hb',hw]
        exact ⟨i + 1,by rw [hmiss hb,hacc]; rfl,hc,by omega⟩
      · have hb' : (foldB (l.getD i ([],[])).1 == foldB name) = true := hb
        simp only [f62,go_sem,cfg,Nat.reduceLeDiff,Nat.reduceLT,Nat.reduceAdd,Nat.reduceSub,Nat.reduceMul,Nat.reduceBEq,Nat.reduceBNe,Nat.reduceEqDiff,reduceCtorEq,reduceIte,Int.reduceLT,Int.reduceLE,Int.reduceAdd,Int.reduceSub,Int.reduceNeg,Int.reduceEq,Int.reduceBEq,Int.reduceBNe,Int.reduceToNat,Nat.reduceDiv,Nat.reduceMod,rowsF_length,sd_nil,sd_cons,List.length_map,List.length_append,List.nil_append,hs,hc,h1,hb',hw]
        have hb1 : (1 : Nat) * 16 ≤ 140737488355328 := by omega
        try simp only [f62,go_sem,cfg,Nat.reduceLeDiff,Nat.reduceLT,Nat.reduceAdd,Nat.reduceSub,Nat.reduceMul,Nat.reduceBEq,Nat.reduceBNe,Nat.reduceEqDiff,reduceCtorEq,reduceIte,Int.reduceLT,Int.reduceLE,Int.reduceAdd,Int.reduceSub,Int.reduceNeg,Int.reduceEq,Int.reduceBEq,Int.reduceBNe,Int.reduceToNat,Nat.reduceDiv,Nat.reduceMod,rowsF_length,sd_nil,sd_cons,List.length_map,List.length_append,List.nil_append,hs,hc,h1,hb',hw,hb1]
        first | exact ⟨i + 1,by rw [hhit hb,rowsS_snoc,hacc]; rfl,hc,by omega⟩ | trace_state
    · have he := hend (by omega)
      rw [he] at hacc
      simp only [f62,go_sem,cfg,Nat.reduceLeDiff,Nat.reduceLT,Nat.reduceAdd,Nat.reduceSub,Nat.reduceMul,Nat.reduceBEq,Nat.reduceBNe,Nat.reduceEqDiff,reduceCtorEq,reduceIte,Int.reduceLT,Int.reduceLE,Int.reduceAdd,Int.reduceSub,Int.reduceNeg,Int.reduceEq,Int.reduceBEq,Int.reduceBNe,Int.reduceToNat,Nat.reduceDiv,Nat.reduceMod,rowsF_length,sd_nil,sd_cons,List.length_map,List.length_append,List.nil_append,hc]
      first | (refine fin0 (.inr rfl) rfl rfl rfl ?_; rw [hacc]; rfl) | trace_state
  | cons x xs =>
    try simp only [f62,go_sem,cfg,Nat.reduceLeDiff,Nat.reduceLT,Nat.reduceAdd,Nat.reduceSub,Nat.reduceMul,Nat.reduceBEq,Nat.reduceBNe,Nat.reduceEqDiff,reduceCtorEq,reduceIte,Int.reduceLT,Int.reduceLE,Int.reduceAdd,Int.reduceSub,Int.reduceNeg,Int.reduceEq,Int.reduceBEq,Int.reduceBNe,Int.reduceToNat,Nat.reduceDiv,Nat.reduceMod,rowsF_length,sd_nil,sd_cons,List.length_map,List.length_append,List.nil_append,hs]
    by_cases hc : i < l.length
    · have hw := wrapN hc hs
      have h1 := rowsF_getD hc
      have hsm := hl.at hc
      have hhit := hhit hc
      have hmiss := hmiss hc
      simp only [f62,go_sem,cfg,Nat.reduceLeDiff,Nat.reduceLT,Nat.reduceAdd,Nat.reduceSub,Nat.reduceMul,Nat.reduceBEq,Nat.reduceBNe,Nat.reduceEqDiff,reduceCtorEq,reduceIte,Int.reduceLT,Int.reduceLE,Int.reduceAdd,Int.reduceSub,Int.reduceNeg,Int.reduceEq,Int.reduceBEq,Int.reduceBNe,Int.reduceToNat,Nat.reduceDiv,Nat.reduceMod,rowsF_length,sd_nil,sd_cons,List.length_map,List.length_append,List.nil_append,hs,hc,h1]
      refine ev_call (c88 _ _ hsm.1 hn) (retW0 rfl rfl rfl rfl) ?_
      cases hb : hitB name (l.getD i ([],[]))
      · have hb' : (foldB (l.getD i ([],[])).1 == foldB name) = false := hb
        simp only [f62,go_sem,cfg,Nat.reduceLeDiff,Nat.reduceLT,Nat.reduceAdd,Nat.reduceSub,Nat.reduceMul,Nat.reduceBEq,Nat.reduceBNe,Nat.reduceEqDiff,reduceCtorEq,reduceIte,Int.reduceLT,Int.reduceLE,Int.reduceAdd,Int.reduceSub,Int.reduceNeg,Int.reduceEq,Int.reduceBEq,Int.reduceBNe,Int.reduceToNat,Nat.reduceDiv,Nat.reduceMod,rowsF_length,sd_nil,sd_cons,List.length_map,List.length_append,List.nil_append,hs,hc,h1,hb',hw]
        exact ⟨i + 1,by rw [hmiss hb,hacc]; rfl,hc,by omega⟩
      · have hb' : (foldB (l.getD i ([],[])).1 == foldB name) = true := hb
        simp only [f62,go_sem,cfg,Nat.reduceLeDiff,Nat.reduceLT,Nat.reduceAdd,Nat.reduceSub,Nat.reduceMul,Nat.reduceBEq,Nat.reduceBNe,Nat.reduceEqDiff,reduceCtorEq,reduceIte,Int.reduceLT,Int.reduceLE,Int.reduceAdd,Int.reduceSub,Int.reduceNeg,Int.reduceEq,Int.reduceBEq,Int.reduceBNe,Int.reduceToNat,Nat.reduceDiv,Nat.reduceMod,rowsF_length,sd_nil,sd_cons,List.length_map,List.length_append,List.nil_append,hs,hc,h1,hb',hw]
        have hb1 : (xs.length + 1 + 1) * 16 ≤ 140737488355328 := by simp only [List.length_cons] at hle; omega
        try simp only [f62,go_sem,cfg,Nat.reduceLeDiff,Nat.reduceLT,Nat.reduceAdd,Nat.reduceSub,Nat.reduceMul,Nat.reduceBEq,Nat.reduceBNe,Nat.reduceEqDiff,reduceCtorEq,reduceIte,Int.reduceLT,Int.reduceLE,Int.reduceAdd,Int.reduceSub,Int.reduceNeg,Int.reduceEq,Int.reduceBEq,Int.reduceBNe,Int.reduceToNat,Nat.reduceDiv,Nat.reduceMod,rowsF_length,sd_nil,sd_cons,List.length_map,List.length_append,List.nil_append,hs,hc,h1,hb',hw,hb1]
        first | exact ⟨i + 1,by rw [hhit hb,rowsS_snoc,hacc]; rfl,hc,by omega⟩ | trace_state
    · have he := hend (by omega)
      rw [he] at hacc
      simp only [f62,go_sem,cfg,Nat.reduceLeDiff,Nat.reduceLT,Nat.reduceAdd,Nat.reduceSub,Nat.reduceMul,Nat.reduceBEq,Nat.reduceBNe,Nat.reduceEqDiff,reduceCtorEq,reduceIte,Int.reduceLT,Int.reduceLE,Int.reduceAdd,Int.reduceSub,Int.reduceNeg,Int.reduceEq,Int.reduceBEq,Int.reduceBNe,Int.reduceToNat,Nat.reduceDiv,Nat.reduceMod,rowsF_length,sd_nil,sd_cons,List.length_map,List.length_append,List.nil_append,hc]
      first | (refine fin0 (.inr rfl) rfl rfl rfl ?_; rw [hacc]; rfl) | trace_state
theorem c68 (l : List Fld) (hl : Small l) (name : List UInt8) (hn : name.length ≤ 9223372036854775807) (h : fieldsB l = true) : Sem prog 68 ⟨[.imm 51 (rowsF l),.v (vS name)],[none,none]⟩ ⟨[.dead,.dead,sd 9 (rowsS (valsB name l))],[none,none]⟩ := by
  refine sem_fin (cfg := cfg 2) (ts := [.tm 4]) tbOk func68 rfl rfl rfl rfl (fun t h => by cases h) ?_
  simp only [f68,go_sem,cfg,Nat.reduceLeDiff,Nat.reduceLT,Nat.reduceAdd,Nat.reduceSub,Nat.reduceMul,Nat.reduceBEq,Nat.reduceBNe,Nat.reduceEqDiff,reduceCtorEq,reduceIte,Int.reduceLT,Int.reduceLE,Int.reduceAdd,Int.reduceSub,Int.reduceNeg,Int.reduceEq,Int.reduceBEq,Int.reduceBNe,Int.reduceToNat,Nat.reduceDiv,Nat.reduceMod,rowsF_length,sd_nil,sd_cons,List.length_map,List.length_append,List.nil_append]
  refine ev_call (c36 l hl) (retW0 rfl rfl rfl rfl) ?_
  simp only [f68,go_sem,cfg,Nat.reduceLeDiff,Nat.reduceLT,Nat.reduceAdd,Nat.reduceSub,Nat.reduceMul,Nat.reduceBEq,Nat.reduceBNe,Nat.reduceEqDiff,reduceCtorEq,reduceIte,Int.reduceLT,Int.reduceLE,Int.reduceAdd,Int.reduceSub,Int.reduceNeg,Int.reduceEq,Int.reduceBEq,Int.reduceBNe,Int.reduceToNat,Nat.reduceDiv,Nat.reduceMod,rowsF_length,sd_nil,sd_cons,List.length_map,List.length_append,List.nil_append,h]
  have hs : l.length ≤ 9223372036854775807 := hl.1
  have h20 := fields_len h
  try simp only [f68,go_sem,cfg,Nat.reduceLeDiff,Nat.reduceLT,Nat.reduceAdd,Nat.reduceSub,Nat.reduceMul,Nat.reduceBEq,Nat.reduceBNe,Nat.reduceEqDiff,reduceCtorEq,reduceIte,Int.reduceLT,Int.reduceLE,Int.reduceAdd,Int.reduceSub,Int.reduceNeg,Int.reduceEq,Int.reduceBEq,Int.reduceBNe,Int.reduceToNat,Nat.reduceDiv,Nat.reduceMod,rowsF_length,sd_nil,sd_cons,List.length_map,List.length_append,List.nil_append,hs]
  refine loop_on (fun i : Nat => ⟨[.imm 51 (rowsF l),.v (vS name),.dead,.dead,.nil,sd 9 (rowsS (valsB name (l.take i))),.dead,.dead,.dead,.dead,.dead,.imm 51 (rowsF l),.v (vI l.length),.v (vI i),.dead,.dead,.dead,.dead,.dead,.dead,.dead,.dead,.dead,.dead,.dead,.dead,.dead,.dead],List.replicate 28 none⟩) [0,1,4,5,11,12,13] (fun i => i ≤ l.length) (fun i => l.length - i) 0 rfl (by omega) ?_
  intro i hi
  have hle := vals_le name l i
  have hmiss := vals_miss (name := name) (l := l) (i := i)
  have hhit := vals_hit (name := name) (l := l) (i := i)
  have hend : i = l.length → valsB name (l.take i) = valsB name l := fun e => by rw [e,List.take_length]
  generalize hacc : rowsS (valsB name (l.take i)) = acc at hle ⊢
  simp only [f68,go_sem,cfg,Nat.reduceLeDiff,Nat.reduceLT,Nat.reduceAdd,Nat.reduceSub,Nat.reduceMul,Nat.reduceBEq,Nat.reduceBNe,Nat.reduceEqDiff,reduceCtorEq,reduceIte,Int.reduceLT,Int.reduceLE,Int.reduceAdd,Int.reduceSub,Int.reduceNeg,Int.reduceEq,Int.reduceBEq,Int.reduceBNe,Int.reduceToNat,Nat.reduceDiv,Nat.reduceMod,rowsF_length,sd_nil,sd_cons,List.length_map,List.length_append,List.nil_append,hs]
  cases acc with
  | nil =>
    try simp only [f68,go_sem,cfg,Nat.reduceLeDiff,Nat.reduceLT,Nat.reduceAdd,Nat.reduceSub,Nat.reduceMul,Nat.reduceBEq,Nat.reduceBNe,Nat.reduceEqDiff,reduceCtorEq,reduceIte,Int.reduceLT,Int.reduceLE,Int.reduceAdd,Int.reduceSub,Int.reduceNeg,Int.reduceEq,Int.reduceBEq,Int.reduceBNe,Int.reduceToNat,Nat.reduceDiv,Nat.reduceMod,rowsF_length,sd_nil,sd_cons,List.length_map,List.length_append,List.nil_append,hs]
    by_cases hc : i < l.length
    · have hw := wrapN hc hs
      have h1 := rowsF_getD hc
      have hsm := hl.at hc
      have hhit := hhit hc
      have hmiss := hmiss hc
      simp only [f68,go_sem,cfg,Nat.reduceLeDiff,Nat.reduceLT,Nat.reduceAdd,Nat.reduceSub,Nat.reduceMul,Nat.reduceBEq,Nat.reduceBNe,Nat.reduceEqDiff,reduceCtorEq,reduceIte,Int.reduceLT,Int.reduceLE,Int.reduceAdd,Int.reduceSub,Int.reduceNeg,Int.reduceEq,Int.reduceBEq,Int.reduceBNe,Int.reduceToNat,Nat.reduceDiv,Nat.reduceMod,rowsF_length,sd_nil,sd_cons,List.length_map,List.length_append,List.nil_append,hs,hc,h1]
      refine ev_call (c91 _ _ hsm.1 hn) (retW0 rfl rfl rfl rfl) ?_
      cases hb : hitB name (l.getD i ([],[]))
      · have hb' : (foldB (l.getD i ([],[])).1 == foldB name) = false := hb
        simp only [f68,go_sem,cfg,Nat.reduceLeDiff,Nat.reduceLT,Nat.reduceAdd,Nat.reduceSub,Nat.reduceMul,Nat.reduceBEq,Nat.reduceBNe,Nat.reduceEqDiff,reduceCtorEq,reduceIte,Int.reduceLT,Int.reduceLE,Int.reduceAdd,Int.reduceSub,Int.reduceNeg,Int.reduceEq,Int.reduceBEq,Int.reduceBNe,Int.reduceToNat,Nat.reduceDiv,Nat.reduceMod,rowsF_length,sd_nil,sd_cons,List.length_map,List.length_append,List.nil_append,hs,hc,h1,hb',hw]
        exact ⟨i + 1,by rw [hmiss hb,hacc]; rfl,hc,by omega⟩
      · have hb' : (foldB (l.getD i ([],[])).1 == foldB name) = true := hb
        simp only [f68,go_sem,cfg,Nat.reduceLeDiff,Nat.reduceLT,Nat.reduceAdd,Nat.reduceSub,Nat.reduceMul,Nat.reduceBEq,Nat.reduceBNe,Nat.reduceEqDiff,reduceCtorEq,reduceIte,Int.reduceLT,Int.reduceLE,Int.reduceAdd,Int.reduceSub,Int.reduceNeg,Int.reduceEq,Int.reduceBEq,Int.reduceBNe,Int.reduceToNat,Nat.reduceDiv,Nat.reduceMod,rowsF_length,sd_nil,sd_cons,List.length_map,List.length_append,List.nil_append,hs,hc,h1,hb',hw]
        have hb1 : (1 : Nat) * 16 ≤ 140737488355328 := by omega
        try simp only [f68,go_sem,cfg,Nat.reduceLeDiff,Nat.reduceLT,Nat.reduceAdd,Nat.reduceSub,Nat.reduceMul,Nat.reduceBEq,Nat.reduceBNe,Nat.reduceEqDiff,reduceCtorEq,reduceIte,Int.reduceLT,Int.reduceLE,Int.reduceAdd,Int.reduceSub,Int.reduceNeg,Int.reduceEq,Int.reduceBEq,Int.reduceBNe,Int.reduceToNat,Nat.reduceDiv,Nat.reduceMod,rowsF_length,sd_nil,sd_cons,List.length_map,List.length_append,List.nil_append,hs,hc,h1,hb',hw,hb1]
        first | exact ⟨i + 1,by rw [hhit hb,rowsS_snoc,hacc]; rfl,hc,by omega⟩ | trace_state
    · have he := hend (by omega)
      rw [he] at hacc
      simp only [f68,go_sem,cfg,Nat.reduceLeDiff,Nat.reduceLT,Nat.reduceAdd,Nat.reduceSub,Nat.reduceMul,Nat.reduceBEq,Nat.reduceBNe,Nat.reduceEqDiff,reduceCtorEq,reduceIte,Int.reduceLT,Int.reduceLE,Int.reduceAdd,Int.reduceSub,Int.reduceNeg,Int.reduceEq,Int.reduceBEq,Int.reduceBNe,Int.reduceToNat,Nat.reduceDiv,Nat.reduceMod,rowsF_length,sd_nil,sd_cons,List.length_map,List.length_append,List.nil_append,hc]
      first | (refine fin0 (.inr rfl) rfl rfl rfl ?_; rw [hacc]; rfl) | trace_state
  | cons x xs =>
    try simp only [f68,go_sem,cfg,Nat.reduceLeDiff,Nat.reduceLT,Nat.reduceAdd,Nat.reduceSub,Nat.reduceMul,Nat.reduceBEq,Nat.reduceBNe,Nat.reduceEqDiff,reduceCtorEq,reduceIte,Int.reduceLT,Int.reduceLE,Int.reduceAdd,Int.reduceSub,Int.reduceNeg,Int.reduceEq,Int.reduceBEq,Int.reduceBNe,Int.reduceToNat,Nat.reduceDiv,Nat.reduceMod,rowsF_length,sd_nil,sd_cons,List.length_map,List.length_append,List.nil_append,hs]
    by_cases hc : i < l.length
    · have hw := wrapN hc hs
      have h1 := rowsF_getD hc
      have hsm := hl.at hc
      have hhit := hhit hc
      have hmiss := hmiss hc
      simp only [f68,go_sem,cfg,Nat.reduceLeDiff,Nat.reduceLT,Nat.reduceAdd,Nat.reduceSub,Nat.reduceMul,Nat.reduceBEq,Nat.reduceBNe,Nat.reduceEqDiff,reduceCtorEq,reduceIte,Int.reduceLT,Int.reduceLE,Int.reduceAdd,Int.reduceSub,Int.reduceNeg,Int.reduceEq,Int.reduceBEq,Int.reduceBNe,Int.reduceToNat,Nat.reduceDiv,Nat.reduceMod,rowsF_length,sd_nil,sd_cons,List.length_map,List.length_append,List.nil_append,hs,hc,h1]
      refine ev_call (c91 _ _ hsm.1 hn) (retW0 rfl rfl rfl rfl) ?_
      cases hb : hitB name (l.getD i ([],[]))
      · have hb' : (foldB (l.getD i ([],[])).1 == foldB name) = false := hb
        simp only [f68,go_sem,cfg,Nat.reduceLeDiff,Nat.reduceLT,Nat.reduceAdd,Nat.reduceSub,Nat.reduceMul,Nat.reduceBEq,Nat.reduceBNe,Nat.reduceEqDiff,reduceCtorEq,reduceIte,Int.reduceLT,Int.reduceLE,Int.reduceAdd,Int.reduceSub,Int.reduceNeg,Int.reduceEq,Int.reduceBEq,Int.reduceBNe,Int.reduceToNat,Nat.reduceDiv,Nat.reduceMod,rowsF_length,sd_nil,sd_cons,List.length_map,List.length_append,List.nil_append,hs,hc,h1,hb',hw]
        exact ⟨i + 1,by rw [hmiss hb,hacc]; rfl,hc,by omega⟩
      · have hb' : (foldB (l.getD i ([],[])).1 == foldB name) = true := hb
        simp only [f68,go_sem,cfg,Nat.reduceLeDiff,Nat.reduceLT,Nat.reduceAdd,Nat.reduceSub,Nat.reduceMul,Nat.reduceBEq,Nat.reduceBNe,Nat.reduceEqDiff,reduceCtorEq,reduceIte,Int.reduceLT,Int.reduceLE,Int.reduceAdd,Int.reduceSub,Int.reduceNeg,Int.reduceEq,Int.reduceBEq,Int.reduceBNe,Int.reduceToNat,Nat.reduceDiv,Nat.reduceMod,rowsF_length,sd_nil,sd_cons,List.length_map,List.length_append,List.nil_append,hs,hc,h1,hb',hw]
        have hb1 : (xs.length + 1 + 1) * 16 ≤ 140737488355328 := by simp only [List.length_cons] at hle; omega
        try simp only [f68,go_sem,cfg,Nat.reduceLeDiff,Nat.reduceLT,Nat.reduceAdd,Nat.reduceSub,Nat.reduceMul,Nat.reduceBEq,Nat.reduceBNe,Nat.reduceEqDiff,reduceCtorEq,reduceIte,Int.reduceLT,Int.reduceLE,Int.reduceAdd,Int.reduceSub,Int.reduceNeg,Int.reduceEq,Int.reduceBEq,Int.reduceBNe,Int.reduceToNat,Nat.reduceDiv,Nat.reduceMod,rowsF_length,sd_nil,sd_cons,List.length_map,List.length_append,List.nil_append,hs,hc,h1,hb',hw,hb1]
        first | exact ⟨i + 1,by rw [hhit hb,rowsS_snoc,hacc]; rfl,hc,by omega⟩ | trace_state
    · have he := hend (by omega)
      rw [he] at hacc
      simp only [f68,go_sem,cfg,Nat.reduceLeDiff,Nat.reduceLT,Nat.reduceAdd,Nat.reduceSub,Nat.reduceMul,Nat.reduceBEq,Nat.reduceBNe,Nat.reduceEqDiff,reduceCtorEq,reduceIte,Int.reduceLT,Int.reduceLE,Int.reduceAdd,Int.reduceSub,Int.reduceNeg,Int.reduceEq,Int.reduceBEq,Int.reduceBNe,Int.reduceToNat,Nat.reduceDiv,Nat.reduceMod,rowsF_length,sd_nil,sd_cons,List.length_map,List.length_append,List.nil_append,hc]
      first | (refine fin0 (.inr rfl) rfl rfl rfl ?_; rw [hacc]; rfl) | trace_state
theorem c63 (l : List Fld) (hl : Small l) (name : List UInt8) (hn : name.length ≤ 9223372036854775807) (h : fieldsB l = true) : Sem prog 63 ⟨[.imm 51 (rowsF l),.v (vS name)],[none,none]⟩ ⟨[.dead,.dead,sd 51 (rowsF (withoutB name l))],[none,none]⟩ := by
  refine sem_fin (cfg := cfg 2) (ts := [.tm 4]) tbOk func63 rfl rfl rfl rfl (fun t h => by cases h) ?_
  simp only [f63,go_sem,cfg,Nat.reduceLeDiff,Nat.reduceLT,Nat.reduceAdd,Nat.reduceSub,Nat.reduceMul,Nat.reduceBEq,Nat.reduceBNe,Nat.reduceEqDiff,reduceCtorEq,reduceIte,Int.reduceLT,Int.reduceLE,Int.reduceAdd,Int.reduceSub,Int.reduceNeg,Int.reduceEq,Int.reduceBEq,Int.reduceBNe,Int.reduceToNat,Nat.reduceDiv,Nat.reduceMod,rowsF_length,sd_nil,sd_cons,List.length_map,List.length_append,List.nil_append]
  refine ev_call (c24 l hl) (retW0 rfl rfl rfl rfl) ?_
  simp only [f63,go_sem,cfg,Nat.reduceLeDiff,Nat.reduceLT,Nat.reduceAdd,Nat.reduceSub,Nat.reduceMul,Nat.reduceBEq,Nat.reduceBNe,Nat.reduceEqDiff,reduceCtorEq,reduceIte,Int.reduceLT,Int.reduceLE,Int.reduceAdd,Int.reduceSub,Int.reduceNeg,Int.reduceEq,Int.reduceBEq,Int.reduceBNe,Int.reduceToNat,Nat.reduceDiv,Nat.reduceMod,rowsF_length,sd_nil,sd_cons,List.length_map,List.length_append,List.nil_append,h]
  have hs : l.length ≤ 9223372036854775807 := hl.1
  have h20 := fields_len h
  try simp only [f63,go_sem,cfg,Nat.reduceLeDiff,Nat.reduceLT,Nat.reduceAdd,Nat.reduceSub,Nat.reduceMul,Nat.reduceBEq,Nat.reduceBNe,Nat.reduceEqDiff,reduceCtorEq,reduceIte,Int.reduceLT,Int.reduceLE,Int.reduceAdd,Int.reduceSub,Int.reduceNeg,Int.reduceEq,Int.reduceBEq,Int.reduceBNe,Int.reduceToNat,Nat.reduceDiv,Nat.reduceMod,rowsF_length,sd_nil,sd_cons,List.length_map,List.length_append,List.nil_append,hs]
  refine loop_on (fun i : Nat => ⟨[.imm 51 (rowsF l),.v (vS name),.dead,.dead,.nil,sd 51 (rowsF (withoutB name (l.take i))),.v (vI i),.dead,.dead,.dead,.dead,.dead,.dead,.dead,.dead,.dead,.dead,.dead,.dead,.dead,.dead,.dead,.dead,.dead,.dead,.dead,.dead,.dead,.dead,.dead,.dead,.dead],List.replicate 32 none⟩) [0,1,4,5,6] (fun i => i ≤ l.length) (fun i => l.length - i) 0 rfl (by omega) ?_
  intro i hi
  have hle := wo_le name l i
  have hmiss := wo_miss (name := name) (l := l) (i := i)
  have hhit := wo_hit (name := name) (l := l) (i := i)
  have hend : i = l.length → withoutB name (l.take i) = withoutB name l := fun e => by rw [e,List.take_length]
  generalize hacc : rowsF (withoutB name (l.take i)) = acc at hle ⊢
  simp only [f63,go_sem,cfg,Nat.reduceLeDiff,Nat.reduceLT,Nat.reduceAdd,Nat.reduceSub,Nat.reduceMul,Nat.reduceBEq,Nat.reduceBNe,Nat.reduceEqDiff,reduceCtorEq,reduceIte,Int.reduceLT,Int.reduceLE,Int.reduceAdd,Int.reduceSub,Int.reduceNeg,Int.reduceEq,Int.reduceBEq,Int.reduceBNe,Int.reduceToNat,Nat.reduceDiv,Nat.reduceMod,rowsF_length,sd_nil,sd_cons,List.length_map,List.length_append,List.nil_append,hs]
  cases acc with
  | nil =>
    try simp only [f63,go_sem,cfg,Nat.reduceLeDiff,Nat.reduceLT,Nat.reduceAdd,Nat.reduceSub,Nat.reduceMul,Nat.reduceBEq,Nat.reduceBNe,Nat.reduceEqDiff,reduceCtorEq,reduceIte,Int.reduceLT,Int.reduceLE,Int.reduceAdd,Int.reduceSub,Int.reduceNeg,Int.reduceEq,Int.reduceBEq,Int.reduceBNe,Int.reduceToNat,Nat.reduceDiv,Nat.reduceMod,rowsF_length,sd_nil,sd_cons,List.length_map,List.length_append,List.nil_append,hs]
    by_cases hc : i < l.length
    · have hw := wrapN hc hs
      have h1 := rowsF_getD hc
      have hsm := hl.at hc
      have hhit := hhit hc
      have hmiss := hmiss hc
      simp only [f63,go_sem,cfg,Nat.reduceLeDiff,Nat.reduceLT,Nat.reduceAdd,Nat.reduceSub,Nat.reduceMul,Nat.reduceBEq,Nat.reduceBNe,Nat.reduceEqDiff,reduceCtorEq,reduceIte,Int.reduceLT,Int.reduceLE,Int.reduceAdd,Int.reduceSub,Int.reduceNeg,Int.reduceEq,Int.reduceBEq,Int.reduceBNe,Int.reduceToNat,Nat.reduceDiv,Nat.reduceMod,rowsF_length,sd_nil,sd_cons,List.length_map,List.length_append,List.nil_append,hs,hc,h1]
      refine ev_call (c88 _ _ hsm.1 hn) (retW0 rfl rfl rfl rfl) ?_
      cases hb : hitB name (l.getD i ([],[]))
      · have hb' : (foldB (l.getD i ([],[])).1 == foldB name) = false := hb
        simp only [f63,go_sem,cfg,Nat.reduceLeDiff,Nat.reduceLT,Nat.reduceAdd,Nat.reduceSub,Nat.reduceMul,Nat.reduceBEq,Nat.reduceBNe,Nat.reduceEqDiff,reduceCtorEq,reduceIte,Int.reduceLT,Int.reduceLE,Int.reduceAdd,Int.reduceSub,Int.reduceNeg,Int.reduceEq,Int.reduceBEq,Int.reduceBNe,Int.reduceToNat,Nat.reduceDiv,Nat.reduceMod,rowsF_length,sd_nil,sd_cons,List.length_map,List.length_append,List.nil_append,hs,hc,h1,hb',hw]
        have hb1 : (1 : Nat) * 32 ≤ 140737488355328 := by omega
        try simp only [f63,go_sem,cfg,Nat.reduceLeDiff,Nat.reduceLT,Nat.reduceAdd,Nat.reduceSub,Nat.reduceMul,Nat.reduceBEq,Nat.reduceBNe,Nat.reduceEqDiff,reduceCtorEq,reduceIte,Int.reduceLT,Int.reduceLE,Int.reduceAdd,Int.reduceSub,Int.reduceNeg,Int.reduceEq,Int.reduceBEq,Int.reduceBNe,Int.reduceToNat,Nat.reduceDiv,Nat.reduceMod,rowsF_length,sd_nil,sd_cons,List.length_map,List.length_append,List.nil_append,hs,hc,h1,hb',hw,hb1]
        first | exact ⟨i + 1,by rw [hmiss hb,rowsF_snoc,hacc]; rfl,hc,by omega⟩ | trace_state
      · have hb' : (foldB (l.getD i ([],[])).1 == foldB name) = true := hb
        simp only [f63,go_sem,cfg,Nat.reduceLeDiff,Nat.reduceLT,Nat.reduceAdd,Nat.reduceSub,Nat.reduceMul,Nat.reduceBEq,Nat.reduceBNe,Nat.reduceEqDiff,reduceCtorEq,reduceIte,Int.reduceLT,Int.reduceLE,Int.reduceAdd,Int.reduceSub,Int.reduceNeg,Int.reduceEq,Int.reduceBEq,Int.reduceBNe,Int.reduceToNat,Nat.reduceDiv,Nat.reduceMod,rowsF_length,sd_nil,sd_cons,List.length_map,List.length_append,List.nil_append,hs,hc,h1,hb',hw]
        exact ⟨i + 1,by rw [hhit hb,hacc]; rfl,hc,by omega⟩
    · have he := hend (by omega)
      rw [he] at hacc
      simp only [f63,go_sem,cfg,Nat.reduceLeDiff,Nat.reduceLT,Nat.reduceAdd,Nat.reduceSub,Nat.reduceMul,Nat.reduceBEq,Nat.reduceBNe,Nat.reduceEqDiff,reduceCtorEq,reduceIte,Int.reduceLT,Int.reduceLE,Int.reduceAdd,Int.reduceSub,Int.reduceNeg,Int.reduceEq,Int.reduceBEq,Int.reduceBNe,Int.reduceToNat,Nat.reduceDiv,Nat.reduceMod,rowsF_length,sd_nil,sd_cons,List.length_map,List.length_append,List.nil_append,hc]
      first | (refine fin0 (.inr rfl) rfl rfl rfl ?_; rw [hacc]; rfl) | trace_state
  | cons x xs =>
    try simp only [f63,go_sem,cfg,Nat.reduceLeDiff,Nat.reduceLT,Nat.reduceAdd,Nat.reduceSub,Nat.reduceMul,Nat.reduceBEq,Nat.reduceBNe,Nat.reduceEqDiff,reduceCtorEq,reduceIte,Int.reduceLT,Int.reduceLE,Int.reduceAdd,Int.reduceSub,Int.reduceNeg,Int.reduceEq,Int.reduceBEq,Int.reduceBNe,Int.reduceToNat,Nat.reduceDiv,Nat.reduceMod,rowsF_length,sd_nil,sd_cons,List.length_map,List.length_append,List.nil_append,hs]
    by_cases hc : i < l.length
    · have hw := wrapN hc hs
      have h1 := rowsF_getD hc
      have hsm := hl.at hc
      have hhit := hhit hc
      have hmiss := hmiss hc
      simp only [f63,go_sem,cfg,Nat.reduceLeDiff,Nat.reduceLT,Nat.reduceAdd,Nat.reduceSub,Nat.reduceMul,Nat.reduceBEq,Nat.reduceBNe,Nat.reduceEqDiff,reduceCtorEq,reduceIte,Int.reduceLT,Int.reduceLE,Int.reduceAdd,Int.reduceSub,Int.reduceNeg,Int.reduceEq,Int.reduceBEq,Int.reduceBNe,Int.reduceToNat,Nat.reduceDiv,Nat.reduceMod,rowsF_length,sd_nil,sd_cons,List.length_map,List.length_append,List.nil_append,hs,hc,h1]
      refine ev_call (c88 _ _ hsm.1 hn) (retW0 rfl rfl rfl rfl) ?_
      cases hb : hitB name (l.getD i ([],[]))
      · have hb' : (foldB (l.getD i ([],[])).1 == foldB name) = false := hb
        simp only [f63,go_sem,cfg,Nat.reduceLeDiff,Nat.reduceLT,Nat.reduceAdd,Nat.reduceSub,Nat.reduceMul,Nat.reduceBEq,Nat.reduceBNe,Nat.reduceEqDiff,reduceCtorEq,reduceIte,Int.reduceLT,Int.reduceLE,Int.reduceAdd,Int.reduceSub,Int.reduceNeg,Int.reduceEq,Int.reduceBEq,Int.reduceBNe,Int.reduceToNat,Nat.reduceDiv,Nat.reduceMod,rowsF_length,sd_nil,sd_cons,List.length_map,List.length_append,List.nil_append,hs,hc,h1,hb',hw]
        have hb1 : (xs.length + 1 + 1) * 32 ≤ 140737488355328 := by simp only [List.length_cons] at hle; omega
        try simp only [f63,go_sem,cfg,Nat.reduceLeDiff,Nat.reduceLT,Nat.reduceAdd,Nat.reduceSub,Nat.reduceMul,Nat.reduceBEq,Nat.reduceBNe,Nat.reduceEqDiff,reduceCtorEq,reduceIte,Int.reduceLT,Int.reduceLE,Int.reduceAdd,Int.reduceSub,Int.reduceNeg,Int.reduceEq,Int.reduceBEq,Int.reduceBNe,Int.reduceToNat,Nat.reduceDiv,Nat.reduceMod,rowsF_length,sd_nil,sd_cons,List.length_map,List.length_append,List.nil_append,hs,hc,h1,hb',hw,hb1]
        first | exact ⟨i + 1,by rw [hmiss hb,rowsF_snoc,hacc]; rfl,hc,by omega⟩ | trace_state
      · have hb' : (foldB (l.getD i ([],[])).1 == foldB name) = true := hb
        simp only [f63,go_sem,cfg,Nat.reduceLeDiff,Nat.reduceLT,Nat.reduceAdd,Nat.reduceSub,Nat.reduceMul,Nat.reduceBEq,Nat.reduceBNe,Nat.reduceEqDiff,reduceCtorEq,reduceIte,Int.reduceLT,Int.reduceLE,Int.reduceAdd,Int.reduceSub,Int.reduceNeg,Int.reduceEq,Int.reduceBEq,Int.reduceBNe,Int.reduceToNat,Nat.reduceDiv,Nat.reduceMod,rowsF_length,sd_nil,sd_cons,List.length_map,List.length_append,List.nil_append,hs,hc,h1,hb',hw]
        exact ⟨i + 1,by rw [hhit hb,hacc]; rfl,hc,by omega⟩
    · have he := hend (by omega)
      rw [he] at hacc
      simp only [f63,go_sem,cfg,Nat.reduceLeDiff,Nat.reduceLT,Nat.reduceAdd,Nat.reduceSub,Nat.reduceMul,Nat.reduceBEq,Nat.reduceBNe,Nat.reduceEqDiff,reduceCtorEq,reduceIte,Int.reduceLT,Int.reduceLE,Int.reduceAdd,Int.reduceSub,Int.reduceNeg,Int.reduceEq,Int.reduceBEq,Int.reduceBNe,Int.reduceToNat,Nat.reduceDiv,Nat.reduceMod,rowsF_length,sd_nil,sd_cons,List.length_map,List.length_append,List.nil_append,hc]
      first | (refine fin0 (.inr rfl) rfl rfl rfl ?_; rw [hacc]; rfl) | trace_state
end Go.Proofs.YtagfeejofceheaaGreatDoor.Fw

/- Contracts: what is kept. -/
namespace Go.Proofs.YtagfeejofceheaaGreatDoor.Fw
open Go
open Go.Proofs.Tryz
set_option maxRecDepth 100000
set_option maxHeartbeats 600000
set_option linter.unusedSimpArgs false
set_option linter.unusedVariables false
attribute [local congr] c_bnd c_slot c_cell c_all c_len c_chk c_asm c_opdR c_wp c_pwp c_pOps c_Done c_nx c_blk c_fin c_rowsR c_leafR c_opdsR c_coeLeaf c_coeLeaves c_lendLeaf c_lendLeaves c_coeCapt c_argR c_argsR c_boundR c_partsR c_srcR c_mfgo c_ite c_wpF c_OutF c_pHead c_pDraw
theorem c96 (a name : List UInt8) (ha : a.length ≤ 9223372036854775807) (hn : name.length ≤ 9223372036854775807) : Sem prog 96 ⟨[.v (vS a),.rptr [.v (vS name)]],[none,none]⟩ ⟨[.dead,.dead,.v (vB (!(foldB a == foldB name)))],[none,none]⟩ := by
  refine sem_fin (cfg := cfg 2) (ts := [.tm 3]) tbOk func96 rfl rfl rfl rfl (fun t h => by cases h) ?_
  simp only [f96,go_sem,cfg,Nat.reduceLeDiff,Nat.reduceLT,Nat.reduceAdd,Nat.reduceSub,Nat.reduceMul,Nat.reduceBEq,Nat.reduceBNe,Nat.reduceEqDiff,reduceCtorEq,reduceIte,Int.reduceLT,Int.reduceLE,Int.reduceAdd,Int.reduceSub,Int.reduceNeg,Int.reduceEq,Int.reduceBEq,Int.reduceBNe,Int.reduceToNat,Nat.reduceDiv,Nat.reduceMod, *]
  repeat' ((first | refine ev_call (c91 _ _ ha hn) (retW0 rfl rfl rfl rfl) ?_ | with_reducible intro _ | split) <;> (try simp only [f96,go_sem,cfg,Nat.reduceLeDiff,Nat.reduceLT,Nat.reduceAdd,Nat.reduceSub,Nat.reduceMul,Nat.reduceBEq,Nat.reduceBNe,Nat.reduceEqDiff,reduceCtorEq,reduceIte,Int.reduceLT,Int.reduceLE,Int.reduceAdd,Int.reduceSub,Int.reduceNeg,Int.reduceEq,Int.reduceBEq,Int.reduceBNe,Int.reduceToNat,Nat.reduceDiv,Nat.reduceMod, *]))
  all_goals
    exact fin0 (.inr rfl) rfl rfl rfl rfl
theorem c49 (l : List Fld) (hl : Small l) (name : List UInt8) (hn : name.length ≤ 9223372036854775807) (h : fieldsB l = true) : Sem prog 49 ⟨[.imm 51 (rowsF l),.clo 96 [.rptr [.v (vS name)]]],[none,none]⟩ ⟨[.dead,.dead,sd 51 (rowsF (withoutB name l))],[none,none]⟩ := by
  refine sem_fin (cfg := cfg 2) (ts := [.tm 4]) tbOk func49 rfl rfl rfl rfl (fun t h => by cases h) ?_
  simp only [f49,go_sem,cfg,Nat.reduceLeDiff,Nat.reduceLT,Nat.reduceAdd,Nat.reduceSub,Nat.reduceMul,Nat.reduceBEq,Nat.reduceBNe,Nat.reduceEqDiff,reduceCtorEq,reduceIte,Int.reduceLT,Int.reduceLE,Int.reduceAdd,Int.reduceSub,Int.reduceNeg,Int.reduceEq,Int.reduceBEq,Int.reduceBNe,Int.reduceToNat,Nat.reduceDiv,Nat.reduceMod,rowsF_length,sd_nil,sd_cons,List.length_map,List.length_append,List.nil_append,md_96_1]
  refine ev_call (c36 l hl) (retW0 rfl rfl rfl rfl) ?_
  simp only [f49,go_sem,cfg,Nat.reduceLeDiff,Nat.reduceLT,Nat.reduceAdd,Nat.reduceSub,Nat.reduceMul,Nat.reduceBEq,Nat.reduceBNe,Nat.reduceEqDiff,reduceCtorEq,reduceIte,Int.reduceLT,Int.reduceLE,Int.reduceAdd,Int.reduceSub,Int.reduceNeg,Int.reduceEq,Int.reduceBEq,Int.reduceBNe,Int.reduceToNat,Nat.reduceDiv,Nat.reduceMod,rowsF_length,sd_nil,sd_cons,List.length_map,List.length_append,List.nil_append,h]
  have hs : l.length ≤ 9223372036854775807 := hl.1
  have h20 := fields_len h
  try simp only [f49,go_sem,cfg,Nat.reduceLeDiff,Nat.reduceLT,Nat.reduceAdd,Nat.reduceSub,Nat.reduceMul,Nat.reduceBEq,Nat.reduceBNe,Nat.reduceEqDiff,reduceCtorEq,reduceIte,Int.reduceLT,Int.reduceLE,Int.reduceAdd,Int.reduceSub,Int.reduceNeg,Int.reduceEq,Int.reduceBEq,Int.reduceBNe,Int.reduceToNat,Nat.reduceDiv,Nat.reduceMod,rowsF_length,sd_nil,sd_cons,List.length_map,List.length_append,List.nil_append,hs]
  refine loop_on (fun i : Nat => ⟨[.imm 51 (rowsF l),.clo 96 [.rptr [.v (vS name)]],.dead,.dead,.nil,sd 51 (rowsF (withoutB name (l.take i))),.dead,.dead,.dead,.dead,.dead,.imm 51 (rowsF l),.v (vI l.length),.v (vI i),.dead,.dead,.dead,.dead,.dead,.dead,.dead,.dead,.dead,.dead,.dead,.dead,.dead],List.replicate 27 none⟩) [0,1,4,5,11,12,13] (fun i => i ≤ l.length) (fun i => l.length - i) 0 rfl (by omega) ?_
  intro i hi
  have hle := wo_le name l i
  have hmiss := wo_miss (name := name) (l := l) (i := i)
  have hhit := wo_hit (name := name) (l := l) (i := i)
  have hend : i = l.length → withoutB name (l.take i) = withoutB name l := fun e => by rw [e,List.take_length]
  generalize hacc : rowsF (withoutB name (l.take i)) = acc at hle ⊢
  simp only [f49,go_sem,cfg,Nat.reduceLeDiff,Nat.reduceLT,Nat.reduceAdd,Nat.reduceSub,Nat.reduceMul,Nat.reduceBEq,Nat.reduceBNe,Nat.reduceEqDiff,reduceCtorEq,reduceIte,Int.reduceLT,Int.reduceLE,Int.reduceAdd,Int.reduceSub,Int.reduceNeg,Int.reduceEq,Int.reduceBEq,Int.reduceBNe,Int.reduceToNat,Nat.reduceDiv,Nat.reduceMod,rowsF_length,sd_nil,sd_cons,List.length_map,List.length_append,List.nil_append,hs]
  cases acc with
  | nil =>
    try simp only [f49,go_sem,cfg,Nat.reduceLeDiff,Nat.reduceLT,Nat.reduceAdd,Nat.reduceSub,Nat.reduceMul,Nat.reduceBEq,Nat.reduceBNe,Nat.reduceEqDiff,reduceCtorEq,reduceIte,Int.reduceLT,Int.reduceLE,Int.reduceAdd,Int.reduceSub,Int.reduceNeg,Int.reduceEq,Int.reduceBEq,Int.reduceBNe,Int.reduceToNat,Nat.reduceDiv,Nat.reduceMod,rowsF_length,sd_nil,sd_cons,List.length_map,List.length_append,List.nil_append,hs]
    by_cases hc : i < l.length
    · have hw := wrapN hc hs
      have h1 := rowsF_getD hc
      have hsm := hl.at hc
      have hhit := hhit hc
      have hmiss := hmiss hc
      simp only [f49,go_sem,cfg,Nat.reduceLeDiff,Nat.reduceLT,Nat.reduceAdd,Nat.reduceSub,Nat.reduceMul,Nat.reduceBEq,Nat.reduceBNe,Nat.reduceEqDiff,reduceCtorEq,reduceIte,Int.reduceLT,Int.reduceLE,Int.reduceAdd,Int.reduceSub,Int.reduceNeg,Int.reduceEq,Int.reduceBEq,Int.reduceBNe,Int.reduceToNat,Nat.reduceDiv,Nat.reduceMod,rowsF_length,sd_nil,sd_cons,List.length_map,List.length_append,List.nil_append,hs,hc,h1]
      refine ev_call (c96 _ _ hsm.1 hn) (retW0 rfl rfl rfl rfl) ?_
      cases hb : hitB name (l.getD i ([],[]))
      · have hb' : (foldB (l.getD i ([],[])).1 == foldB name) = false := hb
        simp only [f49,go_sem,cfg,Nat.reduceLeDiff,Nat.reduceLT,Nat.reduceAdd,Nat.reduceSub,Nat.reduceMul,Nat.reduceBEq,Nat.reduceBNe,Nat.reduceEqDiff,reduceCtorEq,reduceIte,Int.reduceLT,Int.reduceLE,Int.reduceAdd,Int.reduceSub,Int.reduceNeg,Int.reduceEq,Int.reduceBEq,Int.reduceBNe,Int.reduceToNat,Nat.reduceDiv,Nat.reduceMod,rowsF_length,sd_nil,sd_cons,List.length_map,List.length_append,List.nil_append,hs,hc,h1,hb',hw]
        have hb1 : (1 : Nat) * 32 ≤ 140737488355328 := by omega
        try simp only [f49,go_sem,cfg,Nat.reduceLeDiff,Nat.reduceLT,Nat.reduceAdd,Nat.reduceSub,Nat.reduceMul,Nat.reduceBEq,Nat.reduceBNe,Nat.reduceEqDiff,reduceCtorEq,reduceIte,Int.reduceLT,Int.reduceLE,Int.reduceAdd,Int.reduceSub,Int.reduceNeg,Int.reduceEq,Int.reduceBEq,Int.reduceBNe,Int.reduceToNat,Nat.reduceDiv,Nat.reduceMod,rowsF_length,sd_nil,sd_cons,List.length_map,List.length_append,List.nil_append,hs,hc,h1,hb',hw,hb1]
        first | exact ⟨i + 1,by rw [hmiss hb,rowsF_snoc,hacc]; rfl,hc,by omega⟩ | trace_state
      · have hb' : (foldB (l.getD i ([],[])).1 == foldB name) = true := hb
        simp only [f49,go_sem,cfg,Nat.reduceLeDiff,Nat.reduceLT,Nat.reduceAdd,Nat.reduceSub,Nat.reduceMul,Nat.reduceBEq,Nat.reduceBNe,Nat.reduceEqDiff,reduceCtorEq,reduceIte,Int.reduceLT,Int.reduceLE,Int.reduceAdd,Int.reduceSub,Int.reduceNeg,Int.reduceEq,Int.reduceBEq,Int.reduceBNe,Int.reduceToNat,Nat.reduceDiv,Nat.reduceMod,rowsF_length,sd_nil,sd_cons,List.length_map,List.length_append,List.nil_append,hs,hc,h1,hb',hw]
        exact ⟨i + 1,by rw [hhit hb,hacc]; rfl,hc,by omega⟩
    · have he := hend (by omega)
      rw [he] at hacc
      simp only [f49,go_sem,cfg,Nat.reduceLeDiff,Nat.reduceLT,Nat.reduceAdd,Nat.reduceSub,Nat.reduceMul,Nat.reduceBEq,Nat.reduceBNe,Nat.reduceEqDiff,reduceCtorEq,reduceIte,Int.reduceLT,Int.reduceLE,Int.reduceAdd,Int.reduceSub,Int.reduceNeg,Int.reduceEq,Int.reduceBEq,Int.reduceBNe,Int.reduceToNat,Nat.reduceDiv,Nat.reduceMod,rowsF_length,sd_nil,sd_cons,List.length_map,List.length_append,List.nil_append,hc]
      first | (refine fin0 (.inr rfl) rfl rfl rfl ?_; rw [hacc]; rfl) | trace_state
  | cons x xs =>
    try simp only [f49,go_sem,cfg,Nat.reduceLeDiff,Nat.reduceLT,Nat.reduceAdd,Nat.reduceSub,Nat.reduceMul,Nat.reduceBEq,Nat.reduceBNe,Nat.reduceEqDiff,reduceCtorEq,reduceIte,Int.reduceLT,Int.reduceLE,Int.reduceAdd,Int.reduceSub,Int.reduceNeg,Int.reduceEq,Int.reduceBEq,Int.reduceBNe,Int.reduceToNat,Nat.reduceDiv,Nat.reduceMod,rowsF_length,sd_nil,sd_cons,List.length_map,List.length_append,List.nil_append,hs]
    by_cases hc : i < l.length
    · have hw := wrapN hc hs
      have h1 := rowsF_getD hc
      have hsm := hl.at hc
      have hhit := hhit hc
      have hmiss := hmiss hc
      simp only [f49,go_sem,cfg,Nat.reduceLeDiff,Nat.reduceLT,Nat.reduceAdd,Nat.reduceSub,Nat.reduceMul,Nat.reduceBEq,Nat.reduceBNe,Nat.reduceEqDiff,reduceCtorEq,reduceIte,Int.reduceLT,Int.reduceLE,Int.reduceAdd,Int.reduceSub,Int.reduceNeg,Int.reduceEq,Int.reduceBEq,Int.reduceBNe,Int.reduceToNat,Nat.reduceDiv,Nat.reduceMod,rowsF_length,sd_nil,sd_cons,List.length_map,List.length_append,List.nil_append,hs,hc,h1]
      refine ev_call (c96 _ _ hsm.1 hn) (retW0 rfl rfl rfl rfl) ?_
      cases hb : hitB name (l.getD i ([],[]))
      · have hb' : (foldB (l.getD i ([],[])).1 == foldB name) = false := hb
        simp only [f49,go_sem,cfg,Nat.reduceLeDiff,Nat.reduceLT,Nat.reduceAdd,Nat.reduceSub,Nat.reduceMul,Nat.reduceBEq,Nat.reduceBNe,Nat.reduceEqDiff,reduceCtorEq,reduceIte,Int.reduceLT,Int.reduceLE,Int.reduceAdd,Int.reduceSub,Int.reduceNeg,Int.reduceEq,Int.reduceBEq,Int.reduceBNe,Int.reduceToNat,Nat.reduceDiv,Nat.reduceMod,rowsF_length,sd_nil,sd_cons,List.length_map,List.length_append,List.nil_append,hs,hc,h1,hb',hw]
        have hb1 : (xs.length + 1 + 1) * 32 ≤ 140737488355328 := by simp only [List.length_cons] at hle; omega
        try simp only [f49,go_sem,cfg,Nat.reduceLeDiff,Nat.reduceLT,Nat.reduceAdd,Nat.reduceSub,Nat.reduceMul,Nat.reduceBEq,Nat.reduceBNe,Nat.reduceEqDiff,reduceCtorEq,reduceIte,Int.reduceLT,Int.reduceLE,Int.reduceAdd,Int.reduceSub,Int.reduceNeg,Int.reduceEq,Int.reduceBEq,Int.reduceBNe,Int.reduceToNat,Nat.reduceDiv,Nat.reduceMod,rowsF_length,sd_nil,sd_cons,List.length_map,List.length_append,List.nil_append,hs,hc,h1,hb',hw,hb1]
        first | exact ⟨i + 1,by rw [hmiss hb,rowsF_snoc,hacc]; rfl,hc,by omega⟩ | trace_state
      · have hb' : (foldB (l.getD i ([],[])).1 == foldB name) = true := hb
        simp only [f49,go_sem,cfg,Nat.reduceLeDiff,Nat.reduceLT,Nat.reduceAdd,Nat.reduceSub,Nat.reduceMul,Nat.reduceBEq,Nat.reduceBNe,Nat.reduceEqDiff,reduceCtorEq,reduceIte,Int.reduceLT,Int.reduceLE,Int.reduceAdd,Int.reduceSub,Int.reduceNeg,Int.reduceEq,Int.reduceBEq,Int.reduceBNe,Int.reduceToNat,Nat.reduceDiv,Nat.reduceMod,rowsF_length,sd_nil,sd_cons,List.length_map,List.length_append,List.nil_append,hs,hc,h1,hb',hw]
        exact ⟨i + 1,by rw [hhit hb,hacc]; rfl,hc,by omega⟩
    · have he := hend (by omega)
      rw [he] at hacc
      simp only [f49,go_sem,cfg,Nat.reduceLeDiff,Nat.reduceLT,Nat.reduceAdd,Nat.reduceSub,Nat.reduceMul,Nat.reduceBEq,Nat.reduceBNe,Nat.reduceEqDiff,reduceCtorEq,reduceIte,Int.reduceLT,Int.reduceLE,Int.reduceAdd,Int.reduceSub,Int.reduceNeg,Int.reduceEq,Int.reduceBEq,Int.reduceBNe,Int.reduceToNat,Nat.reduceDiv,Nat.reduceMod,rowsF_length,sd_nil,sd_cons,List.length_map,List.length_append,List.nil_append,hc]
      first | (refine fin0 (.inr rfl) rfl rfl rfl ?_; rw [hacc]; rfl) | trace_state
theorem c79 (l : List Fld) (hl : Small l) (name : List UInt8) (hn : name.length ≤ 9223372036854775807) (h : fieldsB l = true) : Sem prog 79 ⟨[.imm 51 (rowsF l),.v (vS name)],[none,none]⟩ ⟨[.dead,.dead,sd 51 (rowsF (withoutB name l))],[none,none]⟩ := by
  refine sem_fin (cfg := cfg 2) (ts := [.tm 4]) tbOk func79 rfl rfl rfl rfl (fun t h => by cases h) ?_
  simp only [f79,go_sem,cfg,Nat.reduceLeDiff,Nat.reduceLT,Nat.reduceAdd,Nat.reduceSub,Nat.reduceMul,Nat.reduceBEq,Nat.reduceBNe,Nat.reduceEqDiff,reduceCtorEq,reduceIte,Int.reduceLT,Int.reduceLE,Int.reduceAdd,Int.reduceSub,Int.reduceNeg,Int.reduceEq,Int.reduceBEq,Int.reduceBNe,Int.reduceToNat,Nat.reduceDiv,Nat.reduceMod,rowsF_length,sd_nil,sd_cons,List.length_map,List.length_append,List.nil_append]
  have h67 := c49 l hl name hn h
  cases hr : rowsF (withoutB name l) with
  | nil =>
    rw [hr] at h67
    refine ev_call h67 (retW0 rfl rfl rfl rfl) ?_
    simp only [f79,go_sem,cfg,Nat.reduceLeDiff,Nat.reduceLT,Nat.reduceAdd,Nat.reduceSub,Nat.reduceMul,Nat.reduceBEq,Nat.reduceBNe,Nat.reduceEqDiff,reduceCtorEq,reduceIte,Int.reduceLT,Int.reduceLE,Int.reduceAdd,Int.reduceSub,Int.reduceNeg,Int.reduceEq,Int.reduceBEq,Int.reduceBNe,Int.reduceToNat,Nat.reduceDiv,Nat.reduceMod,rowsF_length,sd_nil,sd_cons,List.length_map,List.length_append,List.nil_append]
    first | exact fin0 (.inr rfl) rfl rfl rfl rfl | trace_state
  | cons x xs =>
    rw [hr] at h67
    refine ev_call h67 (retW0 rfl rfl rfl rfl) ?_
    simp only [f79,go_sem,cfg,Nat.reduceLeDiff,Nat.reduceLT,Nat.reduceAdd,Nat.reduceSub,Nat.reduceMul,Nat.reduceBEq,Nat.reduceBNe,Nat.reduceEqDiff,reduceCtorEq,reduceIte,Int.reduceLT,Int.reduceLE,Int.reduceAdd,Int.reduceSub,Int.reduceNeg,Int.reduceEq,Int.reduceBEq,Int.reduceBNe,Int.reduceToNat,Nat.reduceDiv,Nat.reduceMod,rowsF_length,sd_nil,sd_cons,List.length_map,List.length_append,List.nil_append]
    first | exact fin0 (.inr rfl) rfl rfl rfl rfl | trace_state
def withB (l : List Fld) (f : Fld) : Option (List Fld) := if fieldsB l && fieldB f && decide ((withoutB f.1 l).length + 1 ≤ 20) then some (withoutB f.1 l ++ [f]) else none
def optD : Option (List Fld) → D
  | none => .nil
  | some l => .own 51 (rowsF l)
theorem wo_len (name : List UInt8) (l : List Fld) : (withoutB name l).length ≤ l.length := List.length_filter_le _ _
theorem c47 (l : List Fld) (hl : Small l) (f : Fld) (h1 : f.1.length ≤ 9223372036854775807) (h2 : f.2.length ≤ 9223372036854775807) : Sem prog 47 ⟨[.imm 51 (rowsF l),.agg [.v (vS f.1),.v (vS f.2)]],[none,none]⟩ ⟨[.dead,.dead,optD (withB l f)],[none,none]⟩ := by
  refine sem_fin (cfg := cfg 2) (ts := [.tm 4]) tbOk func47 rfl rfl rfl rfl (fun t h => by cases h) ?_
  simp only [f47,go_sem,cfg,Nat.reduceLeDiff,Nat.reduceLT,Nat.reduceAdd,Nat.reduceSub,Nat.reduceMul,Nat.reduceBEq,Nat.reduceBNe,Nat.reduceEqDiff,reduceCtorEq,reduceIte,Int.reduceLT,Int.reduceLE,Int.reduceAdd,Int.reduceSub,Int.reduceNeg,Int.reduceEq,Int.reduceBEq,Int.reduceBNe,Int.reduceToNat,Nat.reduceDiv,Nat.reduceMod,rowsF_length,sd_nil,sd_cons,List.length_map,List.length_append,List.nil_append]
  refine ev_call (c36 l hl) (retW0 rfl rfl rfl rfl) ?_
  cases hf : fieldsB l
  · have hw : withB l f = none := by unfold withB; rw [hf]; rfl
    rw [hw]
    simp only [f47,go_sem,cfg,Nat.reduceLeDiff,Nat.reduceLT,Nat.reduceAdd,Nat.reduceSub,Nat.reduceMul,Nat.reduceBEq,Nat.reduceBNe,Nat.reduceEqDiff,reduceCtorEq,reduceIte,Int.reduceLT,Int.reduceLE,Int.reduceAdd,Int.reduceSub,Int.reduceNeg,Int.reduceEq,Int.reduceBEq,Int.reduceBNe,Int.reduceToNat,Nat.reduceDiv,Nat.reduceMod,rowsF_length,sd_nil,sd_cons,List.length_map,List.length_append,List.nil_append]
    first | exact fin0 (.inr rfl) rfl rfl rfl rfl | trace_state
  simp only [f47,go_sem,cfg,Nat.reduceLeDiff,Nat.reduceLT,Nat.reduceAdd,Nat.reduceSub,Nat.reduceMul,Nat.reduceBEq,Nat.reduceBNe,Nat.reduceEqDiff,reduceCtorEq,reduceIte,Int.reduceLT,Int.reduceLE,Int.reduceAdd,Int.reduceSub,Int.reduceNeg,Int.reduceEq,Int.reduceBEq,Int.reduceBNe,Int.reduceToNat,Nat.reduceDiv,Nat.reduceMod,rowsF_length,sd_nil,sd_cons,List.length_map,List.length_append,List.nil_append]
  refine ev_call (c67 f.1 f.2 h1 h2) (retW0 rfl rfl rfl rfl) ?_
  cases hff : fieldB f
  · have hw : withB l f = none := by unfold withB; rw [hff]; simp
    rw [hw]
    have hff' : fieldB (f.1,f.2) = false := hff
    simp only [f47,go_sem,cfg,Nat.reduceLeDiff,Nat.reduceLT,Nat.reduceAdd,Nat.reduceSub,Nat.reduceMul,Nat.reduceBEq,Nat.reduceBNe,Nat.reduceEqDiff,reduceCtorEq,reduceIte,Int.reduceLT,Int.reduceLE,Int.reduceAdd,Int.reduceSub,Int.reduceNeg,Int.reduceEq,Int.reduceBEq,Int.reduceBNe,Int.reduceToNat,Nat.reduceDiv,Nat.reduceMod,rowsF_length,sd_nil,sd_cons,List.length_map,List.length_append,List.nil_append,hff']
    first | exact fin0 (.inr rfl) rfl rfl rfl rfl | trace_state
  have hff' : fieldB (f.1,f.2) = true := hff
  have h20 := fields_len hf
  have hwl := wo_len f.1 l
  simp only [f47,go_sem,cfg,Nat.reduceLeDiff,Nat.reduceLT,Nat.reduceAdd,Nat.reduceSub,Nat.reduceMul,Nat.reduceBEq,Nat.reduceBNe,Nat.reduceEqDiff,reduceCtorEq,reduceIte,Int.reduceLT,Int.reduceLE,Int.reduceAdd,Int.reduceSub,Int.reduceNeg,Int.reduceEq,Int.reduceBEq,Int.reduceBNe,Int.reduceToNat,Nat.reduceDiv,Nat.reduceMod,rowsF_length,sd_nil,sd_cons,List.length_map,List.length_append,List.nil_append,hff']
  refine draw_intro 6 [[15,16,17,18,19],[14,16,17,18,19],[14,17,18,19],[15,18,19],[14,15,16,17,19],[14,15,16,17]] mixedOk rfl ?_
  simp only [f47,go_sem,cfg,Nat.reduceLeDiff,Nat.reduceLT,Nat.reduceAdd,Nat.reduceSub,Nat.reduceMul,Nat.reduceBEq,Nat.reduceBNe,Nat.reduceEqDiff,reduceCtorEq,reduceIte,Int.reduceLT,Int.reduceLE,Int.reduceAdd,Int.reduceSub,Int.reduceNeg,Int.reduceEq,Int.reduceBEq,Int.reduceBNe,Int.reduceToNat,Nat.reduceDiv,Nat.reduceMod,rowsF_length,sd_nil,sd_cons,List.length_map,List.length_append,List.nil_append]
  have hwo := c79 l hl f.1 h1 hf
  have hrl : (rowsF (withoutB f.1 l)).length = (withoutB f.1 l).length := rowsF_length _
  have hsn : rowsF (withoutB f.1 l ++ [f]) = rowsF (withoutB f.1 l) ++ [[.v (vS f.1),.v (vS f.2)]] := rowsF_snoc
  have hwb : withB l f = if (withoutB f.1 l).length + 1 ≤ 20 then some (withoutB f.1 l ++ [f]) else none := by unfold withB; rw [hf,hff]; simp
  have hod : ∀ x : List Fld,optD (some x) = .own 51 (rowsF x) := fun _ => rfl
  have hlc : (withoutB f.1 l).length + 1 ≤ 20 → ¬ (20 : Int) < (((withoutB f.1 l).length : Int) + 1) := fun h => by omega
  cases hr : rowsF (withoutB f.1 l) with
  | nil =>
    rw [hr] at hwo hrl hsn
    have hz : (withoutB f.1 l).length = 0 := hrl.symm
    rw [hwb,hz,if_pos (by omega),hod,hsn]
    refine of_call hwo (retW0 rfl rfl rfl rfl) rfl rfl rfl ?_
    simp only [f47,go_sem,cfg,Nat.reduceLeDiff,Nat.reduceLT,Nat.reduceAdd,Nat.reduceSub,Nat.reduceMul,Nat.reduceBEq,Nat.reduceBNe,Nat.reduceEqDiff,reduceCtorEq,reduceIte,Int.reduceLT,Int.reduceLE,Int.reduceAdd,Int.reduceSub,Int.reduceNeg,Int.reduceEq,Int.reduceBEq,Int.reduceBNe,Int.reduceToNat,Nat.reduceDiv,Nat.reduceMod,rowsF_length,sd_nil,sd_cons,List.length_map,List.length_append,List.nil_append]
    first | exact fin0 (.inr rfl) rfl rfl rfl rfl | trace_state
  | cons x xs =>
    rw [hr] at hwo hrl hsn
    have hlx : xs.length + 1 = (withoutB f.1 l).length := hrl
    have hb32 : (xs.length + 1 + 1) * 32 ≤ 140737488355328 := by omega
    have hb9 : xs.length + 1 + 1 ≤ 9223372036854775807 := by omega
    refine of_call hwo (retW0 rfl rfl rfl rfl) rfl rfl rfl ?_
    refine Or.elim (Classical.em ((withoutB f.1 l).length + 1 ≤ 20)) (fun hc => ?_) fun hc => ?_
    · have hc' : ¬ (20 : Int) < ((xs.length + 1 + 1 : Nat) : Int) := by omega
      rw [hwb,if_pos hc,hod,hsn]
      simp only [f47,go_sem,cfg,Nat.reduceLeDiff,Nat.reduceLT,Nat.reduceAdd,Nat.reduceSub,Nat.reduceMul,Nat.reduceBEq,Nat.reduceBNe,Nat.reduceEqDiff,reduceCtorEq,reduceIte,Int.reduceLT,Int.reduceLE,Int.reduceAdd,Int.reduceSub,Int.reduceNeg,Int.reduceEq,Int.reduceBEq,Int.reduceBNe,Int.reduceToNat,Nat.reduceDiv,Nat.reduceMod,rowsF_length,sd_nil,sd_cons,List.length_map,List.length_append,List.nil_append,hb32,hb9,hc']
      first | exact fin0 (.inr rfl) rfl rfl rfl rfl | trace_state
    · have hc' : (20 : Int) < ((xs.length + 1 + 1 : Nat) : Int) := by omega
      rw [hwb,if_neg hc]
      simp only [f47,go_sem,cfg,Nat.reduceLeDiff,Nat.reduceLT,Nat.reduceAdd,Nat.reduceSub,Nat.reduceMul,Nat.reduceBEq,Nat.reduceBNe,Nat.reduceEqDiff,reduceCtorEq,reduceIte,Int.reduceLT,Int.reduceLE,Int.reduceAdd,Int.reduceSub,Int.reduceNeg,Int.reduceEq,Int.reduceBEq,Int.reduceBNe,Int.reduceToNat,Nat.reduceDiv,Nat.reduceMod,rowsF_length,sd_nil,sd_cons,List.length_map,List.length_append,List.nil_append,hb32,hb9,hc']
      first | exact fin0 (.inr rfl) rfl rfl rfl rfl | trace_state
theorem c31 (l : List Fld) (hl : Small l) (f : Fld) (h1 : f.1.length ≤ 9223372036854775807) (h2 : f.2.length ≤ 9223372036854775807) : Sem prog 31 ⟨[.imm 51 (rowsF l),.agg [.v (vS f.1),.v (vS f.2)]],[none,none]⟩ ⟨[.dead,.dead,optD (withB l f)],[none,none]⟩ := by
  refine sem_fin (cfg := cfg 2) (ts := [.tm 4]) tbOk func31 rfl rfl rfl rfl (fun t h => by cases h) ?_
  simp only [f31,go_sem,cfg,Nat.reduceLeDiff,Nat.reduceLT,Nat.reduceAdd,Nat.reduceSub,Nat.reduceMul,Nat.reduceBEq,Nat.reduceBNe,Nat.reduceEqDiff,reduceCtorEq,reduceIte,Int.reduceLT,Int.reduceLE,Int.reduceAdd,Int.reduceSub,Int.reduceNeg,Int.reduceEq,Int.reduceBEq,Int.reduceBNe,Int.reduceToNat,Nat.reduceDiv,Nat.reduceMod,rowsF_length,sd_nil,sd_cons,List.length_map,List.length_append,List.nil_append]
  refine ev_call (c24 l hl) (retW0 rfl rfl rfl rfl) ?_
  cases hf : fieldsB l
  · have hw : withB l f = none := by unfold withB; rw [hf]; rfl
    rw [hw]
    simp only [f31,go_sem,cfg,Nat.reduceLeDiff,Nat.reduceLT,Nat.reduceAdd,Nat.reduceSub,Nat.reduceMul,Nat.reduceBEq,Nat.reduceBNe,Nat.reduceEqDiff,reduceCtorEq,reduceIte,Int.reduceLT,Int.reduceLE,Int.reduceAdd,Int.reduceSub,Int.reduceNeg,Int.reduceEq,Int.reduceBEq,Int.reduceBNe,Int.reduceToNat,Nat.reduceDiv,Nat.reduceMod,rowsF_length,sd_nil,sd_cons,List.length_map,List.length_append,List.nil_append]
    first | exact fin0 (.inr rfl) rfl rfl rfl rfl | trace_state
  simp only [f31,go_sem,cfg,Nat.reduceLeDiff,Nat.reduceLT,Nat.reduceAdd,Nat.reduceSub,Nat.reduceMul,Nat.reduceBEq,Nat.reduceBNe,Nat.reduceEqDiff,reduceCtorEq,reduceIte,Int.reduceLT,Int.reduceLE,Int.reduceAdd,Int.reduceSub,Int.reduceNeg,Int.reduceEq,Int.reduceBEq,Int.reduceBNe,Int.reduceToNat,Nat.reduceDiv,Nat.reduceMod,rowsF_length,sd_nil,sd_cons,List.length_map,List.length_append,List.nil_append]
  refine ev_call (c55 f.1 f.2 h1 h2) (retW0 rfl rfl rfl rfl) ?_
  cases hff : fieldB f
  · have hw : withB l f = none := by unfold withB; rw [hff]; simp
    rw [hw]
    have hff' : fieldB (f.1,f.2) = false := hff
    simp only [f31,go_sem,cfg,Nat.reduceLeDiff,Nat.reduceLT,Nat.reduceAdd,Nat.reduceSub,Nat.reduceMul,Nat.reduceBEq,Nat.reduceBNe,Nat.reduceEqDiff,reduceCtorEq,reduceIte,Int.reduceLT,Int.reduceLE,Int.reduceAdd,Int.reduceSub,Int.reduceNeg,Int.reduceEq,Int.reduceBEq,Int.reduceBNe,Int.reduceToNat,Nat.reduceDiv,Nat.reduceMod,rowsF_length,sd_nil,sd_cons,List.length_map,List.length_append,List.nil_append,hff']
    first | exact fin0 (.inr rfl) rfl rfl rfl rfl | trace_state
  have hff' : fieldB (f.1,f.2) = true := hff
  have h20 := fields_len hf
  have hwl := wo_len f.1 l
  simp only [f31,go_sem,cfg,Nat.reduceLeDiff,Nat.reduceLT,Nat.reduceAdd,Nat.reduceSub,Nat.reduceMul,Nat.reduceBEq,Nat.reduceBNe,Nat.reduceEqDiff,reduceCtorEq,reduceIte,Int.reduceLT,Int.reduceLE,Int.reduceAdd,Int.reduceSub,Int.reduceNeg,Int.reduceEq,Int.reduceBEq,Int.reduceBNe,Int.reduceToNat,Nat.reduceDiv,Nat.reduceMod,rowsF_length,sd_nil,sd_cons,List.length_map,List.length_append,List.nil_append,hff']
  refine draw_intro 6 [[15,16,17,18,19],[14,16,17,18,19],[14,17,18,19],[15,18,19],[14,15,16,17,19],[14,15,16,17]] mixedOk rfl ?_
  simp only [f31,go_sem,cfg,Nat.reduceLeDiff,Nat.reduceLT,Nat.reduceAdd,Nat.reduceSub,Nat.reduceMul,Nat.reduceBEq,Nat.reduceBNe,Nat.reduceEqDiff,reduceCtorEq,reduceIte,Int.reduceLT,Int.reduceLE,Int.reduceAdd,Int.reduceSub,Int.reduceNeg,Int.reduceEq,Int.reduceBEq,Int.reduceBNe,Int.reduceToNat,Nat.reduceDiv,Nat.reduceMod,rowsF_length,sd_nil,sd_cons,List.length_map,List.length_append,List.nil_append]
  have hwo := c63 l hl f.1 h1 hf
  have hrl : (rowsF (withoutB f.1 l)).length = (withoutB f.1 l).length := rowsF_length _
  have hsn : rowsF (withoutB f.1 l ++ [f]) = rowsF (withoutB f.1 l) ++ [[.v (vS f.1),.v (vS f.2)]] := rowsF_snoc
  have hwb : withB l f = if (withoutB f.1 l).length + 1 ≤ 20 then some (withoutB f.1 l ++ [f]) else none := by unfold withB; rw [hf,hff]; simp
  have hod : ∀ x : List Fld,optD (some x) = .own 51 (rowsF x) := fun _ => rfl
  have hlc : (withoutB f.1 l).length + 1 ≤ 20 → ¬ (20 : Int) < (((withoutB f.1 l).length : Int) + 1) := fun h => by omega
  cases hr : rowsF (withoutB f.1 l) with
  | nil =>
    rw [hr] at hwo hrl hsn
    have hz : (withoutB f.1 l).length = 0 := hrl.symm
    rw [hwb,hz,if_pos (by omega),hod,hsn]
    refine of_call hwo (retW0 rfl rfl rfl rfl) rfl rfl rfl ?_
    simp only [f31,go_sem,cfg,Nat.reduceLeDiff,Nat.reduceLT,Nat.reduceAdd,Nat.reduceSub,Nat.reduceMul,Nat.reduceBEq,Nat.reduceBNe,Nat.reduceEqDiff,reduceCtorEq,reduceIte,Int.reduceLT,Int.reduceLE,Int.reduceAdd,Int.reduceSub,Int.reduceNeg,Int.reduceEq,Int.reduceBEq,Int.reduceBNe,Int.reduceToNat,Nat.reduceDiv,Nat.reduceMod,rowsF_length,sd_nil,sd_cons,List.length_map,List.length_append,List.nil_append]
    first | exact fin0 (.inr rfl) rfl rfl rfl rfl | trace_state
  | cons x xs =>
    rw [hr] at hwo hrl hsn
    have hlx : xs.length + 1 = (withoutB f.1 l).length := hrl
    have hb32 : (xs.length + 1 + 1) * 32 ≤ 140737488355328 := by omega
    have hb9 : xs.length + 1 + 1 ≤ 9223372036854775807 := by omega
    refine of_call hwo (retW0 rfl rfl rfl rfl) rfl rfl rfl ?_
    refine Or.elim (Classical.em ((withoutB f.1 l).length + 1 ≤ 20)) (fun hc => ?_) fun hc => ?_
    · have hc' : ¬ (20 : Int) < ((xs.length + 1 + 1 : Nat) : Int) := by omega
      rw [hwb,if_pos hc,hod,hsn]
      simp only [f31,go_sem,cfg,Nat.reduceLeDiff,Nat.reduceLT,Nat.reduceAdd,Nat.reduceSub,Nat.reduceMul,Nat.reduceBEq,Nat.reduceBNe,Nat.reduceEqDiff,reduceCtorEq,reduceIte,Int.reduceLT,Int.reduceLE,Int.reduceAdd,Int.reduceSub,Int.reduceNeg,Int.reduceEq,Int.reduceBEq,Int.reduceBNe,Int.reduceToNat,Nat.reduceDiv,Nat.reduceMod,rowsF_length,sd_nil,sd_cons,List.length_map,List.length_append,List.nil_append,hb32,hb9,hc']
      first | exact fin0 (.inr rfl) rfl rfl rfl rfl | trace_state
    · have hc' : (20 : Int) < ((xs.length + 1 + 1 : Nat) : Int) := by omega
      rw [hwb,if_neg hc]
      simp only [f31,go_sem,cfg,Nat.reduceLeDiff,Nat.reduceLT,Nat.reduceAdd,Nat.reduceSub,Nat.reduceMul,Nat.reduceBEq,Nat.reduceBNe,Nat.reduceEqDiff,reduceCtorEq,reduceIte,Int.reduceLT,Int.reduceLE,Int.reduceAdd,Int.reduceSub,Int.reduceNeg,Int.reduceEq,Int.reduceBEq,Int.reduceBNe,Int.reduceToNat,Nat.reduceDiv,Nat.reduceMod,rowsF_length,sd_nil,sd_cons,List.length_map,List.length_append,List.nil_append,hb32,hb9,hc']
      first | exact fin0 (.inr rfl) rfl rfl rfl rfl | trace_state
end Go.Proofs.YtagfeejofceheaaGreatDoor.Fw

/- The library's strings.Join, off the kit's shelf, and as a contract here. -/
namespace Go.Proofs.YtagfeejofceheaaGreatDoor.Fw
open Go Go.Proofs
open Go.Shelf
def join_lays156_ren : Go.Shelf.Ren := ⟨fun | 156 => 78 | 165 => 95 | 166 => 74 | 169 => 77 | 240 => 93 | 241 => 109 | 276 => 107 | 277 => 127 | n => n,fun | 31 => 52 | 9 => 9 | 3 => 3 | 4 => 4 | 0 => 0 | 20 => 20 | 72 => 74 | 76 => 77 | 70 => 72 | 37 => 67 | 75 => 76 | 127 => 86 | 164 => 93 | 5 => 5 | 80 => 79 | n => n,fun | n => n⟩
theorem join_lays156 : Go.Proofs.Lays.n156 Tryz.prog join_lays156_ren := {
  mixed := by kernel_rfl
  f156 := Tryz.func78.trans (congrArg some (by kernel_rfl))
  f165 := Tryz.func95.trans (congrArg some (by kernel_rfl))
  f166 := Tryz.func74.trans (congrArg some (by kernel_rfl))
  f169 := Tryz.func77.trans (congrArg some (by kernel_rfl))
  f240 := Tryz.func93.trans (congrArg some (by kernel_rfl))
  f241 := Tryz.func109.trans (congrArg some (by kernel_rfl))
  f276 := Tryz.func107.trans (congrArg some (by kernel_rfl))
  f277 := Tryz.func127.trans (congrArg some (by kernel_rfl))
  t0 := Tryz.underlying0
  a0 := Tryz.isAgg0
  z0 := Tryz.sizeOf0
  v0 := Tryz.zeroValue0
  t3 := Tryz.underlying3
  a3 := Tryz.isAgg3
  z3 := Tryz.sizeOf3
  v3 := Tryz.zeroValue3
  t4 := Tryz.underlying4
  a4 := Tryz.isAgg4
  z4 := Tryz.sizeOf4
  v4 := Tryz.zeroValue4
  t9 := Tryz.underlying9
  a9 := Tryz.isAgg9
  z9 := Tryz.sizeOf9
  v9 := Tryz.zeroValue9
  t20 := Tryz.underlying20
  a20 := Tryz.isAgg20
  z20 := Tryz.sizeOf20
  v20 := Tryz.zeroValue20
  t31 := Tryz.underlying52
  a31 := Tryz.isAgg52
  z31 := Tryz.sizeOf52
  v31 := Tryz.zeroValue52
  t37 := Tryz.underlying67
  a37 := Tryz.isAgg67
  z37 := Tryz.sizeOf67
  v37 := Tryz.zeroValue67
  t70 := Tryz.underlying72
  a70 := Tryz.isAgg72
  z70 := Tryz.sizeOf72
  v70 := Tryz.zeroValue72
  t72 := Tryz.underlying74
  a72 := Tryz.isAgg74
  z72 := Tryz.sizeOf74
  v72 := Tryz.zeroValue74
  t75 := Tryz.underlying76
  a75 := Tryz.isAgg76
  z75 := Tryz.sizeOf76
  v75 := Tryz.zeroValue76
  t76 := Tryz.underlying77
  a76 := Tryz.isAgg77
  z76 := Tryz.sizeOf77
  v76 := Tryz.zeroValue77
  t127 := Tryz.underlying86
  a127 := Tryz.isAgg86
  z127 := Tryz.sizeOf86
  v127 := Tryz.zeroValue86
  t164 := Tryz.underlying93
  a164 := Tryz.isAgg93
  z164 := Tryz.sizeOf93
  v164 := Tryz.zeroValue93 }
theorem join_Builder_Extra_156 : Builder.Extra Tryz.prog join_lays156_ren := {
  sizeBuilder := by kernel_rfl
  liesBuilder := by kernel_rfl
  t5 := Tryz.underlying5
  a5 := Tryz.isAgg5
  z5 := Tryz.sizeOf5
  v5 := Tryz.zeroValue5
  infoByte := by kernel_rfl
  cellsByte := by kernel_rfl
  sizeByte := by kernel_rfl
  neB5 := by decide }
theorem join_strings_Join_none (a : Option Addr) (c : Nat) (sep : ByteArray) (w : World) :
    Calls Tryz.prog 78 #[.slice a 0 c,.string sep] w fun e w' => e = .returned (.string ⟨#[]⟩) ∧ w' = w := Any.strings_Join_none join_lays156 join_Builder_Extra_156 a c sep w
theorem join_strings_Join (bk o c : Nat) (xs : List ByteArray) (sep : ByteArray) (w : World) (hcells : ∀ (j : Nat) x,xs[j]? = some x → w.cell? ⟨bk,o + j,none⟩ = some (.string x)) (hbk : bk < w.heap.size) (hN : xs.length ≤ 140737488355328) (hcap : xs.length ≤ c) (hlen : (Lib.join (xs.map (·.data.toList)) sep.data.toList).length ≤ 140737488355328) :
    Calls Tryz.prog 78 #[.slice (some ⟨bk,o,none⟩) xs.length c,.string sep] w fun e w' => e = .returned (.string ⟨(Lib.join (xs.map (·.data.toList)) sep.data.toList).toArray⟩) ∧ RowKit.Below w.heap.size w w' := Any.strings_Join join_lays156 join_Builder_Extra_156 bk o c xs sep w hcells hbk hN hcap hlen
theorem c78 (vs : List (List UInt8)) (sep : List UInt8) (hN : vs.length ≤ 1048576) (hlen : (Lib.join vs sep).length ≤ 140737488355328) :
    Sem Tryz.prog 78 ⟨[.imm 9 (rowsS vs),.v (vS sep)],[none,none]⟩ ⟨[.imm 9 (rowsS vs),.v (vS sep),.v (vS (Lib.join vs sep))],[none,none,none]⟩ := by
  refine sem_calls (Ein := ⟨[.imm 9 (rowsS vs),.v (vS sep)],[none,none]⟩) (r := vS (Lib.join vs sep)) (enter_of Tryz.func78 rfl rfl) rfl (by simp only [scal,decide_eq_true_eq]; show (Lib.join vs sep).length ≤ _; omega) rfl ?_
  intro w a F loc M R
  have h0 := slot_of R (i := 0) (d := .imm 9 (rowsS vs)) rfl rfl (by simp)
  have h1 := slot_of R (i := 1) (d := .v (vS sep)) rfl rfl (by simp)
  have hsz : a.tmps.size = 2 := R.tmps
  have ha : a.tmps = #[a.tmps.getD 0 undef,a.tmps.getD 1 undef] := by
    apply Array.ext
    · simpa using hsz
    · intro i hi hi2
      have : i = 0 ∨ i = 1 := by simp at hi2; omega
      rcases this with rfl | rfl <;> simp [Array.getD,hsz]
  rw [ha]
  generalize a.tmps.getD 0 undef = v0 at h0
  generalize a.tmps.getD 1 undef = v1 at h1
  cases h1
  cases h0 with
  | imm _ _ _ h =>
    have hm : (vs.map ofL).map (·.data.toList) = vs := by
      rw [List.map_map]
      exact (List.map_congr_left (fun s _ => rfl)).trans (List.map_id vs)
    have hsd : (ofL sep).data.toList = sep := rfl
    rcases strs_of (by kernel_rfl) h with ⟨rfl,base,cap,rfl⟩ | ⟨b,o,cap,rfl,hb,hc,hcells⟩
    · exact (join_strings_Join_none base cap (ofL sep) w).mono fun e w' ⟨he,hw⟩ => ⟨he,hw ▸ RowKit.Below.refl _ _⟩
    · have := join_strings_Join b o cap (vs.map ofL) (ofL sep) w hcells hb (by simp; omega) hc (by rw [hm,hsd]; exact hlen)
      rw [hm,hsd] at this
      exact this
end Go.Proofs.YtagfeejofceheaaGreatDoor.Fw

/- Contracts: joined values. -/
namespace Go.Proofs.YtagfeejofceheaaGreatDoor.Fw
open Go
open Go.Proofs.Tryz
set_option maxRecDepth 100000
set_option maxHeartbeats 600000
set_option linter.unusedSimpArgs false
set_option linter.unusedVariables false
attribute [local congr] c_bnd c_slot c_cell c_all c_len c_chk c_asm c_opdR c_wp c_pwp c_pOps c_Done c_nx c_blk c_fin c_rowsR c_leafR c_opdsR c_coeLeaf c_coeLeaves c_lendLeaf c_lendLeaves c_coeCapt c_argR c_argsR c_boundR c_partsR c_srcR c_mfgo c_ite c_wpF c_OutF c_pHead c_pDraw
theorem rowsS_length (l : List (List UInt8)) : (rowsS l).length = l.length := by simp [rowsS]
theorem rowsS_getD {l : List (List UInt8)} {i : Nat} (h : i < l.length) : (rowsS l).getD i [] = [.v (vS (l.getD i []))] := by
  simp [rowsS,List.getD_eq_getElem?_getD,h]
theorem sd_ne {e : TypeId} {xs : List (List T)} (h : xs ≠ []) : sd e xs = .own e xs := by
  cases xs with
  | nil => exact absurd rfl h
  | cons => rfl
theorem rowsS_ne {l : List (List UInt8)} (h : l ≠ []) : rowsS l ≠ [] := by
  cases l with
  | nil => exact absurd rfl h
  | cons => simp [rowsS]
def sepB : List UInt8 := [44,32]
def joinB (l : List (List UInt8)) : List UInt8 := Lib.join l sepB
theorem joinTail_snoc (s y : List UInt8) (r : List (List UInt8)) : Lib.joinTail s (r ++ [y]) = Lib.joinTail s r ++ (s ++ y) := by simp [Lib.joinTail]
theorem joinB_snoc {xs : List (List UInt8)} {y : List UInt8} (h : xs ≠ []) : joinB (xs ++ [y]) = joinB xs ++ sepB ++ y := by
  cases xs with
  | nil => exact absurd rfl h
  | cons x r =>
    unfold joinB
    rw [List.cons_append,Lib.join_cons,Lib.join_cons,joinTail_snoc]
    simp
theorem joinB_nil : joinB [] = [] := rfl
theorem joinB_one (y : List UInt8) : joinB [y] = y := Lib.join_one y sepB
theorem joinB_len : ∀ {l : List (List UInt8)},(∀ v,v ∈ l → v.length ≤ 190) → (joinB l).length ≤ 192 * l.length := by
  intro l h
  cases l with
  | nil => simp [joinB_nil]
  | cons x r =>
    have key : ∀ (r : List (List UInt8)),(∀ v,v ∈ r → v.length ≤ 190) → (Lib.joinTail sepB r).length ≤ 192 * r.length := by
      intro r
      induction r with
      | nil => intro _; simp [Lib.joinTail]
      | cons y r ih =>
        intro h
        have h1 := h y List.mem_cons_self
        have h2 := ih fun v hv => h v (List.mem_cons_of_mem _ hv)
        simp only [Lib.joinTail,List.map_cons,List.flatten_cons,List.length_append,List.length_cons] at h2 ⊢
        have : sepB.length = 2 := rfl
        omega
    have h1 := h x List.mem_cons_self
    have h2 := key r fun v hv => h v (List.mem_cons_of_mem _ hv)
    unfold joinB
    rw [Lib.join_cons,List.length_append,List.length_cons]
    omega
theorem vals_190 {l : List Fld} {name : List UInt8} (h : fieldsB l = true) : ∀ v,v ∈ valsB name l → v.length ≤ 190 := by
  intro v hv
  simp only [valsB,List.mem_map,List.mem_filter] at hv
  obtain ⟨p,⟨hp,_⟩,rfl⟩ := hv
  simp only [fieldsB,Bool.and_eq_true,List.all_eq_true] at h
  have := h.2 p hp
  simp only [fieldB,Bool.and_eq_true,decide_eq_true_eq] at this
  exact this.1.1.2
theorem vals_20 {l : List Fld} {name : List UInt8} (h : fieldsB l = true) : (valsB name l).length ≤ 20 := by
  have h1 := fields_len h
  simp only [valsB,List.length_map]
  exact Nat.le_trans (List.length_filter_le _ _) h1
theorem joined_len {l : List Fld} {name : List UInt8} (h : fieldsB l = true) : (joinB (valsB name l)).length ≤ 3840 := by
  have h1 := joinB_len (vals_190 (name := name) h)
  have h2 := vals_20 (name := name) h
  omega
theorem c46 (l : List Fld) (hl : Small l) (name : List UInt8) (hn : name.length ≤ 9223372036854775807) (h : fieldsB l = true) : Sem prog 46 ⟨[.imm 51 (rowsF l),.v (vS name)],[none,none]⟩ ⟨[.dead,.dead,.v (vS (joinB (valsB name l)))],[none,none]⟩ := by
  refine sem_fin (cfg := cfg 2) (ts := [.tm 4]) tbOk func46 rfl rfl rfl rfl (fun t h => by cases h) ?_
  simp only [f46,go_sem,cfg,Nat.reduceLeDiff,Nat.reduceLT,Nat.reduceAdd,Nat.reduceSub,Nat.reduceMul,Nat.reduceBEq,Nat.reduceBNe,Nat.reduceEqDiff,reduceCtorEq,reduceIte,Int.reduceLT,Int.reduceLE,Int.reduceAdd,Int.reduceSub,Int.reduceNeg,Int.reduceEq,Int.reduceBEq,Int.reduceBNe,Int.reduceToNat,Nat.reduceDiv,Nat.reduceMod,rowsF_length,rowsS_length]
  have h50 := c68 l hl name hn h
  have hj := joined_len (name := name) h
  have h20 := vals_20 (name := name) h
  generalize valsB name l = vs at h50 hj h20 ⊢
  have h49 := c78 vs sepB (by omega) (by show (joinB vs).length ≤ _; omega)
  refine Or.elim (Classical.em (vs = [])) (fun hz => ?_) fun hz => ?_
  · rw [hz] at h50 h49 ⊢
    rw [show sd 9 (rowsS []) = .nil from rfl] at h50
    refine ev_call h50 (retW0 rfl rfl rfl rfl) ?_
    simp only [f46,go_sem,cfg,Nat.reduceLeDiff,Nat.reduceLT,Nat.reduceAdd,Nat.reduceSub,Nat.reduceMul,Nat.reduceBEq,Nat.reduceBNe,Nat.reduceEqDiff,reduceCtorEq,reduceIte,Int.reduceLT,Int.reduceLE,Int.reduceAdd,Int.reduceSub,Int.reduceNeg,Int.reduceEq,Int.reduceBEq,Int.reduceBNe,Int.reduceToNat,Nat.reduceDiv,Nat.reduceMod,rowsF_length,rowsS_length]
    refine ev_call h49 (retW0 rfl rfl rfl rfl) ?_
    simp only [f46,go_sem,cfg,Nat.reduceLeDiff,Nat.reduceLT,Nat.reduceAdd,Nat.reduceSub,Nat.reduceMul,Nat.reduceBEq,Nat.reduceBNe,Nat.reduceEqDiff,reduceCtorEq,reduceIte,Int.reduceLT,Int.reduceLE,Int.reduceAdd,Int.reduceSub,Int.reduceNeg,Int.reduceEq,Int.reduceBEq,Int.reduceBNe,Int.reduceToNat,Nat.reduceDiv,Nat.reduceMod,rowsF_length,rowsS_length]
    first | exact fin0 (.inr rfl) rfl rfl rfl rfl | trace_state
  · rw [sd_ne (rowsS_ne hz)] at h50
    refine ev_call h50 (retW0 rfl rfl rfl rfl) ?_
    simp only [f46,go_sem,cfg,Nat.reduceLeDiff,Nat.reduceLT,Nat.reduceAdd,Nat.reduceSub,Nat.reduceMul,Nat.reduceBEq,Nat.reduceBNe,Nat.reduceEqDiff,reduceCtorEq,reduceIte,Int.reduceLT,Int.reduceLE,Int.reduceAdd,Int.reduceSub,Int.reduceNeg,Int.reduceEq,Int.reduceBEq,Int.reduceBNe,Int.reduceToNat,Nat.reduceDiv,Nat.reduceMod,rowsF_length,rowsS_length]
    refine ev_call h49 (retW0 rfl rfl rfl rfl) ?_
    simp only [f46,go_sem,cfg,Nat.reduceLeDiff,Nat.reduceLT,Nat.reduceAdd,Nat.reduceSub,Nat.reduceMul,Nat.reduceBEq,Nat.reduceBNe,Nat.reduceEqDiff,reduceCtorEq,reduceIte,Int.reduceLT,Int.reduceLE,Int.reduceAdd,Int.reduceSub,Int.reduceNeg,Int.reduceEq,Int.reduceBEq,Int.reduceBNe,Int.reduceToNat,Nat.reduceDiv,Nat.reduceMod,rowsF_length,rowsS_length]
    first | exact fin0 (.inr rfl) rfl rfl rfl rfl | trace_state
theorem c30 (l : List Fld) (hl : Small l) (name : List UInt8) (hn : name.length ≤ 9223372036854775807) (h : fieldsB l = true) : Sem prog 30 ⟨[.imm 51 (rowsF l),.v (vS name)],[none,none]⟩ ⟨[.dead,.dead,.v (vS (joinB (valsB name l)))],[none,none]⟩ := by
  refine sem_fin (cfg := cfg 2) (ts := [.tm 4]) tbOk func30 rfl rfl rfl rfl (fun t h => by cases h) ?_
  simp only [f30,go_sem,cfg,Nat.reduceLeDiff,Nat.reduceLT,Nat.reduceAdd,Nat.reduceSub,Nat.reduceMul,Nat.reduceBEq,Nat.reduceBNe,Nat.reduceEqDiff,reduceCtorEq,reduceIte,Int.reduceLT,Int.reduceLE,Int.reduceAdd,Int.reduceSub,Int.reduceNeg,Int.reduceEq,Int.reduceBEq,Int.reduceBNe,Int.reduceToNat,Nat.reduceDiv,Nat.reduceMod,rowsF_length,rowsS_length,List.length_append]
  have h45 := c62 l hl name hn h
  have h190 := vals_190 (name := name) h
  have h20 := vals_20 (name := name) h
  generalize valsB name l = vs at h45 h190 h20 ⊢
  refine Or.elim (Classical.em (vs = [])) (fun hz => ?_) fun hz => ?_
  · rw [hz] at h45 ⊢
    rw [show sd 9 (rowsS []) = .nil from rfl] at h45
    rw [joinB_nil]
    refine ev_call h45 (retW0 rfl rfl rfl rfl) ?_
    simp only [f30,go_sem,cfg,Nat.reduceLeDiff,Nat.reduceLT,Nat.reduceAdd,Nat.reduceSub,Nat.reduceMul,Nat.reduceBEq,Nat.reduceBNe,Nat.reduceEqDiff,reduceCtorEq,reduceIte,Int.reduceLT,Int.reduceLE,Int.reduceAdd,Int.reduceSub,Int.reduceNeg,Int.reduceEq,Int.reduceBEq,Int.reduceBNe,Int.reduceToNat,Nat.reduceDiv,Nat.reduceMod,rowsF_length,rowsS_length,List.length_append]
    refine loop_on (fun _ : Unit => ⟨[.imm 51 (rowsF l),.v (vS name),.dead,.dead,.v (vS []),.nil,.v (vS []),.v (vI 0),.dead,.dead,.dead,.dead,.dead,.dead,.dead,.dead,.dead,.dead,.dead,.dead,.dead,.dead,.dead,.dead,.dead,.dead,.dead,.dead],List.replicate 28 none⟩) [0,1,4,5,6,7] (fun _ => True) (fun _ => 0) () rfl trivial ?_
    intro _ _
    simp only [f30,go_sem,cfg,Nat.reduceLeDiff,Nat.reduceLT,Nat.reduceAdd,Nat.reduceSub,Nat.reduceMul,Nat.reduceBEq,Nat.reduceBNe,Nat.reduceEqDiff,reduceCtorEq,reduceIte,Int.reduceLT,Int.reduceLE,Int.reduceAdd,Int.reduceSub,Int.reduceNeg,Int.reduceEq,Int.reduceBEq,Int.reduceBNe,Int.reduceToNat,Nat.reduceDiv,Nat.reduceMod,rowsF_length,rowsS_length,List.length_append]
    first | exact fin0 (.inr rfl) rfl rfl rfl rfl | trace_state
  · rw [sd_ne (rowsS_ne hz)] at h45
    refine ev_call h45 (retW0 rfl rfl rfl rfl) ?_
    simp only [f30,go_sem,cfg,Nat.reduceLeDiff,Nat.reduceLT,Nat.reduceAdd,Nat.reduceSub,Nat.reduceMul,Nat.reduceBEq,Nat.reduceBNe,Nat.reduceEqDiff,reduceCtorEq,reduceIte,Int.reduceLT,Int.reduceLE,Int.reduceAdd,Int.reduceSub,Int.reduceNeg,Int.reduceEq,Int.reduceBEq,Int.reduceBNe,Int.reduceToNat,Nat.reduceDiv,Nat.reduceMod,rowsF_length,rowsS_length,List.length_append]
    refine loop_on (fun i : Nat => ⟨[.imm 51 (rowsF l),.v (vS name),.dead,.dead,.v (vS []),.own 9 (rowsS vs),.v (vS (joinB (vs.take i))),.v (vI i),.dead,.dead,.dead,.dead,.dead,.dead,.dead,.dead,.dead,.dead,.dead,.dead,.dead,.dead,.dead,.dead,.dead,.dead,.dead,.dead],List.replicate 28 none⟩) [0,1,4,5,6,7] (fun i => i ≤ vs.length) (fun i => vs.length - i) 0 (by simp only [List.take_zero,joinB_nil]; rfl) (by omega) ?_
    intro i hi
    have hs : vs.length ≤ 9223372036854775807 := by omega
    simp only [f30,go_sem,cfg,Nat.reduceLeDiff,Nat.reduceLT,Nat.reduceAdd,Nat.reduceSub,Nat.reduceMul,Nat.reduceBEq,Nat.reduceBNe,Nat.reduceEqDiff,reduceCtorEq,reduceIte,Int.reduceLT,Int.reduceLE,Int.reduceAdd,Int.reduceSub,Int.reduceNeg,Int.reduceEq,Int.reduceBEq,Int.reduceBNe,Int.reduceToNat,Nat.reduceDiv,Nat.reduceMod,rowsF_length,rowsS_length,List.length_append,hs]
    by_cases hc : i < vs.length
    · have hw := wrapN hc hs
      have h1 := rowsS_getD hc
      have ht := take_at (d := []) hc
      have hjl : (joinB (vs.take i)).length ≤ 192 * (vs.take i).length := joinB_len fun v hv => h190 v (List.mem_of_mem_take hv)
      have hvl : (vs.getD i []).length ≤ 190 := h190 _ (by rw [List.getD_eq_getElem?_getD,List.getElem?_eq_getElem hc]; exact List.getElem_mem hc)
      rw [List.length_take] at hjl
      by_cases h0 : i = 0
      · subst h0
        have hlo : (vs.getD 0 []).length ≤ 9223372036854775807 := by omega
        have hc0 : (0 : Int) < (vs.length : Int) := by omega
        have ht1 : joinB (vs.take 1) = vs.getD 0 [] := by rw [show vs.take 1 = [vs.getD 0 []] from ht,joinB_one]
        simp only [f30,go_sem,cfg,Nat.reduceLeDiff,Nat.reduceLT,Nat.reduceAdd,Nat.reduceSub,Nat.reduceMul,Nat.reduceBEq,Nat.reduceBNe,Nat.reduceEqDiff,reduceCtorEq,reduceIte,Int.reduceLT,Int.reduceLE,Int.reduceAdd,Int.reduceSub,Int.reduceNeg,Int.reduceEq,Int.reduceBEq,Int.reduceBNe,Int.reduceToNat,Nat.reduceDiv,Nat.reduceMod,rowsF_length,rowsS_length,List.length_append,hs,hc,h1,hw,hlo,hc0,joinB_nil]
        first | exact ⟨1,by rw [ht1]; rfl,hc,by omega⟩ | trace_state
      · have hi0 : (0 : Int) < (i : Int) := by omega
        have hne : vs.take i ≠ [] := by
          intro h; have := congrArg List.length h; rw [List.length_take,List.length_nil] at this; omega
        have hlo : (joinB (vs.take i)).length + 2 ≤ 9223372036854775807 := by omega
        have hlo2 : (joinB (vs.take i)).length + 2 + (vs.getD i []).length ≤ 9223372036854775807 := by omega
        simp only [f30,go_sem,cfg,Nat.reduceLeDiff,Nat.reduceLT,Nat.reduceAdd,Nat.reduceSub,Nat.reduceMul,Nat.reduceBEq,Nat.reduceBNe,Nat.reduceEqDiff,reduceCtorEq,reduceIte,Int.reduceLT,Int.reduceLE,Int.reduceAdd,Int.reduceSub,Int.reduceNeg,Int.reduceEq,Int.reduceBEq,Int.reduceBNe,Int.reduceToNat,Nat.reduceDiv,Nat.reduceMod,rowsF_length,rowsS_length,List.length_append,hs,hc,h1,hw,hlo,hlo2,hi0]
        first | exact ⟨i + 1,by rw [ht,joinB_snoc hne]; rfl,hc,by omega⟩ | trace_state
    · have he : i = vs.length := by omega
      subst he
      simp only [f30,go_sem,cfg,Nat.reduceLeDiff,Nat.reduceLT,Nat.reduceAdd,Nat.reduceSub,Nat.reduceMul,Nat.reduceBEq,Nat.reduceBNe,Nat.reduceEqDiff,reduceCtorEq,reduceIte,Int.reduceLT,Int.reduceLE,Int.reduceAdd,Int.reduceSub,Int.reduceNeg,Int.reduceEq,Int.reduceBEq,Int.reduceBNe,Int.reduceToNat,Nat.reduceDiv,Nat.reduceMod,rowsF_length,rowsS_length,List.length_append,hc,List.take_length]
      first | exact fin0 (.inr rfl) rfl rfl rfl rfl | trace_state
end Go.Proofs.YtagfeejofceheaaGreatDoor.Fw

/- Contracts: the via field. -/
namespace Go.Proofs.YtagfeejofceheaaGreatDoor.Fw
open Go
open Go.Proofs.Tryz
set_option maxRecDepth 100000
set_option maxHeartbeats 600000
set_option linter.unusedSimpArgs false
set_option linter.unusedVariables false
attribute [local congr] c_bnd c_slot c_cell c_all c_len c_chk c_asm c_opdR c_wp c_pwp c_pOps c_Done c_nx c_blk c_fin c_rowsR c_leafR c_opdsR c_coeLeaf c_coeLeaves c_lendLeaf c_lendLeaves c_coeCapt c_argR c_argsR c_boundR c_partsR c_srcR c_mfgo c_ite c_wpF c_OutF c_pHead c_pDraw
def viaN : List UInt8 := [118,105,97]
def viaV (old name : List UInt8) : List UInt8 := if old = [] then [49,46,49,32] ++ name else old ++ ([44,32] ++ ([49,46,49,32] ++ name))
def nickB (name : List UInt8) : Bool := tokenI name && decide (name.length ≤ 20)
def addB (l : List Fld) (name : List UInt8) : Option (List Fld) :=
  if fieldsB l && nickB name then withB l ([86,105,97],viaV (joinB (valsB viaN l)) name) else none
theorem c17 (l : List Fld) (hl : Small l) (name : List UInt8) (hn : name.length ≤ 9223372036854775807) : Sem prog 17 ⟨[.imm 51 (rowsF l),.v (vS name)],[none,none]⟩ ⟨[.dead,.dead,optD (addB l name)],[none,none]⟩ := by
  refine sem_fin (cfg := cfg 2) (ts := [.tm 4]) tbOk func17 rfl rfl rfl rfl (fun t h => by cases h) ?_
  simp only [f17,go_sem,cfg,Nat.reduceLeDiff,Nat.reduceLT,Nat.reduceAdd,Nat.reduceSub,Nat.reduceMul,Nat.reduceBEq,Nat.reduceBNe,Nat.reduceEqDiff,reduceCtorEq,reduceIte,Int.reduceLT,Int.reduceLE,Int.reduceAdd,Int.reduceSub,Int.reduceNeg,Int.reduceEq,Int.reduceBEq,Int.reduceBNe,Int.reduceToNat,Nat.reduceDiv,Nat.reduceMod,rowsF_length,rowsS_length,List.length_append,List.cons_append,List.nil_append,List.append_assoc]
  refine ev_call (c36 l hl) (retW0 rfl rfl rfl rfl) ?_
  cases hf : fieldsB l
  · have ha : addB l name = none := by unfold addB; rw [hf]; rfl
    rw [ha]
    simp only [f17,go_sem,cfg,Nat.reduceLeDiff,Nat.reduceLT,Nat.reduceAdd,Nat.reduceSub,Nat.reduceMul,Nat.reduceBEq,Nat.reduceBNe,Nat.reduceEqDiff,reduceCtorEq,reduceIte,Int.reduceLT,Int.reduceLE,Int.reduceAdd,Int.reduceSub,Int.reduceNeg,Int.reduceEq,Int.reduceBEq,Int.reduceBNe,Int.reduceToNat,Nat.reduceDiv,Nat.reduceMod,rowsF_length,rowsS_length,List.length_append,List.cons_append,List.nil_append,List.append_assoc]
    first | exact fin0 (.inr rfl) rfl rfl rfl rfl | trace_state
  simp only [f17,go_sem,cfg,Nat.reduceLeDiff,Nat.reduceLT,Nat.reduceAdd,Nat.reduceSub,Nat.reduceMul,Nat.reduceBEq,Nat.reduceBNe,Nat.reduceEqDiff,reduceCtorEq,reduceIte,Int.reduceLT,Int.reduceLE,Int.reduceAdd,Int.reduceSub,Int.reduceNeg,Int.reduceEq,Int.reduceBEq,Int.reduceBNe,Int.reduceToNat,Nat.reduceDiv,Nat.reduceMod,rowsF_length,rowsS_length,List.length_append,List.cons_append,List.nil_append,List.append_assoc]
  refine Or.elim (Classical.em (nickB name = false)) (fun hk => ?_) fun hk => ?_
  · refine ev_call (c45 name hn) (retW0 rfl rfl rfl rfl) ?_
    have ha : addB l name = none := by unfold addB; rw [hk]; simp
    rw [ha]
    have hk' : (tokenI name && decide (name.length ≤ 20)) = false := by rw [← hk]; rfl
    simp only [f17,go_sem,cfg,Nat.reduceLeDiff,Nat.reduceLT,Nat.reduceAdd,Nat.reduceSub,Nat.reduceMul,Nat.reduceBEq,Nat.reduceBNe,Nat.reduceEqDiff,reduceCtorEq,reduceIte,Int.reduceLT,Int.reduceLE,Int.reduceAdd,Int.reduceSub,Int.reduceNeg,Int.reduceEq,Int.reduceBEq,Int.reduceBNe,Int.reduceToNat,Nat.reduceDiv,Nat.reduceMod,rowsF_length,rowsS_length,List.length_append,List.cons_append,List.nil_append,List.append_assoc,hk']
    first | exact fin0 (.inr rfl) rfl rfl rfl rfl | trace_state
  have hk : nickB name = true := by simpa using hk
  refine ev_call (c45 name hn) (retW0 rfl rfl rfl rfl) ?_
  have hk' : (tokenI name && decide (name.length ≤ 20)) = true := by rw [← hk]; rfl
  have hn20 : name.length ≤ 20 := by
    simp only [nickB,Bool.and_eq_true,decide_eq_true_eq] at hk; exact hk.2
  have hjl := joined_len (name := viaN) hf
  have ha : addB l name = withB l ([86,105,97],viaV (joinB (valsB viaN l)) name) := by unfold addB; rw [hf,hk]; rfl
  rw [ha]
  have hj := c46 l hl viaN (by decide) hf
  generalize joinB (valsB viaN l) = old at hj hjl ⊢
  have hlo1 : 4 + name.length ≤ 9223372036854775807 := by omega
  simp only [f17,go_sem,cfg,Nat.reduceLeDiff,Nat.reduceLT,Nat.reduceAdd,Nat.reduceSub,Nat.reduceMul,Nat.reduceBEq,Nat.reduceBNe,Nat.reduceEqDiff,reduceCtorEq,reduceIte,Int.reduceLT,Int.reduceLE,Int.reduceAdd,Int.reduceSub,Int.reduceNeg,Int.reduceEq,Int.reduceBEq,Int.reduceBNe,Int.reduceToNat,Nat.reduceDiv,Nat.reduceMod,rowsF_length,rowsS_length,List.length_append,List.cons_append,List.nil_append,List.append_assoc,hk',hlo1]
  try simp only [f17,go_sem,cfg,Nat.reduceLeDiff,Nat.reduceLT,Nat.reduceAdd,Nat.reduceSub,Nat.reduceMul,Nat.reduceBEq,Nat.reduceBNe,Nat.reduceEqDiff,reduceCtorEq,reduceIte,Int.reduceLT,Int.reduceLE,Int.reduceAdd,Int.reduceSub,Int.reduceNeg,Int.reduceEq,Int.reduceBEq,Int.reduceBNe,Int.reduceToNat,Nat.reduceDiv,Nat.reduceMod,rowsF_length,rowsS_length,List.length_append,List.cons_append,List.nil_append,List.append_assoc,hlo1]
  refine Or.elim (Classical.em (old = [])) (fun hz => ?_) fun hz => ?_
  · refine ev_call hj (retW0 rfl rfl rfl rfl) ?_
    have hv : viaV old name = [49,46,49,32] ++ name := by unfold viaV; rw [if_pos hz]
    rw [hv]
    have hlv : ([49,46,49,32] ++ name).length ≤ 9223372036854775807 := by simp; omega
    have hw := c47 l hl ([86,105,97],[49,46,49,32] ++ name) (by simp) hlv
    rw [hz]
    generalize withB l ([86,105,97],[49,46,49,32] ++ name) = r at hw ⊢
    simp only [f17,go_sem,cfg,Nat.reduceLeDiff,Nat.reduceLT,Nat.reduceAdd,Nat.reduceSub,Nat.reduceMul,Nat.reduceBEq,Nat.reduceBNe,Nat.reduceEqDiff,reduceCtorEq,reduceIte,Int.reduceLT,Int.reduceLE,Int.reduceAdd,Int.reduceSub,Int.reduceNeg,Int.reduceEq,Int.reduceBEq,Int.reduceBNe,Int.reduceToNat,Nat.reduceDiv,Nat.reduceMod,rowsF_length,rowsS_length,List.length_append,List.cons_append,List.nil_append,List.append_assoc,hlo1,hlv]
    cases r with
    | none =>
      refine ev_call hw (retW0 rfl rfl rfl rfl) ?_
      simp only [f17,go_sem,cfg,Nat.reduceLeDiff,Nat.reduceLT,Nat.reduceAdd,Nat.reduceSub,Nat.reduceMul,Nat.reduceBEq,Nat.reduceBNe,Nat.reduceEqDiff,reduceCtorEq,reduceIte,Int.reduceLT,Int.reduceLE,Int.reduceAdd,Int.reduceSub,Int.reduceNeg,Int.reduceEq,Int.reduceBEq,Int.reduceBNe,Int.reduceToNat,Nat.reduceDiv,Nat.reduceMod,rowsF_length,rowsS_length,List.length_append,List.cons_append,List.nil_append,List.append_assoc]
      first | exact fin0 (.inr rfl) rfl rfl rfl rfl | trace_state
    | some x =>
      refine ev_call hw (retW0 rfl rfl rfl rfl) ?_
      simp only [f17,go_sem,cfg,Nat.reduceLeDiff,Nat.reduceLT,Nat.reduceAdd,Nat.reduceSub,Nat.reduceMul,Nat.reduceBEq,Nat.reduceBNe,Nat.reduceEqDiff,reduceCtorEq,reduceIte,Int.reduceLT,Int.reduceLE,Int.reduceAdd,Int.reduceSub,Int.reduceNeg,Int.reduceEq,Int.reduceBEq,Int.reduceBNe,Int.reduceToNat,Nat.reduceDiv,Nat.reduceMod,rowsF_length,rowsS_length,List.length_append,List.cons_append,List.nil_append,List.append_assoc]
      first | exact fin0 (.inr rfl) rfl rfl rfl rfl | trace_state
  · refine ev_call hj (retW0 rfl rfl rfl rfl) ?_
    have hv : viaV old name = old ++ ([44,32] ++ ([49,46,49,32] ++ name)) := by unfold viaV; rw [if_neg hz]
    rw [hv]
    have hnb := beq_nil_false hz
    have hlv : (old ++ ([44,32] ++ ([49,46,49,32] ++ name))).length ≤ 9223372036854775807 := by simp; omega
    have hw := c47 l hl ([86,105,97],old ++ ([44,32] ++ ([49,46,49,32] ++ name))) (by simp) hlv
    generalize hr : withB l ([86,105,97],old ++ ([44,32] ++ ([49,46,49,32] ++ name))) = r at hw ⊢
    have hs1 : old.length + 2 ≤ 9223372036854775807 := by omega
    have hs2 : old.length + 2 + 4 ≤ 9223372036854775807 := by omega
    have hs3 : old.length + (2 + 4) ≤ 9223372036854775807 := by omega
    have hs4 : old.length + 2 + 4 + name.length ≤ 9223372036854775807 := by omega
    have hs5 : old.length + (2 + 4) + name.length ≤ 9223372036854775807 := by omega
    have hs6 : old.length + 2 + (4 + name.length) ≤ 9223372036854775807 := by omega
    have hs7 : old.length + 2 + (name.length + 1 + 1 + 1 + 1) ≤ 9223372036854775807 := by omega
    have hs8 : name.length + 1 + 1 + 1 + 1 ≤ 9223372036854775807 := by omega
    simp only [f17,go_sem,cfg,Nat.reduceLeDiff,Nat.reduceLT,Nat.reduceAdd,Nat.reduceSub,Nat.reduceMul,Nat.reduceBEq,Nat.reduceBNe,Nat.reduceEqDiff,reduceCtorEq,reduceIte,Int.reduceLT,Int.reduceLE,Int.reduceAdd,Int.reduceSub,Int.reduceNeg,Int.reduceEq,Int.reduceBEq,Int.reduceBNe,Int.reduceToNat,Nat.reduceDiv,Nat.reduceMod,rowsF_length,rowsS_length,List.length_append,List.cons_append,List.nil_append,List.append_assoc,hlo1,hnb,hs1,hs2,hs3,hs4,hs5,hs6,hs7,hs8]
    cases r with
    | none =>
      refine ev_call hw (retW0 rfl rfl rfl rfl) ?_
      simp only [f17,go_sem,cfg,Nat.reduceLeDiff,Nat.reduceLT,Nat.reduceAdd,Nat.reduceSub,Nat.reduceMul,Nat.reduceBEq,Nat.reduceBNe,Nat.reduceEqDiff,reduceCtorEq,reduceIte,Int.reduceLT,Int.reduceLE,Int.reduceAdd,Int.reduceSub,Int.reduceNeg,Int.reduceEq,Int.reduceBEq,Int.reduceBNe,Int.reduceToNat,Nat.reduceDiv,Nat.reduceMod,rowsF_length,rowsS_length,List.length_append,List.cons_append,List.nil_append,List.append_assoc]
      first | exact fin0 (.inr rfl) rfl rfl rfl rfl | trace_state
    | some x =>
      refine ev_call hw (retW0 rfl rfl rfl rfl) ?_
      simp only [f17,go_sem,cfg,Nat.reduceLeDiff,Nat.reduceLT,Nat.reduceAdd,Nat.reduceSub,Nat.reduceMul,Nat.reduceBEq,Nat.reduceBNe,Nat.reduceEqDiff,reduceCtorEq,reduceIte,Int.reduceLT,Int.reduceLE,Int.reduceAdd,Int.reduceSub,Int.reduceNeg,Int.reduceEq,Int.reduceBEq,Int.reduceBNe,Int.reduceToNat,Nat.reduceDiv,Nat.reduceMod,rowsF_length,rowsS_length,List.length_append,List.cons_append,List.nil_append,List.append_assoc]
      first | exact fin0 (.inr rfl) rfl rfl rfl rfl | trace_state
theorem c13 (l : List Fld) (hl : Small l) (name : List UInt8) (hn : name.length ≤ 9223372036854775807) : Sem prog 13 ⟨[.imm 51 (rowsF l),.v (vS name)],[none,none]⟩ ⟨[.dead,.dead,optD (addB l name)],[none,none]⟩ := by
  refine sem_fin (cfg := cfg 2) (ts := [.tm 4]) tbOk func13 rfl rfl rfl rfl (fun t h => by cases h) ?_
  simp only [f13,go_sem,cfg,Nat.reduceLeDiff,Nat.reduceLT,Nat.reduceAdd,Nat.reduceSub,Nat.reduceMul,Nat.reduceBEq,Nat.reduceBNe,Nat.reduceEqDiff,reduceCtorEq,reduceIte,Int.reduceLT,Int.reduceLE,Int.reduceAdd,Int.reduceSub,Int.reduceNeg,Int.reduceEq,Int.reduceBEq,Int.reduceBNe,Int.reduceToNat,Nat.reduceDiv,Nat.reduceMod,rowsF_length,rowsS_length,List.length_append,List.cons_append,List.nil_append,List.append_assoc]
  refine ev_call (c24 l hl) (retW0 rfl rfl rfl rfl) ?_
  cases hf : fieldsB l
  · have ha : addB l name = none := by unfold addB; rw [hf]; rfl
    rw [ha]
    simp only [f13,go_sem,cfg,Nat.reduceLeDiff,Nat.reduceLT,Nat.reduceAdd,Nat.reduceSub,Nat.reduceMul,Nat.reduceBEq,Nat.reduceBNe,Nat.reduceEqDiff,reduceCtorEq,reduceIte,Int.reduceLT,Int.reduceLE,Int.reduceAdd,Int.reduceSub,Int.reduceNeg,Int.reduceEq,Int.reduceBEq,Int.reduceBNe,Int.reduceToNat,Nat.reduceDiv,Nat.reduceMod,rowsF_length,rowsS_length,List.length_append,List.cons_append,List.nil_append,List.append_assoc]
    first | exact fin0 (.inr rfl) rfl rfl rfl rfl | trace_state
  simp only [f13,go_sem,cfg,Nat.reduceLeDiff,Nat.reduceLT,Nat.reduceAdd,Nat.reduceSub,Nat.reduceMul,Nat.reduceBEq,Nat.reduceBNe,Nat.reduceEqDiff,reduceCtorEq,reduceIte,Int.reduceLT,Int.reduceLE,Int.reduceAdd,Int.reduceSub,Int.reduceNeg,Int.reduceEq,Int.reduceBEq,Int.reduceBNe,Int.reduceToNat,Nat.reduceDiv,Nat.reduceMod,rowsF_length,rowsS_length,List.length_append,List.cons_append,List.nil_append,List.append_assoc]
  refine Or.elim (Classical.em (nickB name = false)) (fun hk => ?_) fun hk => ?_
  · refine ev_call (c29 name hn) (retW0 rfl rfl rfl rfl) ?_
    have ha : addB l name = none := by unfold addB; rw [hk]; simp
    rw [ha]
    have hk' : (decide (name.length ≤ 20) && tokenS name) = false := by rw [token_eq,Bool.and_comm,← hk]; rfl
    simp only [f13,go_sem,cfg,Nat.reduceLeDiff,Nat.reduceLT,Nat.reduceAdd,Nat.reduceSub,Nat.reduceMul,Nat.reduceBEq,Nat.reduceBNe,Nat.reduceEqDiff,reduceCtorEq,reduceIte,Int.reduceLT,Int.reduceLE,Int.reduceAdd,Int.reduceSub,Int.reduceNeg,Int.reduceEq,Int.reduceBEq,Int.reduceBNe,Int.reduceToNat,Nat.reduceDiv,Nat.reduceMod,rowsF_length,rowsS_length,List.length_append,List.cons_append,List.nil_append,List.append_assoc,hk']
    first | exact fin0 (.inr rfl) rfl rfl rfl rfl | trace_state
  have hk : nickB name = true := by simpa using hk
  refine ev_call (c29 name hn) (retW0 rfl rfl rfl rfl) ?_
  have hk' : (decide (name.length ≤ 20) && tokenS name) = true := by rw [token_eq,Bool.and_comm,← hk]; rfl
  have hn20 : name.length ≤ 20 := by
    simp only [nickB,Bool.and_eq_true,decide_eq_true_eq] at hk; exact hk.2
  have hjl := joined_len (name := viaN) hf
  have ha : addB l name = withB l ([86,105,97],viaV (joinB (valsB viaN l)) name) := by unfold addB; rw [hf,hk]; rfl
  rw [ha]
  have hj := c30 l hl viaN (by decide) hf
  generalize joinB (valsB viaN l) = old at hj hjl ⊢
  have hlo1 : 4 + name.length ≤ 9223372036854775807 := by omega
  simp only [f13,go_sem,cfg,Nat.reduceLeDiff,Nat.reduceLT,Nat.reduceAdd,Nat.reduceSub,Nat.reduceMul,Nat.reduceBEq,Nat.reduceBNe,Nat.reduceEqDiff,reduceCtorEq,reduceIte,Int.reduceLT,Int.reduceLE,Int.reduceAdd,Int.reduceSub,Int.reduceNeg,Int.reduceEq,Int.reduceBEq,Int.reduceBNe,Int.reduceToNat,Nat.reduceDiv,Nat.reduceMod,rowsF_length,rowsS_length,List.length_append,List.cons_append,List.nil_append,List.append_assoc,hk',hlo1]
  try simp only [f13,go_sem,cfg,Nat.reduceLeDiff,Nat.reduceLT,Nat.reduceAdd,Nat.reduceSub,Nat.reduceMul,Nat.reduceBEq,Nat.reduceBNe,Nat.reduceEqDiff,reduceCtorEq,reduceIte,Int.reduceLT,Int.reduceLE,Int.reduceAdd,Int.reduceSub,Int.reduceNeg,Int.reduceEq,Int.reduceBEq,Int.reduceBNe,Int.reduceToNat,Nat.reduceDiv,Nat.reduceMod,rowsF_length,rowsS_length,List.length_append,List.cons_append,List.nil_append,List.append_assoc,hlo1]
  refine Or.elim (Classical.em (old = [])) (fun hz => ?_) fun hz => ?_
  · refine ev_call hj (retW0 rfl rfl rfl rfl) ?_
    have hv : viaV old name = [49,46,49,32] ++ name := by unfold viaV; rw [if_pos hz]
    rw [hv]
    have hlv : ([49,46,49,32] ++ name).length ≤ 9223372036854775807 := by simp; omega
    have hw := c31 l hl ([86,105,97],[49,46,49,32] ++ name) (by simp) hlv
    rw [hz]
    generalize withB l ([86,105,97],[49,46,49,32] ++ name) = r at hw ⊢
    simp only [f13,go_sem,cfg,Nat.reduceLeDiff,Nat.reduceLT,Nat.reduceAdd,Nat.reduceSub,Nat.reduceMul,Nat.reduceBEq,Nat.reduceBNe,Nat.reduceEqDiff,reduceCtorEq,reduceIte,Int.reduceLT,Int.reduceLE,Int.reduceAdd,Int.reduceSub,Int.reduceNeg,Int.reduceEq,Int.reduceBEq,Int.reduceBNe,Int.reduceToNat,Nat.reduceDiv,Nat.reduceMod,rowsF_length,rowsS_length,List.length_append,List.cons_append,List.nil_append,List.append_assoc,hlo1,hlv]
    cases r with
    | none =>
      refine ev_call hw (retW0 rfl rfl rfl rfl) ?_
      simp only [f13,go_sem,cfg,Nat.reduceLeDiff,Nat.reduceLT,Nat.reduceAdd,Nat.reduceSub,Nat.reduceMul,Nat.reduceBEq,Nat.reduceBNe,Nat.reduceEqDiff,reduceCtorEq,reduceIte,Int.reduceLT,Int.reduceLE,Int.reduceAdd,Int.reduceSub,Int.reduceNeg,Int.reduceEq,Int.reduceBEq,Int.reduceBNe,Int.reduceToNat,Nat.reduceDiv,Nat.reduceMod,rowsF_length,rowsS_length,List.length_append,List.cons_append,List.nil_append,List.append_assoc]
      first | exact fin0 (.inr rfl) rfl rfl rfl rfl | trace_state
    | some x =>
      refine ev_call hw (retW0 rfl rfl rfl rfl) ?_
      simp only [f13,go_sem,cfg,Nat.reduceLeDiff,Nat.reduceLT,Nat.reduceAdd,Nat.reduceSub,Nat.reduceMul,Nat.reduceBEq,Nat.reduceBNe,Nat.reduceEqDiff,reduceCtorEq,reduceIte,Int.reduceLT,Int.reduceLE,Int.reduceAdd,Int.reduceSub,Int.reduceNeg,Int.reduceEq,Int.reduceBEq,Int.reduceBNe,Int.reduceToNat,Nat.reduceDiv,Nat.reduceMod,rowsF_length,rowsS_length,List.length_append,List.cons_append,List.nil_append,List.append_assoc]
      first | exact fin0 (.inr rfl) rfl rfl rfl rfl | trace_state
  · refine ev_call hj (retW0 rfl rfl rfl rfl) ?_
    have hv : viaV old name = old ++ ([44,32] ++ ([49,46,49,32] ++ name)) := by unfold viaV; rw [if_neg hz]
    rw [hv]
    have hnb := beq_nil_false hz
    have hlv : (old ++ ([44,32] ++ ([49,46,49,32] ++ name))).length ≤ 9223372036854775807 := by simp; omega
    have hw := c31 l hl ([86,105,97],old ++ ([44,32] ++ ([49,46,49,32] ++ name))) (by simp) hlv
    generalize hr : withB l ([86,105,97],old ++ ([44,32] ++ ([49,46,49,32] ++ name))) = r at hw ⊢
    have hs1 : old.length + 2 ≤ 9223372036854775807 := by omega
    have hs2 : old.length + 2 + 4 ≤ 9223372036854775807 := by omega
    have hs3 : old.length + (2 + 4) ≤ 9223372036854775807 := by omega
    have hs4 : old.length + 2 + 4 + name.length ≤ 9223372036854775807 := by omega
    have hs5 : old.length + (2 + 4) + name.length ≤ 9223372036854775807 := by omega
    have hs6 : old.length + 2 + (4 + name.length) ≤ 9223372036854775807 := by omega
    have hs7 : old.length + 2 + (name.length + 1 + 1 + 1 + 1) ≤ 9223372036854775807 := by omega
    have hs8 : name.length + 1 + 1 + 1 + 1 ≤ 9223372036854775807 := by omega
    simp only [f13,go_sem,cfg,Nat.reduceLeDiff,Nat.reduceLT,Nat.reduceAdd,Nat.reduceSub,Nat.reduceMul,Nat.reduceBEq,Nat.reduceBNe,Nat.reduceEqDiff,reduceCtorEq,reduceIte,Int.reduceLT,Int.reduceLE,Int.reduceAdd,Int.reduceSub,Int.reduceNeg,Int.reduceEq,Int.reduceBEq,Int.reduceBNe,Int.reduceToNat,Nat.reduceDiv,Nat.reduceMod,rowsF_length,rowsS_length,List.length_append,List.cons_append,List.nil_append,List.append_assoc,hlo1,hnb,hs1,hs2,hs3,hs4,hs5,hs6,hs7,hs8]
    cases r with
    | none =>
      refine ev_call hw (retW0 rfl rfl rfl rfl) ?_
      simp only [f13,go_sem,cfg,Nat.reduceLeDiff,Nat.reduceLT,Nat.reduceAdd,Nat.reduceSub,Nat.reduceMul,Nat.reduceBEq,Nat.reduceBNe,Nat.reduceEqDiff,reduceCtorEq,reduceIte,Int.reduceLT,Int.reduceLE,Int.reduceAdd,Int.reduceSub,Int.reduceNeg,Int.reduceEq,Int.reduceBEq,Int.reduceBNe,Int.reduceToNat,Nat.reduceDiv,Nat.reduceMod,rowsF_length,rowsS_length,List.length_append,List.cons_append,List.nil_append,List.append_assoc]
      first | exact fin0 (.inr rfl) rfl rfl rfl rfl | trace_state
    | some x =>
      refine ev_call hw (retW0 rfl rfl rfl rfl) ?_
      simp only [f13,go_sem,cfg,Nat.reduceLeDiff,Nat.reduceLT,Nat.reduceAdd,Nat.reduceSub,Nat.reduceMul,Nat.reduceBEq,Nat.reduceBNe,Nat.reduceEqDiff,reduceCtorEq,reduceIte,Int.reduceLT,Int.reduceLE,Int.reduceAdd,Int.reduceSub,Int.reduceNeg,Int.reduceEq,Int.reduceBEq,Int.reduceBNe,Int.reduceToNat,Nat.reduceDiv,Nat.reduceMod,rowsF_length,rowsS_length,List.length_append,List.cons_append,List.nil_append,List.append_assoc]
      first | exact fin0 (.inr rfl) rfl rfl rfl rfl | trace_state
end Go.Proofs.YtagfeejofceheaaGreatDoor.Fw

/- Contracts: parts of messages. -/
namespace Go.Proofs.YtagfeejofceheaaGreatDoor.Fw
open Go
open Go.Proofs.Tryz
set_option maxRecDepth 100000
set_option maxHeartbeats 600000
set_option linter.unusedSimpArgs false
set_option linter.unusedVariables false
attribute [local congr] c_bnd c_slot c_cell c_all c_len c_chk c_asm c_opdR c_wp c_pwp c_pOps c_Done c_nx c_blk c_fin c_rowsR c_leafR c_opdsR c_coeLeaf c_coeLeaves c_lendLeaf c_lendLeaves c_coeCapt c_argR c_argsR c_boundR c_partsR c_srcR c_mfgo c_ite c_wpF c_OutF c_pHead c_pDraw
def visB (n : Int) : Bool := decide (33 ≤ n) && decide (n ≤ 126)
def bareB (n : Int) : Bool := (n == 204) || (n == 304)
def targetB (l : List UInt8) : Bool := inB 1 200 l.length && l.all fun b => visB b.toNat
def statusB (n : Int) : Bool := inB 200 599 n
def reasonB (l : List UInt8) : Bool := decide (l.length ≤ 40) && l.all fun b => plainB b.toNat
def clN : List UInt8 := [99,111,110,116,101,110,116,45,108,101,110,103,116,104]
def teN : List UInt8 := [116,114,97,110,115,102,101,114,45,101,110,99,111,100,105,110,103]
def trN : List UInt8 := [116,114,97,105,108,101,114]
def frB (p : Fld) : Bool := (foldB p.1 == clN) || (foldB p.1 == teN) || (foldB p.1 == trN)
def fieldT (p : Fld) : List UInt8 := p.1 ++ [58,32] ++ p.2
theorem c72 (n : Int) : Sem prog 72 ⟨[.v (vC n)],[none]⟩ ⟨[.dead,.v (vB (visB n))],[none]⟩ := by
  refine sem_fin (cfg := cfg 1) (ts := [.tm 2]) tbOk func72 rfl rfl rfl rfl (fun t h => by cases h) ?_
  simp only [f72,go_sem,cfg,Nat.reduceLeDiff,Nat.reduceLT,Nat.reduceAdd,Nat.reduceSub,Nat.reduceMul,Nat.reduceBEq,Nat.reduceBNe,Nat.reduceEqDiff,reduceCtorEq,reduceIte,Int.reduceLT,Int.reduceLE,Int.reduceAdd,Int.reduceSub,Int.reduceNeg,Int.reduceEq,Int.reduceBEq,Int.reduceBNe,Int.reduceToNat,Nat.reduceDiv,Nat.reduceMod, *]
  repeat' ((first | with_reducible intro _ | split) <;> (try simp only [f72,go_sem,cfg,Nat.reduceLeDiff,Nat.reduceLT,Nat.reduceAdd,Nat.reduceSub,Nat.reduceMul,Nat.reduceBEq,Nat.reduceBNe,Nat.reduceEqDiff,reduceCtorEq,reduceIte,Int.reduceLT,Int.reduceLE,Int.reduceAdd,Int.reduceSub,Int.reduceNeg,Int.reduceEq,Int.reduceBEq,Int.reduceBNe,Int.reduceToNat,Nat.reduceDiv,Nat.reduceMod, *]))
  all_goals
    refine fin0 (.inr rfl) rfl rfl rfl ?_
    simp only [shutR,shutD,List.getD_cons_zero,List.getD_cons_succ]
    refine congrArg (fun b => D.v (vB b)) ?_
    grind [visB]
theorem c43 (n : Int) : Sem prog 43 ⟨[.v (vI n)],[none]⟩ ⟨[.dead,.v (vB (bareB n))],[none]⟩ := by
  refine sem_fin (cfg := cfg 1) (ts := [.tm 2]) tbOk func43 rfl rfl rfl rfl (fun t h => by cases h) ?_
  simp only [f43,go_sem,cfg,Nat.reduceLeDiff,Nat.reduceLT,Nat.reduceAdd,Nat.reduceSub,Nat.reduceMul,Nat.reduceBEq,Nat.reduceBNe,Nat.reduceEqDiff,reduceCtorEq,reduceIte,Int.reduceLT,Int.reduceLE,Int.reduceAdd,Int.reduceSub,Int.reduceNeg,Int.reduceEq,Int.reduceBEq,Int.reduceBNe,Int.reduceToNat,Nat.reduceDiv,Nat.reduceMod, *]
  repeat' ((first | with_reducible intro _ | split) <;> (try simp only [f43,go_sem,cfg,Nat.reduceLeDiff,Nat.reduceLT,Nat.reduceAdd,Nat.reduceSub,Nat.reduceMul,Nat.reduceBEq,Nat.reduceBNe,Nat.reduceEqDiff,reduceCtorEq,reduceIte,Int.reduceLT,Int.reduceLE,Int.reduceAdd,Int.reduceSub,Int.reduceNeg,Int.reduceEq,Int.reduceBEq,Int.reduceBNe,Int.reduceToNat,Nat.reduceDiv,Nat.reduceMod, *]))
  all_goals
    refine fin0 (.inr rfl) rfl rfl rfl ?_
    simp only [shutR,shutD,List.getD_cons_zero,List.getD_cons_succ]
    refine congrArg (fun b => D.v (vB b)) ?_
    grind [bareB]
theorem c59 (n : Int) : Sem prog 59 ⟨[.v (vI n)],[none]⟩ ⟨[.dead,.v (vB (bareB n))],[none]⟩ := by
  refine sem_fin (cfg := cfg 1) (ts := [.tm 2]) tbOk func59 rfl rfl rfl rfl (fun t h => by cases h) ?_
  simp only [f59,go_sem,cfg,Nat.reduceLeDiff,Nat.reduceLT,Nat.reduceAdd,Nat.reduceSub,Nat.reduceMul,Nat.reduceBEq,Nat.reduceBNe,Nat.reduceEqDiff,reduceCtorEq,reduceIte,Int.reduceLT,Int.reduceLE,Int.reduceAdd,Int.reduceSub,Int.reduceNeg,Int.reduceEq,Int.reduceBEq,Int.reduceBNe,Int.reduceToNat,Nat.reduceDiv,Nat.reduceMod, *]
  repeat' ((first | with_reducible intro _ | split) <;> (try simp only [f59,go_sem,cfg,Nat.reduceLeDiff,Nat.reduceLT,Nat.reduceAdd,Nat.reduceSub,Nat.reduceMul,Nat.reduceBEq,Nat.reduceBNe,Nat.reduceEqDiff,reduceCtorEq,reduceIte,Int.reduceLT,Int.reduceLE,Int.reduceAdd,Int.reduceSub,Int.reduceNeg,Int.reduceEq,Int.reduceBEq,Int.reduceBNe,Int.reduceToNat,Nat.reduceDiv,Nat.reduceMod, *]))
  all_goals
    refine fin0 (.inr rfl) rfl rfl rfl ?_
    simp only [shutR,shutD,List.getD_cons_zero,List.getD_cons_succ]
    refine congrArg (fun b => D.v (vB b)) ?_
    grind [bareB]
theorem c41 (n : Int) : Sem prog 41 ⟨[.v (vI n)],[none]⟩ ⟨[.dead,.v (vB (statusB n))],[none]⟩ := by
  refine sem_fin (cfg := cfg 1) (ts := [.tm 2]) tbOk func41 rfl rfl rfl rfl (fun t h => by cases h) ?_
  simp only [f41,go_sem,cfg,Nat.reduceLeDiff,Nat.reduceLT,Nat.reduceAdd,Nat.reduceSub,Nat.reduceMul,Nat.reduceBEq,Nat.reduceBNe,Nat.reduceEqDiff,reduceCtorEq,reduceIte,Int.reduceLT,Int.reduceLE,Int.reduceAdd,Int.reduceSub,Int.reduceNeg,Int.reduceEq,Int.reduceBEq,Int.reduceBNe,Int.reduceToNat,Nat.reduceDiv,Nat.reduceMod, *]
  repeat' ((first | refine ev_call (c70 _ _ _) (retW0 rfl rfl rfl rfl) ?_ | with_reducible intro _ | split) <;> (try simp only [f41,go_sem,cfg,Nat.reduceLeDiff,Nat.reduceLT,Nat.reduceAdd,Nat.reduceSub,Nat.reduceMul,Nat.reduceBEq,Nat.reduceBNe,Nat.reduceEqDiff,reduceCtorEq,reduceIte,Int.reduceLT,Int.reduceLE,Int.reduceAdd,Int.reduceSub,Int.reduceNeg,Int.reduceEq,Int.reduceBEq,Int.reduceBNe,Int.reduceToNat,Nat.reduceDiv,Nat.reduceMod, *]))
  all_goals
    refine fin0 (.inr rfl) rfl rfl rfl ?_
    simp only [shutR,shutD,List.getD_cons_zero,List.getD_cons_succ]
    refine congrArg (fun b => D.v (vB b)) ?_
    grind [statusB]
theorem c39 (l : List UInt8) (hl : l.length ≤ 9223372036854775807) : Sem prog 39 ⟨[.v (vS l)],[none]⟩ ⟨[.dead,.v (vB (tokenI l && decide (l.length ≤ 20)))],[none]⟩ := by
  refine sem_fin (cfg := cfg 1) (ts := [.tm 2]) tbOk func39 rfl rfl rfl rfl (fun t h => by cases h) ?_
  simp only [f39,go_sem,cfg,Nat.reduceLeDiff,Nat.reduceLT,Nat.reduceAdd,Nat.reduceSub,Nat.reduceMul,Nat.reduceBEq,Nat.reduceBNe,Nat.reduceEqDiff,reduceCtorEq,reduceIte,Int.reduceLT,Int.reduceLE,Int.reduceAdd,Int.reduceSub,Int.reduceNeg,Int.reduceEq,Int.reduceBEq,Int.reduceBNe,Int.reduceToNat,Nat.reduceDiv,Nat.reduceMod, *]
  repeat' ((first | refine ev_call (c69 _ hl) (retW0 rfl rfl rfl rfl) ?_ | with_reducible intro _ | split) <;> (try simp only [f39,go_sem,cfg,Nat.reduceLeDiff,Nat.reduceLT,Nat.reduceAdd,Nat.reduceSub,Nat.reduceMul,Nat.reduceBEq,Nat.reduceBNe,Nat.reduceEqDiff,reduceCtorEq,reduceIte,Int.reduceLT,Int.reduceLE,Int.reduceAdd,Int.reduceSub,Int.reduceNeg,Int.reduceEq,Int.reduceBEq,Int.reduceBNe,Int.reduceToNat,Nat.reduceDiv,Nat.reduceMod, *]))
  all_goals
    refine fin0 (.inr rfl) rfl rfl rfl ?_
    simp only [shutR,shutD,List.getD_cons_zero,List.getD_cons_succ]
    refine congrArg (fun b => D.v (vB b)) ?_
    grind []
theorem c40 (l : List UInt8) (hl : l.length ≤ 9223372036854775807) : Sem prog 40 ⟨[.v (vS l)],[none]⟩ ⟨[.dead,.v (vB (targetB l))],[none]⟩ := by
  refine sem_fin (cfg := cfg 1) (ts := [.tm 2]) tbOk func40 rfl rfl rfl rfl (fun t h => by cases h) ?_
  simp only [f40,go_sem,cfg,Nat.reduceLeDiff,Nat.reduceLT,Nat.reduceAdd,Nat.reduceSub,Nat.reduceMul,Nat.reduceBEq,Nat.reduceBNe,Nat.reduceEqDiff,reduceCtorEq,reduceIte,Int.reduceLT,Int.reduceLE,Int.reduceAdd,Int.reduceSub,Int.reduceNeg,Int.reduceEq,Int.reduceBEq,Int.reduceBNe,Int.reduceToNat,Nat.reduceDiv,Nat.reduceMod, *]
  repeat' ((first | refine ev_call (c70 _ _ _) (retW0 rfl rfl rfl rfl) ?_ | refine ev_call (c71 l 72 visB rfl rfl c72 hl) (retW0 rfl rfl rfl rfl) ?_ | with_reducible intro _ | split) <;> (try simp only [f40,go_sem,cfg,Nat.reduceLeDiff,Nat.reduceLT,Nat.reduceAdd,Nat.reduceSub,Nat.reduceMul,Nat.reduceBEq,Nat.reduceBNe,Nat.reduceEqDiff,reduceCtorEq,reduceIte,Int.reduceLT,Int.reduceLE,Int.reduceAdd,Int.reduceSub,Int.reduceNeg,Int.reduceEq,Int.reduceBEq,Int.reduceBNe,Int.reduceToNat,Nat.reduceDiv,Nat.reduceMod, *]))
  all_goals
    refine fin0 (.inr rfl) rfl rfl rfl ?_
    simp only [shutR,shutD,List.getD_cons_zero,List.getD_cons_succ]
    refine congrArg (fun b => D.v (vB b)) ?_
    grind [targetB]
theorem c42 (l : List UInt8) (hl : l.length ≤ 9223372036854775807) : Sem prog 42 ⟨[.v (vS l)],[none]⟩ ⟨[.dead,.v (vB (reasonB l))],[none]⟩ := by
  refine sem_fin (cfg := cfg 1) (ts := [.tm 2]) tbOk func42 rfl rfl rfl rfl (fun t h => by cases h) ?_
  simp only [f42,go_sem,cfg,Nat.reduceLeDiff,Nat.reduceLT,Nat.reduceAdd,Nat.reduceSub,Nat.reduceMul,Nat.reduceBEq,Nat.reduceBNe,Nat.reduceEqDiff,reduceCtorEq,reduceIte,Int.reduceLT,Int.reduceLE,Int.reduceAdd,Int.reduceSub,Int.reduceNeg,Int.reduceEq,Int.reduceBEq,Int.reduceBNe,Int.reduceToNat,Nat.reduceDiv,Nat.reduceMod, *]
  repeat' ((first | refine ev_call (c71 l 73 plainB rfl rfl c73 hl) (retW0 rfl rfl rfl rfl) ?_ | with_reducible intro _ | split) <;> (try simp only [f42,go_sem,cfg,Nat.reduceLeDiff,Nat.reduceLT,Nat.reduceAdd,Nat.reduceSub,Nat.reduceMul,Nat.reduceBEq,Nat.reduceBNe,Nat.reduceEqDiff,reduceCtorEq,reduceIte,Int.reduceLT,Int.reduceLE,Int.reduceAdd,Int.reduceSub,Int.reduceNeg,Int.reduceEq,Int.reduceBEq,Int.reduceBNe,Int.reduceToNat,Nat.reduceDiv,Nat.reduceMod, *]))
  all_goals
    refine fin0 (.inr rfl) rfl rfl rfl ?_
    simp only [shutR,shutD,List.getD_cons_zero,List.getD_cons_succ]
    refine congrArg (fun b => D.v (vB b)) ?_
    grind [reasonB]
theorem c57 (l : List UInt8) (hl : l.length ≤ 9223372036854775807) : Sem prog 57 ⟨[.v (vS l)],[none]⟩ ⟨[.dead,.v (vB ((l.all fun b => visB b.toNat) && decide (0 < l.length)))],[none]⟩ := by
  refine sem_fin (cfg := cfg 1) (ts := [.tm 2]) tbOk func57 rfl rfl rfl rfl (fun t h => by cases h) ?_
  simp only [f57,go_sem,cfg,Nat.reduceLeDiff,Nat.reduceLT,Nat.reduceAdd,Nat.reduceSub,Nat.reduceMul,Nat.reduceBEq,Nat.reduceBNe,Nat.reduceEqDiff,reduceCtorEq,reduceIte,Int.reduceLT,Int.reduceLE,Int.reduceAdd,Int.reduceSub,Int.reduceNeg,Int.reduceEq,Int.reduceBEq,Int.reduceBNe,Int.reduceToNat,Nat.reduceDiv,Nat.reduceMod]
  refine loop_on (fun i : Nat => ⟨[.v (vS l),.dead,.v (vB false),.v (vI i),.dead,.dead,.dead,.dead,.dead,.dead,.dead,.dead,.dead,.dead,.dead,.dead,.dead,.dead,.dead,.dead,.dead,.dead,.dead],List.replicate 23 none⟩) [0,2,3] (fun i => i ≤ l.length ∧ (l.take i).all (fun b => visB b.toNat) = true) (fun i => l.length - i) 0 rfl ⟨by omega,by simp⟩ ?_
  intro i ⟨hi,hall⟩
  simp only [f57,go_sem,cfg,Nat.reduceLeDiff,Nat.reduceLT,Nat.reduceAdd,Nat.reduceSub,Nat.reduceMul,Nat.reduceBEq,Nat.reduceBNe,Nat.reduceEqDiff,reduceCtorEq,reduceIte,Int.reduceLT,Int.reduceLE,Int.reduceAdd,Int.reduceSub,Int.reduceNeg,Int.reduceEq,Int.reduceBEq,Int.reduceBNe,Int.reduceToNat,Nat.reduceDiv,Nat.reduceMod]
  try (with_reducible intro hlen)
  by_cases hc : i < l.length
  · have hw := wrapN hc hl
    simp only [f57,go_sem,cfg,Nat.reduceLeDiff,Nat.reduceLT,Nat.reduceAdd,Nat.reduceSub,Nat.reduceMul,Nat.reduceBEq,Nat.reduceBNe,Nat.reduceEqDiff,reduceCtorEq,reduceIte,Int.reduceLT,Int.reduceLE,Int.reduceAdd,Int.reduceSub,Int.reduceNeg,Int.reduceEq,Int.reduceBEq,Int.reduceBNe,Int.reduceToNat,Nat.reduceDiv,Nat.reduceMod,hc,hl]
    cases hb : visB (l.getD i 0).toNat
    · have hb1 : (((l.getD i 0).toNat : Int) < 33) ∨ (126 < ((l.getD i 0).toNat : Int)) := by
        unfold visB at hb; simp only [Bool.and_eq_false_iff,decide_eq_false_iff_not] at hb; omega
      repeat' ((first | with_reducible intro _ | split) <;> (try simp only [f57,go_sem,cfg,Nat.reduceLeDiff,Nat.reduceLT,Nat.reduceAdd,Nat.reduceSub,Nat.reduceMul,Nat.reduceBEq,Nat.reduceBNe,Nat.reduceEqDiff,reduceCtorEq,reduceIte,Int.reduceLT,Int.reduceLE,Int.reduceAdd,Int.reduceSub,Int.reduceNeg,Int.reduceEq,Int.reduceBEq,Int.reduceBNe,Int.reduceToNat,Nat.reduceDiv,Nat.reduceMod, *]))
      all_goals first
        | (refine fin0 (.inr rfl) rfl rfl rfl ?_
           simp only [shutR,shutD,List.getD_cons_zero,List.getD_cons_succ]
           rw [all_false_at hc hb]; rfl)
        | (exfalso; omega)
    · have hb1 : ¬ (((l.getD i 0).toNat : Int) < 33) := by
        unfold visB at hb; simp only [Bool.and_eq_true,decide_eq_true_eq] at hb; omega
      have hb2 : ¬ (126 < ((l.getD i 0).toNat : Int)) := by
        unfold visB at hb; simp only [Bool.and_eq_true,decide_eq_true_eq] at hb; omega
      simp only [f57,go_sem,cfg,Nat.reduceLeDiff,Nat.reduceLT,Nat.reduceAdd,Nat.reduceSub,Nat.reduceMul,Nat.reduceBEq,Nat.reduceBNe,Nat.reduceEqDiff,reduceCtorEq,reduceIte,Int.reduceLT,Int.reduceLE,Int.reduceAdd,Int.reduceSub,Int.reduceNeg,Int.reduceEq,Int.reduceBEq,Int.reduceBNe,Int.reduceToNat,Nat.reduceDiv,Nat.reduceMod,hb1,hb2,hw,hc,hl]
      exact ⟨i + 1,rfl,⟨hc,by rw [all_take_succ (d := 0) hc,hall,hb]; rfl⟩,by omega⟩
  · simp only [f57,go_sem,cfg,Nat.reduceLeDiff,Nat.reduceLT,Nat.reduceAdd,Nat.reduceSub,Nat.reduceMul,Nat.reduceBEq,Nat.reduceBNe,Nat.reduceEqDiff,reduceCtorEq,reduceIte,Int.reduceLT,Int.reduceLE,Int.reduceAdd,Int.reduceSub,Int.reduceNeg,Int.reduceEq,Int.reduceBEq,Int.reduceBNe,Int.reduceToNat,Nat.reduceDiv,Nat.reduceMod,hc,hl]
    refine fin0 (.inr rfl) rfl rfl rfl ?_
    simp only [shutR,shutD,List.getD_cons_zero,List.getD_cons_succ]
    rw [List.take_of_length_le (by omega)] at hall
    rw [hall]
    refine congrArg (fun b => D.v (vB b)) ?_
    grind
theorem c25 (l : List Fld) (hl : Small l) : Sem prog 25 ⟨[.imm 51 (rowsF l)],[none]⟩ ⟨[.dead,.v (vB (l.any frB))],[none]⟩ := by
  refine sem_fin (cfg := cfg 1) (ts := [.tm 2]) tbOk func25 rfl rfl rfl rfl (fun t h => by cases h) ?_
  simp only [f25,go_sem,cfg,Nat.reduceLeDiff,Nat.reduceLT,Nat.reduceAdd,Nat.reduceSub,Nat.reduceMul,Nat.reduceBEq,Nat.reduceBNe,Nat.reduceEqDiff,reduceCtorEq,reduceIte,Int.reduceLT,Int.reduceLE,Int.reduceAdd,Int.reduceSub,Int.reduceNeg,Int.reduceEq,Int.reduceBEq,Int.reduceBNe,Int.reduceToNat,Nat.reduceDiv,Nat.reduceMod,rowsF_length]
  have hs : l.length ≤ 9223372036854775807 := hl.1
  refine loop_on (fun i : Nat => ⟨[.imm 51 (rowsF l),.dead,.v (vB false),.v (vI i),.dead,.dead,.dead,.dead,.dead,.dead,.dead,.dead,.dead,.dead,.dead,.dead,.dead,.dead,.dead,.dead,.dead,.dead,.dead,.dead,.dead,.dead,.dead],List.replicate 27 none⟩) [0,2,3] (fun i => i ≤ l.length ∧ (l.take i).any frB = false) (fun i => l.length - i) 0 rfl ⟨by omega,by simp⟩ ?_
  intro i ⟨hi,hall⟩
  simp only [f25,go_sem,cfg,Nat.reduceLeDiff,Nat.reduceLT,Nat.reduceAdd,Nat.reduceSub,Nat.reduceMul,Nat.reduceBEq,Nat.reduceBNe,Nat.reduceEqDiff,reduceCtorEq,reduceIte,Int.reduceLT,Int.reduceLE,Int.reduceAdd,Int.reduceSub,Int.reduceNeg,Int.reduceEq,Int.reduceBEq,Int.reduceBNe,Int.reduceToNat,Nat.reduceDiv,Nat.reduceMod,rowsF_length,hs]
  try (with_reducible intro hlen)
  by_cases hc : i < l.length
  · have hw := wrapN hc hs
    have h1 := rowsF_getD hc
    have hsm := hl.at hc
    simp only [f25,go_sem,cfg,Nat.reduceLeDiff,Nat.reduceLT,Nat.reduceAdd,Nat.reduceSub,Nat.reduceMul,Nat.reduceBEq,Nat.reduceBNe,Nat.reduceEqDiff,reduceCtorEq,reduceIte,Int.reduceLT,Int.reduceLE,Int.reduceAdd,Int.reduceSub,Int.reduceNeg,Int.reduceEq,Int.reduceBEq,Int.reduceBNe,Int.reduceToNat,Nat.reduceDiv,Nat.reduceMod,rowsF_length,hc,h1]
    refine ev_call (c34 _ hsm.1) (retW0 rfl rfl rfl rfl) ?_
    have hany : l.any frB = ((l.take i).any frB || (frB (l.getD i ([],[])) || (l.drop (i + 1)).any frB)) := by
      conv => lhs; rw [← List.take_append_drop i l,List.any_append,drop_at (d := ([],[])) hc,List.any_cons]
    have hnx : (l.take (i + 1)).any frB = ((l.take i).any frB || frB (l.getD i ([],[]))) := by
      rw [take_at (d := ([],[])) hc,List.any_append]; simp
    rw [hall] at hany hnx
    cases h2 : foldB (l.getD i ([],[])).1 == clN
    · cases h3 : foldB (l.getD i ([],[])).1 == teN
      · cases h4 : foldB (l.getD i ([],[])).1 == trN
        · unfold clN at h2; unfold teN at h3; unfold trN at h4
          simp only [f25,go_sem,cfg,Nat.reduceLeDiff,Nat.reduceLT,Nat.reduceAdd,Nat.reduceSub,Nat.reduceMul,Nat.reduceBEq,Nat.reduceBNe,Nat.reduceEqDiff,reduceCtorEq,reduceIte,Int.reduceLT,Int.reduceLE,Int.reduceAdd,Int.reduceSub,Int.reduceNeg,Int.reduceEq,Int.reduceBEq,Int.reduceBNe,Int.reduceToNat,Nat.reduceDiv,Nat.reduceMod,rowsF_length,h2,h3,h4,hw]
          exact ⟨i + 1,rfl,⟨hc,by rw [hnx,frB,clN,teN,trN,h2,h3,h4]; rfl⟩,by omega⟩
        · have : l.any frB = true := by rw [hany,frB,h2,h3,h4]; rfl
          unfold clN at h2; unfold teN at h3; unfold trN at h4
          simp only [f25,go_sem,cfg,Nat.reduceLeDiff,Nat.reduceLT,Nat.reduceAdd,Nat.reduceSub,Nat.reduceMul,Nat.reduceBEq,Nat.reduceBNe,Nat.reduceEqDiff,reduceCtorEq,reduceIte,Int.reduceLT,Int.reduceLE,Int.reduceAdd,Int.reduceSub,Int.reduceNeg,Int.reduceEq,Int.reduceBEq,Int.reduceBNe,Int.reduceToNat,Nat.reduceDiv,Nat.reduceMod,rowsF_length,h2,h3,h4]
          refine fin0 (.inr rfl) rfl rfl rfl ?_
          simp only [shutR,shutD,List.getD_cons_zero,List.getD_cons_succ]
          rw [this]
      · have : l.any frB = true := by rw [hany,frB,h2,h3]; rfl
        unfold clN at h2; unfold teN at h3
        simp only [f25,go_sem,cfg,Nat.reduceLeDiff,Nat.reduceLT,Nat.reduceAdd,Nat.reduceSub,Nat.reduceMul,Nat.reduceBEq,Nat.reduceBNe,Nat.reduceEqDiff,reduceCtorEq,reduceIte,Int.reduceLT,Int.reduceLE,Int.reduceAdd,Int.reduceSub,Int.reduceNeg,Int.reduceEq,Int.reduceBEq,Int.reduceBNe,Int.reduceToNat,Nat.reduceDiv,Nat.reduceMod,rowsF_length,h2,h3]
        refine fin0 (.inr rfl) rfl rfl rfl ?_
        simp only [shutR,shutD,List.getD_cons_zero,List.getD_cons_succ]
        rw [this]
    · have : l.any frB = true := by rw [hany,frB,h2]; rfl
      unfold clN at h2
      simp only [f25,go_sem,cfg,Nat.reduceLeDiff,Nat.reduceLT,Nat.reduceAdd,Nat.reduceSub,Nat.reduceMul,Nat.reduceBEq,Nat.reduceBNe,Nat.reduceEqDiff,reduceCtorEq,reduceIte,Int.reduceLT,Int.reduceLE,Int.reduceAdd,Int.reduceSub,Int.reduceNeg,Int.reduceEq,Int.reduceBEq,Int.reduceBNe,Int.reduceToNat,Nat.reduceDiv,Nat.reduceMod,rowsF_length,h2]
      refine fin0 (.inr rfl) rfl rfl rfl ?_
      simp only [shutR,shutD,List.getD_cons_zero,List.getD_cons_succ]
      rw [this]
  · simp only [f25,go_sem,cfg,Nat.reduceLeDiff,Nat.reduceLT,Nat.reduceAdd,Nat.reduceSub,Nat.reduceMul,Nat.reduceBEq,Nat.reduceBNe,Nat.reduceEqDiff,reduceCtorEq,reduceIte,Int.reduceLT,Int.reduceLE,Int.reduceAdd,Int.reduceSub,Int.reduceNeg,Int.reduceEq,Int.reduceBEq,Int.reduceBNe,Int.reduceToNat,Nat.reduceDiv,Nat.reduceMod,rowsF_length,hc]
    refine fin0 (.inr rfl) rfl rfl rfl ?_
    simp only [shutR,shutD,List.getD_cons_zero,List.getD_cons_succ]
    rw [List.take_of_length_le (by omega)] at hall
    rw [hall]
theorem c33 (l : List (List UInt8)) (s : List UInt8) (hs : l.length ≤ 9223372036854775807) : Sem prog 33 ⟨[.imm 9 (rowsS l),.v (vS s)],[none,none]⟩ ⟨[.dead,.dead,.v (vB (l.contains s))],[none,none]⟩ := by
  refine sem_fin (cfg := cfg 2) (ts := [.tm 4]) tbOk func33 rfl rfl rfl rfl (fun t h => by cases h) ?_
  simp only [f33,go_sem,cfg,Nat.reduceLeDiff,Nat.reduceLT,Nat.reduceAdd,Nat.reduceSub,Nat.reduceMul,Nat.reduceBEq,Nat.reduceBNe,Nat.reduceEqDiff,reduceCtorEq,reduceIte,Int.reduceLT,Int.reduceLE,Int.reduceAdd,Int.reduceSub,Int.reduceNeg,Int.reduceEq,Int.reduceBEq,Int.reduceBNe,Int.reduceToNat,Nat.reduceDiv,Nat.reduceMod,rowsS_length]
  refine loop_on (fun i : Nat => ⟨[.imm 9 (rowsS l),.v (vS s),.dead,.dead,.v (vB false),.v (vI i),.dead,.dead,.dead,.dead,.dead,.dead,.dead,.dead,.dead,.dead,.dead,.dead],List.replicate 18 none⟩) [0,1,4,5] (fun i => i ≤ l.length ∧ (l.take i).contains s = false) (fun i => l.length - i) 0 rfl ⟨by omega,by simp⟩ ?_
  intro i ⟨hi,hall⟩
  simp only [f33,go_sem,cfg,Nat.reduceLeDiff,Nat.reduceLT,Nat.reduceAdd,Nat.reduceSub,Nat.reduceMul,Nat.reduceBEq,Nat.reduceBNe,Nat.reduceEqDiff,reduceCtorEq,reduceIte,Int.reduceLT,Int.reduceLE,Int.reduceAdd,Int.reduceSub,Int.reduceNeg,Int.reduceEq,Int.reduceBEq,Int.reduceBNe,Int.reduceToNat,Nat.reduceDiv,Nat.reduceMod,rowsS_length,hs]
  try (with_reducible intro hlen)
  by_cases hc : i < l.length
  · have hw := wrapN hc hs
    have h1 := rowsS_getD hc
    simp only [f33,go_sem,cfg,Nat.reduceLeDiff,Nat.reduceLT,Nat.reduceAdd,Nat.reduceSub,Nat.reduceMul,Nat.reduceBEq,Nat.reduceBNe,Nat.reduceEqDiff,reduceCtorEq,reduceIte,Int.reduceLT,Int.reduceLE,Int.reduceAdd,Int.reduceSub,Int.reduceNeg,Int.reduceEq,Int.reduceBEq,Int.reduceBNe,Int.reduceToNat,Nat.reduceDiv,Nat.reduceMod,rowsS_length,hc,h1]
    have hany : l.contains s = ((l.take i).contains s || ((l.getD i [] == s) || (l.drop (i + 1)).contains s)) := by
      conv => lhs; rw [← List.take_append_drop i l,List.contains_append,drop_at (d := []) hc,List.contains_cons]
      rw [show (s == l.getD i []) = (l.getD i [] == s) from Bool.beq_comm ..]
    have hnx : (l.take (i + 1)).contains s = ((l.take i).contains s || (l.getD i [] == s)) := by
      rw [take_at (d := []) hc,List.contains_append,List.contains_cons,show (s == l.getD i []) = (l.getD i [] == s) from Bool.beq_comm ..]
      simp only [List.contains_nil,Bool.or_false]
    rw [hall] at hany hnx
    cases h2 : l.getD i [] == s
    · simp only [f33,go_sem,cfg,Nat.reduceLeDiff,Nat.reduceLT,Nat.reduceAdd,Nat.reduceSub,Nat.reduceMul,Nat.reduceBEq,Nat.reduceBNe,Nat.reduceEqDiff,reduceCtorEq,reduceIte,Int.reduceLT,Int.reduceLE,Int.reduceAdd,Int.reduceSub,Int.reduceNeg,Int.reduceEq,Int.reduceBEq,Int.reduceBNe,Int.reduceToNat,Nat.reduceDiv,Nat.reduceMod,rowsS_length,h2,hw]
      exact ⟨i + 1,rfl,⟨hc,by rw [hnx,h2]; rfl⟩,by omega⟩
    · rw [h2] at hany
      simp only [f33,go_sem,cfg,Nat.reduceLeDiff,Nat.reduceLT,Nat.reduceAdd,Nat.reduceSub,Nat.reduceMul,Nat.reduceBEq,Nat.reduceBNe,Nat.reduceEqDiff,reduceCtorEq,reduceIte,Int.reduceLT,Int.reduceLE,Int.reduceAdd,Int.reduceSub,Int.reduceNeg,Int.reduceEq,Int.reduceBEq,Int.reduceBNe,Int.reduceToNat,Nat.reduceDiv,Nat.reduceMod,rowsS_length,h2]
      refine fin0 (.inr rfl) rfl rfl rfl ?_
      simp only [shutR,shutD,List.getD_cons_zero,List.getD_cons_succ]
      rw [hany]; rfl
  · simp only [f33,go_sem,cfg,Nat.reduceLeDiff,Nat.reduceLT,Nat.reduceAdd,Nat.reduceSub,Nat.reduceMul,Nat.reduceBEq,Nat.reduceBNe,Nat.reduceEqDiff,reduceCtorEq,reduceIte,Int.reduceLT,Int.reduceLE,Int.reduceAdd,Int.reduceSub,Int.reduceNeg,Int.reduceEq,Int.reduceBEq,Int.reduceBNe,Int.reduceToNat,Nat.reduceDiv,Nat.reduceMod,rowsS_length,hc]
    refine fin0 (.inr rfl) rfl rfl rfl ?_
    simp only [shutR,shutD,List.getD_cons_zero,List.getD_cons_succ]
    rw [List.take_of_length_le (by omega)] at hall
    rw [hall]
theorem c76 (n v : List UInt8) (hn : n.length ≤ 4611686018427387000) (hv : v.length ≤ 4611686018427387000) : Sem prog 76 ⟨[.agg [.v (vS n),.v (vS v)]],[none]⟩ ⟨[.dead,.v (vS (fieldT (n,v)))],[none]⟩ := by
  have hx : (n ++ [58,32]).length ≤ 9223372036854775807 := by simp; omega
  have hx1 : n.length + 2 ≤ 9223372036854775807 := by omega
  have hx2 : n.length + 2 + v.length ≤ 9223372036854775807 := by omega
  have hx3 : (n ++ [58,32]).length + v.length ≤ 9223372036854775807 := by simp; omega
  refine sem_fin (cfg := cfg 1) (ts := [.tm 2]) tbOk func76 rfl rfl rfl rfl (fun t h => by cases h) ?_
  simp only [f76,go_sem,cfg,Nat.reduceLeDiff,Nat.reduceLT,Nat.reduceAdd,Nat.reduceSub,Nat.reduceMul,Nat.reduceBEq,Nat.reduceBNe,Nat.reduceEqDiff,reduceCtorEq,reduceIte,Int.reduceLT,Int.reduceLE,Int.reduceAdd,Int.reduceSub,Int.reduceNeg,Int.reduceEq,Int.reduceBEq,Int.reduceBNe,Int.reduceToNat,Nat.reduceDiv,Nat.reduceMod, *]
  repeat' ((first | with_reducible intro _ | split) <;> (try simp only [f76,go_sem,cfg,Nat.reduceLeDiff,Nat.reduceLT,Nat.reduceAdd,Nat.reduceSub,Nat.reduceMul,Nat.reduceBEq,Nat.reduceBNe,Nat.reduceEqDiff,reduceCtorEq,reduceIte,Int.reduceLT,Int.reduceLE,Int.reduceAdd,Int.reduceSub,Int.reduceNeg,Int.reduceEq,Int.reduceBEq,Int.reduceBNe,Int.reduceToNat,Nat.reduceDiv,Nat.reduceMod, *]))
  all_goals
    first | exact fin0 (.inr rfl) rfl rfl rfl rfl | trace_state
theorem c38 (l : List Fld) (hl : Small l) (name : List UInt8) (hn : name.length ≤ 9223372036854775807) (h : fieldsB l = true) : Sem prog 38 ⟨[.imm 51 (rowsF l),.v (vS name)],[none,none]⟩ ⟨[.dead,.dead,.v (vB (decide (0 < (valsB name l).length)))],[none,none]⟩ := by
  refine sem_fin (cfg := cfg 2) (ts := [.tm 4]) tbOk func38 rfl rfl rfl rfl (fun t h => by cases h) ?_
  simp only [f38,go_sem,cfg,Nat.reduceLeDiff,Nat.reduceLT,Nat.reduceAdd,Nat.reduceSub,Nat.reduceMul,Nat.reduceBEq,Nat.reduceBNe,Nat.reduceEqDiff,reduceCtorEq,reduceIte,Int.reduceLT,Int.reduceLE,Int.reduceAdd,Int.reduceSub,Int.reduceNeg,Int.reduceEq,Int.reduceBEq,Int.reduceBNe,Int.reduceToNat,Nat.reduceDiv,Nat.reduceMod,rowsS_length]
  have h68 := c68 l hl name hn h
  generalize valsB name l = vs at h68
  cases vs with
  | nil =>
    refine ev_call h68 (retW0 rfl rfl rfl rfl) ?_
    simp only [f38,go_sem,cfg,Nat.reduceLeDiff,Nat.reduceLT,Nat.reduceAdd,Nat.reduceSub,Nat.reduceMul,Nat.reduceBEq,Nat.reduceBNe,Nat.reduceEqDiff,reduceCtorEq,reduceIte,Int.reduceLT,Int.reduceLE,Int.reduceAdd,Int.reduceSub,Int.reduceNeg,Int.reduceEq,Int.reduceBEq,Int.reduceBNe,Int.reduceToNat,Nat.reduceDiv,Nat.reduceMod,rowsS_length,rowsS,List.map_nil,sd_nil]
    exact fin0 (.inr rfl) rfl rfl rfl rfl
  | cons v vs =>
    refine ev_call h68 (retW0 rfl rfl rfl rfl) ?_
    simp only [f38,go_sem,cfg,Nat.reduceLeDiff,Nat.reduceLT,Nat.reduceAdd,Nat.reduceSub,Nat.reduceMul,Nat.reduceBEq,Nat.reduceBNe,Nat.reduceEqDiff,reduceCtorEq,reduceIte,Int.reduceLT,Int.reduceLE,Int.reduceAdd,Int.reduceSub,Int.reduceNeg,Int.reduceEq,Int.reduceBEq,Int.reduceBNe,Int.reduceToNat,Nat.reduceDiv,Nat.reduceMod,rowsS_length,rowsS,List.map_cons,sd_cons]
    try (with_reducible intro hlen)
    refine fin0 (.inr rfl) rfl rfl rfl ?_
    simp only [shutR,shutD,List.getD_cons_zero,List.getD_cons_succ]
    refine congrArg (fun b => D.v (vB b)) ?_
    rw [decide_eq_true (by omega),decide_eq_true (by simp)]
end Go.Proofs.YtagfeejofceheaaGreatDoor.Fw

/- Contracts: what a message may be. -/
namespace Go.Proofs.YtagfeejofceheaaGreatDoor.Fw
open Go
open Go.Proofs.Tryz
set_option maxRecDepth 100000
set_option maxHeartbeats 600000
set_option linter.unusedSimpArgs false
set_option linter.unusedVariables false
attribute [local congr] c_bnd c_slot c_cell c_all c_len c_chk c_asm c_opdR c_wp c_pwp c_pOps c_Done c_nx c_blk c_fin c_rowsR c_leafR c_opdsR c_coeLeaf c_coeLeaves c_lendLeaf c_lendLeaves c_coeCapt c_argR c_argsR c_boundR c_partsR c_srcR c_mfgo c_ite c_wpF c_OutF c_pHead c_pDraw
def methodB (l : List UInt8) : Bool := tokenI l && decide (l.length ≤ 20)
def requestB (me ta : List UInt8) (st : Int) (re : List UInt8) (ba : Bool) : Bool := methodB me && targetB ta && (st == 0) && (re == []) && !ba
def answerB (ta : List UInt8) (st : Int) (re : List UInt8) (ba : Bool) (bo : List UInt8) : Bool := (ta == []) && statusB st && reasonB re && !(ba && !(bo == [])) && (ba || !bareB st)
def crlf : List UInt8 := [13,10]
def httpZ : List UInt8 := [32,72,84,84,80,47,49,46,49]
def httpA : List UInt8 := [72,84,84,80,47,49,46,49,32]
def clH : List UInt8 := [67,111,110,116,101,110,116,45,76,101,110,103,116,104,58,32]
def firstT (me ta : List UInt8) (st : Int) (re : List UInt8) : List UInt8 := if me == [] then httpA ++ Lib.itoa st ++ [32] ++ re ++ crlf else me ++ [32] ++ ta ++ httpZ ++ crlf
def fieldsT (l : List Fld) : List UInt8 := l.flatMap fun p => fieldT p ++ crlf
def lastT (me : List UInt8) (ba : Bool) (bo : List UInt8) : List UInt8 := if (!(me == []) && !(bo == [])) || ((me == []) && !ba) then clH ++ Lib.itoa bo.length ++ crlf else []
def headT (me ta : List UInt8) (st : Int) (re : List UInt8) (ba : Bool) (l : List Fld) (bo : List UInt8) : List UInt8 := firstT me ta st re ++ fieldsT l ++ lastT me ba bo ++ crlf
theorem itoa_nat (n : Nat) : Lib.itoa (n : Int) = Lib.decDigits n := by
  unfold Lib.itoa
  rw [if_neg (by omega)]
  rfl
theorem decDigits_small {n : Nat} (h : n < 10) : Lib.decDigits n = [UInt8.ofNat (48 + n)] := by rw [Lib.decDigits,dif_pos h]
theorem decDigits_big {n : Nat} (h : ¬ n < 10) : Lib.decDigits n = Lib.decDigits (n / 10) ++ [UInt8.ofNat (48 + n % 10)] := by rw [Lib.decDigits,dif_neg h]
theorem decDigits_len (n : Nat) : (Lib.decDigits n).length ≤ n + 1 := by
  induction n using Nat.strongRecOn with
  | _ n ih =>
    by_cases h : n < 10
    · rw [decDigits_small h]; simp
    · rw [decDigits_big h,List.length_append]
      have := ih (n / 10) (by omega)
      simp
      omega
theorem rows1' (n : Nat) (h : n < 256) : rowsBytes [[.v (.int .u8 (n : Int))]] = [UInt8.ofNat n] := by
  have : (UInt8.ofNat n).toNat = n := by simp; omega
  have h2 := rows1 (UInt8.ofNat n)
  rw [this] at h2
  exact h2
theorem bytes1' (n : Nat) (h : n < 256) : bytesRows [UInt8.ofNat n] = [[.v (.int .u8 (n : Int))]] := by
  have : (UInt8.ofNat n).toNat = n := by simp; omega
  rw [bytes1,this]
theorem c26 (me ta : List UInt8) (st : Int) (re : List UInt8) (ba : Bool) (l : List Fld) (bo : List UInt8) (h1 : me.length ≤ 9223372036854775807) (h2 : ta.length ≤ 9223372036854775807) (h3 : re.length ≤ 9223372036854775807) (h4 : bo.length ≤ 9223372036854775807) : Sem prog 26 ⟨[.agg [.v (vS me),.v (vS ta),.v (vI st),.v (vS re),.v (vB ba),.imm 51 (rowsF l),.v (vS bo)]],[none]⟩ ⟨[.dead,.v (vB (requestB me ta st re ba))],[none]⟩ := by
  have htk := token_eq me
  refine sem_fin (cfg := cfg 1) (ts := [.tm 2]) tbOk func26 rfl rfl rfl rfl (fun t h => by cases h) ?_
  simp only [f26,go_sem,cfg,Nat.reduceLeDiff,Nat.reduceLT,Nat.reduceAdd,Nat.reduceSub,Nat.reduceMul,Nat.reduceBEq,Nat.reduceBNe,Nat.reduceEqDiff,reduceCtorEq,reduceIte,Int.reduceLT,Int.reduceLE,Int.reduceAdd,Int.reduceSub,Int.reduceNeg,Int.reduceEq,Int.reduceBEq,Int.reduceBNe,Int.reduceToNat,Nat.reduceDiv,Nat.reduceMod, *]
  repeat' ((first | refine ev_call (c56 _ h1) (retW0 rfl rfl rfl rfl) ?_ | refine ev_call (c57 _ h2) (retW0 rfl rfl rfl rfl) ?_ | with_reducible intro _ | split) <;> (try simp only [f26,go_sem,cfg,Nat.reduceLeDiff,Nat.reduceLT,Nat.reduceAdd,Nat.reduceSub,Nat.reduceMul,Nat.reduceBEq,Nat.reduceBNe,Nat.reduceEqDiff,reduceCtorEq,reduceIte,Int.reduceLT,Int.reduceLE,Int.reduceAdd,Int.reduceSub,Int.reduceNeg,Int.reduceEq,Int.reduceBEq,Int.reduceBNe,Int.reduceToNat,Nat.reduceDiv,Nat.reduceMod, *]))
  all_goals
    refine fin0 (.inr rfl) rfl rfl rfl ?_
    simp only [shutR,shutD,List.getD_cons_zero,List.getD_cons_succ]
    refine congrArg (fun b => D.v (vB b)) ?_
    grind [requestB,methodB,targetB,inB]
theorem c27 (me ta : List UInt8) (st : Int) (re : List UInt8) (ba : Bool) (l : List Fld) (bo : List UInt8) (h1 : me.length ≤ 9223372036854775807) (h2 : ta.length ≤ 9223372036854775807) (h3 : re.length ≤ 9223372036854775807) (h4 : bo.length ≤ 9223372036854775807) : Sem prog 27 ⟨[.agg [.v (vS me),.v (vS ta),.v (vI st),.v (vS re),.v (vB ba),.imm 51 (rowsF l),.v (vS bo)]],[none]⟩ ⟨[.dead,.v (vB (answerB ta st re ba bo))],[none]⟩ := by
  refine sem_fin (cfg := cfg 1) (ts := [.tm 2]) tbOk func27 rfl rfl rfl rfl (fun t h => by cases h) ?_
  simp only [f27,go_sem,cfg,Nat.reduceLeDiff,Nat.reduceLT,Nat.reduceAdd,Nat.reduceSub,Nat.reduceMul,Nat.reduceBEq,Nat.reduceBNe,Nat.reduceEqDiff,reduceCtorEq,reduceIte,Int.reduceLT,Int.reduceLE,Int.reduceAdd,Int.reduceSub,Int.reduceNeg,Int.reduceEq,Int.reduceBEq,Int.reduceBNe,Int.reduceToNat,Nat.reduceDiv,Nat.reduceMod, *]
  repeat' ((first | refine ev_call (c58 _ h3) (retW0 rfl rfl rfl rfl) ?_ | refine ev_call (c59 _) (retW0 rfl rfl rfl rfl) ?_ | with_reducible intro _ | split) <;> (try simp only [f27,go_sem,cfg,Nat.reduceLeDiff,Nat.reduceLT,Nat.reduceAdd,Nat.reduceSub,Nat.reduceMul,Nat.reduceBEq,Nat.reduceBNe,Nat.reduceEqDiff,reduceCtorEq,reduceIte,Int.reduceLT,Int.reduceLE,Int.reduceAdd,Int.reduceSub,Int.reduceNeg,Int.reduceEq,Int.reduceBEq,Int.reduceBNe,Int.reduceToNat,Nat.reduceDiv,Nat.reduceMod, *]))
  all_goals
    refine fin0 (.inr rfl) rfl rfl rfl ?_
    simp only [shutR,shutD,List.getD_cons_zero,List.getD_cons_succ]
    refine congrArg (fun b => D.v (vB b)) ?_
    grind [answerB,reasonB,statusB,inB]
theorem c61 (n v : List UInt8) (hn : n.length ≤ 40) (hv : v.length ≤ 190) (h : fieldB (n,v) = true) : Sem prog 61 ⟨[.agg [.v (vS n),.v (vS v)]],[none]⟩ ⟨[.dead,.v (vS (fieldT (n,v)))],[none]⟩ := by
  have hx1 : n.length + 2 ≤ 9223372036854775807 := by omega
  have hx2 : n.length + 2 + v.length ≤ 9223372036854775807 := by omega
  have hx3 : (n ++ [58,32]).length + v.length ≤ 9223372036854775807 := by simp; omega
  refine sem_fin (cfg := cfg 1) (ts := [.tm 2]) tbOk func61 rfl rfl rfl rfl (fun t h => by cases h) ?_
  simp only [f61,go_sem,cfg,Nat.reduceLeDiff,Nat.reduceLT,Nat.reduceAdd,Nat.reduceSub,Nat.reduceMul,Nat.reduceBEq,Nat.reduceBNe,Nat.reduceEqDiff,reduceCtorEq,reduceIte,Int.reduceLT,Int.reduceLE,Int.reduceAdd,Int.reduceSub,Int.reduceNeg,Int.reduceEq,Int.reduceBEq,Int.reduceBNe,Int.reduceToNat,Nat.reduceDiv,Nat.reduceMod, *]
  repeat' ((first | refine ev_call (c55 _ _ (by omega) (by omega)) (retW0 rfl rfl rfl rfl) ?_ | with_reducible intro _ | split) <;> (try simp only [f61,go_sem,cfg,Nat.reduceLeDiff,Nat.reduceLT,Nat.reduceAdd,Nat.reduceSub,Nat.reduceMul,Nat.reduceBEq,Nat.reduceBNe,Nat.reduceEqDiff,reduceCtorEq,reduceIte,Int.reduceLT,Int.reduceLE,Int.reduceAdd,Int.reduceSub,Int.reduceNeg,Int.reduceEq,Int.reduceBEq,Int.reduceBNe,Int.reduceToNat,Nat.reduceDiv,Nat.reduceMod, *]))
  all_goals
    first | exact fin0 (.inr rfl) rfl rfl rfl rfl | trace_state
theorem dec_small (n : Nat) (h : n < 10) : IntKind.u8.wrap (IntKind.i64.wrap (48 + (n : Int))) = ((48 + n : Nat) : Int) := by
  rw [IntKind.wrap_i64,IntKind.wrap_u8]; omega
theorem c60 (n : Nat) (hn : n ≤ 999999999999999) : Sem prog 60 ⟨[.v (vI n)],[none]⟩ ⟨[.dead,.v (vS (Lib.decDigits n))],[none]⟩ := by
  refine sem_fin (cfg := cfg 1) (ts := [.tm 2]) tbOk func60 rfl rfl rfl rfl (fun t h => by cases h) ?_
  simp only [f60,go_sem,cfg,Nat.reduceLeDiff,Nat.reduceLT,Nat.reduceAdd,Nat.reduceSub,Nat.reduceMul,Nat.reduceBEq,Nat.reduceBNe,Nat.reduceEqDiff,reduceCtorEq,reduceIte,Int.reduceLT,Int.reduceLE,Int.reduceAdd,Int.reduceSub,Int.reduceNeg,Int.reduceEq,Int.reduceBEq,Int.reduceBNe,Int.reduceToNat,Nat.reduceDiv,Nat.reduceMod]
  have k1 : ¬ ((n : Int) < 0) := by omega
  have k2 : ¬ ((999999999999999 : Int) < (n : Int)) := by omega
  refine Or.elim (Classical.em (n < 10)) (fun hs => ?_) fun hs => ?_
  · have k3 : ((n : Int) < 10) := by omega
    have k4 := dec_small n hs
    have k5 := rows1' (48 + n) (by omega)
    have k6 := decDigits_small hs
    simp only [f60,go_sem,cfg,Nat.reduceLeDiff,Nat.reduceLT,Nat.reduceAdd,Nat.reduceSub,Nat.reduceMul,Nat.reduceBEq,Nat.reduceBNe,Nat.reduceEqDiff,reduceCtorEq,reduceIte,Int.reduceLT,Int.reduceLE,Int.reduceAdd,Int.reduceSub,Int.reduceNeg,Int.reduceEq,Int.reduceBEq,Int.reduceBNe,Int.reduceToNat,Nat.reduceDiv,Nat.reduceMod,k1,k2,k3,k4,k5]
    refine And.intro (bytes1' (48 + n) (by omega)).symm ?_
    refine fin0 (.inr rfl) rfl rfl rfl ?_
    rw [k6]
    first | rfl | trace_state
  · have k3 : ¬ ((n : Int) < 10) := by omega
    have k4 : IntKind.i64.wrap ((n : Int).tdiv 10) = ((n / 10 : Nat) : Int) := by rw [Int.tdiv_eq_ediv_of_nonneg (by omega),IntKind.wrap_i64]; omega
    have k5 : IntKind.u8.wrap (IntKind.i64.wrap (48 + (n : Int).tmod 10)) = ((48 + n % 10 : Nat) : Int) := by rw [Int.tmod_eq_emod_of_nonneg (by omega),IntKind.wrap_i64,IntKind.wrap_u8]; omega
    have k6 := rows1' (48 + n % 10) (by omega)
    have k7 := decDigits_big hs
    have k8 := decDigits_len (n / 10)
    have k9 : (Lib.decDigits (n / 10)).length + 1 ≤ 9223372036854775807 := by omega
    have ih := c60 (n / 10) (by omega)
    simp only [f60,go_sem,cfg,Nat.reduceLeDiff,Nat.reduceLT,Nat.reduceAdd,Nat.reduceSub,Nat.reduceMul,Nat.reduceBEq,Nat.reduceBNe,Nat.reduceEqDiff,reduceCtorEq,reduceIte,Int.reduceLT,Int.reduceLE,Int.reduceAdd,Int.reduceSub,Int.reduceNeg,Int.reduceEq,Int.reduceBEq,Int.reduceBNe,Int.reduceToNat,Nat.reduceDiv,Nat.reduceMod,k1,k2,k3]
    refine draw_intro 11 [[17,18,19,20,21,22,23,24,25,2],[18,19,20,21,22,23,24,25,2],[16,19,20,21,22,23,24,25,2],[16,17,18,20,21,22,23,24,25,2],[16,17,18,21,22,23,24,25,2],[16,17,18,19,22,23,24,25,2],[16,17,18,19,20,23,24,25,2],[16,17,18,19,20,21,24,25,2],[16,17,18,19,20,21,22,25,2],[16,17,19,20,21,22,23,2],[]] mixedOk rfl ?_
    simp only [f60,go_sem,cfg,Nat.reduceLeDiff,Nat.reduceLT,Nat.reduceAdd,Nat.reduceSub,Nat.reduceMul,Nat.reduceBEq,Nat.reduceBNe,Nat.reduceEqDiff,reduceCtorEq,reduceIte,Int.reduceLT,Int.reduceLE,Int.reduceAdd,Int.reduceSub,Int.reduceNeg,Int.reduceEq,Int.reduceBEq,Int.reduceBNe,Int.reduceToNat,Nat.reduceDiv,Nat.reduceMod,k4]
    refine And.intro (by decide) ?_
    refine of_call ih (retW0 rfl rfl rfl rfl) rfl rfl rfl ?_
    simp only [f60,go_sem,cfg,Nat.reduceLeDiff,Nat.reduceLT,Nat.reduceAdd,Nat.reduceSub,Nat.reduceMul,Nat.reduceBEq,Nat.reduceBNe,Nat.reduceEqDiff,reduceCtorEq,reduceIte,Int.reduceLT,Int.reduceLE,Int.reduceAdd,Int.reduceSub,Int.reduceNeg,Int.reduceEq,Int.reduceBEq,Int.reduceBNe,Int.reduceToNat,Nat.reduceDiv,Nat.reduceMod,k5,k6,k9]
    refine And.intro (by decide) ?_
    refine And.intro (bytes1' (48 + n % 10) (by omega)).symm ?_
    refine fin0 (.inr rfl) rfl rfl rfl ?_
    rw [k7]
    first | rfl | trace_state
termination_by n
decreasing_by omega
theorem fieldB_le {p : Fld} (h : fieldB p = true) : p.1.length ≤ 40 ∧ p.2.length ≤ 190 := by
  unfold fieldB at h
  simp only [Bool.and_eq_true,decide_eq_true_eq] at h
  exact ⟨h.1.1.1.2,h.1.1.2⟩
theorem fieldsB_at {l : List Fld} (h : fieldsB l = true) {i : Nat} (hi : i < l.length) : fieldB (l.getD i ([],[])) = true := by
  unfold fieldsB at h
  simp only [Bool.and_eq_true,decide_eq_true_eq,List.all_eq_true] at h
  refine h.2 _ ?_
  rw [List.getD_eq_getElem?_getD,List.getElem?_eq_getElem hi]
  exact List.getElem_mem hi
theorem fieldT_len (p : Fld) : (fieldT p).length = p.1.length + 2 + p.2.length := by unfold fieldT; simp; omega
theorem fieldsT_le : ∀ {l : List Fld},(∀ p,p ∈ l → fieldB p = true) → (fieldsT l).length ≤ 234 * l.length
  | [],_ => by simp [fieldsT]
  | p :: l,h => by
    have h1 := fieldB_le (h p List.mem_cons_self)
    have h2 := fieldsT_le (l := l) (fun q hq => h q (List.mem_cons_of_mem _ hq))
    have h3 : fieldsT (p :: l) = fieldT p ++ crlf ++ fieldsT l := by simp [fieldsT]
    rw [h3]
    simp only [List.length_append,List.length_cons,fieldT_len,crlf,List.length_nil]
    omega
theorem fieldsT_snoc {l : List Fld} {i : Nat} (h : i < l.length) : fieldsT (l.take (i + 1)) = fieldsT (l.take i) ++ (fieldT (l.getD i ([],[])) ++ crlf) := by
  rw [take_at (d := ([],[])) h]
  simp [fieldsT]
theorem fieldsT_take_le {l : List Fld} (h : fieldsB l = true) (i : Nat) : (fieldsT (l.take i)).length ≤ 4680 := by
  have h1 := fields_len h
  have h2 : ∀ p,p ∈ l.take i → fieldB p = true := by
    intro p hp
    unfold fieldsB at h
    simp only [Bool.and_eq_true,decide_eq_true_eq,List.all_eq_true] at h
    exact h.2 p (List.mem_of_mem_take hp)
  have := fieldsT_le h2
  have h3 : (l.take i).length ≤ 20 := by rw [List.length_take]; omega
  omega
theorem first_le {me ta re : List UInt8} {st : Nat} (h1 : me.length ≤ 20) (h2 : ta.length ≤ 200) (h3 : re.length ≤ 40) (h4 : st ≤ 999) : (firstT me ta st re).length ≤ 2000 := by
  unfold firstT
  have := decDigits_len st
  rw [itoa_nat]
  split <;> simp [httpA,httpZ,crlf] <;> omega
theorem c28 (me ta : List UInt8) (st : Nat) (re : List UInt8) (ba : Bool) (l : List Fld) (bo : List UInt8) (hl : Small l) (hf : fieldsB l = true) (h1 : me.length ≤ 20) (h2 : ta.length ≤ 200) (h3 : re.length ≤ 40) (h4 : st ≤ 999) (h5 : bo.length ≤ 600) : Sem prog 28 ⟨[.agg [.v (vS me),.v (vS ta),.v (vI (st : Nat)),.v (vS re),.v (vB ba),.imm 51 (rowsF l),.v (vS bo)]],[none]⟩ ⟨[.dead,.v (vS (headT me ta st re ba l bo))],[none]⟩ := by
  refine sem_fin (cfg := cfg 1) (ts := [.tm 2]) tbOk func28 rfl rfl rfl rfl (fun t h => by cases h) ?_
  simp only [f28,go_sem,cfg,Nat.reduceLeDiff,Nat.reduceLT,Nat.reduceAdd,Nat.reduceSub,Nat.reduceMul,Nat.reduceBEq,Nat.reduceBNe,Nat.reduceEqDiff,reduceCtorEq,reduceIte,Int.reduceLT,Int.reduceLE,Int.reduceAdd,Int.reduceSub,Int.reduceNeg,Int.reduceEq,Int.reduceBEq,Int.reduceBNe,Int.reduceToNat,Nat.reduceDiv,Nat.reduceMod,rowsF_length]
  have hs : l.length ≤ 9223372036854775807 := hl.1
  have h59 : bo.length ≤ 9223372036854775807 := by omega
  have hn20 := fields_len hf
  have d1 := decDigits_len st
  have d2 := decDigits_len bo.length
  have hfst := first_le h1 h2 h3 h4
  cases hm : me == []
  · have hF : firstT me ta st re = me ++ [32] ++ ta ++ [32,72,84,84,80,47,49,46,49,13,10] := by
      unfold firstT; rw [hm]; simp [httpZ,crlf]
    simp only [f28,go_sem,cfg,Nat.reduceLeDiff,Nat.reduceLT,Nat.reduceAdd,Nat.reduceSub,Nat.reduceMul,Nat.reduceBEq,Nat.reduceBNe,Nat.reduceEqDiff,reduceCtorEq,reduceIte,Int.reduceLT,Int.reduceLE,Int.reduceAdd,Int.reduceSub,Int.reduceNeg,Int.reduceEq,Int.reduceBEq,Int.reduceBNe,Int.reduceToNat,Nat.reduceDiv,Nat.reduceMod,rowsF_length,hm]
    repeat' with_reducible refine And.intro (by (try simp only [List.length_append,List.length_cons,List.length_nil]); omega) ?_
    rw [← hF]
    generalize hG : firstT me ta st re = F at hfst hF
    refine loop_on (fun i : Nat => ⟨[.dead,.cref 1 0,.v (vS []),.v (vS (F ++ fieldsT (l.take i))),.v (vI i),.dead,.dead,.dead,.dead,.dead,.dead,.dead,.dead,.dead,.dead,.dead,.dead,.dead,.dead,.dead,.dead,.dead,.dead,.dead,.dead,.dead,.dead,.dead,.dead,.dead,.dead,.dead,.dead,.dead,.dead,.dead,.dead,.dead,.dead,.dead,.dead,.dead,.dead,.dead,.dead,.dead,.dead,.dead,.dead,.dead,.dead,.dead,.dead,.dead,.dead,.dead,.dead,.dead,.dead,.dead,.dead,.dead,.dead,.dead,.dead,.dead,.dead,.dead],[none,some [.v (vS me),.v (vS ta),.v (vI (st : Nat)),.v (vS re),.v (vB ba),.imm 51 (rowsF l),.v (vS bo)],none,none,none,none,none,none,none,none,none,none,none,none,none,none,none,none,none,none,none,none,none,none,none,none,none,none,none,none,none,none,none,none,none,none,none,none,none,none,none,none,none,none,none,none,none,none,none,none,none,none,none,none,none,none,none,none,none,none,none,none,none,none,none,none,none,none]⟩) [1,2,3,4] (fun i => i ≤ l.length) (fun i => l.length - i) 0 (by rw [show F ++ fieldsT (l.take 0) = F by simp [fieldsT]]; first | rfl | trace_state) (by omega) ?_
    intro i hi
    simp only [f28,go_sem,cfg,Nat.reduceLeDiff,Nat.reduceLT,Nat.reduceAdd,Nat.reduceSub,Nat.reduceMul,Nat.reduceBEq,Nat.reduceBNe,Nat.reduceEqDiff,reduceCtorEq,reduceIte,Int.reduceLT,Int.reduceLE,Int.reduceAdd,Int.reduceSub,Int.reduceNeg,Int.reduceEq,Int.reduceBEq,Int.reduceBNe,Int.reduceToNat,Nat.reduceDiv,Nat.reduceMod,rowsF_length,hs]
    try (with_reducible intro hlen)
    have hfl := fieldsT_take_le hf i
    by_cases hc : i < l.length
    · have hw := wrapN hc hs
      have g1 := rowsF_getD hc
      have g2 := fieldsB_at hf hc
      have g3 := fieldB_le g2
      have g4 := fieldT_len (l.getD i ([],[]))
      simp only [f28,go_sem,cfg,Nat.reduceLeDiff,Nat.reduceLT,Nat.reduceAdd,Nat.reduceSub,Nat.reduceMul,Nat.reduceBEq,Nat.reduceBNe,Nat.reduceEqDiff,reduceCtorEq,reduceIte,Int.reduceLT,Int.reduceLE,Int.reduceAdd,Int.reduceSub,Int.reduceNeg,Int.reduceEq,Int.reduceBEq,Int.reduceBNe,Int.reduceToNat,Nat.reduceDiv,Nat.reduceMod,rowsF_length,hc,g1]
      refine ev_call (c61 _ _ g3.1 g3.2 g2) (retW0 rfl rfl rfl rfl) ?_
      simp only [f28,go_sem,cfg,Nat.reduceLeDiff,Nat.reduceLT,Nat.reduceAdd,Nat.reduceSub,Nat.reduceMul,Nat.reduceBEq,Nat.reduceBNe,Nat.reduceEqDiff,reduceCtorEq,reduceIte,Int.reduceLT,Int.reduceLE,Int.reduceAdd,Int.reduceSub,Int.reduceNeg,Int.reduceEq,Int.reduceBEq,Int.reduceBNe,Int.reduceToNat,Nat.reduceDiv,Nat.reduceMod,rowsF_length,hc,g1,hw]
      repeat' with_reducible refine And.intro (by (try simp only [List.length_append,List.length_cons,List.length_nil,g4]); omega) ?_
      refine ⟨i + 1,?_,hc,by omega⟩
      rw [fieldsT_snoc hc]
      simp only [← List.append_assoc]
      first | rfl | trace_state
    · have he : i = l.length := by omega
      subst he
      rw [List.take_of_length_le (Nat.le_refl _)] at hfl ⊢
      simp only [f28,go_sem,cfg,Nat.reduceLeDiff,Nat.reduceLT,Nat.reduceAdd,Nat.reduceSub,Nat.reduceMul,Nat.reduceBEq,Nat.reduceBNe,Nat.reduceEqDiff,reduceCtorEq,reduceIte,Int.reduceLT,Int.reduceLE,Int.reduceAdd,Int.reduceSub,Int.reduceNeg,Int.reduceEq,Int.reduceBEq,Int.reduceBNe,Int.reduceToNat,Nat.reduceDiv,Nat.reduceMod,rowsF_length,hc]
      cases hb : bo == []
      · cases ba
        · simp only [f28,go_sem,cfg,Nat.reduceLeDiff,Nat.reduceLT,Nat.reduceAdd,Nat.reduceSub,Nat.reduceMul,Nat.reduceBEq,Nat.reduceBNe,Nat.reduceEqDiff,reduceCtorEq,reduceIte,Int.reduceLT,Int.reduceLE,Int.reduceAdd,Int.reduceSub,Int.reduceNeg,Int.reduceEq,Int.reduceBEq,Int.reduceBNe,Int.reduceToNat,Nat.reduceDiv,Nat.reduceMod,rowsF_length,hm,hb,h59]
          repeat' with_reducible refine And.intro (by (try simp only [List.length_append,List.length_cons,List.length_nil]); omega) ?_
          refine ev_call (c60 bo.length (by omega)) (retW0 rfl rfl rfl rfl) ?_
          simp only [f28,go_sem,cfg,Nat.reduceLeDiff,Nat.reduceLT,Nat.reduceAdd,Nat.reduceSub,Nat.reduceMul,Nat.reduceBEq,Nat.reduceBNe,Nat.reduceEqDiff,reduceCtorEq,reduceIte,Int.reduceLT,Int.reduceLE,Int.reduceAdd,Int.reduceSub,Int.reduceNeg,Int.reduceEq,Int.reduceBEq,Int.reduceBNe,Int.reduceToNat,Nat.reduceDiv,Nat.reduceMod,rowsF_length]
          repeat' with_reducible refine And.intro (by (try simp only [List.length_append,List.length_cons,List.length_nil]); omega) ?_
          refine fin0 (.inr rfl) rfl rfl rfl ?_
          simp only [shutR,shutD,List.getD_cons_zero,List.getD_cons_succ]
          refine congrArg (fun b => D.v (vS b)) ?_
          simp only [headT,lastT,hG,hm,hb,itoa_nat,clH,crlf,Bool.not_true,Bool.not_false,Bool.and_true,Bool.and_false,Bool.true_and,Bool.false_and,Bool.or_false,Bool.false_or,Bool.or_true,Bool.true_or,if_true,if_false,List.append_assoc,List.append_nil,List.nil_append,List.cons_append,Bool.false_eq_true]
        · simp only [f28,go_sem,cfg,Nat.reduceLeDiff,Nat.reduceLT,Nat.reduceAdd,Nat.reduceSub,Nat.reduceMul,Nat.reduceBEq,Nat.reduceBNe,Nat.reduceEqDiff,reduceCtorEq,reduceIte,Int.reduceLT,Int.reduceLE,Int.reduceAdd,Int.reduceSub,Int.reduceNeg,Int.reduceEq,Int.reduceBEq,Int.reduceBNe,Int.reduceToNat,Nat.reduceDiv,Nat.reduceMod,rowsF_length,hm,hb,h59]
          repeat' with_reducible refine And.intro (by (try simp only [List.length_append,List.length_cons,List.length_nil]); omega) ?_
          refine ev_call (c60 bo.length (by omega)) (retW0 rfl rfl rfl rfl) ?_
          simp only [f28,go_sem,cfg,Nat.reduceLeDiff,Nat.reduceLT,Nat.reduceAdd,Nat.reduceSub,Nat.reduceMul,Nat.reduceBEq,Nat.reduceBNe,Nat.reduceEqDiff,reduceCtorEq,reduceIte,Int.reduceLT,Int.reduceLE,Int.reduceAdd,Int.reduceSub,Int.reduceNeg,Int.reduceEq,Int.reduceBEq,Int.reduceBNe,Int.reduceToNat,Nat.reduceDiv,Nat.reduceMod,rowsF_length]
          repeat' with_reducible refine And.intro (by (try simp only [List.length_append,List.length_cons,List.length_nil]); omega) ?_
          refine fin0 (.inr rfl) rfl rfl rfl ?_
          simp only [shutR,shutD,List.getD_cons_zero,List.getD_cons_succ]
          refine congrArg (fun b => D.v (vS b)) ?_
          simp only [headT,lastT,hG,hm,hb,itoa_nat,clH,crlf,Bool.not_true,Bool.not_false,Bool.and_true,Bool.and_false,Bool.true_and,Bool.false_and,Bool.or_false,Bool.false_or,Bool.or_true,Bool.true_or,if_true,if_false,List.append_assoc,List.append_nil,List.nil_append,List.cons_append,Bool.false_eq_true]
      · cases ba
        · simp only [f28,go_sem,cfg,Nat.reduceLeDiff,Nat.reduceLT,Nat.reduceAdd,Nat.reduceSub,Nat.reduceMul,Nat.reduceBEq,Nat.reduceBNe,Nat.reduceEqDiff,reduceCtorEq,reduceIte,Int.reduceLT,Int.reduceLE,Int.reduceAdd,Int.reduceSub,Int.reduceNeg,Int.reduceEq,Int.reduceBEq,Int.reduceBNe,Int.reduceToNat,Nat.reduceDiv,Nat.reduceMod,rowsF_length,hm,hb,h59]
          repeat' with_reducible refine And.intro (by (try simp only [List.length_append,List.length_cons,List.length_nil]); omega) ?_
          refine fin0 (.inr rfl) rfl rfl rfl ?_
          simp only [shutR,shutD,List.getD_cons_zero,List.getD_cons_succ]
          refine congrArg (fun b => D.v (vS b)) ?_
          simp only [headT,lastT,hG,hm,hb,itoa_nat,clH,crlf,Bool.not_true,Bool.not_false,Bool.and_true,Bool.and_false,Bool.true_and,Bool.false_and,Bool.or_false,Bool.false_or,Bool.or_true,Bool.true_or,if_true,if_false,List.append_assoc,List.append_nil,List.nil_append,List.cons_append,Bool.false_eq_true]
        · simp only [f28,go_sem,cfg,Nat.reduceLeDiff,Nat.reduceLT,Nat.reduceAdd,Nat.reduceSub,Nat.reduceMul,Nat.reduceBEq,Nat.reduceBNe,Nat.reduceEqDiff,reduceCtorEq,reduceIte,Int.reduceLT,Int.reduceLE,Int.reduceAdd,Int.reduceSub,Int.reduceNeg,Int.reduceEq,Int.reduceBEq,Int.reduceBNe,Int.reduceToNat,Nat.reduceDiv,Nat.reduceMod,rowsF_length,hm,hb,h59]
          repeat' with_reducible refine And.intro (by (try simp only [List.length_append,List.length_cons,List.length_nil]); omega) ?_
          refine fin0 (.inr rfl) rfl rfl rfl ?_
          simp only [shutR,shutD,List.getD_cons_zero,List.getD_cons_succ]
          refine congrArg (fun b => D.v (vS b)) ?_
          simp only [headT,lastT,hG,hm,hb,itoa_nat,clH,crlf,Bool.not_true,Bool.not_false,Bool.and_true,Bool.and_false,Bool.true_and,Bool.false_and,Bool.or_false,Bool.false_or,Bool.or_true,Bool.true_or,if_true,if_false,List.append_assoc,List.append_nil,List.nil_append,List.cons_append,Bool.false_eq_true]
  · have hm1 : me = [] := by simpa using hm
    have hF : firstT me ta st re = 72 :: 84 :: 84 :: 80 :: 47 :: 49 :: 46 :: 49 :: 32 :: (Lib.decDigits st ++ [32] ++ re ++ [13,10]) := by
      unfold firstT; rw [hm,itoa_nat]; simp [httpA,crlf]
    simp only [f28,go_sem,cfg,Nat.reduceLeDiff,Nat.reduceLT,Nat.reduceAdd,Nat.reduceSub,Nat.reduceMul,Nat.reduceBEq,Nat.reduceBNe,Nat.reduceEqDiff,reduceCtorEq,reduceIte,Int.reduceLT,Int.reduceLE,Int.reduceAdd,Int.reduceSub,Int.reduceNeg,Int.reduceEq,Int.reduceBEq,Int.reduceBNe,Int.reduceToNat,Nat.reduceDiv,Nat.reduceMod,rowsF_length,hm]
    repeat' with_reducible refine And.intro (by (try simp only [List.length_append,List.length_cons,List.length_nil]); omega) ?_
    refine draw_intro 10 [[16,17,18,19,20,21,22,23,3],[17,18,19,20,21,22,23,3],[15,18,19,20,21,22,23,3],[15,16,19,20,21,22,23,3],[15,16,17,20,21,22,23,3],[15,16,17,18,19,21,22,23,3],[15,16,17,18,19,22,23,3],[15,16,17,18,20,23,3],[15,16,17,18,19,20,21,3],[]] mixedOk rfl ?_
    simp only [f28,go_sem,cfg,Nat.reduceLeDiff,Nat.reduceLT,Nat.reduceAdd,Nat.reduceSub,Nat.reduceMul,Nat.reduceBEq,Nat.reduceBNe,Nat.reduceEqDiff,reduceCtorEq,reduceIte,Int.reduceLT,Int.reduceLE,Int.reduceAdd,Int.reduceSub,Int.reduceNeg,Int.reduceEq,Int.reduceBEq,Int.reduceBNe,Int.reduceToNat,Nat.reduceDiv,Nat.reduceMod,rowsF_length]
    repeat' with_reducible refine And.intro (by (try simp only [List.length_append,List.length_cons,List.length_nil]); omega) ?_
    refine of_call (c60 st (by omega)) (retW0 rfl rfl rfl rfl) rfl rfl rfl ?_
    simp only [f28,go_sem,cfg,Nat.reduceLeDiff,Nat.reduceLT,Nat.reduceAdd,Nat.reduceSub,Nat.reduceMul,Nat.reduceBEq,Nat.reduceBNe,Nat.reduceEqDiff,reduceCtorEq,reduceIte,Int.reduceLT,Int.reduceLE,Int.reduceAdd,Int.reduceSub,Int.reduceNeg,Int.reduceEq,Int.reduceBEq,Int.reduceBNe,Int.reduceToNat,Nat.reduceDiv,Nat.reduceMod,rowsF_length]
    repeat' with_reducible refine And.intro (by (try simp only [List.length_append,List.length_cons,List.length_nil]); omega) ?_
    rw [← hF]
    generalize hG : firstT me ta st re = F at hfst hF
    refine loop_on (fun i : Nat => ⟨[.dead,.cref 1 0,.v (vS []),.v (vS (F ++ fieldsT (l.take i))),.v (vI i),.dead,.dead,.dead,.dead,.dead,.dead,.dead,.dead,.dead,.dead,.dead,.dead,.dead,.dead,.dead,.dead,.dead,.dead,.dead,.dead,.dead,.dead,.dead,.dead,.dead,.dead,.dead,.dead,.dead,.dead,.dead,.dead,.dead,.dead,.dead,.dead,.dead,.dead,.dead,.dead,.dead,.dead,.dead,.dead,.dead,.dead,.dead,.dead,.dead,.dead,.dead,.dead,.dead,.dead,.dead,.dead,.dead,.dead,.dead,.dead,.dead,.dead,.dead],[none,some [.v (vS me),.v (vS ta),.v (vI (st : Nat)),.v (vS re),.v (vB ba),.imm 51 (rowsF l),.v (vS bo)],none,none,none,none,none,none,none,none,none,none,none,none,none,none,none,none,none,none,none,none,none,none,none,none,none,none,none,none,none,none,none,none,none,none,none,none,none,none,none,none,none,none,none,none,none,none,none,none,none,none,none,none,none,none,none,none,none,none,none,none,none,none,none,none,none,none]⟩) [1,2,3,4] (fun i => i ≤ l.length) (fun i => l.length - i) 0 (by rw [show F ++ fieldsT (l.take 0) = F by simp [fieldsT]]; first | rfl | trace_state) (by omega) ?_
    intro i hi
    simp only [f28,go_sem,cfg,Nat.reduceLeDiff,Nat.reduceLT,Nat.reduceAdd,Nat.reduceSub,Nat.reduceMul,Nat.reduceBEq,Nat.reduceBNe,Nat.reduceEqDiff,reduceCtorEq,reduceIte,Int.reduceLT,Int.reduceLE,Int.reduceAdd,Int.reduceSub,Int.reduceNeg,Int.reduceEq,Int.reduceBEq,Int.reduceBNe,Int.reduceToNat,Nat.reduceDiv,Nat.reduceMod,rowsF_length,hs]
    try (with_reducible intro hlen)
    have hfl := fieldsT_take_le hf i
    by_cases hc : i < l.length
    · have hw := wrapN hc hs
      have g1 := rowsF_getD hc
      have g2 := fieldsB_at hf hc
      have g3 := fieldB_le g2
      have g4 := fieldT_len (l.getD i ([],[]))
      simp only [f28,go_sem,cfg,Nat.reduceLeDiff,Nat.reduceLT,Nat.reduceAdd,Nat.reduceSub,Nat.reduceMul,Nat.reduceBEq,Nat.reduceBNe,Nat.reduceEqDiff,reduceCtorEq,reduceIte,Int.reduceLT,Int.reduceLE,Int.reduceAdd,Int.reduceSub,Int.reduceNeg,Int.reduceEq,Int.reduceBEq,Int.reduceBNe,Int.reduceToNat,Nat.reduceDiv,Nat.reduceMod,rowsF_length,hc,g1]
      refine ev_call (c61 _ _ g3.1 g3.2 g2) (retW0 rfl rfl rfl rfl) ?_
      simp only [f28,go_sem,cfg,Nat.reduceLeDiff,Nat.reduceLT,Nat.reduceAdd,Nat.reduceSub,Nat.reduceMul,Nat.reduceBEq,Nat.reduceBNe,Nat.reduceEqDiff,reduceCtorEq,reduceIte,Int.reduceLT,Int.reduceLE,Int.reduceAdd,Int.reduceSub,Int.reduceNeg,Int.reduceEq,Int.reduceBEq,Int.reduceBNe,Int.reduceToNat,Nat.reduceDiv,Nat.reduceMod,rowsF_length,hc,g1,hw]
      repeat' with_reducible refine And.intro (by (try simp only [List.length_append,List.length_cons,List.length_nil,g4]); omega) ?_
      refine ⟨i + 1,?_,hc,by omega⟩
      rw [fieldsT_snoc hc]
      simp only [← List.append_assoc]
      first | rfl | trace_state
    · have he : i = l.length := by omega
      subst he
      rw [List.take_of_length_le (Nat.le_refl _)] at hfl ⊢
      simp only [f28,go_sem,cfg,Nat.reduceLeDiff,Nat.reduceLT,Nat.reduceAdd,Nat.reduceSub,Nat.reduceMul,Nat.reduceBEq,Nat.reduceBNe,Nat.reduceEqDiff,reduceCtorEq,reduceIte,Int.reduceLT,Int.reduceLE,Int.reduceAdd,Int.reduceSub,Int.reduceNeg,Int.reduceEq,Int.reduceBEq,Int.reduceBNe,Int.reduceToNat,Nat.reduceDiv,Nat.reduceMod,rowsF_length,hc]
      cases hb : bo == []
      · cases ba
        · simp only [f28,go_sem,cfg,Nat.reduceLeDiff,Nat.reduceLT,Nat.reduceAdd,Nat.reduceSub,Nat.reduceMul,Nat.reduceBEq,Nat.reduceBNe,Nat.reduceEqDiff,reduceCtorEq,reduceIte,Int.reduceLT,Int.reduceLE,Int.reduceAdd,Int.reduceSub,Int.reduceNeg,Int.reduceEq,Int.reduceBEq,Int.reduceBNe,Int.reduceToNat,Nat.reduceDiv,Nat.reduceMod,rowsF_length,hm,hb,h59]
          repeat' with_reducible refine And.intro (by (try simp only [List.length_append,List.length_cons,List.length_nil]); omega) ?_
          refine ev_call (c60 bo.length (by omega)) (retW0 rfl rfl rfl rfl) ?_
          simp only [f28,go_sem,cfg,Nat.reduceLeDiff,Nat.reduceLT,Nat.reduceAdd,Nat.reduceSub,Nat.reduceMul,Nat.reduceBEq,Nat.reduceBNe,Nat.reduceEqDiff,reduceCtorEq,reduceIte,Int.reduceLT,Int.reduceLE,Int.reduceAdd,Int.reduceSub,Int.reduceNeg,Int.reduceEq,Int.reduceBEq,Int.reduceBNe,Int.reduceToNat,Nat.reduceDiv,Nat.reduceMod,rowsF_length]
          repeat' with_reducible refine And.intro (by (try simp only [List.length_append,List.length_cons,List.length_nil]); omega) ?_
          refine fin0 (.inr rfl) rfl rfl rfl ?_
          simp only [shutR,shutD,List.getD_cons_zero,List.getD_cons_succ]
          refine congrArg (fun b => D.v (vS b)) ?_
          simp only [headT,lastT,hG,hm,hb,itoa_nat,clH,crlf,Bool.not_true,Bool.not_false,Bool.and_true,Bool.and_false,Bool.true_and,Bool.false_and,Bool.or_false,Bool.false_or,Bool.or_true,Bool.true_or,if_true,if_false,List.append_assoc,List.append_nil,List.nil_append,List.cons_append,Bool.false_eq_true]
        · simp only [f28,go_sem,cfg,Nat.reduceLeDiff,Nat.reduceLT,Nat.reduceAdd,Nat.reduceSub,Nat.reduceMul,Nat.reduceBEq,Nat.reduceBNe,Nat.reduceEqDiff,reduceCtorEq,reduceIte,Int.reduceLT,Int.reduceLE,Int.reduceAdd,Int.reduceSub,Int.reduceNeg,Int.reduceEq,Int.reduceBEq,Int.reduceBNe,Int.reduceToNat,Nat.reduceDiv,Nat.reduceMod,rowsF_length,hm,hb,h59]
          repeat' with_reducible refine And.intro (by (try simp only [List.length_append,List.length_cons,List.length_nil]); omega) ?_
          refine fin0 (.inr rfl) rfl rfl rfl ?_
          simp only [shutR,shutD,List.getD_cons_zero,List.getD_cons_succ]
          refine congrArg (fun b => D.v (vS b)) ?_
          simp only [headT,lastT,hG,hm,hb,itoa_nat,clH,crlf,Bool.not_true,Bool.not_false,Bool.and_true,Bool.and_false,Bool.true_and,Bool.false_and,Bool.or_false,Bool.false_or,Bool.or_true,Bool.true_or,if_true,if_false,List.append_assoc,List.append_nil,List.nil_append,List.cons_append,Bool.false_eq_true]
      · cases ba
        · simp only [f28,go_sem,cfg,Nat.reduceLeDiff,Nat.reduceLT,Nat.reduceAdd,Nat.reduceSub,Nat.reduceMul,Nat.reduceBEq,Nat.reduceBNe,Nat.reduceEqDiff,reduceCtorEq,reduceIte,Int.reduceLT,Int.reduceLE,Int.reduceAdd,Int.reduceSub,Int.reduceNeg,Int.reduceEq,Int.reduceBEq,Int.reduceBNe,Int.reduceToNat,Nat.reduceDiv,Nat.reduceMod,rowsF_length,hm,hb,h59]
          repeat' with_reducible refine And.intro (by (try simp only [List.length_append,List.length_cons,List.length_nil]); omega) ?_
          refine ev_call (c60 bo.length (by omega)) (retW0 rfl rfl rfl rfl) ?_
          simp only [f28,go_sem,cfg,Nat.reduceLeDiff,Nat.reduceLT,Nat.reduceAdd,Nat.reduceSub,Nat.reduceMul,Nat.reduceBEq,Nat.reduceBNe,Nat.reduceEqDiff,reduceCtorEq,reduceIte,Int.reduceLT,Int.reduceLE,Int.reduceAdd,Int.reduceSub,Int.reduceNeg,Int.reduceEq,Int.reduceBEq,Int.reduceBNe,Int.reduceToNat,Nat.reduceDiv,Nat.reduceMod,rowsF_length]
          repeat' with_reducible refine And.intro (by (try simp only [List.length_append,List.length_cons,List.length_nil]); omega) ?_
          refine fin0 (.inr rfl) rfl rfl rfl ?_
          simp only [shutR,shutD,List.getD_cons_zero,List.getD_cons_succ]
          refine congrArg (fun b => D.v (vS b)) ?_
          simp only [headT,lastT,hG,hm,hb,itoa_nat,clH,crlf,Bool.not_true,Bool.not_false,Bool.and_true,Bool.and_false,Bool.true_and,Bool.false_and,Bool.or_false,Bool.false_or,Bool.or_true,Bool.true_or,if_true,if_false,List.append_assoc,List.append_nil,List.nil_append,List.cons_append,Bool.false_eq_true]
        · simp only [f28,go_sem,cfg,Nat.reduceLeDiff,Nat.reduceLT,Nat.reduceAdd,Nat.reduceSub,Nat.reduceMul,Nat.reduceBEq,Nat.reduceBNe,Nat.reduceEqDiff,reduceCtorEq,reduceIte,Int.reduceLT,Int.reduceLE,Int.reduceAdd,Int.reduceSub,Int.reduceNeg,Int.reduceEq,Int.reduceBEq,Int.reduceBNe,Int.reduceToNat,Nat.reduceDiv,Nat.reduceMod,rowsF_length,hm,hb,h59]
          repeat' with_reducible refine And.intro (by (try simp only [List.length_append,List.length_cons,List.length_nil]); omega) ?_
          refine fin0 (.inr rfl) rfl rfl rfl ?_
          simp only [shutR,shutD,List.getD_cons_zero,List.getD_cons_succ]
          refine congrArg (fun b => D.v (vS b)) ?_
          simp only [headT,lastT,hG,hm,hb,itoa_nat,clH,crlf,Bool.not_true,Bool.not_false,Bool.and_true,Bool.and_false,Bool.true_and,Bool.false_and,Bool.or_false,Bool.false_or,Bool.or_true,Bool.true_or,if_true,if_false,List.append_assoc,List.append_nil,List.nil_append,List.cons_append,Bool.false_eq_true]
end Go.Proofs.YtagfeejofceheaaGreatDoor.Fw

/- Contracts: which messages are valid. -/
namespace Go.Proofs.YtagfeejofceheaaGreatDoor.Fw
open Go
open Go.Proofs.Tryz
set_option maxRecDepth 100000
set_option maxHeartbeats 600000
set_option linter.unusedSimpArgs false
set_option linter.unusedVariables false
attribute [local congr] c_bnd c_slot c_cell c_all c_len c_chk c_asm c_opdR c_wp c_pwp c_pOps c_Done c_nx c_blk c_fin c_rowsR c_leafR c_opdsR c_coeLeaf c_coeLeaves c_lendLeaf c_lendLeaves c_coeCapt c_argR c_argsR c_boundR c_partsR c_srcR c_mfgo c_ite c_wpF c_OutF c_pHead c_pDraw
def msgB (me ta : List UInt8) (st : Int) (re : List UInt8) (ba : Bool) (l : List Fld) (bo : List UInt8) : Bool := fieldsB l && !(l.length == 20) && !(l.any frB) && decide (bo.length ≤ 600) && (if me == [] then answerB ta st re ba bo else requestB me ta st re ba) && decide ((headT me ta st re ba l bo).length ≤ 1500)
theorem request_le {me ta re : List UInt8} {st : Int} {ba : Bool} (h : requestB me ta st re ba = true) : me.length ≤ 20 ∧ ta.length ≤ 200 ∧ st = 0 ∧ re = [] := by
  simp only [requestB,methodB,targetB,inB,Bool.and_eq_true,decide_eq_true_eq,beq_iff_eq] at h
  exact ⟨h.1.1.1.1.2,by omega,h.1.1.2,h.1.2⟩
theorem answer_le {ta re bo : List UInt8} {st : Int} {ba : Bool} (h : answerB ta st re ba bo = true) : ta = [] ∧ 200 ≤ st ∧ st ≤ 599 ∧ re.length ≤ 40 := by
  simp only [answerB,reasonB,statusB,inB,Bool.and_eq_true,decide_eq_true_eq,beq_iff_eq] at h
  exact ⟨h.1.1.1.1,h.1.1.1.2.1,h.1.1.1.2.2,h.1.1.2.1⟩
theorem head_le {me ta re bo : List UInt8} {st : Int} {ba : Bool} (h : (if me == [] then answerB ta st re ba bo else requestB me ta st re ba) = true) : me.length ≤ 20 ∧ ta.length ≤ 200 ∧ re.length ≤ 40 ∧ ∃ n : Nat,st = n ∧ n ≤ 999 := by
  split at h
  · rename_i hm
    obtain ⟨h1,h2,h3,h4⟩ := answer_le h
    have hm : me = [] := by simpa using hm
    subst hm; subst h1
    exact ⟨by simp,by simp,h4,st.toNat,by omega,by omega⟩
  · obtain ⟨h1,h2,h3,h4⟩ := request_le h
    subst h3; subst h4
    exact ⟨h1,h2,by simp,0,rfl,by omega⟩
theorem c12a (me ta : List UInt8) (st : Int) (re : List UInt8) (ba : Bool) (l : List Fld) (bo : List UInt8) (h1 : me.length ≤ 9223372036854775807) (h2 : ta.length ≤ 9223372036854775807) (h3 : re.length ≤ 9223372036854775807) (h4 : bo.length ≤ 9223372036854775807) (hl : Small l) (hf : fieldsB l = false) : Sem prog 12 ⟨[.agg [.v (vS me),.v (vS ta),.v (vI st),.v (vS re),.v (vB ba),.imm 51 (rowsF l),.v (vS bo)]],[none]⟩ ⟨[.dead,.v (vB (false))],[none]⟩ := by
  refine sem_fin (cfg := cfg 1) (ts := [.tm 2]) tbOk func12 rfl rfl rfl rfl (fun t h => by cases h) ?_
  have hs : l.length ≤ 9223372036854775807 := hl.1
  simp only [f12,go_sem,cfg,Nat.reduceLeDiff,Nat.reduceLT,Nat.reduceAdd,Nat.reduceSub,Nat.reduceMul,Nat.reduceBEq,Nat.reduceBNe,Nat.reduceEqDiff,reduceCtorEq,reduceIte,Int.reduceLT,Int.reduceLE,Int.reduceAdd,Int.reduceSub,Int.reduceNeg,Int.reduceEq,Int.reduceBEq,Int.reduceBNe,Int.reduceToNat,Nat.reduceDiv,Nat.reduceMod,rowsF_length,hs,h4,hf]
  try (with_reducible intro _)
  try simp only [f12,go_sem,cfg,Nat.reduceLeDiff,Nat.reduceLT,Nat.reduceAdd,Nat.reduceSub,Nat.reduceMul,Nat.reduceBEq,Nat.reduceBNe,Nat.reduceEqDiff,reduceCtorEq,reduceIte,Int.reduceLT,Int.reduceLE,Int.reduceAdd,Int.reduceSub,Int.reduceNeg,Int.reduceEq,Int.reduceBEq,Int.reduceBNe,Int.reduceToNat,Nat.reduceDiv,Nat.reduceMod,rowsF_length,hs,h4,hf]
  refine ev_call (c24 l hl) (retW0 rfl rfl rfl rfl) ?_
  simp only [f12,go_sem,cfg,Nat.reduceLeDiff,Nat.reduceLT,Nat.reduceAdd,Nat.reduceSub,Nat.reduceMul,Nat.reduceBEq,Nat.reduceBNe,Nat.reduceEqDiff,reduceCtorEq,reduceIte,Int.reduceLT,Int.reduceLE,Int.reduceAdd,Int.reduceSub,Int.reduceNeg,Int.reduceEq,Int.reduceBEq,Int.reduceBNe,Int.reduceToNat,Nat.reduceDiv,Nat.reduceMod,rowsF_length,hs,h4,hf]
  try (with_reducible intro _)
  try simp only [f12,go_sem,cfg,Nat.reduceLeDiff,Nat.reduceLT,Nat.reduceAdd,Nat.reduceSub,Nat.reduceMul,Nat.reduceBEq,Nat.reduceBNe,Nat.reduceEqDiff,reduceCtorEq,reduceIte,Int.reduceLT,Int.reduceLE,Int.reduceAdd,Int.reduceSub,Int.reduceNeg,Int.reduceEq,Int.reduceBEq,Int.reduceBNe,Int.reduceToNat,Nat.reduceDiv,Nat.reduceMod,rowsF_length,hs,h4,hf]
  first | exact fin0 (.inr rfl) rfl rfl rfl rfl | trace_state
theorem c12b (me ta : List UInt8) (st : Int) (re : List UInt8) (ba : Bool) (l : List Fld) (bo : List UInt8) (h1 : me.length ≤ 9223372036854775807) (h2 : ta.length ≤ 9223372036854775807) (h3 : re.length ≤ 9223372036854775807) (h4 : bo.length ≤ 9223372036854775807) (hl : Small l) (hf : fieldsB l = true) (h20 : ((l.length : Int) == 20) = true) : Sem prog 12 ⟨[.agg [.v (vS me),.v (vS ta),.v (vI st),.v (vS re),.v (vB ba),.imm 51 (rowsF l),.v (vS bo)]],[none]⟩ ⟨[.dead,.v (vB (false))],[none]⟩ := by
  refine sem_fin (cfg := cfg 1) (ts := [.tm 2]) tbOk func12 rfl rfl rfl rfl (fun t h => by cases h) ?_
  have hs : l.length ≤ 9223372036854775807 := hl.1
  simp only [f12,go_sem,cfg,Nat.reduceLeDiff,Nat.reduceLT,Nat.reduceAdd,Nat.reduceSub,Nat.reduceMul,Nat.reduceBEq,Nat.reduceBNe,Nat.reduceEqDiff,reduceCtorEq,reduceIte,Int.reduceLT,Int.reduceLE,Int.reduceAdd,Int.reduceSub,Int.reduceNeg,Int.reduceEq,Int.reduceBEq,Int.reduceBNe,Int.reduceToNat,Nat.reduceDiv,Nat.reduceMod,rowsF_length,hs,h4,hf,h20]
  try (with_reducible intro _)
  try simp only [f12,go_sem,cfg,Nat.reduceLeDiff,Nat.reduceLT,Nat.reduceAdd,Nat.reduceSub,Nat.reduceMul,Nat.reduceBEq,Nat.reduceBNe,Nat.reduceEqDiff,reduceCtorEq,reduceIte,Int.reduceLT,Int.reduceLE,Int.reduceAdd,Int.reduceSub,Int.reduceNeg,Int.reduceEq,Int.reduceBEq,Int.reduceBNe,Int.reduceToNat,Nat.reduceDiv,Nat.reduceMod,rowsF_length,hs,h4,hf,h20]
  refine ev_call (c24 l hl) (retW0 rfl rfl rfl rfl) ?_
  simp only [f12,go_sem,cfg,Nat.reduceLeDiff,Nat.reduceLT,Nat.reduceAdd,Nat.reduceSub,Nat.reduceMul,Nat.reduceBEq,Nat.reduceBNe,Nat.reduceEqDiff,reduceCtorEq,reduceIte,Int.reduceLT,Int.reduceLE,Int.reduceAdd,Int.reduceSub,Int.reduceNeg,Int.reduceEq,Int.reduceBEq,Int.reduceBNe,Int.reduceToNat,Nat.reduceDiv,Nat.reduceMod,rowsF_length,hs,h4,hf,h20]
  try (with_reducible intro _)
  try simp only [f12,go_sem,cfg,Nat.reduceLeDiff,Nat.reduceLT,Nat.reduceAdd,Nat.reduceSub,Nat.reduceMul,Nat.reduceBEq,Nat.reduceBNe,Nat.reduceEqDiff,reduceCtorEq,reduceIte,Int.reduceLT,Int.reduceLE,Int.reduceAdd,Int.reduceSub,Int.reduceNeg,Int.reduceEq,Int.reduceBEq,Int.reduceBNe,Int.reduceToNat,Nat.reduceDiv,Nat.reduceMod,rowsF_length,hs,h4,hf,h20]
  first | exact fin0 (.inr rfl) rfl rfl rfl rfl | trace_state
theorem c12c (me ta : List UInt8) (st : Int) (re : List UInt8) (ba : Bool) (l : List Fld) (bo : List UInt8) (h1 : me.length ≤ 9223372036854775807) (h2 : ta.length ≤ 9223372036854775807) (h3 : re.length ≤ 9223372036854775807) (h4 : bo.length ≤ 9223372036854775807) (hl : Small l) (hf : fieldsB l = true) (h20 : ((l.length : Int) == 20) = false) (hfr : l.any frB = true) : Sem prog 12 ⟨[.agg [.v (vS me),.v (vS ta),.v (vI st),.v (vS re),.v (vB ba),.imm 51 (rowsF l),.v (vS bo)]],[none]⟩ ⟨[.dead,.v (vB (false))],[none]⟩ := by
  refine sem_fin (cfg := cfg 1) (ts := [.tm 2]) tbOk func12 rfl rfl rfl rfl (fun t h => by cases h) ?_
  have hs : l.length ≤ 9223372036854775807 := hl.1
  simp only [f12,go_sem,cfg,Nat.reduceLeDiff,Nat.reduceLT,Nat.reduceAdd,Nat.reduceSub,Nat.reduceMul,Nat.reduceBEq,Nat.reduceBNe,Nat.reduceEqDiff,reduceCtorEq,reduceIte,Int.reduceLT,Int.reduceLE,Int.reduceAdd,Int.reduceSub,Int.reduceNeg,Int.reduceEq,Int.reduceBEq,Int.reduceBNe,Int.reduceToNat,Nat.reduceDiv,Nat.reduceMod,rowsF_length,hs,h4,hf,h20,hfr]
  try (with_reducible intro _)
  try simp only [f12,go_sem,cfg,Nat.reduceLeDiff,Nat.reduceLT,Nat.reduceAdd,Nat.reduceSub,Nat.reduceMul,Nat.reduceBEq,Nat.reduceBNe,Nat.reduceEqDiff,reduceCtorEq,reduceIte,Int.reduceLT,Int.reduceLE,Int.reduceAdd,Int.reduceSub,Int.reduceNeg,Int.reduceEq,Int.reduceBEq,Int.reduceBNe,Int.reduceToNat,Nat.reduceDiv,Nat.reduceMod,rowsF_length,hs,h4,hf,h20,hfr]
  refine ev_call (c24 l hl) (retW0 rfl rfl rfl rfl) ?_
  simp only [f12,go_sem,cfg,Nat.reduceLeDiff,Nat.reduceLT,Nat.reduceAdd,Nat.reduceSub,Nat.reduceMul,Nat.reduceBEq,Nat.reduceBNe,Nat.reduceEqDiff,reduceCtorEq,reduceIte,Int.reduceLT,Int.reduceLE,Int.reduceAdd,Int.reduceSub,Int.reduceNeg,Int.reduceEq,Int.reduceBEq,Int.reduceBNe,Int.reduceToNat,Nat.reduceDiv,Nat.reduceMod,rowsF_length,hs,h4,hf,h20,hfr]
  try (with_reducible intro _)
  try simp only [f12,go_sem,cfg,Nat.reduceLeDiff,Nat.reduceLT,Nat.reduceAdd,Nat.reduceSub,Nat.reduceMul,Nat.reduceBEq,Nat.reduceBNe,Nat.reduceEqDiff,reduceCtorEq,reduceIte,Int.reduceLT,Int.reduceLE,Int.reduceAdd,Int.reduceSub,Int.reduceNeg,Int.reduceEq,Int.reduceBEq,Int.reduceBNe,Int.reduceToNat,Nat.reduceDiv,Nat.reduceMod,rowsF_length,hs,h4,hf,h20,hfr]
  refine ev_call (c25 l hl) (retW0 rfl rfl rfl rfl) ?_
  simp only [f12,go_sem,cfg,Nat.reduceLeDiff,Nat.reduceLT,Nat.reduceAdd,Nat.reduceSub,Nat.reduceMul,Nat.reduceBEq,Nat.reduceBNe,Nat.reduceEqDiff,reduceCtorEq,reduceIte,Int.reduceLT,Int.reduceLE,Int.reduceAdd,Int.reduceSub,Int.reduceNeg,Int.reduceEq,Int.reduceBEq,Int.reduceBNe,Int.reduceToNat,Nat.reduceDiv,Nat.reduceMod,rowsF_length,hs,h4,hf,h20,hfr]
  try (with_reducible intro _)
  try simp only [f12,go_sem,cfg,Nat.reduceLeDiff,Nat.reduceLT,Nat.reduceAdd,Nat.reduceSub,Nat.reduceMul,Nat.reduceBEq,Nat.reduceBNe,Nat.reduceEqDiff,reduceCtorEq,reduceIte,Int.reduceLT,Int.reduceLE,Int.reduceAdd,Int.reduceSub,Int.reduceNeg,Int.reduceEq,Int.reduceBEq,Int.reduceBNe,Int.reduceToNat,Nat.reduceDiv,Nat.reduceMod,rowsF_length,hs,h4,hf,h20,hfr]
  first | exact fin0 (.inr rfl) rfl rfl rfl rfl | trace_state
theorem c12d (me ta : List UInt8) (st : Int) (re : List UInt8) (ba : Bool) (l : List Fld) (bo : List UInt8) (h1 : me.length ≤ 9223372036854775807) (h2 : ta.length ≤ 9223372036854775807) (h3 : re.length ≤ 9223372036854775807) (h4 : bo.length ≤ 9223372036854775807) (hl : Small l) (hf : fieldsB l = true) (h20 : ((l.length : Int) == 20) = false) (hfr : l.any frB = false) (hb : (600 : Int) < (bo.length : Int)) : Sem prog 12 ⟨[.agg [.v (vS me),.v (vS ta),.v (vI st),.v (vS re),.v (vB ba),.imm 51 (rowsF l),.v (vS bo)]],[none]⟩ ⟨[.dead,.v (vB (false))],[none]⟩ := by
  refine sem_fin (cfg := cfg 1) (ts := [.tm 2]) tbOk func12 rfl rfl rfl rfl (fun t h => by cases h) ?_
  have hs : l.length ≤ 9223372036854775807 := hl.1
  simp only [f12,go_sem,cfg,Nat.reduceLeDiff,Nat.reduceLT,Nat.reduceAdd,Nat.reduceSub,Nat.reduceMul,Nat.reduceBEq,Nat.reduceBNe,Nat.reduceEqDiff,reduceCtorEq,reduceIte,Int.reduceLT,Int.reduceLE,Int.reduceAdd,Int.reduceSub,Int.reduceNeg,Int.reduceEq,Int.reduceBEq,Int.reduceBNe,Int.reduceToNat,Nat.reduceDiv,Nat.reduceMod,rowsF_length,hs,h4,hf,h20,hfr,hb]
  try (with_reducible intro _)
  try simp only [f12,go_sem,cfg,Nat.reduceLeDiff,Nat.reduceLT,Nat.reduceAdd,Nat.reduceSub,Nat.reduceMul,Nat.reduceBEq,Nat.reduceBNe,Nat.reduceEqDiff,reduceCtorEq,reduceIte,Int.reduceLT,Int.reduceLE,Int.reduceAdd,Int.reduceSub,Int.reduceNeg,Int.reduceEq,Int.reduceBEq,Int.reduceBNe,Int.reduceToNat,Nat.reduceDiv,Nat.reduceMod,rowsF_length,hs,h4,hf,h20,hfr,hb]
  refine ev_call (c24 l hl) (retW0 rfl rfl rfl rfl) ?_
  simp only [f12,go_sem,cfg,Nat.reduceLeDiff,Nat.reduceLT,Nat.reduceAdd,Nat.reduceSub,Nat.reduceMul,Nat.reduceBEq,Nat.reduceBNe,Nat.reduceEqDiff,reduceCtorEq,reduceIte,Int.reduceLT,Int.reduceLE,Int.reduceAdd,Int.reduceSub,Int.reduceNeg,Int.reduceEq,Int.reduceBEq,Int.reduceBNe,Int.reduceToNat,Nat.reduceDiv,Nat.reduceMod,rowsF_length,hs,h4,hf,h20,hfr,hb]
  try (with_reducible intro _)
  try simp only [f12,go_sem,cfg,Nat.reduceLeDiff,Nat.reduceLT,Nat.reduceAdd,Nat.reduceSub,Nat.reduceMul,Nat.reduceBEq,Nat.reduceBNe,Nat.reduceEqDiff,reduceCtorEq,reduceIte,Int.reduceLT,Int.reduceLE,Int.reduceAdd,Int.reduceSub,Int.reduceNeg,Int.reduceEq,Int.reduceBEq,Int.reduceBNe,Int.reduceToNat,Nat.reduceDiv,Nat.reduceMod,rowsF_length,hs,h4,hf,h20,hfr,hb]
  refine ev_call (c25 l hl) (retW0 rfl rfl rfl rfl) ?_
  simp only [f12,go_sem,cfg,Nat.reduceLeDiff,Nat.reduceLT,Nat.reduceAdd,Nat.reduceSub,Nat.reduceMul,Nat.reduceBEq,Nat.reduceBNe,Nat.reduceEqDiff,reduceCtorEq,reduceIte,Int.reduceLT,Int.reduceLE,Int.reduceAdd,Int.reduceSub,Int.reduceNeg,Int.reduceEq,Int.reduceBEq,Int.reduceBNe,Int.reduceToNat,Nat.reduceDiv,Nat.reduceMod,rowsF_length,hs,h4,hf,h20,hfr,hb]
  try (with_reducible intro _)
  try simp only [f12,go_sem,cfg,Nat.reduceLeDiff,Nat.reduceLT,Nat.reduceAdd,Nat.reduceSub,Nat.reduceMul,Nat.reduceBEq,Nat.reduceBNe,Nat.reduceEqDiff,reduceCtorEq,reduceIte,Int.reduceLT,Int.reduceLE,Int.reduceAdd,Int.reduceSub,Int.reduceNeg,Int.reduceEq,Int.reduceBEq,Int.reduceBNe,Int.reduceToNat,Nat.reduceDiv,Nat.reduceMod,rowsF_length,hs,h4,hf,h20,hfr,hb]
  first | exact fin0 (.inr rfl) rfl rfl rfl rfl | trace_state
theorem c12e (me ta : List UInt8) (st : Int) (re : List UInt8) (ba : Bool) (l : List Fld) (bo : List UInt8) (h1 : me.length ≤ 9223372036854775807) (h2 : ta.length ≤ 9223372036854775807) (h3 : re.length ≤ 9223372036854775807) (h4 : bo.length ≤ 9223372036854775807) (hl : Small l) (hf : fieldsB l = true) (h20 : ((l.length : Int) == 20) = false) (hfr : l.any frB = false) (hb : ¬ (600 : Int) < (bo.length : Int)) (hm : (me == []) = false) (hr : requestB me ta st re ba = false) : Sem prog 12 ⟨[.agg [.v (vS me),.v (vS ta),.v (vI st),.v (vS re),.v (vB ba),.imm 51 (rowsF l),.v (vS bo)]],[none]⟩ ⟨[.dead,.v (vB (false))],[none]⟩ := by
  refine sem_fin (cfg := cfg 1) (ts := [.tm 2]) tbOk func12 rfl rfl rfl rfl (fun t h => by cases h) ?_
  have hs : l.length ≤ 9223372036854775807 := hl.1
  simp only [f12,go_sem,cfg,Nat.reduceLeDiff,Nat.reduceLT,Nat.reduceAdd,Nat.reduceSub,Nat.reduceMul,Nat.reduceBEq,Nat.reduceBNe,Nat.reduceEqDiff,reduceCtorEq,reduceIte,Int.reduceLT,Int.reduceLE,Int.reduceAdd,Int.reduceSub,Int.reduceNeg,Int.reduceEq,Int.reduceBEq,Int.reduceBNe,Int.reduceToNat,Nat.reduceDiv,Nat.reduceMod,rowsF_length,hs,h4,hf,h20,hfr,hb,hm,hr]
  try (with_reducible intro _)
  try simp only [f12,go_sem,cfg,Nat.reduceLeDiff,Nat.reduceLT,Nat.reduceAdd,Nat.reduceSub,Nat.reduceMul,Nat.reduceBEq,Nat.reduceBNe,Nat.reduceEqDiff,reduceCtorEq,reduceIte,Int.reduceLT,Int.reduceLE,Int.reduceAdd,Int.reduceSub,Int.reduceNeg,Int.reduceEq,Int.reduceBEq,Int.reduceBNe,Int.reduceToNat,Nat.reduceDiv,Nat.reduceMod,rowsF_length,hs,h4,hf,h20,hfr,hb,hm,hr]
  refine ev_call (c24 l hl) (retW0 rfl rfl rfl rfl) ?_
  simp only [f12,go_sem,cfg,Nat.reduceLeDiff,Nat.reduceLT,Nat.reduceAdd,Nat.reduceSub,Nat.reduceMul,Nat.reduceBEq,Nat.reduceBNe,Nat.reduceEqDiff,reduceCtorEq,reduceIte,Int.reduceLT,Int.reduceLE,Int.reduceAdd,Int.reduceSub,Int.reduceNeg,Int.reduceEq,Int.reduceBEq,Int.reduceBNe,Int.reduceToNat,Nat.reduceDiv,Nat.reduceMod,rowsF_length,hs,h4,hf,h20,hfr,hb,hm,hr]
  try (with_reducible intro _)
  try simp only [f12,go_sem,cfg,Nat.reduceLeDiff,Nat.reduceLT,Nat.reduceAdd,Nat.reduceSub,Nat.reduceMul,Nat.reduceBEq,Nat.reduceBNe,Nat.reduceEqDiff,reduceCtorEq,reduceIte,Int.reduceLT,Int.reduceLE,Int.reduceAdd,Int.reduceSub,Int.reduceNeg,Int.reduceEq,Int.reduceBEq,Int.reduceBNe,Int.reduceToNat,Nat.reduceDiv,Nat.reduceMod,rowsF_length,hs,h4,hf,h20,hfr,hb,hm,hr]
  refine ev_call (c25 l hl) (retW0 rfl rfl rfl rfl) ?_
  simp only [f12,go_sem,cfg,Nat.reduceLeDiff,Nat.reduceLT,Nat.reduceAdd,Nat.reduceSub,Nat.reduceMul,Nat.reduceBEq,Nat.reduceBNe,Nat.reduceEqDiff,reduceCtorEq,reduceIte,Int.reduceLT,Int.reduceLE,Int.reduceAdd,Int.reduceSub,Int.reduceNeg,Int.reduceEq,Int.reduceBEq,Int.reduceBNe,Int.reduceToNat,Nat.reduceDiv,Nat.reduceMod,rowsF_length,hs,h4,hf,h20,hfr,hb,hm,hr]
  try (with_reducible intro _)
  try simp only [f12,go_sem,cfg,Nat.reduceLeDiff,Nat.reduceLT,Nat.reduceAdd,Nat.reduceSub,Nat.reduceMul,Nat.reduceBEq,Nat.reduceBNe,Nat.reduceEqDiff,reduceCtorEq,reduceIte,Int.reduceLT,Int.reduceLE,Int.reduceAdd,Int.reduceSub,Int.reduceNeg,Int.reduceEq,Int.reduceBEq,Int.reduceBNe,Int.reduceToNat,Nat.reduceDiv,Nat.reduceMod,rowsF_length,hs,h4,hf,h20,hfr,hb,hm,hr]
  refine ev_call (c26 me ta st re ba l bo h1 h2 h3 h4) (retW0 rfl rfl rfl rfl) ?_
  simp only [f12,go_sem,cfg,Nat.reduceLeDiff,Nat.reduceLT,Nat.reduceAdd,Nat.reduceSub,Nat.reduceMul,Nat.reduceBEq,Nat.reduceBNe,Nat.reduceEqDiff,reduceCtorEq,reduceIte,Int.reduceLT,Int.reduceLE,Int.reduceAdd,Int.reduceSub,Int.reduceNeg,Int.reduceEq,Int.reduceBEq,Int.reduceBNe,Int.reduceToNat,Nat.reduceDiv,Nat.reduceMod,rowsF_length,hs,h4,hf,h20,hfr,hb,hm,hr]
  try (with_reducible intro _)
  try simp only [f12,go_sem,cfg,Nat.reduceLeDiff,Nat.reduceLT,Nat.reduceAdd,Nat.reduceSub,Nat.reduceMul,Nat.reduceBEq,Nat.reduceBNe,Nat.reduceEqDiff,reduceCtorEq,reduceIte,Int.reduceLT,Int.reduceLE,Int.reduceAdd,Int.reduceSub,Int.reduceNeg,Int.reduceEq,Int.reduceBEq,Int.reduceBNe,Int.reduceToNat,Nat.reduceDiv,Nat.reduceMod,rowsF_length,hs,h4,hf,h20,hfr,hb,hm,hr]
  first | exact fin0 (.inr rfl) rfl rfl rfl rfl | trace_state
theorem c12f (me ta : List UInt8) (st : Int) (re : List UInt8) (ba : Bool) (l : List Fld) (bo : List UInt8) (h1 : me.length ≤ 9223372036854775807) (h2 : ta.length ≤ 9223372036854775807) (h3 : re.length ≤ 9223372036854775807) (h4 : bo.length ≤ 9223372036854775807) (hl : Small l) (hf : fieldsB l = true) (h20 : ((l.length : Int) == 20) = false) (hfr : l.any frB = false) (hb : ¬ (600 : Int) < (bo.length : Int)) (hm : (me == []) = true) (hr : answerB ta st re ba bo = false) : Sem prog 12 ⟨[.agg [.v (vS me),.v (vS ta),.v (vI st),.v (vS re),.v (vB ba),.imm 51 (rowsF l),.v (vS bo)]],[none]⟩ ⟨[.dead,.v (vB (false))],[none]⟩ := by
  refine sem_fin (cfg := cfg 1) (ts := [.tm 2]) tbOk func12 rfl rfl rfl rfl (fun t h => by cases h) ?_
  have hs : l.length ≤ 9223372036854775807 := hl.1
  simp only [f12,go_sem,cfg,Nat.reduceLeDiff,Nat.reduceLT,Nat.reduceAdd,Nat.reduceSub,Nat.reduceMul,Nat.reduceBEq,Nat.reduceBNe,Nat.reduceEqDiff,reduceCtorEq,reduceIte,Int.reduceLT,Int.reduceLE,Int.reduceAdd,Int.reduceSub,Int.reduceNeg,Int.reduceEq,Int.reduceBEq,Int.reduceBNe,Int.reduceToNat,Nat.reduceDiv,Nat.reduceMod,rowsF_length,hs,h4,hf,h20,hfr,hb,hm,hr]
  try (with_reducible intro _)
  try simp only [f12,go_sem,cfg,Nat.reduceLeDiff,Nat.reduceLT,Nat.reduceAdd,Nat.reduceSub,Nat.reduceMul,Nat.reduceBEq,Nat.reduceBNe,Nat.reduceEqDiff,reduceCtorEq,reduceIte,Int.reduceLT,Int.reduceLE,Int.reduceAdd,Int.reduceSub,Int.reduceNeg,Int.reduceEq,Int.reduceBEq,Int.reduceBNe,Int.reduceToNat,Nat.reduceDiv,Nat.reduceMod,rowsF_length,hs,h4,hf,h20,hfr,hb,hm,hr]
  refine ev_call (c24 l hl) (retW0 rfl rfl rfl rfl) ?_
  simp only [f12,go_sem,cfg,Nat.reduceLeDiff,Nat.reduceLT,Nat.reduceAdd,Nat.reduceSub,Nat.reduceMul,Nat.reduceBEq,Nat.reduceBNe,Nat.reduceEqDiff,reduceCtorEq,reduceIte,Int.reduceLT,Int.reduceLE,Int.reduceAdd,Int.reduceSub,Int.reduceNeg,Int.reduceEq,Int.reduceBEq,Int.reduceBNe,Int.reduceToNat,Nat.reduceDiv,Nat.reduceMod,rowsF_length,hs,h4,hf,h20,hfr,hb,hm,hr]
  try (with_reducible intro _)
  try simp only [f12,go_sem,cfg,Nat.reduceLeDiff,Nat.reduceLT,Nat.reduceAdd,Nat.reduceSub,Nat.reduceMul,Nat.reduceBEq,Nat.reduceBNe,Nat.reduceEqDiff,reduceCtorEq,reduceIte,Int.reduceLT,Int.reduceLE,Int.reduceAdd,Int.reduceSub,Int.reduceNeg,Int.reduceEq,Int.reduceBEq,Int.reduceBNe,Int.reduceToNat,Nat.reduceDiv,Nat.reduceMod,rowsF_length,hs,h4,hf,h20,hfr,hb,hm,hr]
  refine ev_call (c25 l hl) (retW0 rfl rfl rfl rfl) ?_
  simp only [f12,go_sem,cfg,Nat.reduceLeDiff,Nat.reduceLT,Nat.reduceAdd,Nat.reduceSub,Nat.reduceMul,Nat.reduceBEq,Nat.reduceBNe,Nat.reduceEqDiff,reduceCtorEq,reduceIte,Int.reduceLT,Int.reduceLE,Int.reduceAdd,Int.reduceSub,Int.reduceNeg,Int.reduceEq,Int.reduceBEq,Int.reduceBNe,Int.reduceToNat,Nat.reduceDiv,Nat.reduceMod,rowsF_length,hs,h4,hf,h20,hfr,hb,hm,hr]
  try (with_reducible intro _)
  try simp only [f12,go_sem,cfg,Nat.reduceLeDiff,Nat.reduceLT,Nat.reduceAdd,Nat.reduceSub,Nat.reduceMul,Nat.reduceBEq,Nat.reduceBNe,Nat.reduceEqDiff,reduceCtorEq,reduceIte,Int.reduceLT,Int.reduceLE,Int.reduceAdd,Int.reduceSub,Int.reduceNeg,Int.reduceEq,Int.reduceBEq,Int.reduceBNe,Int.reduceToNat,Nat.reduceDiv,Nat.reduceMod,rowsF_length,hs,h4,hf,h20,hfr,hb,hm,hr]
  refine ev_call (c27 me ta st re ba l bo h1 h2 h3 h4) (retW0 rfl rfl rfl rfl) ?_
  simp only [f12,go_sem,cfg,Nat.reduceLeDiff,Nat.reduceLT,Nat.reduceAdd,Nat.reduceSub,Nat.reduceMul,Nat.reduceBEq,Nat.reduceBNe,Nat.reduceEqDiff,reduceCtorEq,reduceIte,Int.reduceLT,Int.reduceLE,Int.reduceAdd,Int.reduceSub,Int.reduceNeg,Int.reduceEq,Int.reduceBEq,Int.reduceBNe,Int.reduceToNat,Nat.reduceDiv,Nat.reduceMod,rowsF_length,hs,h4,hf,h20,hfr,hb,hm,hr]
  try (with_reducible intro _)
  try simp only [f12,go_sem,cfg,Nat.reduceLeDiff,Nat.reduceLT,Nat.reduceAdd,Nat.reduceSub,Nat.reduceMul,Nat.reduceBEq,Nat.reduceBNe,Nat.reduceEqDiff,reduceCtorEq,reduceIte,Int.reduceLT,Int.reduceLE,Int.reduceAdd,Int.reduceSub,Int.reduceNeg,Int.reduceEq,Int.reduceBEq,Int.reduceBNe,Int.reduceToNat,Nat.reduceDiv,Nat.reduceMod,rowsF_length,hs,h4,hf,h20,hfr,hb,hm,hr]
  first | exact fin0 (.inr rfl) rfl rfl rfl rfl | trace_state
theorem c12g (me ta : List UInt8) (st : Int) (re : List UInt8) (ba : Bool) (l : List Fld) (bo : List UInt8) (h1 : me.length ≤ 9223372036854775807) (h2 : ta.length ≤ 9223372036854775807) (h3 : re.length ≤ 9223372036854775807) (h4 : bo.length ≤ 9223372036854775807) (hl : Small l) (hf : fieldsB l = true) (h20 : ((l.length : Int) == 20) = false) (hfr : l.any frB = false) (hb : ¬ (600 : Int) < (bo.length : Int)) (hm : (me == []) = false) (hr : requestB me ta st re ba = true) (H : List UInt8) (hH : H.length ≤ 9223372036854775807) (hd : Sem prog 28 ⟨[.agg [.v (vS me),.v (vS ta),.v (vI st),.v (vS re),.v (vB ba),.imm 51 (rowsF l),.v (vS bo)]],[none]⟩ ⟨[.dead,.v (vS H)],[none]⟩) : Sem prog 12 ⟨[.agg [.v (vS me),.v (vS ta),.v (vI st),.v (vS re),.v (vB ba),.imm 51 (rowsF l),.v (vS bo)]],[none]⟩ ⟨[.dead,.v (vB (decide ((H.length : Int) ≤ 1500)))],[none]⟩ := by
  refine sem_fin (cfg := cfg 1) (ts := [.tm 2]) tbOk func12 rfl rfl rfl rfl (fun t h => by cases h) ?_
  have hs : l.length ≤ 9223372036854775807 := hl.1
  simp only [f12,go_sem,cfg,Nat.reduceLeDiff,Nat.reduceLT,Nat.reduceAdd,Nat.reduceSub,Nat.reduceMul,Nat.reduceBEq,Nat.reduceBNe,Nat.reduceEqDiff,reduceCtorEq,reduceIte,Int.reduceLT,Int.reduceLE,Int.reduceAdd,Int.reduceSub,Int.reduceNeg,Int.reduceEq,Int.reduceBEq,Int.reduceBNe,Int.reduceToNat,Nat.reduceDiv,Nat.reduceMod,rowsF_length,hs,h4,hf,h20,hfr,hb,hm,hr,hH]
  try (with_reducible intro _)
  try simp only [f12,go_sem,cfg,Nat.reduceLeDiff,Nat.reduceLT,Nat.reduceAdd,Nat.reduceSub,Nat.reduceMul,Nat.reduceBEq,Nat.reduceBNe,Nat.reduceEqDiff,reduceCtorEq,reduceIte,Int.reduceLT,Int.reduceLE,Int.reduceAdd,Int.reduceSub,Int.reduceNeg,Int.reduceEq,Int.reduceBEq,Int.reduceBNe,Int.reduceToNat,Nat.reduceDiv,Nat.reduceMod,rowsF_length,hs,h4,hf,h20,hfr,hb,hm,hr,hH]
  refine ev_call (c24 l hl) (retW0 rfl rfl rfl rfl) ?_
  simp only [f12,go_sem,cfg,Nat.reduceLeDiff,Nat.reduceLT,Nat.reduceAdd,Nat.reduceSub,Nat.reduceMul,Nat.reduceBEq,Nat.reduceBNe,Nat.reduceEqDiff,reduceCtorEq,reduceIte,Int.reduceLT,Int.reduceLE,Int.reduceAdd,Int.reduceSub,Int.reduceNeg,Int.reduceEq,Int.reduceBEq,Int.reduceBNe,Int.reduceToNat,Nat.reduceDiv,Nat.reduceMod,rowsF_length,hs,h4,hf,h20,hfr,hb,hm,hr,hH]
  try (with_reducible intro _)
  try simp only [f12,go_sem,cfg,Nat.reduceLeDiff,Nat.reduceLT,Nat.reduceAdd,Nat.reduceSub,Nat.reduceMul,Nat.reduceBEq,Nat.reduceBNe,Nat.reduceEqDiff,reduceCtorEq,reduceIte,Int.reduceLT,Int.reduceLE,Int.reduceAdd,Int.reduceSub,Int.reduceNeg,Int.reduceEq,Int.reduceBEq,Int.reduceBNe,Int.reduceToNat,Nat.reduceDiv,Nat.reduceMod,rowsF_length,hs,h4,hf,h20,hfr,hb,hm,hr,hH]
  refine ev_call (c25 l hl) (retW0 rfl rfl rfl rfl) ?_
  simp only [f12,go_sem,cfg,Nat.reduceLeDiff,Nat.reduceLT,Nat.reduceAdd,Nat.reduceSub,Nat.reduceMul,Nat.reduceBEq,Nat.reduceBNe,Nat.reduceEqDiff,reduceCtorEq,reduceIte,Int.reduceLT,Int.reduceLE,Int.reduceAdd,Int.reduceSub,Int.reduceNeg,Int.reduceEq,Int.reduceBEq,Int.reduceBNe,Int.reduceToNat,Nat.reduceDiv,Nat.reduceMod,rowsF_length,hs,h4,hf,h20,hfr,hb,hm,hr,hH]
  try (with_reducible intro _)
  try simp only [f12,go_sem,cfg,Nat.reduceLeDiff,Nat.reduceLT,Nat.reduceAdd,Nat.reduceSub,Nat.reduceMul,Nat.reduceBEq,Nat.reduceBNe,Nat.reduceEqDiff,reduceCtorEq,reduceIte,Int.reduceLT,Int.reduceLE,Int.reduceAdd,Int.reduceSub,Int.reduceNeg,Int.reduceEq,Int.reduceBEq,Int.reduceBNe,Int.reduceToNat,Nat.reduceDiv,Nat.reduceMod,rowsF_length,hs,h4,hf,h20,hfr,hb,hm,hr,hH]
  refine ev_call (c26 me ta st re ba l bo h1 h2 h3 h4) (retW0 rfl rfl rfl rfl) ?_
  simp only [f12,go_sem,cfg,Nat.reduceLeDiff,Nat.reduceLT,Nat.reduceAdd,Nat.reduceSub,Nat.reduceMul,Nat.reduceBEq,Nat.reduceBNe,Nat.reduceEqDiff,reduceCtorEq,reduceIte,Int.reduceLT,Int.reduceLE,Int.reduceAdd,Int.reduceSub,Int.reduceNeg,Int.reduceEq,Int.reduceBEq,Int.reduceBNe,Int.reduceToNat,Nat.reduceDiv,Nat.reduceMod,rowsF_length,hs,h4,hf,h20,hfr,hb,hm,hr,hH]
  try (with_reducible intro _)
  try simp only [f12,go_sem,cfg,Nat.reduceLeDiff,Nat.reduceLT,Nat.reduceAdd,Nat.reduceSub,Nat.reduceMul,Nat.reduceBEq,Nat.reduceBNe,Nat.reduceEqDiff,reduceCtorEq,reduceIte,Int.reduceLT,Int.reduceLE,Int.reduceAdd,Int.reduceSub,Int.reduceNeg,Int.reduceEq,Int.reduceBEq,Int.reduceBNe,Int.reduceToNat,Nat.reduceDiv,Nat.reduceMod,rowsF_length,hs,h4,hf,h20,hfr,hb,hm,hr,hH]
  refine ev_call (hd) (retW0 rfl rfl rfl rfl) ?_
  simp only [f12,go_sem,cfg,Nat.reduceLeDiff,Nat.reduceLT,Nat.reduceAdd,Nat.reduceSub,Nat.reduceMul,Nat.reduceBEq,Nat.reduceBNe,Nat.reduceEqDiff,reduceCtorEq,reduceIte,Int.reduceLT,Int.reduceLE,Int.reduceAdd,Int.reduceSub,Int.reduceNeg,Int.reduceEq,Int.reduceBEq,Int.reduceBNe,Int.reduceToNat,Nat.reduceDiv,Nat.reduceMod,rowsF_length,hs,h4,hf,h20,hfr,hb,hm,hr,hH]
  try (with_reducible intro _)
  try simp only [f12,go_sem,cfg,Nat.reduceLeDiff,Nat.reduceLT,Nat.reduceAdd,Nat.reduceSub,Nat.reduceMul,Nat.reduceBEq,Nat.reduceBNe,Nat.reduceEqDiff,reduceCtorEq,reduceIte,Int.reduceLT,Int.reduceLE,Int.reduceAdd,Int.reduceSub,Int.reduceNeg,Int.reduceEq,Int.reduceBEq,Int.reduceBNe,Int.reduceToNat,Nat.reduceDiv,Nat.reduceMod,rowsF_length,hs,h4,hf,h20,hfr,hb,hm,hr,hH]
  first | exact fin0 (.inr rfl) rfl rfl rfl rfl | trace_state
theorem c12h (me ta : List UInt8) (st : Int) (re : List UInt8) (ba : Bool) (l : List Fld) (bo : List UInt8) (h1 : me.length ≤ 9223372036854775807) (h2 : ta.length ≤ 9223372036854775807) (h3 : re.length ≤ 9223372036854775807) (h4 : bo.length ≤ 9223372036854775807) (hl : Small l) (hf : fieldsB l = true) (h20 : ((l.length : Int) == 20) = false) (hfr : l.any frB = false) (hb : ¬ (600 : Int) < (bo.length : Int)) (hm : (me == []) = true) (hr : answerB ta st re ba bo = true) (H : List UInt8) (hH : H.length ≤ 9223372036854775807) (hd : Sem prog 28 ⟨[.agg [.v (vS me),.v (vS ta),.v (vI st),.v (vS re),.v (vB ba),.imm 51 (rowsF l),.v (vS bo)]],[none]⟩ ⟨[.dead,.v (vS H)],[none]⟩) : Sem prog 12 ⟨[.agg [.v (vS me),.v (vS ta),.v (vI st),.v (vS re),.v (vB ba),.imm 51 (rowsF l),.v (vS bo)]],[none]⟩ ⟨[.dead,.v (vB (decide ((H.length : Int) ≤ 1500)))],[none]⟩ := by
  refine sem_fin (cfg := cfg 1) (ts := [.tm 2]) tbOk func12 rfl rfl rfl rfl (fun t h => by cases h) ?_
  have hs : l.length ≤ 9223372036854775807 := hl.1
  simp only [f12,go_sem,cfg,Nat.reduceLeDiff,Nat.reduceLT,Nat.reduceAdd,Nat.reduceSub,Nat.reduceMul,Nat.reduceBEq,Nat.reduceBNe,Nat.reduceEqDiff,reduceCtorEq,reduceIte,Int.reduceLT,Int.reduceLE,Int.reduceAdd,Int.reduceSub,Int.reduceNeg,Int.reduceEq,Int.reduceBEq,Int.reduceBNe,Int.reduceToNat,Nat.reduceDiv,Nat.reduceMod,rowsF_length,hs,h4,hf,h20,hfr,hb,hm,hr,hH]
  try (with_reducible intro _)
  try simp only [f12,go_sem,cfg,Nat.reduceLeDiff,Nat.reduceLT,Nat.reduceAdd,Nat.reduceSub,Nat.reduceMul,Nat.reduceBEq,Nat.reduceBNe,Nat.reduceEqDiff,reduceCtorEq,reduceIte,Int.reduceLT,Int.reduceLE,Int.reduceAdd,Int.reduceSub,Int.reduceNeg,Int.reduceEq,Int.reduceBEq,Int.reduceBNe,Int.reduceToNat,Nat.reduceDiv,Nat.reduceMod,rowsF_length,hs,h4,hf,h20,hfr,hb,hm,hr,hH]
  refine ev_call (c24 l hl) (retW0 rfl rfl rfl rfl) ?_
  simp only [f12,go_sem,cfg,Nat.reduceLeDiff,Nat.reduceLT,Nat.reduceAdd,Nat.reduceSub,Nat.reduceMul,Nat.reduceBEq,Nat.reduceBNe,Nat.reduceEqDiff,reduceCtorEq,reduceIte,Int.reduceLT,Int.reduceLE,Int.reduceAdd,Int.reduceSub,Int.reduceNeg,Int.reduceEq,Int.reduceBEq,Int.reduceBNe,Int.reduceToNat,Nat.reduceDiv,Nat.reduceMod,rowsF_length,hs,h4,hf,h20,hfr,hb,hm,hr,hH]
  try (with_reducible intro _)
  try simp only [f12,go_sem,cfg,Nat.reduceLeDiff,Nat.reduceLT,Nat.reduceAdd,Nat.reduceSub,Nat.reduceMul,Nat.reduceBEq,Nat.reduceBNe,Nat.reduceEqDiff,reduceCtorEq,reduceIte,Int.reduceLT,Int.reduceLE,Int.reduceAdd,Int.reduceSub,Int.reduceNeg,Int.reduceEq,Int.reduceBEq,Int.reduceBNe,Int.reduceToNat,Nat.reduceDiv,Nat.reduceMod,rowsF_length,hs,h4,hf,h20,hfr,hb,hm,hr,hH]
  refine ev_call (c25 l hl) (retW0 rfl rfl rfl rfl) ?_
  simp only [f12,go_sem,cfg,Nat.reduceLeDiff,Nat.reduceLT,Nat.reduceAdd,Nat.reduceSub,Nat.reduceMul,Nat.reduceBEq,Nat.reduceBNe,Nat.reduceEqDiff,reduceCtorEq,reduceIte,Int.reduceLT,Int.reduceLE,Int.reduceAdd,Int.reduceSub,Int.reduceNeg,Int.reduceEq,Int.reduceBEq,Int.reduceBNe,Int.reduceToNat,Nat.reduceDiv,Nat.reduceMod,rowsF_length,hs,h4,hf,h20,hfr,hb,hm,hr,hH]
  try (with_reducible intro _)
  try simp only [f12,go_sem,cfg,Nat.reduceLeDiff,Nat.reduceLT,Nat.reduceAdd,Nat.reduceSub,Nat.reduceMul,Nat.reduceBEq,Nat.reduceBNe,Nat.reduceEqDiff,reduceCtorEq,reduceIte,Int.reduceLT,Int.reduceLE,Int.reduceAdd,Int.reduceSub,Int.reduceNeg,Int.reduceEq,Int.reduceBEq,Int.reduceBNe,Int.reduceToNat,Nat.reduceDiv,Nat.reduceMod,rowsF_length,hs,h4,hf,h20,hfr,hb,hm,hr,hH]
  refine ev_call (c27 me ta st re ba l bo h1 h2 h3 h4) (retW0 rfl rfl rfl rfl) ?_
  simp only [f12,go_sem,cfg,Nat.reduceLeDiff,Nat.reduceLT,Nat.reduceAdd,Nat.reduceSub,Nat.reduceMul,Nat.reduceBEq,Nat.reduceBNe,Nat.reduceEqDiff,reduceCtorEq,reduceIte,Int.reduceLT,Int.reduceLE,Int.reduceAdd,Int.reduceSub,Int.reduceNeg,Int.reduceEq,Int.reduceBEq,Int.reduceBNe,Int.reduceToNat,Nat.reduceDiv,Nat.reduceMod,rowsF_length,hs,h4,hf,h20,hfr,hb,hm,hr,hH]
  try (with_reducible intro _)
  try simp only [f12,go_sem,cfg,Nat.reduceLeDiff,Nat.reduceLT,Nat.reduceAdd,Nat.reduceSub,Nat.reduceMul,Nat.reduceBEq,Nat.reduceBNe,Nat.reduceEqDiff,reduceCtorEq,reduceIte,Int.reduceLT,Int.reduceLE,Int.reduceAdd,Int.reduceSub,Int.reduceNeg,Int.reduceEq,Int.reduceBEq,Int.reduceBNe,Int.reduceToNat,Nat.reduceDiv,Nat.reduceMod,rowsF_length,hs,h4,hf,h20,hfr,hb,hm,hr,hH]
  refine ev_call (hd) (retW0 rfl rfl rfl rfl) ?_
  simp only [f12,go_sem,cfg,Nat.reduceLeDiff,Nat.reduceLT,Nat.reduceAdd,Nat.reduceSub,Nat.reduceMul,Nat.reduceBEq,Nat.reduceBNe,Nat.reduceEqDiff,reduceCtorEq,reduceIte,Int.reduceLT,Int.reduceLE,Int.reduceAdd,Int.reduceSub,Int.reduceNeg,Int.reduceEq,Int.reduceBEq,Int.reduceBNe,Int.reduceToNat,Nat.reduceDiv,Nat.reduceMod,rowsF_length,hs,h4,hf,h20,hfr,hb,hm,hr,hH]
  try (with_reducible intro _)
  try simp only [f12,go_sem,cfg,Nat.reduceLeDiff,Nat.reduceLT,Nat.reduceAdd,Nat.reduceSub,Nat.reduceMul,Nat.reduceBEq,Nat.reduceBNe,Nat.reduceEqDiff,reduceCtorEq,reduceIte,Int.reduceLT,Int.reduceLE,Int.reduceAdd,Int.reduceSub,Int.reduceNeg,Int.reduceEq,Int.reduceBEq,Int.reduceBNe,Int.reduceToNat,Nat.reduceDiv,Nat.reduceMod,rowsF_length,hs,h4,hf,h20,hfr,hb,hm,hr,hH]
  first | exact fin0 (.inr rfl) rfl rfl rfl rfl | trace_state
theorem head_len {me ta re bo : List UInt8} {n : Nat} {ba : Bool} {l : List Fld} (hf : fieldsB l = true) (g1 : me.length ≤ 20) (g2 : ta.length ≤ 200) (g3 : re.length ≤ 40) (g5 : n ≤ 999) (hbo : bo.length ≤ 600) : (headT me ta n re ba l bo).length ≤ 9223372036854775807 := by
  have := first_le g1 g2 g3 g5
  have t1 := fieldsT_take_le hf l.length
  rw [List.take_of_length_le (Nat.le_refl _)] at t1
  have t2 := decDigits_len bo.length
  unfold headT lastT
  split <;> simp [itoa_nat,clH,crlf] <;> omega
theorem c12 (me ta : List UInt8) (st : Int) (re : List UInt8) (ba : Bool) (l : List Fld) (bo : List UInt8) (h1 : me.length ≤ 9223372036854775807) (h2 : ta.length ≤ 9223372036854775807) (h3 : re.length ≤ 9223372036854775807) (h4 : bo.length ≤ 9223372036854775807) (hl : Small l) : Sem prog 12 ⟨[.agg [.v (vS me),.v (vS ta),.v (vI st),.v (vS re),.v (vB ba),.imm 51 (rowsF l),.v (vS bo)]],[none]⟩ ⟨[.dead,.v (vB (msgB me ta st re ba l bo))],[none]⟩ := by
  cases hf : fieldsB l
  · have hz : msgB me ta st re ba l bo = false := by simp [msgB,hf]
    rw [hz]; exact c12a me ta st re ba l bo h1 h2 h3 h4 hl hf
  by_cases h20 : l.length = 20
  · have hz : msgB me ta st re ba l bo = false := by simp [msgB,h20]
    rw [hz]; exact c12b me ta st re ba l bo h1 h2 h3 h4 hl hf (by rw [beq_iff_eq]; omega)
  have h20b : ((l.length : Int) == 20) = false := by rw [beq_eq_false_iff_ne]; omega
  have e1 : (l.length == 20) = false := by rw [beq_eq_false_iff_ne]; exact h20
  cases hfr : l.any frB
  · by_cases hb : (600 : Int) < (bo.length : Int)
    · have hz : msgB me ta st re ba l bo = false := by
        have : ¬ bo.length ≤ 600 := by omega
        simp [msgB,this]
      rw [hz]; exact c12d me ta st re ba l bo h1 h2 h3 h4 hl hf h20b hfr hb
    have hbo : bo.length ≤ 600 := by omega
    cases hm : me == []
    · have hz : msgB me ta st re ba l bo = (requestB me ta st re ba && decide ((headT me ta st re ba l bo).length ≤ 1500)) := by simp [msgB,hf,e1,hfr,hbo,hm]
      cases hr : requestB me ta st re ba
      · rw [hz,hr]; exact c12e me ta st re ba l bo h1 h2 h3 h4 hl hf h20b hfr hb hm hr
      · obtain ⟨g1,g2,g3,n,g4,g5⟩ := head_le (ba := ba) (bo := bo) (me := me) (ta := ta) (st := st) (re := re) (by rw [hm]; exact hr)
        subst g4
        have := c12g me ta n re ba l bo h1 h2 h3 h4 hl hf h20b hfr hb hm hr _ (head_len hf g1 g2 g3 g5 hbo) (c28 me ta n re ba l bo hl hf g1 g2 g3 g5 hbo)
        rw [hz,hr,Bool.true_and,show decide ((headT me ta n re ba l bo).length ≤ 1500) = decide (((headT me ta n re ba l bo).length : Int) ≤ 1500) from decide_eq_decide.2 (by omega)]
        exact this
    · have hz : msgB me ta st re ba l bo = (answerB ta st re ba bo && decide ((headT me ta st re ba l bo).length ≤ 1500)) := by simp [msgB,hf,e1,hfr,hbo,hm]
      cases hr : answerB ta st re ba bo
      · rw [hz,hr]; exact c12f me ta st re ba l bo h1 h2 h3 h4 hl hf h20b hfr hb hm hr
      · obtain ⟨g1,g2,g3,n,g4,g5⟩ := head_le (ba := ba) (bo := bo) (me := me) (ta := ta) (st := st) (re := re) (by rw [hm]; exact hr)
        subst g4
        have := c12h me ta n re ba l bo h1 h2 h3 h4 hl hf h20b hfr hb hm hr _ (head_len hf g1 g2 g3 g5 hbo) (c28 me ta n re ba l bo hl hf g1 g2 g3 g5 hbo)
        rw [hz,hr,Bool.true_and,show decide ((headT me ta n re ba l bo).length ≤ 1500) = decide (((headT me ta n re ba l bo).length : Int) ≤ 1500) from decide_eq_decide.2 (by omega)]
        exact this
  · have hz : msgB me ta st re ba l bo = false := by simp [msgB,hfr]
    rw [hz]; exact c12c me ta st re ba l bo h1 h2 h3 h4 hl hf h20b hfr
end Go.Proofs.YtagfeejofceheaaGreatDoor.Fw
