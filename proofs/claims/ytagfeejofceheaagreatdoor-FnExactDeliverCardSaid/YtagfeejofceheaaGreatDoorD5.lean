/- Texts of the proof: FdD FdE FcS FdF FdG. -/
import Derived.Shelf.Sort.Plain
import Derived.Shelf.Slices.Turned
import Derived.Shelf.Slices.CompactS
import Derived.Shelf.Slices.Cells
import Derived.Shelf.Slices.In.SortNone
import Derived.Shelf.Strconv.Itoa3
import Derived.Shelf.LaysM
import Derived.Lib.RowBridge
import Derived.Test.YtagfeejofceheaaGreatDoorD4
set_option linter.unusedSimpArgs false
set_option linter.unusedVariables false
/- Contracts: which messages the program takes for valid. -/
namespace Go.Proofs.YtagfeejofceheaaGreatDoor.Fw
open Go
open Go.Proofs.Tryz
set_option maxRecDepth 100000
set_option maxHeartbeats 600000
set_option linter.unusedSimpArgs false
set_option linter.unusedVariables false
attribute [local congr] c_bnd c_slot c_cell c_all c_len c_chk c_asm c_opdR c_wp c_pwp c_pOps c_Done c_nx c_blk c_fin c_rowsR c_leafR c_opdsR c_coeLeaf c_coeLeaves c_lendLeaf c_lendLeaves c_coeCapt c_argR c_argsR c_boundR c_partsR c_srcR c_mfgo c_ite c_wpF c_OutF c_pHead c_pDraw
def frN : List (List UInt8) := [clN,teN,trN]
def hasF (name : List UInt8) (l : List Fld) : Bool := decide (0 < (valsB name l).length)
theorem frN_len {i : Nat} (h : i < 3) : (frN.getD i []).length ≤ 9223372036854775807 := by
  have : i = 0 ∨ i = 1 ∨ i = 2 := by omega
  rcases this with rfl | rfl | rfl <;> decide
theorem c37  : Sem prog 37 ⟨[],[]⟩ ⟨[.own 9 (rowsS frN)],[]⟩ := by
  refine sem_fin (cfg := cfg 0) (ts := [.tm 0]) tbOk func37 rfl rfl rfl rfl (fun t h => by cases h) ?_
  simp only [f37,go_sem,cfg,Nat.reduceLeDiff,Nat.reduceLT,Nat.reduceAdd,Nat.reduceSub,Nat.reduceMul,Nat.reduceBEq,Nat.reduceBNe,Nat.reduceEqDiff,reduceCtorEq,reduceIte,Int.reduceLT,Int.reduceLE,Int.reduceAdd,Int.reduceSub,Int.reduceNeg,Int.reduceEq,Int.reduceBEq,Int.reduceBNe,Int.reduceToNat,Nat.reduceDiv,Nat.reduceMod, *]
  repeat' ((first | split) <;> (try simp only [f37,go_sem,cfg,Nat.reduceLeDiff,Nat.reduceLT,Nat.reduceAdd,Nat.reduceSub,Nat.reduceMul,Nat.reduceBEq,Nat.reduceBNe,Nat.reduceEqDiff,reduceCtorEq,reduceIte,Int.reduceLT,Int.reduceLE,Int.reduceAdd,Int.reduceSub,Int.reduceNeg,Int.reduceEq,Int.reduceBEq,Int.reduceBNe,Int.reduceToNat,Nat.reduceDiv,Nat.reduceMod, *]))
  all_goals
    first | exact fin0 (.inr rfl) rfl rfl rfl rfl | trace_state
theorem c16a (me ta : List UInt8) (st : Int) (re : List UInt8) (ba : Bool) (l : List Fld) (bo : List UInt8) (h1 : me.length ≤ 9223372036854775807) (h2 : ta.length ≤ 9223372036854775807) (h3 : re.length ≤ 9223372036854775807) (h4 : bo.length ≤ 9223372036854775807) (hl : Small l) (hf : fieldsB l = false) : Sem prog 16 ⟨[.agg [.v (vS me),.v (vS ta),.v (vI st),.v (vS re),.v (vB ba),.imm 51 (rowsF l),.v (vS bo)]],[none]⟩ ⟨[.dead,.v (vB (false))],[none]⟩ := by
  refine sem_fin (cfg := cfg 1) (ts := [.tm 2]) tbOk func16 rfl rfl rfl rfl (fun t h => by cases h) ?_
  have hs : l.length ≤ 9223372036854775807 := hl.1
  simp only [f16,go_sem,cfg,Nat.reduceLeDiff,Nat.reduceLT,Nat.reduceAdd,Nat.reduceSub,Nat.reduceMul,Nat.reduceBEq,Nat.reduceBNe,Nat.reduceEqDiff,reduceCtorEq,reduceIte,Int.reduceLT,Int.reduceLE,Int.reduceAdd,Int.reduceSub,Int.reduceNeg,Int.reduceEq,Int.reduceBEq,Int.reduceBNe,Int.reduceToNat,Nat.reduceDiv,Nat.reduceMod,rowsF_length,rowsS_length,hs,h4,hf]
  try (with_reducible intro _)
  try simp only [f16,go_sem,cfg,Nat.reduceLeDiff,Nat.reduceLT,Nat.reduceAdd,Nat.reduceSub,Nat.reduceMul,Nat.reduceBEq,Nat.reduceBNe,Nat.reduceEqDiff,reduceCtorEq,reduceIte,Int.reduceLT,Int.reduceLE,Int.reduceAdd,Int.reduceSub,Int.reduceNeg,Int.reduceEq,Int.reduceBEq,Int.reduceBNe,Int.reduceToNat,Nat.reduceDiv,Nat.reduceMod,rowsF_length,rowsS_length,hs,h4,hf]
  refine ev_call (c36 l hl) (retW0 rfl rfl rfl rfl) ?_
  simp only [f16,go_sem,cfg,Nat.reduceLeDiff,Nat.reduceLT,Nat.reduceAdd,Nat.reduceSub,Nat.reduceMul,Nat.reduceBEq,Nat.reduceBNe,Nat.reduceEqDiff,reduceCtorEq,reduceIte,Int.reduceLT,Int.reduceLE,Int.reduceAdd,Int.reduceSub,Int.reduceNeg,Int.reduceEq,Int.reduceBEq,Int.reduceBNe,Int.reduceToNat,Nat.reduceDiv,Nat.reduceMod,rowsF_length,rowsS_length,hs,h4,hf]
  try (with_reducible intro _)
  try simp only [f16,go_sem,cfg,Nat.reduceLeDiff,Nat.reduceLT,Nat.reduceAdd,Nat.reduceSub,Nat.reduceMul,Nat.reduceBEq,Nat.reduceBNe,Nat.reduceEqDiff,reduceCtorEq,reduceIte,Int.reduceLT,Int.reduceLE,Int.reduceAdd,Int.reduceSub,Int.reduceNeg,Int.reduceEq,Int.reduceBEq,Int.reduceBNe,Int.reduceToNat,Nat.reduceDiv,Nat.reduceMod,rowsF_length,rowsS_length,hs,h4,hf]
  first | exact fin0 (.inr rfl) rfl rfl rfl rfl | trace_state
theorem c16b (me ta : List UInt8) (st : Int) (re : List UInt8) (ba : Bool) (l : List Fld) (bo : List UInt8) (h1 : me.length ≤ 9223372036854775807) (h2 : ta.length ≤ 9223372036854775807) (h3 : re.length ≤ 9223372036854775807) (h4 : bo.length ≤ 9223372036854775807) (hl : Small l) (hf : fieldsB l = true) (h20 : (20 : Int) ≤ (l.length : Int)) : Sem prog 16 ⟨[.agg [.v (vS me),.v (vS ta),.v (vI st),.v (vS re),.v (vB ba),.imm 51 (rowsF l),.v (vS bo)]],[none]⟩ ⟨[.dead,.v (vB (false))],[none]⟩ := by
  refine sem_fin (cfg := cfg 1) (ts := [.tm 2]) tbOk func16 rfl rfl rfl rfl (fun t h => by cases h) ?_
  have hs : l.length ≤ 9223372036854775807 := hl.1
  simp only [f16,go_sem,cfg,Nat.reduceLeDiff,Nat.reduceLT,Nat.reduceAdd,Nat.reduceSub,Nat.reduceMul,Nat.reduceBEq,Nat.reduceBNe,Nat.reduceEqDiff,reduceCtorEq,reduceIte,Int.reduceLT,Int.reduceLE,Int.reduceAdd,Int.reduceSub,Int.reduceNeg,Int.reduceEq,Int.reduceBEq,Int.reduceBNe,Int.reduceToNat,Nat.reduceDiv,Nat.reduceMod,rowsF_length,rowsS_length,hs,h4,hf,h20]
  try (with_reducible intro _)
  try simp only [f16,go_sem,cfg,Nat.reduceLeDiff,Nat.reduceLT,Nat.reduceAdd,Nat.reduceSub,Nat.reduceMul,Nat.reduceBEq,Nat.reduceBNe,Nat.reduceEqDiff,reduceCtorEq,reduceIte,Int.reduceLT,Int.reduceLE,Int.reduceAdd,Int.reduceSub,Int.reduceNeg,Int.reduceEq,Int.reduceBEq,Int.reduceBNe,Int.reduceToNat,Nat.reduceDiv,Nat.reduceMod,rowsF_length,rowsS_length,hs,h4,hf,h20]
  refine ev_call (c36 l hl) (retW0 rfl rfl rfl rfl) ?_
  simp only [f16,go_sem,cfg,Nat.reduceLeDiff,Nat.reduceLT,Nat.reduceAdd,Nat.reduceSub,Nat.reduceMul,Nat.reduceBEq,Nat.reduceBNe,Nat.reduceEqDiff,reduceCtorEq,reduceIte,Int.reduceLT,Int.reduceLE,Int.reduceAdd,Int.reduceSub,Int.reduceNeg,Int.reduceEq,Int.reduceBEq,Int.reduceBNe,Int.reduceToNat,Nat.reduceDiv,Nat.reduceMod,rowsF_length,rowsS_length,hs,h4,hf,h20]
  try (with_reducible intro _)
  try simp only [f16,go_sem,cfg,Nat.reduceLeDiff,Nat.reduceLT,Nat.reduceAdd,Nat.reduceSub,Nat.reduceMul,Nat.reduceBEq,Nat.reduceBNe,Nat.reduceEqDiff,reduceCtorEq,reduceIte,Int.reduceLT,Int.reduceLE,Int.reduceAdd,Int.reduceSub,Int.reduceNeg,Int.reduceEq,Int.reduceBEq,Int.reduceBNe,Int.reduceToNat,Nat.reduceDiv,Nat.reduceMod,rowsF_length,rowsS_length,hs,h4,hf,h20]
  first | exact fin0 (.inr rfl) rfl rfl rfl rfl | trace_state
theorem c16c (me ta : List UInt8) (st : Int) (re : List UInt8) (ba : Bool) (l : List Fld) (bo : List UInt8) (h1 : me.length ≤ 9223372036854775807) (h2 : ta.length ≤ 9223372036854775807) (h3 : re.length ≤ 9223372036854775807) (h4 : bo.length ≤ 9223372036854775807) (hl : Small l) (hf : fieldsB l = true) (h20 : ¬ (20 : Int) ≤ (l.length : Int)) (hb : (600 : Int) < (bo.length : Int)) : Sem prog 16 ⟨[.agg [.v (vS me),.v (vS ta),.v (vI st),.v (vS re),.v (vB ba),.imm 51 (rowsF l),.v (vS bo)]],[none]⟩ ⟨[.dead,.v (vB (false))],[none]⟩ := by
  refine sem_fin (cfg := cfg 1) (ts := [.tm 2]) tbOk func16 rfl rfl rfl rfl (fun t h => by cases h) ?_
  have hs : l.length ≤ 9223372036854775807 := hl.1
  simp only [f16,go_sem,cfg,Nat.reduceLeDiff,Nat.reduceLT,Nat.reduceAdd,Nat.reduceSub,Nat.reduceMul,Nat.reduceBEq,Nat.reduceBNe,Nat.reduceEqDiff,reduceCtorEq,reduceIte,Int.reduceLT,Int.reduceLE,Int.reduceAdd,Int.reduceSub,Int.reduceNeg,Int.reduceEq,Int.reduceBEq,Int.reduceBNe,Int.reduceToNat,Nat.reduceDiv,Nat.reduceMod,rowsF_length,rowsS_length,hs,h4,hf,h20,hb]
  try (with_reducible intro _)
  try simp only [f16,go_sem,cfg,Nat.reduceLeDiff,Nat.reduceLT,Nat.reduceAdd,Nat.reduceSub,Nat.reduceMul,Nat.reduceBEq,Nat.reduceBNe,Nat.reduceEqDiff,reduceCtorEq,reduceIte,Int.reduceLT,Int.reduceLE,Int.reduceAdd,Int.reduceSub,Int.reduceNeg,Int.reduceEq,Int.reduceBEq,Int.reduceBNe,Int.reduceToNat,Nat.reduceDiv,Nat.reduceMod,rowsF_length,rowsS_length,hs,h4,hf,h20,hb]
  refine ev_call (c36 l hl) (retW0 rfl rfl rfl rfl) ?_
  simp only [f16,go_sem,cfg,Nat.reduceLeDiff,Nat.reduceLT,Nat.reduceAdd,Nat.reduceSub,Nat.reduceMul,Nat.reduceBEq,Nat.reduceBNe,Nat.reduceEqDiff,reduceCtorEq,reduceIte,Int.reduceLT,Int.reduceLE,Int.reduceAdd,Int.reduceSub,Int.reduceNeg,Int.reduceEq,Int.reduceBEq,Int.reduceBNe,Int.reduceToNat,Nat.reduceDiv,Nat.reduceMod,rowsF_length,rowsS_length,hs,h4,hf,h20,hb]
  try (with_reducible intro _)
  try simp only [f16,go_sem,cfg,Nat.reduceLeDiff,Nat.reduceLT,Nat.reduceAdd,Nat.reduceSub,Nat.reduceMul,Nat.reduceBEq,Nat.reduceBNe,Nat.reduceEqDiff,reduceCtorEq,reduceIte,Int.reduceLT,Int.reduceLE,Int.reduceAdd,Int.reduceSub,Int.reduceNeg,Int.reduceEq,Int.reduceBEq,Int.reduceBNe,Int.reduceToNat,Nat.reduceDiv,Nat.reduceMod,rowsF_length,rowsS_length,hs,h4,hf,h20,hb]
  first | exact fin0 (.inr rfl) rfl rfl rfl rfl | trace_state
theorem c16d (me ta : List UInt8) (st : Int) (re : List UInt8) (ba : Bool) (l : List Fld) (bo : List UInt8) (h1 : me.length ≤ 9223372036854775807) (h2 : ta.length ≤ 9223372036854775807) (h3 : re.length ≤ 9223372036854775807) (h4 : bo.length ≤ 9223372036854775807) (hl : Small l) (hf : fieldsB l = true) (h20 : ¬ (20 : Int) ≤ (l.length : Int)) (hb : ¬ (600 : Int) < (bo.length : Int)) (k : Nat) (hk : k < 3) (hno : ∀ i,i < k → hasF (frN.getD i []) l = false) (hyes : hasF (frN.getD k []) l = true) : Sem prog 16 ⟨[.agg [.v (vS me),.v (vS ta),.v (vI st),.v (vS re),.v (vB ba),.imm 51 (rowsF l),.v (vS bo)]],[none]⟩ ⟨[.dead,.v (vB (false))],[none]⟩ := by
  refine sem_fin (cfg := cfg 1) (ts := [.tm 2]) tbOk func16 rfl rfl rfl rfl (fun t h => by cases h) ?_
  have hs : l.length ≤ 9223372036854775807 := hl.1
  simp only [f16,go_sem,cfg,Nat.reduceLeDiff,Nat.reduceLT,Nat.reduceAdd,Nat.reduceSub,Nat.reduceMul,Nat.reduceBEq,Nat.reduceBNe,Nat.reduceEqDiff,reduceCtorEq,reduceIte,Int.reduceLT,Int.reduceLE,Int.reduceAdd,Int.reduceSub,Int.reduceNeg,Int.reduceEq,Int.reduceBEq,Int.reduceBNe,Int.reduceToNat,Nat.reduceDiv,Nat.reduceMod,rowsF_length,rowsS_length,hs,h4,hf,h20,hb]
  try (with_reducible intro _)
  try simp only [f16,go_sem,cfg,Nat.reduceLeDiff,Nat.reduceLT,Nat.reduceAdd,Nat.reduceSub,Nat.reduceMul,Nat.reduceBEq,Nat.reduceBNe,Nat.reduceEqDiff,reduceCtorEq,reduceIte,Int.reduceLT,Int.reduceLE,Int.reduceAdd,Int.reduceSub,Int.reduceNeg,Int.reduceEq,Int.reduceBEq,Int.reduceBNe,Int.reduceToNat,Nat.reduceDiv,Nat.reduceMod,rowsF_length,rowsS_length,hs,h4,hf,h20,hb]
  refine ev_call (c36 l hl) (retW0 rfl rfl rfl rfl) ?_
  simp only [f16,go_sem,cfg,Nat.reduceLeDiff,Nat.reduceLT,Nat.reduceAdd,Nat.reduceSub,Nat.reduceMul,Nat.reduceBEq,Nat.reduceBNe,Nat.reduceEqDiff,reduceCtorEq,reduceIte,Int.reduceLT,Int.reduceLE,Int.reduceAdd,Int.reduceSub,Int.reduceNeg,Int.reduceEq,Int.reduceBEq,Int.reduceBNe,Int.reduceToNat,Nat.reduceDiv,Nat.reduceMod,rowsF_length,rowsS_length,hs,h4,hf,h20,hb]
  try (with_reducible intro _)
  try simp only [f16,go_sem,cfg,Nat.reduceLeDiff,Nat.reduceLT,Nat.reduceAdd,Nat.reduceSub,Nat.reduceMul,Nat.reduceBEq,Nat.reduceBNe,Nat.reduceEqDiff,reduceCtorEq,reduceIte,Int.reduceLT,Int.reduceLE,Int.reduceAdd,Int.reduceSub,Int.reduceNeg,Int.reduceEq,Int.reduceBEq,Int.reduceBNe,Int.reduceToNat,Nat.reduceDiv,Nat.reduceMod,rowsF_length,rowsS_length,hs,h4,hf,h20,hb]
  refine ev_call (c37) (retW0 rfl rfl rfl rfl) ?_
  simp only [f16,go_sem,cfg,Nat.reduceLeDiff,Nat.reduceLT,Nat.reduceAdd,Nat.reduceSub,Nat.reduceMul,Nat.reduceBEq,Nat.reduceBNe,Nat.reduceEqDiff,reduceCtorEq,reduceIte,Int.reduceLT,Int.reduceLE,Int.reduceAdd,Int.reduceSub,Int.reduceNeg,Int.reduceEq,Int.reduceBEq,Int.reduceBNe,Int.reduceToNat,Nat.reduceDiv,Nat.reduceMod,rowsF_length,rowsS_length,hs,h4,hf,h20,hb]
  try (with_reducible intro _)
  try simp only [f16,go_sem,cfg,Nat.reduceLeDiff,Nat.reduceLT,Nat.reduceAdd,Nat.reduceSub,Nat.reduceMul,Nat.reduceBEq,Nat.reduceBNe,Nat.reduceEqDiff,reduceCtorEq,reduceIte,Int.reduceLT,Int.reduceLE,Int.reduceAdd,Int.reduceSub,Int.reduceNeg,Int.reduceEq,Int.reduceBEq,Int.reduceBNe,Int.reduceToNat,Nat.reduceDiv,Nat.reduceMod,rowsF_length,rowsS_length,hs,h4,hf,h20,hb]
  refine loop_on (fun i : Nat => ⟨[.dead,.cref 1 0,.v (vB false),.dead,.dead,.dead,.dead,.dead,.dead,.dead,.dead,.dead,.dead,.dead,.dead,.dead,.dead,.dead,.dead,.dead,.dead,.own 9 (rowsS frN),.v (vI 3),.v (vI i),.dead,.dead,.dead,.dead,.dead,.dead,.dead,.dead,.dead,.dead,.dead,.dead,.dead,.dead,.dead,.dead,.dead,.dead,.dead,.dead,.dead,.dead,.dead,.dead,.dead,.dead,.dead,.dead,.dead,.dead,.dead,.dead,.dead,.dead,.dead,.dead,.dead,.dead,.dead,.dead,.dead,.dead,.dead,.dead,.dead,.dead,.dead,.dead,.dead,.dead,.dead,.dead,.dead,.dead,.dead,.dead,.dead,.dead,.dead,.dead,.dead,.dead,.dead,.dead,.dead,.dead,.dead,.dead,.dead,.dead,.dead,.dead,.dead],[none,some [.v (vS me),.v (vS ta),.v (vI st),.v (vS re),.v (vB ba),.imm 51 (rowsF l),.v (vS bo)],none,none,none,none,none,none,none,none,none,none,none,none,none,none,none,none,none,none,none,none,none,none,none,none,none,none,none,none,none,none,none,none,none,none,none,none,none,none,none,none,none,none,none,none,none,none,none,none,none,none,none,none,none,none,none,none,none,none,none,none,none,none,none,none,none,none,none,none,none,none,none,none,none,none,none,none,none,none,none,none,none,none,none,none,none,none,none,none,none,none,none,none,none,none,none]⟩) [1,2,21,22,23] (fun i => i ≤ k) (fun i => k - i) 0 rfl (by omega) ?_
  intro i hi
  simp only [f16,go_sem,cfg,Nat.reduceLeDiff,Nat.reduceLT,Nat.reduceAdd,Nat.reduceSub,Nat.reduceMul,Nat.reduceBEq,Nat.reduceBNe,Nat.reduceEqDiff,reduceCtorEq,reduceIte,Int.reduceLT,Int.reduceLE,Int.reduceAdd,Int.reduceSub,Int.reduceNeg,Int.reduceEq,Int.reduceBEq,Int.reduceBNe,Int.reduceToNat,Nat.reduceDiv,Nat.reduceMod,rowsF_length,rowsS_length,hs,h4,hf,h20,hb]
  refine Or.elim (Classical.em (i < k)) (fun hc => ?_) fun hc => ?_
  · have hx := hno i hc
    unfold hasF at hx
    have hw : IntKind.i64.wrap ((i : Int) + 1) = ((i + 1 : Nat) : Int) := by rw [IntKind.wrap_i64]; omega
    have hc1 : (i : Int) < 3 := by omega
    have hc2 : i < frN.length := by show i < 3; omega
    have g1 := rowsS_getD hc2
    simp only [f16,go_sem,cfg,Nat.reduceLeDiff,Nat.reduceLT,Nat.reduceAdd,Nat.reduceSub,Nat.reduceMul,Nat.reduceBEq,Nat.reduceBNe,Nat.reduceEqDiff,reduceCtorEq,reduceIte,Int.reduceLT,Int.reduceLE,Int.reduceAdd,Int.reduceSub,Int.reduceNeg,Int.reduceEq,Int.reduceBEq,Int.reduceBNe,Int.reduceToNat,Nat.reduceDiv,Nat.reduceMod,rowsF_length,rowsS_length,hc1,hc2,g1]
    refine ev_call (c38 l hl (frN.getD i []) (frN_len (by omega)) hf) (retW0 rfl rfl rfl rfl) ?_
    simp only [f16,go_sem,cfg,Nat.reduceLeDiff,Nat.reduceLT,Nat.reduceAdd,Nat.reduceSub,Nat.reduceMul,Nat.reduceBEq,Nat.reduceBNe,Nat.reduceEqDiff,reduceCtorEq,reduceIte,Int.reduceLT,Int.reduceLE,Int.reduceAdd,Int.reduceSub,Int.reduceNeg,Int.reduceEq,Int.reduceBEq,Int.reduceBNe,Int.reduceToNat,Nat.reduceDiv,Nat.reduceMod,rowsF_length,rowsS_length,hx,hw]
    first | exact ⟨i + 1,rfl,hc,by omega⟩ | trace_state
  · have he : i = k := by omega
    subst he
    have hx := hyes
    unfold hasF at hx
    have hw : IntKind.i64.wrap ((i : Int) + 1) = ((i + 1 : Nat) : Int) := by rw [IntKind.wrap_i64]; omega
    have hc1 : (i : Int) < 3 := by omega
    have hc2 : i < frN.length := by show i < 3; omega
    have g1 := rowsS_getD hc2
    simp only [f16,go_sem,cfg,Nat.reduceLeDiff,Nat.reduceLT,Nat.reduceAdd,Nat.reduceSub,Nat.reduceMul,Nat.reduceBEq,Nat.reduceBNe,Nat.reduceEqDiff,reduceCtorEq,reduceIte,Int.reduceLT,Int.reduceLE,Int.reduceAdd,Int.reduceSub,Int.reduceNeg,Int.reduceEq,Int.reduceBEq,Int.reduceBNe,Int.reduceToNat,Nat.reduceDiv,Nat.reduceMod,rowsF_length,rowsS_length,hc1,hc2,g1]
    refine ev_call (c38 l hl (frN.getD i []) (frN_len (by omega)) hf) (retW0 rfl rfl rfl rfl) ?_
    simp only [f16,go_sem,cfg,Nat.reduceLeDiff,Nat.reduceLT,Nat.reduceAdd,Nat.reduceSub,Nat.reduceMul,Nat.reduceBEq,Nat.reduceBNe,Nat.reduceEqDiff,reduceCtorEq,reduceIte,Int.reduceLT,Int.reduceLE,Int.reduceAdd,Int.reduceSub,Int.reduceNeg,Int.reduceEq,Int.reduceBEq,Int.reduceBNe,Int.reduceToNat,Nat.reduceDiv,Nat.reduceMod,rowsF_length,rowsS_length,hx,hw]
    first | exact fin0 (.inr rfl) rfl rfl rfl rfl | trace_state
theorem c16e (me ta : List UInt8) (st : Int) (re : List UInt8) (ba : Bool) (l : List Fld) (bo : List UInt8) (h1 : me.length ≤ 9223372036854775807) (h2 : ta.length ≤ 9223372036854775807) (h3 : re.length ≤ 9223372036854775807) (h4 : bo.length ≤ 9223372036854775807) (hl : Small l) (hf : fieldsB l = true) (h20 : ¬ (20 : Int) ≤ (l.length : Int)) (hb : ¬ (600 : Int) < (bo.length : Int)) (hno : ∀ i,i < 3 → hasF (frN.getD i []) l = false) (hm : (me == []) = false) (hr : (tokenI me && decide (me.length ≤ 20)) = false) : Sem prog 16 ⟨[.agg [.v (vS me),.v (vS ta),.v (vI st),.v (vS re),.v (vB ba),.imm 51 (rowsF l),.v (vS bo)]],[none]⟩ ⟨[.dead,.v (vB (false))],[none]⟩ := by
  refine sem_fin (cfg := cfg 1) (ts := [.tm 2]) tbOk func16 rfl rfl rfl rfl (fun t h => by cases h) ?_
  have hs : l.length ≤ 9223372036854775807 := hl.1
  simp only [f16,go_sem,cfg,Nat.reduceLeDiff,Nat.reduceLT,Nat.reduceAdd,Nat.reduceSub,Nat.reduceMul,Nat.reduceBEq,Nat.reduceBNe,Nat.reduceEqDiff,reduceCtorEq,reduceIte,Int.reduceLT,Int.reduceLE,Int.reduceAdd,Int.reduceSub,Int.reduceNeg,Int.reduceEq,Int.reduceBEq,Int.reduceBNe,Int.reduceToNat,Nat.reduceDiv,Nat.reduceMod,rowsF_length,rowsS_length,hs,h4,hf,h20,hb]
  try (with_reducible intro _)
  try simp only [f16,go_sem,cfg,Nat.reduceLeDiff,Nat.reduceLT,Nat.reduceAdd,Nat.reduceSub,Nat.reduceMul,Nat.reduceBEq,Nat.reduceBNe,Nat.reduceEqDiff,reduceCtorEq,reduceIte,Int.reduceLT,Int.reduceLE,Int.reduceAdd,Int.reduceSub,Int.reduceNeg,Int.reduceEq,Int.reduceBEq,Int.reduceBNe,Int.reduceToNat,Nat.reduceDiv,Nat.reduceMod,rowsF_length,rowsS_length,hs,h4,hf,h20,hb]
  refine ev_call (c36 l hl) (retW0 rfl rfl rfl rfl) ?_
  simp only [f16,go_sem,cfg,Nat.reduceLeDiff,Nat.reduceLT,Nat.reduceAdd,Nat.reduceSub,Nat.reduceMul,Nat.reduceBEq,Nat.reduceBNe,Nat.reduceEqDiff,reduceCtorEq,reduceIte,Int.reduceLT,Int.reduceLE,Int.reduceAdd,Int.reduceSub,Int.reduceNeg,Int.reduceEq,Int.reduceBEq,Int.reduceBNe,Int.reduceToNat,Nat.reduceDiv,Nat.reduceMod,rowsF_length,rowsS_length,hs,h4,hf,h20,hb]
  try (with_reducible intro _)
  try simp only [f16,go_sem,cfg,Nat.reduceLeDiff,Nat.reduceLT,Nat.reduceAdd,Nat.reduceSub,Nat.reduceMul,Nat.reduceBEq,Nat.reduceBNe,Nat.reduceEqDiff,reduceCtorEq,reduceIte,Int.reduceLT,Int.reduceLE,Int.reduceAdd,Int.reduceSub,Int.reduceNeg,Int.reduceEq,Int.reduceBEq,Int.reduceBNe,Int.reduceToNat,Nat.reduceDiv,Nat.reduceMod,rowsF_length,rowsS_length,hs,h4,hf,h20,hb]
  refine ev_call (c37) (retW0 rfl rfl rfl rfl) ?_
  simp only [f16,go_sem,cfg,Nat.reduceLeDiff,Nat.reduceLT,Nat.reduceAdd,Nat.reduceSub,Nat.reduceMul,Nat.reduceBEq,Nat.reduceBNe,Nat.reduceEqDiff,reduceCtorEq,reduceIte,Int.reduceLT,Int.reduceLE,Int.reduceAdd,Int.reduceSub,Int.reduceNeg,Int.reduceEq,Int.reduceBEq,Int.reduceBNe,Int.reduceToNat,Nat.reduceDiv,Nat.reduceMod,rowsF_length,rowsS_length,hs,h4,hf,h20,hb]
  try (with_reducible intro _)
  try simp only [f16,go_sem,cfg,Nat.reduceLeDiff,Nat.reduceLT,Nat.reduceAdd,Nat.reduceSub,Nat.reduceMul,Nat.reduceBEq,Nat.reduceBNe,Nat.reduceEqDiff,reduceCtorEq,reduceIte,Int.reduceLT,Int.reduceLE,Int.reduceAdd,Int.reduceSub,Int.reduceNeg,Int.reduceEq,Int.reduceBEq,Int.reduceBNe,Int.reduceToNat,Nat.reduceDiv,Nat.reduceMod,rowsF_length,rowsS_length,hs,h4,hf,h20,hb]
  refine loop_on (fun i : Nat => ⟨[.dead,.cref 1 0,.v (vB false),.dead,.dead,.dead,.dead,.dead,.dead,.dead,.dead,.dead,.dead,.dead,.dead,.dead,.dead,.dead,.dead,.dead,.dead,.own 9 (rowsS frN),.v (vI 3),.v (vI i),.dead,.dead,.dead,.dead,.dead,.dead,.dead,.dead,.dead,.dead,.dead,.dead,.dead,.dead,.dead,.dead,.dead,.dead,.dead,.dead,.dead,.dead,.dead,.dead,.dead,.dead,.dead,.dead,.dead,.dead,.dead,.dead,.dead,.dead,.dead,.dead,.dead,.dead,.dead,.dead,.dead,.dead,.dead,.dead,.dead,.dead,.dead,.dead,.dead,.dead,.dead,.dead,.dead,.dead,.dead,.dead,.dead,.dead,.dead,.dead,.dead,.dead,.dead,.dead,.dead,.dead,.dead,.dead,.dead,.dead,.dead,.dead,.dead],[none,some [.v (vS me),.v (vS ta),.v (vI st),.v (vS re),.v (vB ba),.imm 51 (rowsF l),.v (vS bo)],none,none,none,none,none,none,none,none,none,none,none,none,none,none,none,none,none,none,none,none,none,none,none,none,none,none,none,none,none,none,none,none,none,none,none,none,none,none,none,none,none,none,none,none,none,none,none,none,none,none,none,none,none,none,none,none,none,none,none,none,none,none,none,none,none,none,none,none,none,none,none,none,none,none,none,none,none,none,none,none,none,none,none,none,none,none,none,none,none,none,none,none,none,none,none]⟩) [1,2,21,22,23] (fun i => i ≤ 3) (fun i => 3 - i) 0 rfl (by omega) ?_
  intro i hi
  simp only [f16,go_sem,cfg,Nat.reduceLeDiff,Nat.reduceLT,Nat.reduceAdd,Nat.reduceSub,Nat.reduceMul,Nat.reduceBEq,Nat.reduceBNe,Nat.reduceEqDiff,reduceCtorEq,reduceIte,Int.reduceLT,Int.reduceLE,Int.reduceAdd,Int.reduceSub,Int.reduceNeg,Int.reduceEq,Int.reduceBEq,Int.reduceBNe,Int.reduceToNat,Nat.reduceDiv,Nat.reduceMod,rowsF_length,rowsS_length,hs,h4,hf,h20,hb]
  refine Or.elim (Classical.em (i < 3)) (fun hc => ?_) fun hc => ?_
  · have hx := hno i hc
    unfold hasF at hx
    have hw : IntKind.i64.wrap ((i : Int) + 1) = ((i + 1 : Nat) : Int) := by rw [IntKind.wrap_i64]; omega
    have hc1 : (i : Int) < 3 := by omega
    have hc2 : i < frN.length := by show i < 3; omega
    have g1 := rowsS_getD hc2
    simp only [f16,go_sem,cfg,Nat.reduceLeDiff,Nat.reduceLT,Nat.reduceAdd,Nat.reduceSub,Nat.reduceMul,Nat.reduceBEq,Nat.reduceBNe,Nat.reduceEqDiff,reduceCtorEq,reduceIte,Int.reduceLT,Int.reduceLE,Int.reduceAdd,Int.reduceSub,Int.reduceNeg,Int.reduceEq,Int.reduceBEq,Int.reduceBNe,Int.reduceToNat,Nat.reduceDiv,Nat.reduceMod,rowsF_length,rowsS_length,hc1,hc2,g1]
    refine ev_call (c38 l hl (frN.getD i []) (frN_len (by omega)) hf) (retW0 rfl rfl rfl rfl) ?_
    simp only [f16,go_sem,cfg,Nat.reduceLeDiff,Nat.reduceLT,Nat.reduceAdd,Nat.reduceSub,Nat.reduceMul,Nat.reduceBEq,Nat.reduceBNe,Nat.reduceEqDiff,reduceCtorEq,reduceIte,Int.reduceLT,Int.reduceLE,Int.reduceAdd,Int.reduceSub,Int.reduceNeg,Int.reduceEq,Int.reduceBEq,Int.reduceBNe,Int.reduceToNat,Nat.reduceDiv,Nat.reduceMod,rowsF_length,rowsS_length,hx,hw]
    first | exact ⟨i + 1,rfl,hc,by omega⟩ | trace_state
  · have he : i = 3 := by omega
    subst he
    simp only [f16,go_sem,cfg,Nat.reduceLeDiff,Nat.reduceLT,Nat.reduceAdd,Nat.reduceSub,Nat.reduceMul,Nat.reduceBEq,Nat.reduceBNe,Nat.reduceEqDiff,reduceCtorEq,reduceIte,Int.reduceLT,Int.reduceLE,Int.reduceAdd,Int.reduceSub,Int.reduceNeg,Int.reduceEq,Int.reduceBEq,Int.reduceBNe,Int.reduceToNat,Nat.reduceDiv,Nat.reduceMod,rowsF_length,rowsS_length,hs,h4,hf,h20,hb,hm,hr]
    refine ev_call (c39 _ h1) (retW0 rfl rfl rfl rfl) ?_
    simp only [f16,go_sem,cfg,Nat.reduceLeDiff,Nat.reduceLT,Nat.reduceAdd,Nat.reduceSub,Nat.reduceMul,Nat.reduceBEq,Nat.reduceBNe,Nat.reduceEqDiff,reduceCtorEq,reduceIte,Int.reduceLT,Int.reduceLE,Int.reduceAdd,Int.reduceSub,Int.reduceNeg,Int.reduceEq,Int.reduceBEq,Int.reduceBNe,Int.reduceToNat,Nat.reduceDiv,Nat.reduceMod,rowsF_length,rowsS_length,hs,h4,hf,h20,hb,hm,hr]
    try (with_reducible intro _)
    try simp only [f16,go_sem,cfg,Nat.reduceLeDiff,Nat.reduceLT,Nat.reduceAdd,Nat.reduceSub,Nat.reduceMul,Nat.reduceBEq,Nat.reduceBNe,Nat.reduceEqDiff,reduceCtorEq,reduceIte,Int.reduceLT,Int.reduceLE,Int.reduceAdd,Int.reduceSub,Int.reduceNeg,Int.reduceEq,Int.reduceBEq,Int.reduceBNe,Int.reduceToNat,Nat.reduceDiv,Nat.reduceMod,rowsF_length,rowsS_length,hs,h4,hf,h20,hb,hm,hr]
    first | exact fin0 (.inr rfl) rfl rfl rfl rfl | trace_state
theorem c16f (me ta : List UInt8) (st : Int) (re : List UInt8) (ba : Bool) (l : List Fld) (bo : List UInt8) (h1 : me.length ≤ 9223372036854775807) (h2 : ta.length ≤ 9223372036854775807) (h3 : re.length ≤ 9223372036854775807) (h4 : bo.length ≤ 9223372036854775807) (hl : Small l) (hf : fieldsB l = true) (h20 : ¬ (20 : Int) ≤ (l.length : Int)) (hb : ¬ (600 : Int) < (bo.length : Int)) (hno : ∀ i,i < 3 → hasF (frN.getD i []) l = false) (hm : (me == []) = false) (r1 : (tokenI me && decide (me.length ≤ 20)) = true) (r2 : targetB ta = false) : Sem prog 16 ⟨[.agg [.v (vS me),.v (vS ta),.v (vI st),.v (vS re),.v (vB ba),.imm 51 (rowsF l),.v (vS bo)]],[none]⟩ ⟨[.dead,.v (vB (false))],[none]⟩ := by
  refine sem_fin (cfg := cfg 1) (ts := [.tm 2]) tbOk func16 rfl rfl rfl rfl (fun t h => by cases h) ?_
  have hs : l.length ≤ 9223372036854775807 := hl.1
  simp only [f16,go_sem,cfg,Nat.reduceLeDiff,Nat.reduceLT,Nat.reduceAdd,Nat.reduceSub,Nat.reduceMul,Nat.reduceBEq,Nat.reduceBNe,Nat.reduceEqDiff,reduceCtorEq,reduceIte,Int.reduceLT,Int.reduceLE,Int.reduceAdd,Int.reduceSub,Int.reduceNeg,Int.reduceEq,Int.reduceBEq,Int.reduceBNe,Int.reduceToNat,Nat.reduceDiv,Nat.reduceMod,rowsF_length,rowsS_length,hs,h4,hf,h20,hb]
  try (with_reducible intro _)
  try simp only [f16,go_sem,cfg,Nat.reduceLeDiff,Nat.reduceLT,Nat.reduceAdd,Nat.reduceSub,Nat.reduceMul,Nat.reduceBEq,Nat.reduceBNe,Nat.reduceEqDiff,reduceCtorEq,reduceIte,Int.reduceLT,Int.reduceLE,Int.reduceAdd,Int.reduceSub,Int.reduceNeg,Int.reduceEq,Int.reduceBEq,Int.reduceBNe,Int.reduceToNat,Nat.reduceDiv,Nat.reduceMod,rowsF_length,rowsS_length,hs,h4,hf,h20,hb]
  refine ev_call (c36 l hl) (retW0 rfl rfl rfl rfl) ?_
  simp only [f16,go_sem,cfg,Nat.reduceLeDiff,Nat.reduceLT,Nat.reduceAdd,Nat.reduceSub,Nat.reduceMul,Nat.reduceBEq,Nat.reduceBNe,Nat.reduceEqDiff,reduceCtorEq,reduceIte,Int.reduceLT,Int.reduceLE,Int.reduceAdd,Int.reduceSub,Int.reduceNeg,Int.reduceEq,Int.reduceBEq,Int.reduceBNe,Int.reduceToNat,Nat.reduceDiv,Nat.reduceMod,rowsF_length,rowsS_length,hs,h4,hf,h20,hb]
  try (with_reducible intro _)
  try simp only [f16,go_sem,cfg,Nat.reduceLeDiff,Nat.reduceLT,Nat.reduceAdd,Nat.reduceSub,Nat.reduceMul,Nat.reduceBEq,Nat.reduceBNe,Nat.reduceEqDiff,reduceCtorEq,reduceIte,Int.reduceLT,Int.reduceLE,Int.reduceAdd,Int.reduceSub,Int.reduceNeg,Int.reduceEq,Int.reduceBEq,Int.reduceBNe,Int.reduceToNat,Nat.reduceDiv,Nat.reduceMod,rowsF_length,rowsS_length,hs,h4,hf,h20,hb]
  refine ev_call (c37) (retW0 rfl rfl rfl rfl) ?_
  simp only [f16,go_sem,cfg,Nat.reduceLeDiff,Nat.reduceLT,Nat.reduceAdd,Nat.reduceSub,Nat.reduceMul,Nat.reduceBEq,Nat.reduceBNe,Nat.reduceEqDiff,reduceCtorEq,reduceIte,Int.reduceLT,Int.reduceLE,Int.reduceAdd,Int.reduceSub,Int.reduceNeg,Int.reduceEq,Int.reduceBEq,Int.reduceBNe,Int.reduceToNat,Nat.reduceDiv,Nat.reduceMod,rowsF_length,rowsS_length,hs,h4,hf,h20,hb]
  try (with_reducible intro _)
  try simp only [f16,go_sem,cfg,Nat.reduceLeDiff,Nat.reduceLT,Nat.reduceAdd,Nat.reduceSub,Nat.reduceMul,Nat.reduceBEq,Nat.reduceBNe,Nat.reduceEqDiff,reduceCtorEq,reduceIte,Int.reduceLT,Int.reduceLE,Int.reduceAdd,Int.reduceSub,Int.reduceNeg,Int.reduceEq,Int.reduceBEq,Int.reduceBNe,Int.reduceToNat,Nat.reduceDiv,Nat.reduceMod,rowsF_length,rowsS_length,hs,h4,hf,h20,hb]
  refine loop_on (fun i : Nat => ⟨[.dead,.cref 1 0,.v (vB false),.dead,.dead,.dead,.dead,.dead,.dead,.dead,.dead,.dead,.dead,.dead,.dead,.dead,.dead,.dead,.dead,.dead,.dead,.own 9 (rowsS frN),.v (vI 3),.v (vI i),.dead,.dead,.dead,.dead,.dead,.dead,.dead,.dead,.dead,.dead,.dead,.dead,.dead,.dead,.dead,.dead,.dead,.dead,.dead,.dead,.dead,.dead,.dead,.dead,.dead,.dead,.dead,.dead,.dead,.dead,.dead,.dead,.dead,.dead,.dead,.dead,.dead,.dead,.dead,.dead,.dead,.dead,.dead,.dead,.dead,.dead,.dead,.dead,.dead,.dead,.dead,.dead,.dead,.dead,.dead,.dead,.dead,.dead,.dead,.dead,.dead,.dead,.dead,.dead,.dead,.dead,.dead,.dead,.dead,.dead,.dead,.dead,.dead],[none,some [.v (vS me),.v (vS ta),.v (vI st),.v (vS re),.v (vB ba),.imm 51 (rowsF l),.v (vS bo)],none,none,none,none,none,none,none,none,none,none,none,none,none,none,none,none,none,none,none,none,none,none,none,none,none,none,none,none,none,none,none,none,none,none,none,none,none,none,none,none,none,none,none,none,none,none,none,none,none,none,none,none,none,none,none,none,none,none,none,none,none,none,none,none,none,none,none,none,none,none,none,none,none,none,none,none,none,none,none,none,none,none,none,none,none,none,none,none,none,none,none,none,none,none,none]⟩) [1,2,21,22,23] (fun i => i ≤ 3) (fun i => 3 - i) 0 rfl (by omega) ?_
  intro i hi
  simp only [f16,go_sem,cfg,Nat.reduceLeDiff,Nat.reduceLT,Nat.reduceAdd,Nat.reduceSub,Nat.reduceMul,Nat.reduceBEq,Nat.reduceBNe,Nat.reduceEqDiff,reduceCtorEq,reduceIte,Int.reduceLT,Int.reduceLE,Int.reduceAdd,Int.reduceSub,Int.reduceNeg,Int.reduceEq,Int.reduceBEq,Int.reduceBNe,Int.reduceToNat,Nat.reduceDiv,Nat.reduceMod,rowsF_length,rowsS_length,hs,h4,hf,h20,hb]
  refine Or.elim (Classical.em (i < 3)) (fun hc => ?_) fun hc => ?_
  · have hx := hno i hc
    unfold hasF at hx
    have hw : IntKind.i64.wrap ((i : Int) + 1) = ((i + 1 : Nat) : Int) := by rw [IntKind.wrap_i64]; omega
    have hc1 : (i : Int) < 3 := by omega
    have hc2 : i < frN.length := by show i < 3; omega
    have g1 := rowsS_getD hc2
    simp only [f16,go_sem,cfg,Nat.reduceLeDiff,Nat.reduceLT,Nat.reduceAdd,Nat.reduceSub,Nat.reduceMul,Nat.reduceBEq,Nat.reduceBNe,Nat.reduceEqDiff,reduceCtorEq,reduceIte,Int.reduceLT,Int.reduceLE,Int.reduceAdd,Int.reduceSub,Int.reduceNeg,Int.reduceEq,Int.reduceBEq,Int.reduceBNe,Int.reduceToNat,Nat.reduceDiv,Nat.reduceMod,rowsF_length,rowsS_length,hc1,hc2,g1]
    refine ev_call (c38 l hl (frN.getD i []) (frN_len (by omega)) hf) (retW0 rfl rfl rfl rfl) ?_
    simp only [f16,go_sem,cfg,Nat.reduceLeDiff,Nat.reduceLT,Nat.reduceAdd,Nat.reduceSub,Nat.reduceMul,Nat.reduceBEq,Nat.reduceBNe,Nat.reduceEqDiff,reduceCtorEq,reduceIte,Int.reduceLT,Int.reduceLE,Int.reduceAdd,Int.reduceSub,Int.reduceNeg,Int.reduceEq,Int.reduceBEq,Int.reduceBNe,Int.reduceToNat,Nat.reduceDiv,Nat.reduceMod,rowsF_length,rowsS_length,hx,hw]
    first | exact ⟨i + 1,rfl,hc,by omega⟩ | trace_state
  · have he : i = 3 := by omega
    subst he
    simp only [f16,go_sem,cfg,Nat.reduceLeDiff,Nat.reduceLT,Nat.reduceAdd,Nat.reduceSub,Nat.reduceMul,Nat.reduceBEq,Nat.reduceBNe,Nat.reduceEqDiff,reduceCtorEq,reduceIte,Int.reduceLT,Int.reduceLE,Int.reduceAdd,Int.reduceSub,Int.reduceNeg,Int.reduceEq,Int.reduceBEq,Int.reduceBNe,Int.reduceToNat,Nat.reduceDiv,Nat.reduceMod,rowsF_length,rowsS_length,hs,h4,hf,h20,hb,hm,r1,r2]
    refine ev_call (c39 _ h1) (retW0 rfl rfl rfl rfl) ?_
    simp only [f16,go_sem,cfg,Nat.reduceLeDiff,Nat.reduceLT,Nat.reduceAdd,Nat.reduceSub,Nat.reduceMul,Nat.reduceBEq,Nat.reduceBNe,Nat.reduceEqDiff,reduceCtorEq,reduceIte,Int.reduceLT,Int.reduceLE,Int.reduceAdd,Int.reduceSub,Int.reduceNeg,Int.reduceEq,Int.reduceBEq,Int.reduceBNe,Int.reduceToNat,Nat.reduceDiv,Nat.reduceMod,rowsF_length,rowsS_length,hs,h4,hf,h20,hb,hm,r1,r2]
    refine ev_call (c40 _ h2) (retW0 rfl rfl rfl rfl) ?_
    simp only [f16,go_sem,cfg,Nat.reduceLeDiff,Nat.reduceLT,Nat.reduceAdd,Nat.reduceSub,Nat.reduceMul,Nat.reduceBEq,Nat.reduceBNe,Nat.reduceEqDiff,reduceCtorEq,reduceIte,Int.reduceLT,Int.reduceLE,Int.reduceAdd,Int.reduceSub,Int.reduceNeg,Int.reduceEq,Int.reduceBEq,Int.reduceBNe,Int.reduceToNat,Nat.reduceDiv,Nat.reduceMod,rowsF_length,rowsS_length,hs,h4,hf,h20,hb,hm,r1,r2]
    try (with_reducible intro _)
    try simp only [f16,go_sem,cfg,Nat.reduceLeDiff,Nat.reduceLT,Nat.reduceAdd,Nat.reduceSub,Nat.reduceMul,Nat.reduceBEq,Nat.reduceBNe,Nat.reduceEqDiff,reduceCtorEq,reduceIte,Int.reduceLT,Int.reduceLE,Int.reduceAdd,Int.reduceSub,Int.reduceNeg,Int.reduceEq,Int.reduceBEq,Int.reduceBNe,Int.reduceToNat,Nat.reduceDiv,Nat.reduceMod,rowsF_length,rowsS_length,hs,h4,hf,h20,hb,hm,r1,r2]
    first | exact fin0 (.inr rfl) rfl rfl rfl rfl | trace_state
theorem c16g (me ta : List UInt8) (st : Int) (re : List UInt8) (ba : Bool) (l : List Fld) (bo : List UInt8) (h1 : me.length ≤ 9223372036854775807) (h2 : ta.length ≤ 9223372036854775807) (h3 : re.length ≤ 9223372036854775807) (h4 : bo.length ≤ 9223372036854775807) (hl : Small l) (hf : fieldsB l = true) (h20 : ¬ (20 : Int) ≤ (l.length : Int)) (hb : ¬ (600 : Int) < (bo.length : Int)) (hno : ∀ i,i < 3 → hasF (frN.getD i []) l = false) (hm : (me == []) = false) (r1 : (tokenI me && decide (me.length ≤ 20)) = true) (r2 : targetB ta = true) (r3 : (st != 0) = true) : Sem prog 16 ⟨[.agg [.v (vS me),.v (vS ta),.v (vI st),.v (vS re),.v (vB ba),.imm 51 (rowsF l),.v (vS bo)]],[none]⟩ ⟨[.dead,.v (vB (false))],[none]⟩ := by
  refine sem_fin (cfg := cfg 1) (ts := [.tm 2]) tbOk func16 rfl rfl rfl rfl (fun t h => by cases h) ?_
  have hs : l.length ≤ 9223372036854775807 := hl.1
  simp only [f16,go_sem,cfg,Nat.reduceLeDiff,Nat.reduceLT,Nat.reduceAdd,Nat.reduceSub,Nat.reduceMul,Nat.reduceBEq,Nat.reduceBNe,Nat.reduceEqDiff,reduceCtorEq,reduceIte,Int.reduceLT,Int.reduceLE,Int.reduceAdd,Int.reduceSub,Int.reduceNeg,Int.reduceEq,Int.reduceBEq,Int.reduceBNe,Int.reduceToNat,Nat.reduceDiv,Nat.reduceMod,rowsF_length,rowsS_length,hs,h4,hf,h20,hb]
  try (with_reducible intro _)
  try simp only [f16,go_sem,cfg,Nat.reduceLeDiff,Nat.reduceLT,Nat.reduceAdd,Nat.reduceSub,Nat.reduceMul,Nat.reduceBEq,Nat.reduceBNe,Nat.reduceEqDiff,reduceCtorEq,reduceIte,Int.reduceLT,Int.reduceLE,Int.reduceAdd,Int.reduceSub,Int.reduceNeg,Int.reduceEq,Int.reduceBEq,Int.reduceBNe,Int.reduceToNat,Nat.reduceDiv,Nat.reduceMod,rowsF_length,rowsS_length,hs,h4,hf,h20,hb]
  refine ev_call (c36 l hl) (retW0 rfl rfl rfl rfl) ?_
  simp only [f16,go_sem,cfg,Nat.reduceLeDiff,Nat.reduceLT,Nat.reduceAdd,Nat.reduceSub,Nat.reduceMul,Nat.reduceBEq,Nat.reduceBNe,Nat.reduceEqDiff,reduceCtorEq,reduceIte,Int.reduceLT,Int.reduceLE,Int.reduceAdd,Int.reduceSub,Int.reduceNeg,Int.reduceEq,Int.reduceBEq,Int.reduceBNe,Int.reduceToNat,Nat.reduceDiv,Nat.reduceMod,rowsF_length,rowsS_length,hs,h4,hf,h20,hb]
  try (with_reducible intro _)
  try simp only [f16,go_sem,cfg,Nat.reduceLeDiff,Nat.reduceLT,Nat.reduceAdd,Nat.reduceSub,Nat.reduceMul,Nat.reduceBEq,Nat.reduceBNe,Nat.reduceEqDiff,reduceCtorEq,reduceIte,Int.reduceLT,Int.reduceLE,Int.reduceAdd,Int.reduceSub,Int.reduceNeg,Int.reduceEq,Int.reduceBEq,Int.reduceBNe,Int.reduceToNat,Nat.reduceDiv,Nat.reduceMod,rowsF_length,rowsS_length,hs,h4,hf,h20,hb]
  refine ev_call (c37) (retW0 rfl rfl rfl rfl) ?_
  simp only [f16,go_sem,cfg,Nat.reduceLeDiff,Nat.reduceLT,Nat.reduceAdd,Nat.reduceSub,Nat.reduceMul,Nat.reduceBEq,Nat.reduceBNe,Nat.reduceEqDiff,reduceCtorEq,reduceIte,Int.reduceLT,Int.reduceLE,Int.reduceAdd,Int.reduceSub,Int.reduceNeg,Int.reduceEq,Int.reduceBEq,Int.reduceBNe,Int.reduceToNat,Nat.reduceDiv,Nat.reduceMod,rowsF_length,rowsS_length,hs,h4,hf,h20,hb]
  try (with_reducible intro _)
  try simp only [f16,go_sem,cfg,Nat.reduceLeDiff,Nat.reduceLT,Nat.reduceAdd,Nat.reduceSub,Nat.reduceMul,Nat.reduceBEq,Nat.reduceBNe,Nat.reduceEqDiff,reduceCtorEq,reduceIte,Int.reduceLT,Int.reduceLE,Int.reduceAdd,Int.reduceSub,Int.reduceNeg,Int.reduceEq,Int.reduceBEq,Int.reduceBNe,Int.reduceToNat,Nat.reduceDiv,Nat.reduceMod,rowsF_length,rowsS_length,hs,h4,hf,h20,hb]
  refine loop_on (fun i : Nat => ⟨[.dead,.cref 1 0,.v (vB false),.dead,.dead,.dead,.dead,.dead,.dead,.dead,.dead,.dead,.dead,.dead,.dead,.dead,.dead,.dead,.dead,.dead,.dead,.own 9 (rowsS frN),.v (vI 3),.v (vI i),.dead,.dead,.dead,.dead,.dead,.dead,.dead,.dead,.dead,.dead,.dead,.dead,.dead,.dead,.dead,.dead,.dead,.dead,.dead,.dead,.dead,.dead,.dead,.dead,.dead,.dead,.dead,.dead,.dead,.dead,.dead,.dead,.dead,.dead,.dead,.dead,.dead,.dead,.dead,.dead,.dead,.dead,.dead,.dead,.dead,.dead,.dead,.dead,.dead,.dead,.dead,.dead,.dead,.dead,.dead,.dead,.dead,.dead,.dead,.dead,.dead,.dead,.dead,.dead,.dead,.dead,.dead,.dead,.dead,.dead,.dead,.dead,.dead],[none,some [.v (vS me),.v (vS ta),.v (vI st),.v (vS re),.v (vB ba),.imm 51 (rowsF l),.v (vS bo)],none,none,none,none,none,none,none,none,none,none,none,none,none,none,none,none,none,none,none,none,none,none,none,none,none,none,none,none,none,none,none,none,none,none,none,none,none,none,none,none,none,none,none,none,none,none,none,none,none,none,none,none,none,none,none,none,none,none,none,none,none,none,none,none,none,none,none,none,none,none,none,none,none,none,none,none,none,none,none,none,none,none,none,none,none,none,none,none,none,none,none,none,none,none,none]⟩) [1,2,21,22,23] (fun i => i ≤ 3) (fun i => 3 - i) 0 rfl (by omega) ?_
  intro i hi
  simp only [f16,go_sem,cfg,Nat.reduceLeDiff,Nat.reduceLT,Nat.reduceAdd,Nat.reduceSub,Nat.reduceMul,Nat.reduceBEq,Nat.reduceBNe,Nat.reduceEqDiff,reduceCtorEq,reduceIte,Int.reduceLT,Int.reduceLE,Int.reduceAdd,Int.reduceSub,Int.reduceNeg,Int.reduceEq,Int.reduceBEq,Int.reduceBNe,Int.reduceToNat,Nat.reduceDiv,Nat.reduceMod,rowsF_length,rowsS_length,hs,h4,hf,h20,hb]
  refine Or.elim (Classical.em (i < 3)) (fun hc => ?_) fun hc => ?_
  · have hx := hno i hc
    unfold hasF at hx
    have hw : IntKind.i64.wrap ((i : Int) + 1) = ((i + 1 : Nat) : Int) := by rw [IntKind.wrap_i64]; omega
    have hc1 : (i : Int) < 3 := by omega
    have hc2 : i < frN.length := by show i < 3; omega
    have g1 := rowsS_getD hc2
    simp only [f16,go_sem,cfg,Nat.reduceLeDiff,Nat.reduceLT,Nat.reduceAdd,Nat.reduceSub,Nat.reduceMul,Nat.reduceBEq,Nat.reduceBNe,Nat.reduceEqDiff,reduceCtorEq,reduceIte,Int.reduceLT,Int.reduceLE,Int.reduceAdd,Int.reduceSub,Int.reduceNeg,Int.reduceEq,Int.reduceBEq,Int.reduceBNe,Int.reduceToNat,Nat.reduceDiv,Nat.reduceMod,rowsF_length,rowsS_length,hc1,hc2,g1]
    refine ev_call (c38 l hl (frN.getD i []) (frN_len (by omega)) hf) (retW0 rfl rfl rfl rfl) ?_
    simp only [f16,go_sem,cfg,Nat.reduceLeDiff,Nat.reduceLT,Nat.reduceAdd,Nat.reduceSub,Nat.reduceMul,Nat.reduceBEq,Nat.reduceBNe,Nat.reduceEqDiff,reduceCtorEq,reduceIte,Int.reduceLT,Int.reduceLE,Int.reduceAdd,Int.reduceSub,Int.reduceNeg,Int.reduceEq,Int.reduceBEq,Int.reduceBNe,Int.reduceToNat,Nat.reduceDiv,Nat.reduceMod,rowsF_length,rowsS_length,hx,hw]
    first | exact ⟨i + 1,rfl,hc,by omega⟩ | trace_state
  · have he : i = 3 := by omega
    subst he
    simp only [f16,go_sem,cfg,Nat.reduceLeDiff,Nat.reduceLT,Nat.reduceAdd,Nat.reduceSub,Nat.reduceMul,Nat.reduceBEq,Nat.reduceBNe,Nat.reduceEqDiff,reduceCtorEq,reduceIte,Int.reduceLT,Int.reduceLE,Int.reduceAdd,Int.reduceSub,Int.reduceNeg,Int.reduceEq,Int.reduceBEq,Int.reduceBNe,Int.reduceToNat,Nat.reduceDiv,Nat.reduceMod,rowsF_length,rowsS_length,hs,h4,hf,h20,hb,hm,r1,r2,r3]
    refine ev_call (c39 _ h1) (retW0 rfl rfl rfl rfl) ?_
    simp only [f16,go_sem,cfg,Nat.reduceLeDiff,Nat.reduceLT,Nat.reduceAdd,Nat.reduceSub,Nat.reduceMul,Nat.reduceBEq,Nat.reduceBNe,Nat.reduceEqDiff,reduceCtorEq,reduceIte,Int.reduceLT,Int.reduceLE,Int.reduceAdd,Int.reduceSub,Int.reduceNeg,Int.reduceEq,Int.reduceBEq,Int.reduceBNe,Int.reduceToNat,Nat.reduceDiv,Nat.reduceMod,rowsF_length,rowsS_length,hs,h4,hf,h20,hb,hm,r1,r2,r3]
    refine ev_call (c40 _ h2) (retW0 rfl rfl rfl rfl) ?_
    simp only [f16,go_sem,cfg,Nat.reduceLeDiff,Nat.reduceLT,Nat.reduceAdd,Nat.reduceSub,Nat.reduceMul,Nat.reduceBEq,Nat.reduceBNe,Nat.reduceEqDiff,reduceCtorEq,reduceIte,Int.reduceLT,Int.reduceLE,Int.reduceAdd,Int.reduceSub,Int.reduceNeg,Int.reduceEq,Int.reduceBEq,Int.reduceBNe,Int.reduceToNat,Nat.reduceDiv,Nat.reduceMod,rowsF_length,rowsS_length,hs,h4,hf,h20,hb,hm,r1,r2,r3]
    try (with_reducible intro _)
    try simp only [f16,go_sem,cfg,Nat.reduceLeDiff,Nat.reduceLT,Nat.reduceAdd,Nat.reduceSub,Nat.reduceMul,Nat.reduceBEq,Nat.reduceBNe,Nat.reduceEqDiff,reduceCtorEq,reduceIte,Int.reduceLT,Int.reduceLE,Int.reduceAdd,Int.reduceSub,Int.reduceNeg,Int.reduceEq,Int.reduceBEq,Int.reduceBNe,Int.reduceToNat,Nat.reduceDiv,Nat.reduceMod,rowsF_length,rowsS_length,hs,h4,hf,h20,hb,hm,r1,r2,r3]
    first | exact fin0 (.inr rfl) rfl rfl rfl rfl | trace_state
theorem c16h (me ta : List UInt8) (st : Int) (re : List UInt8) (ba : Bool) (l : List Fld) (bo : List UInt8) (h1 : me.length ≤ 9223372036854775807) (h2 : ta.length ≤ 9223372036854775807) (h3 : re.length ≤ 9223372036854775807) (h4 : bo.length ≤ 9223372036854775807) (hl : Small l) (hf : fieldsB l = true) (h20 : ¬ (20 : Int) ≤ (l.length : Int)) (hb : ¬ (600 : Int) < (bo.length : Int)) (hno : ∀ i,i < 3 → hasF (frN.getD i []) l = false) (hm : (me == []) = false) (r1 : (tokenI me && decide (me.length ≤ 20)) = true) (r2 : targetB ta = true) (r3 : (st != 0) = false) (r4 : (re == []) = false) : Sem prog 16 ⟨[.agg [.v (vS me),.v (vS ta),.v (vI st),.v (vS re),.v (vB ba),.imm 51 (rowsF l),.v (vS bo)]],[none]⟩ ⟨[.dead,.v (vB (false))],[none]⟩ := by
  refine sem_fin (cfg := cfg 1) (ts := [.tm 2]) tbOk func16 rfl rfl rfl rfl (fun t h => by cases h) ?_
  have hs : l.length ≤ 9223372036854775807 := hl.1
  simp only [f16,go_sem,cfg,Nat.reduceLeDiff,Nat.reduceLT,Nat.reduceAdd,Nat.reduceSub,Nat.reduceMul,Nat.reduceBEq,Nat.reduceBNe,Nat.reduceEqDiff,reduceCtorEq,reduceIte,Int.reduceLT,Int.reduceLE,Int.reduceAdd,Int.reduceSub,Int.reduceNeg,Int.reduceEq,Int.reduceBEq,Int.reduceBNe,Int.reduceToNat,Nat.reduceDiv,Nat.reduceMod,rowsF_length,rowsS_length,hs,h4,hf,h20,hb]
  try (with_reducible intro _)
  try simp only [f16,go_sem,cfg,Nat.reduceLeDiff,Nat.reduceLT,Nat.reduceAdd,Nat.reduceSub,Nat.reduceMul,Nat.reduceBEq,Nat.reduceBNe,Nat.reduceEqDiff,reduceCtorEq,reduceIte,Int.reduceLT,Int.reduceLE,Int.reduceAdd,Int.reduceSub,Int.reduceNeg,Int.reduceEq,Int.reduceBEq,Int.reduceBNe,Int.reduceToNat,Nat.reduceDiv,Nat.reduceMod,rowsF_length,rowsS_length,hs,h4,hf,h20,hb]
  refine ev_call (c36 l hl) (retW0 rfl rfl rfl rfl) ?_
  simp only [f16,go_sem,cfg,Nat.reduceLeDiff,Nat.reduceLT,Nat.reduceAdd,Nat.reduceSub,Nat.reduceMul,Nat.reduceBEq,Nat.reduceBNe,Nat.reduceEqDiff,reduceCtorEq,reduceIte,Int.reduceLT,Int.reduceLE,Int.reduceAdd,Int.reduceSub,Int.reduceNeg,Int.reduceEq,Int.reduceBEq,Int.reduceBNe,Int.reduceToNat,Nat.reduceDiv,Nat.reduceMod,rowsF_length,rowsS_length,hs,h4,hf,h20,hb]
  try (with_reducible intro _)
  try simp only [f16,go_sem,cfg,Nat.reduceLeDiff,Nat.reduceLT,Nat.reduceAdd,Nat.reduceSub,Nat.reduceMul,Nat.reduceBEq,Nat.reduceBNe,Nat.reduceEqDiff,reduceCtorEq,reduceIte,Int.reduceLT,Int.reduceLE,Int.reduceAdd,Int.reduceSub,Int.reduceNeg,Int.reduceEq,Int.reduceBEq,Int.reduceBNe,Int.reduceToNat,Nat.reduceDiv,Nat.reduceMod,rowsF_length,rowsS_length,hs,h4,hf,h20,hb]
  refine ev_call (c37) (retW0 rfl rfl rfl rfl) ?_
  simp only [f16,go_sem,cfg,Nat.reduceLeDiff,Nat.reduceLT,Nat.reduceAdd,Nat.reduceSub,Nat.reduceMul,Nat.reduceBEq,Nat.reduceBNe,Nat.reduceEqDiff,reduceCtorEq,reduceIte,Int.reduceLT,Int.reduceLE,Int.reduceAdd,Int.reduceSub,Int.reduceNeg,Int.reduceEq,Int.reduceBEq,Int.reduceBNe,Int.reduceToNat,Nat.reduceDiv,Nat.reduceMod,rowsF_length,rowsS_length,hs,h4,hf,h20,hb]
  try (with_reducible intro _)
  try simp only [f16,go_sem,cfg,Nat.reduceLeDiff,Nat.reduceLT,Nat.reduceAdd,Nat.reduceSub,Nat.reduceMul,Nat.reduceBEq,Nat.reduceBNe,Nat.reduceEqDiff,reduceCtorEq,reduceIte,Int.reduceLT,Int.reduceLE,Int.reduceAdd,Int.reduceSub,Int.reduceNeg,Int.reduceEq,Int.reduceBEq,Int.reduceBNe,Int.reduceToNat,Nat.reduceDiv,Nat.reduceMod,rowsF_length,rowsS_length,hs,h4,hf,h20,hb]
  refine loop_on (fun i : Nat => ⟨[.dead,.cref 1 0,.v (vB false),.dead,.dead,.dead,.dead,.dead,.dead,.dead,.dead,.dead,.dead,.dead,.dead,.dead,.dead,.dead,.dead,.dead,.dead,.own 9 (rowsS frN),.v (vI 3),.v (vI i),.dead,.dead,.dead,.dead,.dead,.dead,.dead,.dead,.dead,.dead,.dead,.dead,.dead,.dead,.dead,.dead,.dead,.dead,.dead,.dead,.dead,.dead,.dead,.dead,.dead,.dead,.dead,.dead,.dead,.dead,.dead,.dead,.dead,.dead,.dead,.dead,.dead,.dead,.dead,.dead,.dead,.dead,.dead,.dead,.dead,.dead,.dead,.dead,.dead,.dead,.dead,.dead,.dead,.dead,.dead,.dead,.dead,.dead,.dead,.dead,.dead,.dead,.dead,.dead,.dead,.dead,.dead,.dead,.dead,.dead,.dead,.dead,.dead],[none,some [.v (vS me),.v (vS ta),.v (vI st),.v (vS re),.v (vB ba),.imm 51 (rowsF l),.v (vS bo)],none,none,none,none,none,none,none,none,none,none,none,none,none,none,none,none,none,none,none,none,none,none,none,none,none,none,none,none,none,none,none,none,none,none,none,none,none,none,none,none,none,none,none,none,none,none,none,none,none,none,none,none,none,none,none,none,none,none,none,none,none,none,none,none,none,none,none,none,none,none,none,none,none,none,none,none,none,none,none,none,none,none,none,none,none,none,none,none,none,none,none,none,none,none,none]⟩) [1,2,21,22,23] (fun i => i ≤ 3) (fun i => 3 - i) 0 rfl (by omega) ?_
  intro i hi
  simp only [f16,go_sem,cfg,Nat.reduceLeDiff,Nat.reduceLT,Nat.reduceAdd,Nat.reduceSub,Nat.reduceMul,Nat.reduceBEq,Nat.reduceBNe,Nat.reduceEqDiff,reduceCtorEq,reduceIte,Int.reduceLT,Int.reduceLE,Int.reduceAdd,Int.reduceSub,Int.reduceNeg,Int.reduceEq,Int.reduceBEq,Int.reduceBNe,Int.reduceToNat,Nat.reduceDiv,Nat.reduceMod,rowsF_length,rowsS_length,hs,h4,hf,h20,hb]
  refine Or.elim (Classical.em (i < 3)) (fun hc => ?_) fun hc => ?_
  · have hx := hno i hc
    unfold hasF at hx
    have hw : IntKind.i64.wrap ((i : Int) + 1) = ((i + 1 : Nat) : Int) := by rw [IntKind.wrap_i64]; omega
    have hc1 : (i : Int) < 3 := by omega
    have hc2 : i < frN.length := by show i < 3; omega
    have g1 := rowsS_getD hc2
    simp only [f16,go_sem,cfg,Nat.reduceLeDiff,Nat.reduceLT,Nat.reduceAdd,Nat.reduceSub,Nat.reduceMul,Nat.reduceBEq,Nat.reduceBNe,Nat.reduceEqDiff,reduceCtorEq,reduceIte,Int.reduceLT,Int.reduceLE,Int.reduceAdd,Int.reduceSub,Int.reduceNeg,Int.reduceEq,Int.reduceBEq,Int.reduceBNe,Int.reduceToNat,Nat.reduceDiv,Nat.reduceMod,rowsF_length,rowsS_length,hc1,hc2,g1]
    refine ev_call (c38 l hl (frN.getD i []) (frN_len (by omega)) hf) (retW0 rfl rfl rfl rfl) ?_
    simp only [f16,go_sem,cfg,Nat.reduceLeDiff,Nat.reduceLT,Nat.reduceAdd,Nat.reduceSub,Nat.reduceMul,Nat.reduceBEq,Nat.reduceBNe,Nat.reduceEqDiff,reduceCtorEq,reduceIte,Int.reduceLT,Int.reduceLE,Int.reduceAdd,Int.reduceSub,Int.reduceNeg,Int.reduceEq,Int.reduceBEq,Int.reduceBNe,Int.reduceToNat,Nat.reduceDiv,Nat.reduceMod,rowsF_length,rowsS_length,hx,hw]
    first | exact ⟨i + 1,rfl,hc,by omega⟩ | trace_state
  · have he : i = 3 := by omega
    subst he
    simp only [f16,go_sem,cfg,Nat.reduceLeDiff,Nat.reduceLT,Nat.reduceAdd,Nat.reduceSub,Nat.reduceMul,Nat.reduceBEq,Nat.reduceBNe,Nat.reduceEqDiff,reduceCtorEq,reduceIte,Int.reduceLT,Int.reduceLE,Int.reduceAdd,Int.reduceSub,Int.reduceNeg,Int.reduceEq,Int.reduceBEq,Int.reduceBNe,Int.reduceToNat,Nat.reduceDiv,Nat.reduceMod,rowsF_length,rowsS_length,hs,h4,hf,h20,hb,hm,r1,r2,r3,r4]
    refine ev_call (c39 _ h1) (retW0 rfl rfl rfl rfl) ?_
    simp only [f16,go_sem,cfg,Nat.reduceLeDiff,Nat.reduceLT,Nat.reduceAdd,Nat.reduceSub,Nat.reduceMul,Nat.reduceBEq,Nat.reduceBNe,Nat.reduceEqDiff,reduceCtorEq,reduceIte,Int.reduceLT,Int.reduceLE,Int.reduceAdd,Int.reduceSub,Int.reduceNeg,Int.reduceEq,Int.reduceBEq,Int.reduceBNe,Int.reduceToNat,Nat.reduceDiv,Nat.reduceMod,rowsF_length,rowsS_length,hs,h4,hf,h20,hb,hm,r1,r2,r3,r4]
    refine ev_call (c40 _ h2) (retW0 rfl rfl rfl rfl) ?_
    simp only [f16,go_sem,cfg,Nat.reduceLeDiff,Nat.reduceLT,Nat.reduceAdd,Nat.reduceSub,Nat.reduceMul,Nat.reduceBEq,Nat.reduceBNe,Nat.reduceEqDiff,reduceCtorEq,reduceIte,Int.reduceLT,Int.reduceLE,Int.reduceAdd,Int.reduceSub,Int.reduceNeg,Int.reduceEq,Int.reduceBEq,Int.reduceBNe,Int.reduceToNat,Nat.reduceDiv,Nat.reduceMod,rowsF_length,rowsS_length,hs,h4,hf,h20,hb,hm,r1,r2,r3,r4]
    try (with_reducible intro _)
    try simp only [f16,go_sem,cfg,Nat.reduceLeDiff,Nat.reduceLT,Nat.reduceAdd,Nat.reduceSub,Nat.reduceMul,Nat.reduceBEq,Nat.reduceBNe,Nat.reduceEqDiff,reduceCtorEq,reduceIte,Int.reduceLT,Int.reduceLE,Int.reduceAdd,Int.reduceSub,Int.reduceNeg,Int.reduceEq,Int.reduceBEq,Int.reduceBNe,Int.reduceToNat,Nat.reduceDiv,Nat.reduceMod,rowsF_length,rowsS_length,hs,h4,hf,h20,hb,hm,r1,r2,r3,r4]
    first | exact fin0 (.inr rfl) rfl rfl rfl rfl | trace_state
theorem c16i (me ta : List UInt8) (st : Int) (re : List UInt8) (ba : Bool) (l : List Fld) (bo : List UInt8) (h1 : me.length ≤ 9223372036854775807) (h2 : ta.length ≤ 9223372036854775807) (h3 : re.length ≤ 9223372036854775807) (h4 : bo.length ≤ 9223372036854775807) (hl : Small l) (hf : fieldsB l = true) (h20 : ¬ (20 : Int) ≤ (l.length : Int)) (hb : ¬ (600 : Int) < (bo.length : Int)) (hno : ∀ i,i < 3 → hasF (frN.getD i []) l = false) (hm : (me == []) = false) (r1 : (tokenI me && decide (me.length ≤ 20)) = true) (r2 : targetB ta = true) (r3 : (st != 0) = false) (r4 : (re == []) = true) (r5 : ba = true) : Sem prog 16 ⟨[.agg [.v (vS me),.v (vS ta),.v (vI st),.v (vS re),.v (vB ba),.imm 51 (rowsF l),.v (vS bo)]],[none]⟩ ⟨[.dead,.v (vB (false))],[none]⟩ := by
  refine sem_fin (cfg := cfg 1) (ts := [.tm 2]) tbOk func16 rfl rfl rfl rfl (fun t h => by cases h) ?_
  have hs : l.length ≤ 9223372036854775807 := hl.1
  simp only [f16,go_sem,cfg,Nat.reduceLeDiff,Nat.reduceLT,Nat.reduceAdd,Nat.reduceSub,Nat.reduceMul,Nat.reduceBEq,Nat.reduceBNe,Nat.reduceEqDiff,reduceCtorEq,reduceIte,Int.reduceLT,Int.reduceLE,Int.reduceAdd,Int.reduceSub,Int.reduceNeg,Int.reduceEq,Int.reduceBEq,Int.reduceBNe,Int.reduceToNat,Nat.reduceDiv,Nat.reduceMod,rowsF_length,rowsS_length,hs,h4,hf,h20,hb]
  try (with_reducible intro _)
  try simp only [f16,go_sem,cfg,Nat.reduceLeDiff,Nat.reduceLT,Nat.reduceAdd,Nat.reduceSub,Nat.reduceMul,Nat.reduceBEq,Nat.reduceBNe,Nat.reduceEqDiff,reduceCtorEq,reduceIte,Int.reduceLT,Int.reduceLE,Int.reduceAdd,Int.reduceSub,Int.reduceNeg,Int.reduceEq,Int.reduceBEq,Int.reduceBNe,Int.reduceToNat,Nat.reduceDiv,Nat.reduceMod,rowsF_length,rowsS_length,hs,h4,hf,h20,hb]
  refine ev_call (c36 l hl) (retW0 rfl rfl rfl rfl) ?_
  simp only [f16,go_sem,cfg,Nat.reduceLeDiff,Nat.reduceLT,Nat.reduceAdd,Nat.reduceSub,Nat.reduceMul,Nat.reduceBEq,Nat.reduceBNe,Nat.reduceEqDiff,reduceCtorEq,reduceIte,Int.reduceLT,Int.reduceLE,Int.reduceAdd,Int.reduceSub,Int.reduceNeg,Int.reduceEq,Int.reduceBEq,Int.reduceBNe,Int.reduceToNat,Nat.reduceDiv,Nat.reduceMod,rowsF_length,rowsS_length,hs,h4,hf,h20,hb]
  try (with_reducible intro _)
  try simp only [f16,go_sem,cfg,Nat.reduceLeDiff,Nat.reduceLT,Nat.reduceAdd,Nat.reduceSub,Nat.reduceMul,Nat.reduceBEq,Nat.reduceBNe,Nat.reduceEqDiff,reduceCtorEq,reduceIte,Int.reduceLT,Int.reduceLE,Int.reduceAdd,Int.reduceSub,Int.reduceNeg,Int.reduceEq,Int.reduceBEq,Int.reduceBNe,Int.reduceToNat,Nat.reduceDiv,Nat.reduceMod,rowsF_length,rowsS_length,hs,h4,hf,h20,hb]
  refine ev_call (c37) (retW0 rfl rfl rfl rfl) ?_
  simp only [f16,go_sem,cfg,Nat.reduceLeDiff,Nat.reduceLT,Nat.reduceAdd,Nat.reduceSub,Nat.reduceMul,Nat.reduceBEq,Nat.reduceBNe,Nat.reduceEqDiff,reduceCtorEq,reduceIte,Int.reduceLT,Int.reduceLE,Int.reduceAdd,Int.reduceSub,Int.reduceNeg,Int.reduceEq,Int.reduceBEq,Int.reduceBNe,Int.reduceToNat,Nat.reduceDiv,Nat.reduceMod,rowsF_length,rowsS_length,hs,h4,hf,h20,hb]
  try (with_reducible intro _)
  try simp only [f16,go_sem,cfg,Nat.reduceLeDiff,Nat.reduceLT,Nat.reduceAdd,Nat.reduceSub,Nat.reduceMul,Nat.reduceBEq,Nat.reduceBNe,Nat.reduceEqDiff,reduceCtorEq,reduceIte,Int.reduceLT,Int.reduceLE,Int.reduceAdd,Int.reduceSub,Int.reduceNeg,Int.reduceEq,Int.reduceBEq,Int.reduceBNe,Int.reduceToNat,Nat.reduceDiv,Nat.reduceMod,rowsF_length,rowsS_length,hs,h4,hf,h20,hb]
  refine loop_on (fun i : Nat => ⟨[.dead,.cref 1 0,.v (vB false),.dead,.dead,.dead,.dead,.dead,.dead,.dead,.dead,.dead,.dead,.dead,.dead,.dead,.dead,.dead,.dead,.dead,.dead,.own 9 (rowsS frN),.v (vI 3),.v (vI i),.dead,.dead,.dead,.dead,.dead,.dead,.dead,.dead,.dead,.dead,.dead,.dead,.dead,.dead,.dead,.dead,.dead,.dead,.dead,.dead,.dead,.dead,.dead,.dead,.dead,.dead,.dead,.dead,.dead,.dead,.dead,.dead,.dead,.dead,.dead,.dead,.dead,.dead,.dead,.dead,.dead,.dead,.dead,.dead,.dead,.dead,.dead,.dead,.dead,.dead,.dead,.dead,.dead,.dead,.dead,.dead,.dead,.dead,.dead,.dead,.dead,.dead,.dead,.dead,.dead,.dead,.dead,.dead,.dead,.dead,.dead,.dead,.dead],[none,some [.v (vS me),.v (vS ta),.v (vI st),.v (vS re),.v (vB ba),.imm 51 (rowsF l),.v (vS bo)],none,none,none,none,none,none,none,none,none,none,none,none,none,none,none,none,none,none,none,none,none,none,none,none,none,none,none,none,none,none,none,none,none,none,none,none,none,none,none,none,none,none,none,none,none,none,none,none,none,none,none,none,none,none,none,none,none,none,none,none,none,none,none,none,none,none,none,none,none,none,none,none,none,none,none,none,none,none,none,none,none,none,none,none,none,none,none,none,none,none,none,none,none,none,none]⟩) [1,2,21,22,23] (fun i => i ≤ 3) (fun i => 3 - i) 0 rfl (by omega) ?_
  intro i hi
  simp only [f16,go_sem,cfg,Nat.reduceLeDiff,Nat.reduceLT,Nat.reduceAdd,Nat.reduceSub,Nat.reduceMul,Nat.reduceBEq,Nat.reduceBNe,Nat.reduceEqDiff,reduceCtorEq,reduceIte,Int.reduceLT,Int.reduceLE,Int.reduceAdd,Int.reduceSub,Int.reduceNeg,Int.reduceEq,Int.reduceBEq,Int.reduceBNe,Int.reduceToNat,Nat.reduceDiv,Nat.reduceMod,rowsF_length,rowsS_length,hs,h4,hf,h20,hb]
  refine Or.elim (Classical.em (i < 3)) (fun hc => ?_) fun hc => ?_
  · have hx := hno i hc
    unfold hasF at hx
    have hw : IntKind.i64.wrap ((i : Int) + 1) = ((i + 1 : Nat) : Int) := by rw [IntKind.wrap_i64]; omega
    have hc1 : (i : Int) < 3 := by omega
    have hc2 : i < frN.length := by show i < 3; omega
    have g1 := rowsS_getD hc2
    simp only [f16,go_sem,cfg,Nat.reduceLeDiff,Nat.reduceLT,Nat.reduceAdd,Nat.reduceSub,Nat.reduceMul,Nat.reduceBEq,Nat.reduceBNe,Nat.reduceEqDiff,reduceCtorEq,reduceIte,Int.reduceLT,Int.reduceLE,Int.reduceAdd,Int.reduceSub,Int.reduceNeg,Int.reduceEq,Int.reduceBEq,Int.reduceBNe,Int.reduceToNat,Nat.reduceDiv,Nat.reduceMod,rowsF_length,rowsS_length,hc1,hc2,g1]
    refine ev_call (c38 l hl (frN.getD i []) (frN_len (by omega)) hf) (retW0 rfl rfl rfl rfl) ?_
    simp only [f16,go_sem,cfg,Nat.reduceLeDiff,Nat.reduceLT,Nat.reduceAdd,Nat.reduceSub,Nat.reduceMul,Nat.reduceBEq,Nat.reduceBNe,Nat.reduceEqDiff,reduceCtorEq,reduceIte,Int.reduceLT,Int.reduceLE,Int.reduceAdd,Int.reduceSub,Int.reduceNeg,Int.reduceEq,Int.reduceBEq,Int.reduceBNe,Int.reduceToNat,Nat.reduceDiv,Nat.reduceMod,rowsF_length,rowsS_length,hx,hw]
    first | exact ⟨i + 1,rfl,hc,by omega⟩ | trace_state
  · have he : i = 3 := by omega
    subst he
    simp only [f16,go_sem,cfg,Nat.reduceLeDiff,Nat.reduceLT,Nat.reduceAdd,Nat.reduceSub,Nat.reduceMul,Nat.reduceBEq,Nat.reduceBNe,Nat.reduceEqDiff,reduceCtorEq,reduceIte,Int.reduceLT,Int.reduceLE,Int.reduceAdd,Int.reduceSub,Int.reduceNeg,Int.reduceEq,Int.reduceBEq,Int.reduceBNe,Int.reduceToNat,Nat.reduceDiv,Nat.reduceMod,rowsF_length,rowsS_length,hs,h4,hf,h20,hb,hm,r1,r2,r3,r4,r5]
    refine ev_call (c39 _ h1) (retW0 rfl rfl rfl rfl) ?_
    simp only [f16,go_sem,cfg,Nat.reduceLeDiff,Nat.reduceLT,Nat.reduceAdd,Nat.reduceSub,Nat.reduceMul,Nat.reduceBEq,Nat.reduceBNe,Nat.reduceEqDiff,reduceCtorEq,reduceIte,Int.reduceLT,Int.reduceLE,Int.reduceAdd,Int.reduceSub,Int.reduceNeg,Int.reduceEq,Int.reduceBEq,Int.reduceBNe,Int.reduceToNat,Nat.reduceDiv,Nat.reduceMod,rowsF_length,rowsS_length,hs,h4,hf,h20,hb,hm,r1,r2,r3,r4,r5]
    refine ev_call (c40 _ h2) (retW0 rfl rfl rfl rfl) ?_
    simp only [f16,go_sem,cfg,Nat.reduceLeDiff,Nat.reduceLT,Nat.reduceAdd,Nat.reduceSub,Nat.reduceMul,Nat.reduceBEq,Nat.reduceBNe,Nat.reduceEqDiff,reduceCtorEq,reduceIte,Int.reduceLT,Int.reduceLE,Int.reduceAdd,Int.reduceSub,Int.reduceNeg,Int.reduceEq,Int.reduceBEq,Int.reduceBNe,Int.reduceToNat,Nat.reduceDiv,Nat.reduceMod,rowsF_length,rowsS_length,hs,h4,hf,h20,hb,hm,r1,r2,r3,r4,r5]
    try (with_reducible intro _)
    try simp only [f16,go_sem,cfg,Nat.reduceLeDiff,Nat.reduceLT,Nat.reduceAdd,Nat.reduceSub,Nat.reduceMul,Nat.reduceBEq,Nat.reduceBNe,Nat.reduceEqDiff,reduceCtorEq,reduceIte,Int.reduceLT,Int.reduceLE,Int.reduceAdd,Int.reduceSub,Int.reduceNeg,Int.reduceEq,Int.reduceBEq,Int.reduceBNe,Int.reduceToNat,Nat.reduceDiv,Nat.reduceMod,rowsF_length,rowsS_length,hs,h4,hf,h20,hb,hm,r1,r2,r3,r4,r5]
    first | exact fin0 (.inr rfl) rfl rfl rfl rfl | trace_state
theorem c16j (me ta : List UInt8) (st : Int) (re : List UInt8) (ba : Bool) (l : List Fld) (bo : List UInt8) (h1 : me.length ≤ 9223372036854775807) (h2 : ta.length ≤ 9223372036854775807) (h3 : re.length ≤ 9223372036854775807) (h4 : bo.length ≤ 9223372036854775807) (hl : Small l) (hf : fieldsB l = true) (h20 : ¬ (20 : Int) ≤ (l.length : Int)) (hb : ¬ (600 : Int) < (bo.length : Int)) (hno : ∀ i,i < 3 → hasF (frN.getD i []) l = false) (hm : (me == []) = false) (r1 : (tokenI me && decide (me.length ≤ 20)) = true) (r2 : targetB ta = true) (r3 : (st != 0) = false) (r4 : (re == []) = true) (r5 : ba = false) (H : List UInt8) (hH : H.length ≤ 9223372036854775807) (hd : Sem prog 44 ⟨[.agg [.v (vS me),.v (vS ta),.v (vI st),.v (vS re),.v (vB ba),.imm 51 (rowsF l),.v (vS bo)]],[none]⟩ ⟨[.dead,.v (vS H)],[none,none]⟩) : Sem prog 16 ⟨[.agg [.v (vS me),.v (vS ta),.v (vI st),.v (vS re),.v (vB ba),.imm 51 (rowsF l),.v (vS bo)]],[none]⟩ ⟨[.dead,.v (vB (decide ((H.length : Int) ≤ 1500)))],[none]⟩ := by
  refine sem_fin (cfg := cfg 1) (ts := [.tm 2]) tbOk func16 rfl rfl rfl rfl (fun t h => by cases h) ?_
  have hs : l.length ≤ 9223372036854775807 := hl.1
  simp only [f16,go_sem,cfg,Nat.reduceLeDiff,Nat.reduceLT,Nat.reduceAdd,Nat.reduceSub,Nat.reduceMul,Nat.reduceBEq,Nat.reduceBNe,Nat.reduceEqDiff,reduceCtorEq,reduceIte,Int.reduceLT,Int.reduceLE,Int.reduceAdd,Int.reduceSub,Int.reduceNeg,Int.reduceEq,Int.reduceBEq,Int.reduceBNe,Int.reduceToNat,Nat.reduceDiv,Nat.reduceMod,rowsF_length,rowsS_length,hs,h4,hf,h20,hb]
  try (with_reducible intro _)
  try simp only [f16,go_sem,cfg,Nat.reduceLeDiff,Nat.reduceLT,Nat.reduceAdd,Nat.reduceSub,Nat.reduceMul,Nat.reduceBEq,Nat.reduceBNe,Nat.reduceEqDiff,reduceCtorEq,reduceIte,Int.reduceLT,Int.reduceLE,Int.reduceAdd,Int.reduceSub,Int.reduceNeg,Int.reduceEq,Int.reduceBEq,Int.reduceBNe,Int.reduceToNat,Nat.reduceDiv,Nat.reduceMod,rowsF_length,rowsS_length,hs,h4,hf,h20,hb]
  refine ev_call (c36 l hl) (retW0 rfl rfl rfl rfl) ?_
  simp only [f16,go_sem,cfg,Nat.reduceLeDiff,Nat.reduceLT,Nat.reduceAdd,Nat.reduceSub,Nat.reduceMul,Nat.reduceBEq,Nat.reduceBNe,Nat.reduceEqDiff,reduceCtorEq,reduceIte,Int.reduceLT,Int.reduceLE,Int.reduceAdd,Int.reduceSub,Int.reduceNeg,Int.reduceEq,Int.reduceBEq,Int.reduceBNe,Int.reduceToNat,Nat.reduceDiv,Nat.reduceMod,rowsF_length,rowsS_length,hs,h4,hf,h20,hb]
  try (with_reducible intro _)
  try simp only [f16,go_sem,cfg,Nat.reduceLeDiff,Nat.reduceLT,Nat.reduceAdd,Nat.reduceSub,Nat.reduceMul,Nat.reduceBEq,Nat.reduceBNe,Nat.reduceEqDiff,reduceCtorEq,reduceIte,Int.reduceLT,Int.reduceLE,Int.reduceAdd,Int.reduceSub,Int.reduceNeg,Int.reduceEq,Int.reduceBEq,Int.reduceBNe,Int.reduceToNat,Nat.reduceDiv,Nat.reduceMod,rowsF_length,rowsS_length,hs,h4,hf,h20,hb]
  refine ev_call (c37) (retW0 rfl rfl rfl rfl) ?_
  simp only [f16,go_sem,cfg,Nat.reduceLeDiff,Nat.reduceLT,Nat.reduceAdd,Nat.reduceSub,Nat.reduceMul,Nat.reduceBEq,Nat.reduceBNe,Nat.reduceEqDiff,reduceCtorEq,reduceIte,Int.reduceLT,Int.reduceLE,Int.reduceAdd,Int.reduceSub,Int.reduceNeg,Int.reduceEq,Int.reduceBEq,Int.reduceBNe,Int.reduceToNat,Nat.reduceDiv,Nat.reduceMod,rowsF_length,rowsS_length,hs,h4,hf,h20,hb]
  try (with_reducible intro _)
  try simp only [f16,go_sem,cfg,Nat.reduceLeDiff,Nat.reduceLT,Nat.reduceAdd,Nat.reduceSub,Nat.reduceMul,Nat.reduceBEq,Nat.reduceBNe,Nat.reduceEqDiff,reduceCtorEq,reduceIte,Int.reduceLT,Int.reduceLE,Int.reduceAdd,Int.reduceSub,Int.reduceNeg,Int.reduceEq,Int.reduceBEq,Int.reduceBNe,Int.reduceToNat,Nat.reduceDiv,Nat.reduceMod,rowsF_length,rowsS_length,hs,h4,hf,h20,hb]
  refine loop_on (fun i : Nat => ⟨[.dead,.cref 1 0,.v (vB false),.dead,.dead,.dead,.dead,.dead,.dead,.dead,.dead,.dead,.dead,.dead,.dead,.dead,.dead,.dead,.dead,.dead,.dead,.own 9 (rowsS frN),.v (vI 3),.v (vI i),.dead,.dead,.dead,.dead,.dead,.dead,.dead,.dead,.dead,.dead,.dead,.dead,.dead,.dead,.dead,.dead,.dead,.dead,.dead,.dead,.dead,.dead,.dead,.dead,.dead,.dead,.dead,.dead,.dead,.dead,.dead,.dead,.dead,.dead,.dead,.dead,.dead,.dead,.dead,.dead,.dead,.dead,.dead,.dead,.dead,.dead,.dead,.dead,.dead,.dead,.dead,.dead,.dead,.dead,.dead,.dead,.dead,.dead,.dead,.dead,.dead,.dead,.dead,.dead,.dead,.dead,.dead,.dead,.dead,.dead,.dead,.dead,.dead],[none,some [.v (vS me),.v (vS ta),.v (vI st),.v (vS re),.v (vB ba),.imm 51 (rowsF l),.v (vS bo)],none,none,none,none,none,none,none,none,none,none,none,none,none,none,none,none,none,none,none,none,none,none,none,none,none,none,none,none,none,none,none,none,none,none,none,none,none,none,none,none,none,none,none,none,none,none,none,none,none,none,none,none,none,none,none,none,none,none,none,none,none,none,none,none,none,none,none,none,none,none,none,none,none,none,none,none,none,none,none,none,none,none,none,none,none,none,none,none,none,none,none,none,none,none,none]⟩) [1,2,21,22,23] (fun i => i ≤ 3) (fun i => 3 - i) 0 rfl (by omega) ?_
  intro i hi
  simp only [f16,go_sem,cfg,Nat.reduceLeDiff,Nat.reduceLT,Nat.reduceAdd,Nat.reduceSub,Nat.reduceMul,Nat.reduceBEq,Nat.reduceBNe,Nat.reduceEqDiff,reduceCtorEq,reduceIte,Int.reduceLT,Int.reduceLE,Int.reduceAdd,Int.reduceSub,Int.reduceNeg,Int.reduceEq,Int.reduceBEq,Int.reduceBNe,Int.reduceToNat,Nat.reduceDiv,Nat.reduceMod,rowsF_length,rowsS_length,hs,h4,hf,h20,hb]
  refine Or.elim (Classical.em (i < 3)) (fun hc => ?_) fun hc => ?_
  · have hx := hno i hc
    unfold hasF at hx
    have hw : IntKind.i64.wrap ((i : Int) + 1) = ((i + 1 : Nat) : Int) := by rw [IntKind.wrap_i64]; omega
    have hc1 : (i : Int) < 3 := by omega
    have hc2 : i < frN.length := by show i < 3; omega
    have g1 := rowsS_getD hc2
    simp only [f16,go_sem,cfg,Nat.reduceLeDiff,Nat.reduceLT,Nat.reduceAdd,Nat.reduceSub,Nat.reduceMul,Nat.reduceBEq,Nat.reduceBNe,Nat.reduceEqDiff,reduceCtorEq,reduceIte,Int.reduceLT,Int.reduceLE,Int.reduceAdd,Int.reduceSub,Int.reduceNeg,Int.reduceEq,Int.reduceBEq,Int.reduceBNe,Int.reduceToNat,Nat.reduceDiv,Nat.reduceMod,rowsF_length,rowsS_length,hc1,hc2,g1]
    refine ev_call (c38 l hl (frN.getD i []) (frN_len (by omega)) hf) (retW0 rfl rfl rfl rfl) ?_
    simp only [f16,go_sem,cfg,Nat.reduceLeDiff,Nat.reduceLT,Nat.reduceAdd,Nat.reduceSub,Nat.reduceMul,Nat.reduceBEq,Nat.reduceBNe,Nat.reduceEqDiff,reduceCtorEq,reduceIte,Int.reduceLT,Int.reduceLE,Int.reduceAdd,Int.reduceSub,Int.reduceNeg,Int.reduceEq,Int.reduceBEq,Int.reduceBNe,Int.reduceToNat,Nat.reduceDiv,Nat.reduceMod,rowsF_length,rowsS_length,hx,hw]
    first | exact ⟨i + 1,rfl,hc,by omega⟩ | trace_state
  · have he : i = 3 := by omega
    subst he
    simp only [f16,go_sem,cfg,Nat.reduceLeDiff,Nat.reduceLT,Nat.reduceAdd,Nat.reduceSub,Nat.reduceMul,Nat.reduceBEq,Nat.reduceBNe,Nat.reduceEqDiff,reduceCtorEq,reduceIte,Int.reduceLT,Int.reduceLE,Int.reduceAdd,Int.reduceSub,Int.reduceNeg,Int.reduceEq,Int.reduceBEq,Int.reduceBNe,Int.reduceToNat,Nat.reduceDiv,Nat.reduceMod,rowsF_length,rowsS_length,hs,h4,hf,h20,hb,hm,r1,r2,r3,r4,r5,hH]
    refine ev_call (c39 _ h1) (retW0 rfl rfl rfl rfl) ?_
    simp only [f16,go_sem,cfg,Nat.reduceLeDiff,Nat.reduceLT,Nat.reduceAdd,Nat.reduceSub,Nat.reduceMul,Nat.reduceBEq,Nat.reduceBNe,Nat.reduceEqDiff,reduceCtorEq,reduceIte,Int.reduceLT,Int.reduceLE,Int.reduceAdd,Int.reduceSub,Int.reduceNeg,Int.reduceEq,Int.reduceBEq,Int.reduceBNe,Int.reduceToNat,Nat.reduceDiv,Nat.reduceMod,rowsF_length,rowsS_length,hs,h4,hf,h20,hb,hm,r1,r2,r3,r4,r5,hH]
    refine ev_call (c40 _ h2) (retW0 rfl rfl rfl rfl) ?_
    simp only [f16,go_sem,cfg,Nat.reduceLeDiff,Nat.reduceLT,Nat.reduceAdd,Nat.reduceSub,Nat.reduceMul,Nat.reduceBEq,Nat.reduceBNe,Nat.reduceEqDiff,reduceCtorEq,reduceIte,Int.reduceLT,Int.reduceLE,Int.reduceAdd,Int.reduceSub,Int.reduceNeg,Int.reduceEq,Int.reduceBEq,Int.reduceBNe,Int.reduceToNat,Nat.reduceDiv,Nat.reduceMod,rowsF_length,rowsS_length,hs,h4,hf,h20,hb,hm,r1,r2,r3,r4,r5,hH]
    refine ev_call ((by rw [r5] at hd; exact hd : Sem prog 44 ⟨[.agg [.v (vS me),.v (vS ta),.v (vI st),.v (vS re),.v (vB false),.imm 51 (rowsF l),.v (vS bo)]],[none]⟩ ⟨[.dead,.v (vS H)],[none,none]⟩)) (retW0 rfl rfl rfl rfl) ?_
    simp only [f16,go_sem,cfg,Nat.reduceLeDiff,Nat.reduceLT,Nat.reduceAdd,Nat.reduceSub,Nat.reduceMul,Nat.reduceBEq,Nat.reduceBNe,Nat.reduceEqDiff,reduceCtorEq,reduceIte,Int.reduceLT,Int.reduceLE,Int.reduceAdd,Int.reduceSub,Int.reduceNeg,Int.reduceEq,Int.reduceBEq,Int.reduceBNe,Int.reduceToNat,Nat.reduceDiv,Nat.reduceMod,rowsF_length,rowsS_length,hs,h4,hf,h20,hb,hm,r1,r2,r3,r4,r5,hH]
    try (with_reducible intro _)
    try simp only [f16,go_sem,cfg,Nat.reduceLeDiff,Nat.reduceLT,Nat.reduceAdd,Nat.reduceSub,Nat.reduceMul,Nat.reduceBEq,Nat.reduceBNe,Nat.reduceEqDiff,reduceCtorEq,reduceIte,Int.reduceLT,Int.reduceLE,Int.reduceAdd,Int.reduceSub,Int.reduceNeg,Int.reduceEq,Int.reduceBEq,Int.reduceBNe,Int.reduceToNat,Nat.reduceDiv,Nat.reduceMod,rowsF_length,rowsS_length,hs,h4,hf,h20,hb,hm,r1,r2,r3,r4,r5,hH]
    first | exact fin0 (.inr rfl) rfl rfl rfl rfl | trace_state
theorem c16k (me ta : List UInt8) (st : Int) (re : List UInt8) (ba : Bool) (l : List Fld) (bo : List UInt8) (h1 : me.length ≤ 9223372036854775807) (h2 : ta.length ≤ 9223372036854775807) (h3 : re.length ≤ 9223372036854775807) (h4 : bo.length ≤ 9223372036854775807) (hl : Small l) (hf : fieldsB l = true) (h20 : ¬ (20 : Int) ≤ (l.length : Int)) (hb : ¬ (600 : Int) < (bo.length : Int)) (hno : ∀ i,i < 3 → hasF (frN.getD i []) l = false) (hm : (me == []) = true) (r1 : (ta == []) = false) : Sem prog 16 ⟨[.agg [.v (vS me),.v (vS ta),.v (vI st),.v (vS re),.v (vB ba),.imm 51 (rowsF l),.v (vS bo)]],[none]⟩ ⟨[.dead,.v (vB (false))],[none]⟩ := by
  refine sem_fin (cfg := cfg 1) (ts := [.tm 2]) tbOk func16 rfl rfl rfl rfl (fun t h => by cases h) ?_
  have hs : l.length ≤ 9223372036854775807 := hl.1
  simp only [f16,go_sem,cfg,Nat.reduceLeDiff,Nat.reduceLT,Nat.reduceAdd,Nat.reduceSub,Nat.reduceMul,Nat.reduceBEq,Nat.reduceBNe,Nat.reduceEqDiff,reduceCtorEq,reduceIte,Int.reduceLT,Int.reduceLE,Int.reduceAdd,Int.reduceSub,Int.reduceNeg,Int.reduceEq,Int.reduceBEq,Int.reduceBNe,Int.reduceToNat,Nat.reduceDiv,Nat.reduceMod,rowsF_length,rowsS_length,hs,h4,hf,h20,hb]
  try (with_reducible intro _)
  try simp only [f16,go_sem,cfg,Nat.reduceLeDiff,Nat.reduceLT,Nat.reduceAdd,Nat.reduceSub,Nat.reduceMul,Nat.reduceBEq,Nat.reduceBNe,Nat.reduceEqDiff,reduceCtorEq,reduceIte,Int.reduceLT,Int.reduceLE,Int.reduceAdd,Int.reduceSub,Int.reduceNeg,Int.reduceEq,Int.reduceBEq,Int.reduceBNe,Int.reduceToNat,Nat.reduceDiv,Nat.reduceMod,rowsF_length,rowsS_length,hs,h4,hf,h20,hb]
  refine ev_call (c36 l hl) (retW0 rfl rfl rfl rfl) ?_
  simp only [f16,go_sem,cfg,Nat.reduceLeDiff,Nat.reduceLT,Nat.reduceAdd,Nat.reduceSub,Nat.reduceMul,Nat.reduceBEq,Nat.reduceBNe,Nat.reduceEqDiff,reduceCtorEq,reduceIte,Int.reduceLT,Int.reduceLE,Int.reduceAdd,Int.reduceSub,Int.reduceNeg,Int.reduceEq,Int.reduceBEq,Int.reduceBNe,Int.reduceToNat,Nat.reduceDiv,Nat.reduceMod,rowsF_length,rowsS_length,hs,h4,hf,h20,hb]
  try (with_reducible intro _)
  try simp only [f16,go_sem,cfg,Nat.reduceLeDiff,Nat.reduceLT,Nat.reduceAdd,Nat.reduceSub,Nat.reduceMul,Nat.reduceBEq,Nat.reduceBNe,Nat.reduceEqDiff,reduceCtorEq,reduceIte,Int.reduceLT,Int.reduceLE,Int.reduceAdd,Int.reduceSub,Int.reduceNeg,Int.reduceEq,Int.reduceBEq,Int.reduceBNe,Int.reduceToNat,Nat.reduceDiv,Nat.reduceMod,rowsF_length,rowsS_length,hs,h4,hf,h20,hb]
  refine ev_call (c37) (retW0 rfl rfl rfl rfl) ?_
  simp only [f16,go_sem,cfg,Nat.reduceLeDiff,Nat.reduceLT,Nat.reduceAdd,Nat.reduceSub,Nat.reduceMul,Nat.reduceBEq,Nat.reduceBNe,Nat.reduceEqDiff,reduceCtorEq,reduceIte,Int.reduceLT,Int.reduceLE,Int.reduceAdd,Int.reduceSub,Int.reduceNeg,Int.reduceEq,Int.reduceBEq,Int.reduceBNe,Int.reduceToNat,Nat.reduceDiv,Nat.reduceMod,rowsF_length,rowsS_length,hs,h4,hf,h20,hb]
  try (with_reducible intro _)
  try simp only [f16,go_sem,cfg,Nat.reduceLeDiff,Nat.reduceLT,Nat.reduceAdd,Nat.reduceSub,Nat.reduceMul,Nat.reduceBEq,Nat.reduceBNe,Nat.reduceEqDiff,reduceCtorEq,reduceIte,Int.reduceLT,Int.reduceLE,Int.reduceAdd,Int.reduceSub,Int.reduceNeg,Int.reduceEq,Int.reduceBEq,Int.reduceBNe,Int.reduceToNat,Nat.reduceDiv,Nat.reduceMod,rowsF_length,rowsS_length,hs,h4,hf,h20,hb]
  refine loop_on (fun i : Nat => ⟨[.dead,.cref 1 0,.v (vB false),.dead,.dead,.dead,.dead,.dead,.dead,.dead,.dead,.dead,.dead,.dead,.dead,.dead,.dead,.dead,.dead,.dead,.dead,.own 9 (rowsS frN),.v (vI 3),.v (vI i),.dead,.dead,.dead,.dead,.dead,.dead,.dead,.dead,.dead,.dead,.dead,.dead,.dead,.dead,.dead,.dead,.dead,.dead,.dead,.dead,.dead,.dead,.dead,.dead,.dead,.dead,.dead,.dead,.dead,.dead,.dead,.dead,.dead,.dead,.dead,.dead,.dead,.dead,.dead,.dead,.dead,.dead,.dead,.dead,.dead,.dead,.dead,.dead,.dead,.dead,.dead,.dead,.dead,.dead,.dead,.dead,.dead,.dead,.dead,.dead,.dead,.dead,.dead,.dead,.dead,.dead,.dead,.dead,.dead,.dead,.dead,.dead,.dead],[none,some [.v (vS me),.v (vS ta),.v (vI st),.v (vS re),.v (vB ba),.imm 51 (rowsF l),.v (vS bo)],none,none,none,none,none,none,none,none,none,none,none,none,none,none,none,none,none,none,none,none,none,none,none,none,none,none,none,none,none,none,none,none,none,none,none,none,none,none,none,none,none,none,none,none,none,none,none,none,none,none,none,none,none,none,none,none,none,none,none,none,none,none,none,none,none,none,none,none,none,none,none,none,none,none,none,none,none,none,none,none,none,none,none,none,none,none,none,none,none,none,none,none,none,none,none]⟩) [1,2,21,22,23] (fun i => i ≤ 3) (fun i => 3 - i) 0 rfl (by omega) ?_
  intro i hi
  simp only [f16,go_sem,cfg,Nat.reduceLeDiff,Nat.reduceLT,Nat.reduceAdd,Nat.reduceSub,Nat.reduceMul,Nat.reduceBEq,Nat.reduceBNe,Nat.reduceEqDiff,reduceCtorEq,reduceIte,Int.reduceLT,Int.reduceLE,Int.reduceAdd,Int.reduceSub,Int.reduceNeg,Int.reduceEq,Int.reduceBEq,Int.reduceBNe,Int.reduceToNat,Nat.reduceDiv,Nat.reduceMod,rowsF_length,rowsS_length,hs,h4,hf,h20,hb]
  refine Or.elim (Classical.em (i < 3)) (fun hc => ?_) fun hc => ?_
  · have hx := hno i hc
    unfold hasF at hx
    have hw : IntKind.i64.wrap ((i : Int) + 1) = ((i + 1 : Nat) : Int) := by rw [IntKind.wrap_i64]; omega
    have hc1 : (i : Int) < 3 := by omega
    have hc2 : i < frN.length := by show i < 3; omega
    have g1 := rowsS_getD hc2
    simp only [f16,go_sem,cfg,Nat.reduceLeDiff,Nat.reduceLT,Nat.reduceAdd,Nat.reduceSub,Nat.reduceMul,Nat.reduceBEq,Nat.reduceBNe,Nat.reduceEqDiff,reduceCtorEq,reduceIte,Int.reduceLT,Int.reduceLE,Int.reduceAdd,Int.reduceSub,Int.reduceNeg,Int.reduceEq,Int.reduceBEq,Int.reduceBNe,Int.reduceToNat,Nat.reduceDiv,Nat.reduceMod,rowsF_length,rowsS_length,hc1,hc2,g1]
    refine ev_call (c38 l hl (frN.getD i []) (frN_len (by omega)) hf) (retW0 rfl rfl rfl rfl) ?_
    simp only [f16,go_sem,cfg,Nat.reduceLeDiff,Nat.reduceLT,Nat.reduceAdd,Nat.reduceSub,Nat.reduceMul,Nat.reduceBEq,Nat.reduceBNe,Nat.reduceEqDiff,reduceCtorEq,reduceIte,Int.reduceLT,Int.reduceLE,Int.reduceAdd,Int.reduceSub,Int.reduceNeg,Int.reduceEq,Int.reduceBEq,Int.reduceBNe,Int.reduceToNat,Nat.reduceDiv,Nat.reduceMod,rowsF_length,rowsS_length,hx,hw]
    first | exact ⟨i + 1,rfl,hc,by omega⟩ | trace_state
  · have he : i = 3 := by omega
    subst he
    simp only [f16,go_sem,cfg,Nat.reduceLeDiff,Nat.reduceLT,Nat.reduceAdd,Nat.reduceSub,Nat.reduceMul,Nat.reduceBEq,Nat.reduceBNe,Nat.reduceEqDiff,reduceCtorEq,reduceIte,Int.reduceLT,Int.reduceLE,Int.reduceAdd,Int.reduceSub,Int.reduceNeg,Int.reduceEq,Int.reduceBEq,Int.reduceBNe,Int.reduceToNat,Nat.reduceDiv,Nat.reduceMod,rowsF_length,rowsS_length,hs,h4,hf,h20,hb,hm,r1]
    try (with_reducible intro _)
    try simp only [f16,go_sem,cfg,Nat.reduceLeDiff,Nat.reduceLT,Nat.reduceAdd,Nat.reduceSub,Nat.reduceMul,Nat.reduceBEq,Nat.reduceBNe,Nat.reduceEqDiff,reduceCtorEq,reduceIte,Int.reduceLT,Int.reduceLE,Int.reduceAdd,Int.reduceSub,Int.reduceNeg,Int.reduceEq,Int.reduceBEq,Int.reduceBNe,Int.reduceToNat,Nat.reduceDiv,Nat.reduceMod,rowsF_length,rowsS_length,hs,h4,hf,h20,hb,hm,r1]
    first | exact fin0 (.inr rfl) rfl rfl rfl rfl | trace_state
theorem c16l (me ta : List UInt8) (st : Int) (re : List UInt8) (ba : Bool) (l : List Fld) (bo : List UInt8) (h1 : me.length ≤ 9223372036854775807) (h2 : ta.length ≤ 9223372036854775807) (h3 : re.length ≤ 9223372036854775807) (h4 : bo.length ≤ 9223372036854775807) (hl : Small l) (hf : fieldsB l = true) (h20 : ¬ (20 : Int) ≤ (l.length : Int)) (hb : ¬ (600 : Int) < (bo.length : Int)) (hno : ∀ i,i < 3 → hasF (frN.getD i []) l = false) (hm : (me == []) = true) (r1 : (ta == []) = true) (r2 : statusB st = false) : Sem prog 16 ⟨[.agg [.v (vS me),.v (vS ta),.v (vI st),.v (vS re),.v (vB ba),.imm 51 (rowsF l),.v (vS bo)]],[none]⟩ ⟨[.dead,.v (vB (false))],[none]⟩ := by
  refine sem_fin (cfg := cfg 1) (ts := [.tm 2]) tbOk func16 rfl rfl rfl rfl (fun t h => by cases h) ?_
  have hs : l.length ≤ 9223372036854775807 := hl.1
  simp only [f16,go_sem,cfg,Nat.reduceLeDiff,Nat.reduceLT,Nat.reduceAdd,Nat.reduceSub,Nat.reduceMul,Nat.reduceBEq,Nat.reduceBNe,Nat.reduceEqDiff,reduceCtorEq,reduceIte,Int.reduceLT,Int.reduceLE,Int.reduceAdd,Int.reduceSub,Int.reduceNeg,Int.reduceEq,Int.reduceBEq,Int.reduceBNe,Int.reduceToNat,Nat.reduceDiv,Nat.reduceMod,rowsF_length,rowsS_length,hs,h4,hf,h20,hb]
  try (with_reducible intro _)
  try simp only [f16,go_sem,cfg,Nat.reduceLeDiff,Nat.reduceLT,Nat.reduceAdd,Nat.reduceSub,Nat.reduceMul,Nat.reduceBEq,Nat.reduceBNe,Nat.reduceEqDiff,reduceCtorEq,reduceIte,Int.reduceLT,Int.reduceLE,Int.reduceAdd,Int.reduceSub,Int.reduceNeg,Int.reduceEq,Int.reduceBEq,Int.reduceBNe,Int.reduceToNat,Nat.reduceDiv,Nat.reduceMod,rowsF_length,rowsS_length,hs,h4,hf,h20,hb]
  refine ev_call (c36 l hl) (retW0 rfl rfl rfl rfl) ?_
  simp only [f16,go_sem,cfg,Nat.reduceLeDiff,Nat.reduceLT,Nat.reduceAdd,Nat.reduceSub,Nat.reduceMul,Nat.reduceBEq,Nat.reduceBNe,Nat.reduceEqDiff,reduceCtorEq,reduceIte,Int.reduceLT,Int.reduceLE,Int.reduceAdd,Int.reduceSub,Int.reduceNeg,Int.reduceEq,Int.reduceBEq,Int.reduceBNe,Int.reduceToNat,Nat.reduceDiv,Nat.reduceMod,rowsF_length,rowsS_length,hs,h4,hf,h20,hb]
  try (with_reducible intro _)
  try simp only [f16,go_sem,cfg,Nat.reduceLeDiff,Nat.reduceLT,Nat.reduceAdd,Nat.reduceSub,Nat.reduceMul,Nat.reduceBEq,Nat.reduceBNe,Nat.reduceEqDiff,reduceCtorEq,reduceIte,Int.reduceLT,Int.reduceLE,Int.reduceAdd,Int.reduceSub,Int.reduceNeg,Int.reduceEq,Int.reduceBEq,Int.reduceBNe,Int.reduceToNat,Nat.reduceDiv,Nat.reduceMod,rowsF_length,rowsS_length,hs,h4,hf,h20,hb]
  refine ev_call (c37) (retW0 rfl rfl rfl rfl) ?_
  simp only [f16,go_sem,cfg,Nat.reduceLeDiff,Nat.reduceLT,Nat.reduceAdd,Nat.reduceSub,Nat.reduceMul,Nat.reduceBEq,Nat.reduceBNe,Nat.reduceEqDiff,reduceCtorEq,reduceIte,Int.reduceLT,Int.reduceLE,Int.reduceAdd,Int.reduceSub,Int.reduceNeg,Int.reduceEq,Int.reduceBEq,Int.reduceBNe,Int.reduceToNat,Nat.reduceDiv,Nat.reduceMod,rowsF_length,rowsS_length,hs,h4,hf,h20,hb]
  try (with_reducible intro _)
  try simp only [f16,go_sem,cfg,Nat.reduceLeDiff,Nat.reduceLT,Nat.reduceAdd,Nat.reduceSub,Nat.reduceMul,Nat.reduceBEq,Nat.reduceBNe,Nat.reduceEqDiff,reduceCtorEq,reduceIte,Int.reduceLT,Int.reduceLE,Int.reduceAdd,Int.reduceSub,Int.reduceNeg,Int.reduceEq,Int.reduceBEq,Int.reduceBNe,Int.reduceToNat,Nat.reduceDiv,Nat.reduceMod,rowsF_length,rowsS_length,hs,h4,hf,h20,hb]
  refine loop_on (fun i : Nat => ⟨[.dead,.cref 1 0,.v (vB false),.dead,.dead,.dead,.dead,.dead,.dead,.dead,.dead,.dead,.dead,.dead,.dead,.dead,.dead,.dead,.dead,.dead,.dead,.own 9 (rowsS frN),.v (vI 3),.v (vI i),.dead,.dead,.dead,.dead,.dead,.dead,.dead,.dead,.dead,.dead,.dead,.dead,.dead,.dead,.dead,.dead,.dead,.dead,.dead,.dead,.dead,.dead,.dead,.dead,.dead,.dead,.dead,.dead,.dead,.dead,.dead,.dead,.dead,.dead,.dead,.dead,.dead,.dead,.dead,.dead,.dead,.dead,.dead,.dead,.dead,.dead,.dead,.dead,.dead,.dead,.dead,.dead,.dead,.dead,.dead,.dead,.dead,.dead,.dead,.dead,.dead,.dead,.dead,.dead,.dead,.dead,.dead,.dead,.dead,.dead,.dead,.dead,.dead],[none,some [.v (vS me),.v (vS ta),.v (vI st),.v (vS re),.v (vB ba),.imm 51 (rowsF l),.v (vS bo)],none,none,none,none,none,none,none,none,none,none,none,none,none,none,none,none,none,none,none,none,none,none,none,none,none,none,none,none,none,none,none,none,none,none,none,none,none,none,none,none,none,none,none,none,none,none,none,none,none,none,none,none,none,none,none,none,none,none,none,none,none,none,none,none,none,none,none,none,none,none,none,none,none,none,none,none,none,none,none,none,none,none,none,none,none,none,none,none,none,none,none,none,none,none,none]⟩) [1,2,21,22,23] (fun i => i ≤ 3) (fun i => 3 - i) 0 rfl (by omega) ?_
  intro i hi
  simp only [f16,go_sem,cfg,Nat.reduceLeDiff,Nat.reduceLT,Nat.reduceAdd,Nat.reduceSub,Nat.reduceMul,Nat.reduceBEq,Nat.reduceBNe,Nat.reduceEqDiff,reduceCtorEq,reduceIte,Int.reduceLT,Int.reduceLE,Int.reduceAdd,Int.reduceSub,Int.reduceNeg,Int.reduceEq,Int.reduceBEq,Int.reduceBNe,Int.reduceToNat,Nat.reduceDiv,Nat.reduceMod,rowsF_length,rowsS_length,hs,h4,hf,h20,hb]
  refine Or.elim (Classical.em (i < 3)) (fun hc => ?_) fun hc => ?_
  · have hx := hno i hc
    unfold hasF at hx
    have hw : IntKind.i64.wrap ((i : Int) + 1) = ((i + 1 : Nat) : Int) := by rw [IntKind.wrap_i64]; omega
    have hc1 : (i : Int) < 3 := by omega
    have hc2 : i < frN.length := by show i < 3; omega
    have g1 := rowsS_getD hc2
    simp only [f16,go_sem,cfg,Nat.reduceLeDiff,Nat.reduceLT,Nat.reduceAdd,Nat.reduceSub,Nat.reduceMul,Nat.reduceBEq,Nat.reduceBNe,Nat.reduceEqDiff,reduceCtorEq,reduceIte,Int.reduceLT,Int.reduceLE,Int.reduceAdd,Int.reduceSub,Int.reduceNeg,Int.reduceEq,Int.reduceBEq,Int.reduceBNe,Int.reduceToNat,Nat.reduceDiv,Nat.reduceMod,rowsF_length,rowsS_length,hc1,hc2,g1]
    refine ev_call (c38 l hl (frN.getD i []) (frN_len (by omega)) hf) (retW0 rfl rfl rfl rfl) ?_
    simp only [f16,go_sem,cfg,Nat.reduceLeDiff,Nat.reduceLT,Nat.reduceAdd,Nat.reduceSub,Nat.reduceMul,Nat.reduceBEq,Nat.reduceBNe,Nat.reduceEqDiff,reduceCtorEq,reduceIte,Int.reduceLT,Int.reduceLE,Int.reduceAdd,Int.reduceSub,Int.reduceNeg,Int.reduceEq,Int.reduceBEq,Int.reduceBNe,Int.reduceToNat,Nat.reduceDiv,Nat.reduceMod,rowsF_length,rowsS_length,hx,hw]
    first | exact ⟨i + 1,rfl,hc,by omega⟩ | trace_state
  · have he : i = 3 := by omega
    subst he
    simp only [f16,go_sem,cfg,Nat.reduceLeDiff,Nat.reduceLT,Nat.reduceAdd,Nat.reduceSub,Nat.reduceMul,Nat.reduceBEq,Nat.reduceBNe,Nat.reduceEqDiff,reduceCtorEq,reduceIte,Int.reduceLT,Int.reduceLE,Int.reduceAdd,Int.reduceSub,Int.reduceNeg,Int.reduceEq,Int.reduceBEq,Int.reduceBNe,Int.reduceToNat,Nat.reduceDiv,Nat.reduceMod,rowsF_length,rowsS_length,hs,h4,hf,h20,hb,hm,r1,r2]
    refine ev_call (c41 _) (retW0 rfl rfl rfl rfl) ?_
    simp only [f16,go_sem,cfg,Nat.reduceLeDiff,Nat.reduceLT,Nat.reduceAdd,Nat.reduceSub,Nat.reduceMul,Nat.reduceBEq,Nat.reduceBNe,Nat.reduceEqDiff,reduceCtorEq,reduceIte,Int.reduceLT,Int.reduceLE,Int.reduceAdd,Int.reduceSub,Int.reduceNeg,Int.reduceEq,Int.reduceBEq,Int.reduceBNe,Int.reduceToNat,Nat.reduceDiv,Nat.reduceMod,rowsF_length,rowsS_length,hs,h4,hf,h20,hb,hm,r1,r2]
    try (with_reducible intro _)
    try simp only [f16,go_sem,cfg,Nat.reduceLeDiff,Nat.reduceLT,Nat.reduceAdd,Nat.reduceSub,Nat.reduceMul,Nat.reduceBEq,Nat.reduceBNe,Nat.reduceEqDiff,reduceCtorEq,reduceIte,Int.reduceLT,Int.reduceLE,Int.reduceAdd,Int.reduceSub,Int.reduceNeg,Int.reduceEq,Int.reduceBEq,Int.reduceBNe,Int.reduceToNat,Nat.reduceDiv,Nat.reduceMod,rowsF_length,rowsS_length,hs,h4,hf,h20,hb,hm,r1,r2]
    first | exact fin0 (.inr rfl) rfl rfl rfl rfl | trace_state
theorem c16m (me ta : List UInt8) (st : Int) (re : List UInt8) (ba : Bool) (l : List Fld) (bo : List UInt8) (h1 : me.length ≤ 9223372036854775807) (h2 : ta.length ≤ 9223372036854775807) (h3 : re.length ≤ 9223372036854775807) (h4 : bo.length ≤ 9223372036854775807) (hl : Small l) (hf : fieldsB l = true) (h20 : ¬ (20 : Int) ≤ (l.length : Int)) (hb : ¬ (600 : Int) < (bo.length : Int)) (hno : ∀ i,i < 3 → hasF (frN.getD i []) l = false) (hm : (me == []) = true) (r1 : (ta == []) = true) (r2 : statusB st = true) (r3 : reasonB re = false) : Sem prog 16 ⟨[.agg [.v (vS me),.v (vS ta),.v (vI st),.v (vS re),.v (vB ba),.imm 51 (rowsF l),.v (vS bo)]],[none]⟩ ⟨[.dead,.v (vB (false))],[none]⟩ := by
  refine sem_fin (cfg := cfg 1) (ts := [.tm 2]) tbOk func16 rfl rfl rfl rfl (fun t h => by cases h) ?_
  have hs : l.length ≤ 9223372036854775807 := hl.1
  simp only [f16,go_sem,cfg,Nat.reduceLeDiff,Nat.reduceLT,Nat.reduceAdd,Nat.reduceSub,Nat.reduceMul,Nat.reduceBEq,Nat.reduceBNe,Nat.reduceEqDiff,reduceCtorEq,reduceIte,Int.reduceLT,Int.reduceLE,Int.reduceAdd,Int.reduceSub,Int.reduceNeg,Int.reduceEq,Int.reduceBEq,Int.reduceBNe,Int.reduceToNat,Nat.reduceDiv,Nat.reduceMod,rowsF_length,rowsS_length,hs,h4,hf,h20,hb]
  try (with_reducible intro _)
  try simp only [f16,go_sem,cfg,Nat.reduceLeDiff,Nat.reduceLT,Nat.reduceAdd,Nat.reduceSub,Nat.reduceMul,Nat.reduceBEq,Nat.reduceBNe,Nat.reduceEqDiff,reduceCtorEq,reduceIte,Int.reduceLT,Int.reduceLE,Int.reduceAdd,Int.reduceSub,Int.reduceNeg,Int.reduceEq,Int.reduceBEq,Int.reduceBNe,Int.reduceToNat,Nat.reduceDiv,Nat.reduceMod,rowsF_length,rowsS_length,hs,h4,hf,h20,hb]
  refine ev_call (c36 l hl) (retW0 rfl rfl rfl rfl) ?_
  simp only [f16,go_sem,cfg,Nat.reduceLeDiff,Nat.reduceLT,Nat.reduceAdd,Nat.reduceSub,Nat.reduceMul,Nat.reduceBEq,Nat.reduceBNe,Nat.reduceEqDiff,reduceCtorEq,reduceIte,Int.reduceLT,Int.reduceLE,Int.reduceAdd,Int.reduceSub,Int.reduceNeg,Int.reduceEq,Int.reduceBEq,Int.reduceBNe,Int.reduceToNat,Nat.reduceDiv,Nat.reduceMod,rowsF_length,rowsS_length,hs,h4,hf,h20,hb]
  try (with_reducible intro _)
  try simp only [f16,go_sem,cfg,Nat.reduceLeDiff,Nat.reduceLT,Nat.reduceAdd,Nat.reduceSub,Nat.reduceMul,Nat.reduceBEq,Nat.reduceBNe,Nat.reduceEqDiff,reduceCtorEq,reduceIte,Int.reduceLT,Int.reduceLE,Int.reduceAdd,Int.reduceSub,Int.reduceNeg,Int.reduceEq,Int.reduceBEq,Int.reduceBNe,Int.reduceToNat,Nat.reduceDiv,Nat.reduceMod,rowsF_length,rowsS_length,hs,h4,hf,h20,hb]
  refine ev_call (c37) (retW0 rfl rfl rfl rfl) ?_
  simp only [f16,go_sem,cfg,Nat.reduceLeDiff,Nat.reduceLT,Nat.reduceAdd,Nat.reduceSub,Nat.reduceMul,Nat.reduceBEq,Nat.reduceBNe,Nat.reduceEqDiff,reduceCtorEq,reduceIte,Int.reduceLT,Int.reduceLE,Int.reduceAdd,Int.reduceSub,Int.reduceNeg,Int.reduceEq,Int.reduceBEq,Int.reduceBNe,Int.reduceToNat,Nat.reduceDiv,Nat.reduceMod,rowsF_length,rowsS_length,hs,h4,hf,h20,hb]
  try (with_reducible intro _)
  try simp only [f16,go_sem,cfg,Nat.reduceLeDiff,Nat.reduceLT,Nat.reduceAdd,Nat.reduceSub,Nat.reduceMul,Nat.reduceBEq,Nat.reduceBNe,Nat.reduceEqDiff,reduceCtorEq,reduceIte,Int.reduceLT,Int.reduceLE,Int.reduceAdd,Int.reduceSub,Int.reduceNeg,Int.reduceEq,Int.reduceBEq,Int.reduceBNe,Int.reduceToNat,Nat.reduceDiv,Nat.reduceMod,rowsF_length,rowsS_length,hs,h4,hf,h20,hb]
  refine loop_on (fun i : Nat => ⟨[.dead,.cref 1 0,.v (vB false),.dead,.dead,.dead,.dead,.dead,.dead,.dead,.dead,.dead,.dead,.dead,.dead,.dead,.dead,.dead,.dead,.dead,.dead,.own 9 (rowsS frN),.v (vI 3),.v (vI i),.dead,.dead,.dead,.dead,.dead,.dead,.dead,.dead,.dead,.dead,.dead,.dead,.dead,.dead,.dead,.dead,.dead,.dead,.dead,.dead,.dead,.dead,.dead,.dead,.dead,.dead,.dead,.dead,.dead,.dead,.dead,.dead,.dead,.dead,.dead,.dead,.dead,.dead,.dead,.dead,.dead,.dead,.dead,.dead,.dead,.dead,.dead,.dead,.dead,.dead,.dead,.dead,.dead,.dead,.dead,.dead,.dead,.dead,.dead,.dead,.dead,.dead,.dead,.dead,.dead,.dead,.dead,.dead,.dead,.dead,.dead,.dead,.dead],[none,some [.v (vS me),.v (vS ta),.v (vI st),.v (vS re),.v (vB ba),.imm 51 (rowsF l),.v (vS bo)],none,none,none,none,none,none,none,none,none,none,none,none,none,none,none,none,none,none,none,none,none,none,none,none,none,none,none,none,none,none,none,none,none,none,none,none,none,none,none,none,none,none,none,none,none,none,none,none,none,none,none,none,none,none,none,none,none,none,none,none,none,none,none,none,none,none,none,none,none,none,none,none,none,none,none,none,none,none,none,none,none,none,none,none,none,none,none,none,none,none,none,none,none,none,none]⟩) [1,2,21,22,23] (fun i => i ≤ 3) (fun i => 3 - i) 0 rfl (by omega) ?_
  intro i hi
  simp only [f16,go_sem,cfg,Nat.reduceLeDiff,Nat.reduceLT,Nat.reduceAdd,Nat.reduceSub,Nat.reduceMul,Nat.reduceBEq,Nat.reduceBNe,Nat.reduceEqDiff,reduceCtorEq,reduceIte,Int.reduceLT,Int.reduceLE,Int.reduceAdd,Int.reduceSub,Int.reduceNeg,Int.reduceEq,Int.reduceBEq,Int.reduceBNe,Int.reduceToNat,Nat.reduceDiv,Nat.reduceMod,rowsF_length,rowsS_length,hs,h4,hf,h20,hb]
  refine Or.elim (Classical.em (i < 3)) (fun hc => ?_) fun hc => ?_
  · have hx := hno i hc
    unfold hasF at hx
    have hw : IntKind.i64.wrap ((i : Int) + 1) = ((i + 1 : Nat) : Int) := by rw [IntKind.wrap_i64]; omega
    have hc1 : (i : Int) < 3 := by omega
    have hc2 : i < frN.length := by show i < 3; omega
    have g1 := rowsS_getD hc2
    simp only [f16,go_sem,cfg,Nat.reduceLeDiff,Nat.reduceLT,Nat.reduceAdd,Nat.reduceSub,Nat.reduceMul,Nat.reduceBEq,Nat.reduceBNe,Nat.reduceEqDiff,reduceCtorEq,reduceIte,Int.reduceLT,Int.reduceLE,Int.reduceAdd,Int.reduceSub,Int.reduceNeg,Int.reduceEq,Int.reduceBEq,Int.reduceBNe,Int.reduceToNat,Nat.reduceDiv,Nat.reduceMod,rowsF_length,rowsS_length,hc1,hc2,g1]
    refine ev_call (c38 l hl (frN.getD i []) (frN_len (by omega)) hf) (retW0 rfl rfl rfl rfl) ?_
    simp only [f16,go_sem,cfg,Nat.reduceLeDiff,Nat.reduceLT,Nat.reduceAdd,Nat.reduceSub,Nat.reduceMul,Nat.reduceBEq,Nat.reduceBNe,Nat.reduceEqDiff,reduceCtorEq,reduceIte,Int.reduceLT,Int.reduceLE,Int.reduceAdd,Int.reduceSub,Int.reduceNeg,Int.reduceEq,Int.reduceBEq,Int.reduceBNe,Int.reduceToNat,Nat.reduceDiv,Nat.reduceMod,rowsF_length,rowsS_length,hx,hw]
    first | exact ⟨i + 1,rfl,hc,by omega⟩ | trace_state
  · have he : i = 3 := by omega
    subst he
    simp only [f16,go_sem,cfg,Nat.reduceLeDiff,Nat.reduceLT,Nat.reduceAdd,Nat.reduceSub,Nat.reduceMul,Nat.reduceBEq,Nat.reduceBNe,Nat.reduceEqDiff,reduceCtorEq,reduceIte,Int.reduceLT,Int.reduceLE,Int.reduceAdd,Int.reduceSub,Int.reduceNeg,Int.reduceEq,Int.reduceBEq,Int.reduceBNe,Int.reduceToNat,Nat.reduceDiv,Nat.reduceMod,rowsF_length,rowsS_length,hs,h4,hf,h20,hb,hm,r1,r2,r3]
    refine ev_call (c41 _) (retW0 rfl rfl rfl rfl) ?_
    simp only [f16,go_sem,cfg,Nat.reduceLeDiff,Nat.reduceLT,Nat.reduceAdd,Nat.reduceSub,Nat.reduceMul,Nat.reduceBEq,Nat.reduceBNe,Nat.reduceEqDiff,reduceCtorEq,reduceIte,Int.reduceLT,Int.reduceLE,Int.reduceAdd,Int.reduceSub,Int.reduceNeg,Int.reduceEq,Int.reduceBEq,Int.reduceBNe,Int.reduceToNat,Nat.reduceDiv,Nat.reduceMod,rowsF_length,rowsS_length,hs,h4,hf,h20,hb,hm,r1,r2,r3]
    refine ev_call (c42 _ h3) (retW0 rfl rfl rfl rfl) ?_
    simp only [f16,go_sem,cfg,Nat.reduceLeDiff,Nat.reduceLT,Nat.reduceAdd,Nat.reduceSub,Nat.reduceMul,Nat.reduceBEq,Nat.reduceBNe,Nat.reduceEqDiff,reduceCtorEq,reduceIte,Int.reduceLT,Int.reduceLE,Int.reduceAdd,Int.reduceSub,Int.reduceNeg,Int.reduceEq,Int.reduceBEq,Int.reduceBNe,Int.reduceToNat,Nat.reduceDiv,Nat.reduceMod,rowsF_length,rowsS_length,hs,h4,hf,h20,hb,hm,r1,r2,r3]
    try (with_reducible intro _)
    try simp only [f16,go_sem,cfg,Nat.reduceLeDiff,Nat.reduceLT,Nat.reduceAdd,Nat.reduceSub,Nat.reduceMul,Nat.reduceBEq,Nat.reduceBNe,Nat.reduceEqDiff,reduceCtorEq,reduceIte,Int.reduceLT,Int.reduceLE,Int.reduceAdd,Int.reduceSub,Int.reduceNeg,Int.reduceEq,Int.reduceBEq,Int.reduceBNe,Int.reduceToNat,Nat.reduceDiv,Nat.reduceMod,rowsF_length,rowsS_length,hs,h4,hf,h20,hb,hm,r1,r2,r3]
    first | exact fin0 (.inr rfl) rfl rfl rfl rfl | trace_state
theorem c16n (me ta : List UInt8) (st : Int) (re : List UInt8) (ba : Bool) (l : List Fld) (bo : List UInt8) (h1 : me.length ≤ 9223372036854775807) (h2 : ta.length ≤ 9223372036854775807) (h3 : re.length ≤ 9223372036854775807) (h4 : bo.length ≤ 9223372036854775807) (hl : Small l) (hf : fieldsB l = true) (h20 : ¬ (20 : Int) ≤ (l.length : Int)) (hb : ¬ (600 : Int) < (bo.length : Int)) (hno : ∀ i,i < 3 → hasF (frN.getD i []) l = false) (hm : (me == []) = true) (r1 : (ta == []) = true) (r2 : statusB st = true) (r3 : reasonB re = true) (r4 : ba = true) (r5 : (bo == []) = false) : Sem prog 16 ⟨[.agg [.v (vS me),.v (vS ta),.v (vI st),.v (vS re),.v (vB ba),.imm 51 (rowsF l),.v (vS bo)]],[none]⟩ ⟨[.dead,.v (vB (false))],[none]⟩ := by
  refine sem_fin (cfg := cfg 1) (ts := [.tm 2]) tbOk func16 rfl rfl rfl rfl (fun t h => by cases h) ?_
  have hs : l.length ≤ 9223372036854775807 := hl.1
  simp only [f16,go_sem,cfg,Nat.reduceLeDiff,Nat.reduceLT,Nat.reduceAdd,Nat.reduceSub,Nat.reduceMul,Nat.reduceBEq,Nat.reduceBNe,Nat.reduceEqDiff,reduceCtorEq,reduceIte,Int.reduceLT,Int.reduceLE,Int.reduceAdd,Int.reduceSub,Int.reduceNeg,Int.reduceEq,Int.reduceBEq,Int.reduceBNe,Int.reduceToNat,Nat.reduceDiv,Nat.reduceMod,rowsF_length,rowsS_length,hs,h4,hf,h20,hb]
  try (with_reducible intro _)
  try simp only [f16,go_sem,cfg,Nat.reduceLeDiff,Nat.reduceLT,Nat.reduceAdd,Nat.reduceSub,Nat.reduceMul,Nat.reduceBEq,Nat.reduceBNe,Nat.reduceEqDiff,reduceCtorEq,reduceIte,Int.reduceLT,Int.reduceLE,Int.reduceAdd,Int.reduceSub,Int.reduceNeg,Int.reduceEq,Int.reduceBEq,Int.reduceBNe,Int.reduceToNat,Nat.reduceDiv,Nat.reduceMod,rowsF_length,rowsS_length,hs,h4,hf,h20,hb]
  refine ev_call (c36 l hl) (retW0 rfl rfl rfl rfl) ?_
  simp only [f16,go_sem,cfg,Nat.reduceLeDiff,Nat.reduceLT,Nat.reduceAdd,Nat.reduceSub,Nat.reduceMul,Nat.reduceBEq,Nat.reduceBNe,Nat.reduceEqDiff,reduceCtorEq,reduceIte,Int.reduceLT,Int.reduceLE,Int.reduceAdd,Int.reduceSub,Int.reduceNeg,Int.reduceEq,Int.reduceBEq,Int.reduceBNe,Int.reduceToNat,Nat.reduceDiv,Nat.reduceMod,rowsF_length,rowsS_length,hs,h4,hf,h20,hb]
  try (with_reducible intro _)
  try simp only [f16,go_sem,cfg,Nat.reduceLeDiff,Nat.reduceLT,Nat.reduceAdd,Nat.reduceSub,Nat.reduceMul,Nat.reduceBEq,Nat.reduceBNe,Nat.reduceEqDiff,reduceCtorEq,reduceIte,Int.reduceLT,Int.reduceLE,Int.reduceAdd,Int.reduceSub,Int.reduceNeg,Int.reduceEq,Int.reduceBEq,Int.reduceBNe,Int.reduceToNat,Nat.reduceDiv,Nat.reduceMod,rowsF_length,rowsS_length,hs,h4,hf,h20,hb]
  refine ev_call (c37) (retW0 rfl rfl rfl rfl) ?_
  simp only [f16,go_sem,cfg,Nat.reduceLeDiff,Nat.reduceLT,Nat.reduceAdd,Nat.reduceSub,Nat.reduceMul,Nat.reduceBEq,Nat.reduceBNe,Nat.reduceEqDiff,reduceCtorEq,reduceIte,Int.reduceLT,Int.reduceLE,Int.reduceAdd,Int.reduceSub,Int.reduceNeg,Int.reduceEq,Int.reduceBEq,Int.reduceBNe,Int.reduceToNat,Nat.reduceDiv,Nat.reduceMod,rowsF_length,rowsS_length,hs,h4,hf,h20,hb]
  try (with_reducible intro _)
  try simp only [f16,go_sem,cfg,Nat.reduceLeDiff,Nat.reduceLT,Nat.reduceAdd,Nat.reduceSub,Nat.reduceMul,Nat.reduceBEq,Nat.reduceBNe,Nat.reduceEqDiff,reduceCtorEq,reduceIte,Int.reduceLT,Int.reduceLE,Int.reduceAdd,Int.reduceSub,Int.reduceNeg,Int.reduceEq,Int.reduceBEq,Int.reduceBNe,Int.reduceToNat,Nat.reduceDiv,Nat.reduceMod,rowsF_length,rowsS_length,hs,h4,hf,h20,hb]
  refine loop_on (fun i : Nat => ⟨[.dead,.cref 1 0,.v (vB false),.dead,.dead,.dead,.dead,.dead,.dead,.dead,.dead,.dead,.dead,.dead,.dead,.dead,.dead,.dead,.dead,.dead,.dead,.own 9 (rowsS frN),.v (vI 3),.v (vI i),.dead,.dead,.dead,.dead,.dead,.dead,.dead,.dead,.dead,.dead,.dead,.dead,.dead,.dead,.dead,.dead,.dead,.dead,.dead,.dead,.dead,.dead,.dead,.dead,.dead,.dead,.dead,.dead,.dead,.dead,.dead,.dead,.dead,.dead,.dead,.dead,.dead,.dead,.dead,.dead,.dead,.dead,.dead,.dead,.dead,.dead,.dead,.dead,.dead,.dead,.dead,.dead,.dead,.dead,.dead,.dead,.dead,.dead,.dead,.dead,.dead,.dead,.dead,.dead,.dead,.dead,.dead,.dead,.dead,.dead,.dead,.dead,.dead],[none,some [.v (vS me),.v (vS ta),.v (vI st),.v (vS re),.v (vB ba),.imm 51 (rowsF l),.v (vS bo)],none,none,none,none,none,none,none,none,none,none,none,none,none,none,none,none,none,none,none,none,none,none,none,none,none,none,none,none,none,none,none,none,none,none,none,none,none,none,none,none,none,none,none,none,none,none,none,none,none,none,none,none,none,none,none,none,none,none,none,none,none,none,none,none,none,none,none,none,none,none,none,none,none,none,none,none,none,none,none,none,none,none,none,none,none,none,none,none,none,none,none,none,none,none,none]⟩) [1,2,21,22,23] (fun i => i ≤ 3) (fun i => 3 - i) 0 rfl (by omega) ?_
  intro i hi
  simp only [f16,go_sem,cfg,Nat.reduceLeDiff,Nat.reduceLT,Nat.reduceAdd,Nat.reduceSub,Nat.reduceMul,Nat.reduceBEq,Nat.reduceBNe,Nat.reduceEqDiff,reduceCtorEq,reduceIte,Int.reduceLT,Int.reduceLE,Int.reduceAdd,Int.reduceSub,Int.reduceNeg,Int.reduceEq,Int.reduceBEq,Int.reduceBNe,Int.reduceToNat,Nat.reduceDiv,Nat.reduceMod,rowsF_length,rowsS_length,hs,h4,hf,h20,hb]
  refine Or.elim (Classical.em (i < 3)) (fun hc => ?_) fun hc => ?_
  · have hx := hno i hc
    unfold hasF at hx
    have hw : IntKind.i64.wrap ((i : Int) + 1) = ((i + 1 : Nat) : Int) := by rw [IntKind.wrap_i64]; omega
    have hc1 : (i : Int) < 3 := by omega
    have hc2 : i < frN.length := by show i < 3; omega
    have g1 := rowsS_getD hc2
    simp only [f16,go_sem,cfg,Nat.reduceLeDiff,Nat.reduceLT,Nat.reduceAdd,Nat.reduceSub,Nat.reduceMul,Nat.reduceBEq,Nat.reduceBNe,Nat.reduceEqDiff,reduceCtorEq,reduceIte,Int.reduceLT,Int.reduceLE,Int.reduceAdd,Int.reduceSub,Int.reduceNeg,Int.reduceEq,Int.reduceBEq,Int.reduceBNe,Int.reduceToNat,Nat.reduceDiv,Nat.reduceMod,rowsF_length,rowsS_length,hc1,hc2,g1]
    refine ev_call (c38 l hl (frN.getD i []) (frN_len (by omega)) hf) (retW0 rfl rfl rfl rfl) ?_
    simp only [f16,go_sem,cfg,Nat.reduceLeDiff,Nat.reduceLT,Nat.reduceAdd,Nat.reduceSub,Nat.reduceMul,Nat.reduceBEq,Nat.reduceBNe,Nat.reduceEqDiff,reduceCtorEq,reduceIte,Int.reduceLT,Int.reduceLE,Int.reduceAdd,Int.reduceSub,Int.reduceNeg,Int.reduceEq,Int.reduceBEq,Int.reduceBNe,Int.reduceToNat,Nat.reduceDiv,Nat.reduceMod,rowsF_length,rowsS_length,hx,hw]
    first | exact ⟨i + 1,rfl,hc,by omega⟩ | trace_state
  · have he : i = 3 := by omega
    subst he
    simp only [f16,go_sem,cfg,Nat.reduceLeDiff,Nat.reduceLT,Nat.reduceAdd,Nat.reduceSub,Nat.reduceMul,Nat.reduceBEq,Nat.reduceBNe,Nat.reduceEqDiff,reduceCtorEq,reduceIte,Int.reduceLT,Int.reduceLE,Int.reduceAdd,Int.reduceSub,Int.reduceNeg,Int.reduceEq,Int.reduceBEq,Int.reduceBNe,Int.reduceToNat,Nat.reduceDiv,Nat.reduceMod,rowsF_length,rowsS_length,hs,h4,hf,h20,hb,hm,r1,r2,r3,r4,r5]
    refine ev_call (c41 _) (retW0 rfl rfl rfl rfl) ?_
    simp only [f16,go_sem,cfg,Nat.reduceLeDiff,Nat.reduceLT,Nat.reduceAdd,Nat.reduceSub,Nat.reduceMul,Nat.reduceBEq,Nat.reduceBNe,Nat.reduceEqDiff,reduceCtorEq,reduceIte,Int.reduceLT,Int.reduceLE,Int.reduceAdd,Int.reduceSub,Int.reduceNeg,Int.reduceEq,Int.reduceBEq,Int.reduceBNe,Int.reduceToNat,Nat.reduceDiv,Nat.reduceMod,rowsF_length,rowsS_length,hs,h4,hf,h20,hb,hm,r1,r2,r3,r4,r5]
    refine ev_call (c42 _ h3) (retW0 rfl rfl rfl rfl) ?_
    simp only [f16,go_sem,cfg,Nat.reduceLeDiff,Nat.reduceLT,Nat.reduceAdd,Nat.reduceSub,Nat.reduceMul,Nat.reduceBEq,Nat.reduceBNe,Nat.reduceEqDiff,reduceCtorEq,reduceIte,Int.reduceLT,Int.reduceLE,Int.reduceAdd,Int.reduceSub,Int.reduceNeg,Int.reduceEq,Int.reduceBEq,Int.reduceBNe,Int.reduceToNat,Nat.reduceDiv,Nat.reduceMod,rowsF_length,rowsS_length,hs,h4,hf,h20,hb,hm,r1,r2,r3,r4,r5]
    try (with_reducible intro _)
    try simp only [f16,go_sem,cfg,Nat.reduceLeDiff,Nat.reduceLT,Nat.reduceAdd,Nat.reduceSub,Nat.reduceMul,Nat.reduceBEq,Nat.reduceBNe,Nat.reduceEqDiff,reduceCtorEq,reduceIte,Int.reduceLT,Int.reduceLE,Int.reduceAdd,Int.reduceSub,Int.reduceNeg,Int.reduceEq,Int.reduceBEq,Int.reduceBNe,Int.reduceToNat,Nat.reduceDiv,Nat.reduceMod,rowsF_length,rowsS_length,hs,h4,hf,h20,hb,hm,r1,r2,r3,r4,r5]
    first | exact fin0 (.inr rfl) rfl rfl rfl rfl | trace_state
theorem c16o (me ta : List UInt8) (st : Int) (re : List UInt8) (ba : Bool) (l : List Fld) (bo : List UInt8) (h1 : me.length ≤ 9223372036854775807) (h2 : ta.length ≤ 9223372036854775807) (h3 : re.length ≤ 9223372036854775807) (h4 : bo.length ≤ 9223372036854775807) (hl : Small l) (hf : fieldsB l = true) (h20 : ¬ (20 : Int) ≤ (l.length : Int)) (hb : ¬ (600 : Int) < (bo.length : Int)) (hno : ∀ i,i < 3 → hasF (frN.getD i []) l = false) (hm : (me == []) = true) (r1 : (ta == []) = true) (r2 : statusB st = true) (r3 : reasonB re = true) (r4 : ba = true) (r5 : (bo == []) = true) (r6 : bareB st = true) (H : List UInt8) (hH : H.length ≤ 9223372036854775807) (hd : Sem prog 44 ⟨[.agg [.v (vS me),.v (vS ta),.v (vI st),.v (vS re),.v (vB ba),.imm 51 (rowsF l),.v (vS bo)]],[none]⟩ ⟨[.dead,.v (vS H)],[none,none]⟩) : Sem prog 16 ⟨[.agg [.v (vS me),.v (vS ta),.v (vI st),.v (vS re),.v (vB ba),.imm 51 (rowsF l),.v (vS bo)]],[none]⟩ ⟨[.dead,.v (vB (decide ((H.length : Int) ≤ 1500)))],[none]⟩ := by
  refine sem_fin (cfg := cfg 1) (ts := [.tm 2]) tbOk func16 rfl rfl rfl rfl (fun t h => by cases h) ?_
  have hs : l.length ≤ 9223372036854775807 := hl.1
  simp only [f16,go_sem,cfg,Nat.reduceLeDiff,Nat.reduceLT,Nat.reduceAdd,Nat.reduceSub,Nat.reduceMul,Nat.reduceBEq,Nat.reduceBNe,Nat.reduceEqDiff,reduceCtorEq,reduceIte,Int.reduceLT,Int.reduceLE,Int.reduceAdd,Int.reduceSub,Int.reduceNeg,Int.reduceEq,Int.reduceBEq,Int.reduceBNe,Int.reduceToNat,Nat.reduceDiv,Nat.reduceMod,rowsF_length,rowsS_length,hs,h4,hf,h20,hb]
  try (with_reducible intro _)
  try simp only [f16,go_sem,cfg,Nat.reduceLeDiff,Nat.reduceLT,Nat.reduceAdd,Nat.reduceSub,Nat.reduceMul,Nat.reduceBEq,Nat.reduceBNe,Nat.reduceEqDiff,reduceCtorEq,reduceIte,Int.reduceLT,Int.reduceLE,Int.reduceAdd,Int.reduceSub,Int.reduceNeg,Int.reduceEq,Int.reduceBEq,Int.reduceBNe,Int.reduceToNat,Nat.reduceDiv,Nat.reduceMod,rowsF_length,rowsS_length,hs,h4,hf,h20,hb]
  refine ev_call (c36 l hl) (retW0 rfl rfl rfl rfl) ?_
  simp only [f16,go_sem,cfg,Nat.reduceLeDiff,Nat.reduceLT,Nat.reduceAdd,Nat.reduceSub,Nat.reduceMul,Nat.reduceBEq,Nat.reduceBNe,Nat.reduceEqDiff,reduceCtorEq,reduceIte,Int.reduceLT,Int.reduceLE,Int.reduceAdd,Int.reduceSub,Int.reduceNeg,Int.reduceEq,Int.reduceBEq,Int.reduceBNe,Int.reduceToNat,Nat.reduceDiv,Nat.reduceMod,rowsF_length,rowsS_length,hs,h4,hf,h20,hb]
  try (with_reducible intro _)
  try simp only [f16,go_sem,cfg,Nat.reduceLeDiff,Nat.reduceLT,Nat.reduceAdd,Nat.reduceSub,Nat.reduceMul,Nat.reduceBEq,Nat.reduceBNe,Nat.reduceEqDiff,reduceCtorEq,reduceIte,Int.reduceLT,Int.reduceLE,Int.reduceAdd,Int.reduceSub,Int.reduceNeg,Int.reduceEq,Int.reduceBEq,Int.reduceBNe,Int.reduceToNat,Nat.reduceDiv,Nat.reduceMod,rowsF_length,rowsS_length,hs,h4,hf,h20,hb]
  refine ev_call (c37) (retW0 rfl rfl rfl rfl) ?_
  simp only [f16,go_sem,cfg,Nat.reduceLeDiff,Nat.reduceLT,Nat.reduceAdd,Nat.reduceSub,Nat.reduceMul,Nat.reduceBEq,Nat.reduceBNe,Nat.reduceEqDiff,reduceCtorEq,reduceIte,Int.reduceLT,Int.reduceLE,Int.reduceAdd,Int.reduceSub,Int.reduceNeg,Int.reduceEq,Int.reduceBEq,Int.reduceBNe,Int.reduceToNat,Nat.reduceDiv,Nat.reduceMod,rowsF_length,rowsS_length,hs,h4,hf,h20,hb]
  try (with_reducible intro _)
  try simp only [f16,go_sem,cfg,Nat.reduceLeDiff,Nat.reduceLT,Nat.reduceAdd,Nat.reduceSub,Nat.reduceMul,Nat.reduceBEq,Nat.reduceBNe,Nat.reduceEqDiff,reduceCtorEq,reduceIte,Int.reduceLT,Int.reduceLE,Int.reduceAdd,Int.reduceSub,Int.reduceNeg,Int.reduceEq,Int.reduceBEq,Int.reduceBNe,Int.reduceToNat,Nat.reduceDiv,Nat.reduceMod,rowsF_length,rowsS_length,hs,h4,hf,h20,hb]
  refine loop_on (fun i : Nat => ⟨[.dead,.cref 1 0,.v (vB false),.dead,.dead,.dead,.dead,.dead,.dead,.dead,.dead,.dead,.dead,.dead,.dead,.dead,.dead,.dead,.dead,.dead,.dead,.own 9 (rowsS frN),.v (vI 3),.v (vI i),.dead,.dead,.dead,.dead,.dead,.dead,.dead,.dead,.dead,.dead,.dead,.dead,.dead,.dead,.dead,.dead,.dead,.dead,.dead,.dead,.dead,.dead,.dead,.dead,.dead,.dead,.dead,.dead,.dead,.dead,.dead,.dead,.dead,.dead,.dead,.dead,.dead,.dead,.dead,.dead,.dead,.dead,.dead,.dead,.dead,.dead,.dead,.dead,.dead,.dead,.dead,.dead,.dead,.dead,.dead,.dead,.dead,.dead,.dead,.dead,.dead,.dead,.dead,.dead,.dead,.dead,.dead,.dead,.dead,.dead,.dead,.dead,.dead],[none,some [.v (vS me),.v (vS ta),.v (vI st),.v (vS re),.v (vB ba),.imm 51 (rowsF l),.v (vS bo)],none,none,none,none,none,none,none,none,none,none,none,none,none,none,none,none,none,none,none,none,none,none,none,none,none,none,none,none,none,none,none,none,none,none,none,none,none,none,none,none,none,none,none,none,none,none,none,none,none,none,none,none,none,none,none,none,none,none,none,none,none,none,none,none,none,none,none,none,none,none,none,none,none,none,none,none,none,none,none,none,none,none,none,none,none,none,none,none,none,none,none,none,none,none,none]⟩) [1,2,21,22,23] (fun i => i ≤ 3) (fun i => 3 - i) 0 rfl (by omega) ?_
  intro i hi
  simp only [f16,go_sem,cfg,Nat.reduceLeDiff,Nat.reduceLT,Nat.reduceAdd,Nat.reduceSub,Nat.reduceMul,Nat.reduceBEq,Nat.reduceBNe,Nat.reduceEqDiff,reduceCtorEq,reduceIte,Int.reduceLT,Int.reduceLE,Int.reduceAdd,Int.reduceSub,Int.reduceNeg,Int.reduceEq,Int.reduceBEq,Int.reduceBNe,Int.reduceToNat,Nat.reduceDiv,Nat.reduceMod,rowsF_length,rowsS_length,hs,h4,hf,h20,hb]
  refine Or.elim (Classical.em (i < 3)) (fun hc => ?_) fun hc => ?_
  · have hx := hno i hc
    unfold hasF at hx
    have hw : IntKind.i64.wrap ((i : Int) + 1) = ((i + 1 : Nat) : Int) := by rw [IntKind.wrap_i64]; omega
    have hc1 : (i : Int) < 3 := by omega
    have hc2 : i < frN.length := by show i < 3; omega
    have g1 := rowsS_getD hc2
    simp only [f16,go_sem,cfg,Nat.reduceLeDiff,Nat.reduceLT,Nat.reduceAdd,Nat.reduceSub,Nat.reduceMul,Nat.reduceBEq,Nat.reduceBNe,Nat.reduceEqDiff,reduceCtorEq,reduceIte,Int.reduceLT,Int.reduceLE,Int.reduceAdd,Int.reduceSub,Int.reduceNeg,Int.reduceEq,Int.reduceBEq,Int.reduceBNe,Int.reduceToNat,Nat.reduceDiv,Nat.reduceMod,rowsF_length,rowsS_length,hc1,hc2,g1]
    refine ev_call (c38 l hl (frN.getD i []) (frN_len (by omega)) hf) (retW0 rfl rfl rfl rfl) ?_
    simp only [f16,go_sem,cfg,Nat.reduceLeDiff,Nat.reduceLT,Nat.reduceAdd,Nat.reduceSub,Nat.reduceMul,Nat.reduceBEq,Nat.reduceBNe,Nat.reduceEqDiff,reduceCtorEq,reduceIte,Int.reduceLT,Int.reduceLE,Int.reduceAdd,Int.reduceSub,Int.reduceNeg,Int.reduceEq,Int.reduceBEq,Int.reduceBNe,Int.reduceToNat,Nat.reduceDiv,Nat.reduceMod,rowsF_length,rowsS_length,hx,hw]
    first | exact ⟨i + 1,rfl,hc,by omega⟩ | trace_state
  · have he : i = 3 := by omega
    subst he
    simp only [f16,go_sem,cfg,Nat.reduceLeDiff,Nat.reduceLT,Nat.reduceAdd,Nat.reduceSub,Nat.reduceMul,Nat.reduceBEq,Nat.reduceBNe,Nat.reduceEqDiff,reduceCtorEq,reduceIte,Int.reduceLT,Int.reduceLE,Int.reduceAdd,Int.reduceSub,Int.reduceNeg,Int.reduceEq,Int.reduceBEq,Int.reduceBNe,Int.reduceToNat,Nat.reduceDiv,Nat.reduceMod,rowsF_length,rowsS_length,hs,h4,hf,h20,hb,hm,r1,r2,r3,r4,r5,r6,hH]
    refine ev_call (c41 _) (retW0 rfl rfl rfl rfl) ?_
    simp only [f16,go_sem,cfg,Nat.reduceLeDiff,Nat.reduceLT,Nat.reduceAdd,Nat.reduceSub,Nat.reduceMul,Nat.reduceBEq,Nat.reduceBNe,Nat.reduceEqDiff,reduceCtorEq,reduceIte,Int.reduceLT,Int.reduceLE,Int.reduceAdd,Int.reduceSub,Int.reduceNeg,Int.reduceEq,Int.reduceBEq,Int.reduceBNe,Int.reduceToNat,Nat.reduceDiv,Nat.reduceMod,rowsF_length,rowsS_length,hs,h4,hf,h20,hb,hm,r1,r2,r3,r4,r5,r6,hH]
    refine ev_call (c42 _ h3) (retW0 rfl rfl rfl rfl) ?_
    simp only [f16,go_sem,cfg,Nat.reduceLeDiff,Nat.reduceLT,Nat.reduceAdd,Nat.reduceSub,Nat.reduceMul,Nat.reduceBEq,Nat.reduceBNe,Nat.reduceEqDiff,reduceCtorEq,reduceIte,Int.reduceLT,Int.reduceLE,Int.reduceAdd,Int.reduceSub,Int.reduceNeg,Int.reduceEq,Int.reduceBEq,Int.reduceBNe,Int.reduceToNat,Nat.reduceDiv,Nat.reduceMod,rowsF_length,rowsS_length,hs,h4,hf,h20,hb,hm,r1,r2,r3,r4,r5,r6,hH]
    refine ev_call (c43 _) (retW0 rfl rfl rfl rfl) ?_
    simp only [f16,go_sem,cfg,Nat.reduceLeDiff,Nat.reduceLT,Nat.reduceAdd,Nat.reduceSub,Nat.reduceMul,Nat.reduceBEq,Nat.reduceBNe,Nat.reduceEqDiff,reduceCtorEq,reduceIte,Int.reduceLT,Int.reduceLE,Int.reduceAdd,Int.reduceSub,Int.reduceNeg,Int.reduceEq,Int.reduceBEq,Int.reduceBNe,Int.reduceToNat,Nat.reduceDiv,Nat.reduceMod,rowsF_length,rowsS_length,hs,h4,hf,h20,hb,hm,r1,r2,r3,r4,r5,r6,hH]
    refine ev_call ((by rw [r4] at hd; exact hd : Sem prog 44 ⟨[.agg [.v (vS me),.v (vS ta),.v (vI st),.v (vS re),.v (vB true),.imm 51 (rowsF l),.v (vS bo)]],[none]⟩ ⟨[.dead,.v (vS H)],[none,none]⟩)) (retW0 rfl rfl rfl rfl) ?_
    simp only [f16,go_sem,cfg,Nat.reduceLeDiff,Nat.reduceLT,Nat.reduceAdd,Nat.reduceSub,Nat.reduceMul,Nat.reduceBEq,Nat.reduceBNe,Nat.reduceEqDiff,reduceCtorEq,reduceIte,Int.reduceLT,Int.reduceLE,Int.reduceAdd,Int.reduceSub,Int.reduceNeg,Int.reduceEq,Int.reduceBEq,Int.reduceBNe,Int.reduceToNat,Nat.reduceDiv,Nat.reduceMod,rowsF_length,rowsS_length,hs,h4,hf,h20,hb,hm,r1,r2,r3,r4,r5,r6,hH]
    try (with_reducible intro _)
    try simp only [f16,go_sem,cfg,Nat.reduceLeDiff,Nat.reduceLT,Nat.reduceAdd,Nat.reduceSub,Nat.reduceMul,Nat.reduceBEq,Nat.reduceBNe,Nat.reduceEqDiff,reduceCtorEq,reduceIte,Int.reduceLT,Int.reduceLE,Int.reduceAdd,Int.reduceSub,Int.reduceNeg,Int.reduceEq,Int.reduceBEq,Int.reduceBNe,Int.reduceToNat,Nat.reduceDiv,Nat.reduceMod,rowsF_length,rowsS_length,hs,h4,hf,h20,hb,hm,r1,r2,r3,r4,r5,r6,hH]
    first | exact fin0 (.inr rfl) rfl rfl rfl rfl | trace_state
theorem c16r (me ta : List UInt8) (st : Int) (re : List UInt8) (ba : Bool) (l : List Fld) (bo : List UInt8) (h1 : me.length ≤ 9223372036854775807) (h2 : ta.length ≤ 9223372036854775807) (h3 : re.length ≤ 9223372036854775807) (h4 : bo.length ≤ 9223372036854775807) (hl : Small l) (hf : fieldsB l = true) (h20 : ¬ (20 : Int) ≤ (l.length : Int)) (hb : ¬ (600 : Int) < (bo.length : Int)) (hno : ∀ i,i < 3 → hasF (frN.getD i []) l = false) (hm : (me == []) = true) (r1 : (ta == []) = true) (r2 : statusB st = true) (r3 : reasonB re = true) (r4 : ba = true) (r5 : (bo == []) = true) (r6 : bareB st = false) (H : List UInt8) (hH : H.length ≤ 9223372036854775807) (hd : Sem prog 44 ⟨[.agg [.v (vS me),.v (vS ta),.v (vI st),.v (vS re),.v (vB ba),.imm 51 (rowsF l),.v (vS bo)]],[none]⟩ ⟨[.dead,.v (vS H)],[none,none]⟩) : Sem prog 16 ⟨[.agg [.v (vS me),.v (vS ta),.v (vI st),.v (vS re),.v (vB ba),.imm 51 (rowsF l),.v (vS bo)]],[none]⟩ ⟨[.dead,.v (vB (decide ((H.length : Int) ≤ 1500)))],[none]⟩ := by
  refine sem_fin (cfg := cfg 1) (ts := [.tm 2]) tbOk func16 rfl rfl rfl rfl (fun t h => by cases h) ?_
  have hs : l.length ≤ 9223372036854775807 := hl.1
  simp only [f16,go_sem,cfg,Nat.reduceLeDiff,Nat.reduceLT,Nat.reduceAdd,Nat.reduceSub,Nat.reduceMul,Nat.reduceBEq,Nat.reduceBNe,Nat.reduceEqDiff,reduceCtorEq,reduceIte,Int.reduceLT,Int.reduceLE,Int.reduceAdd,Int.reduceSub,Int.reduceNeg,Int.reduceEq,Int.reduceBEq,Int.reduceBNe,Int.reduceToNat,Nat.reduceDiv,Nat.reduceMod,rowsF_length,rowsS_length,hs,h4,hf,h20,hb]
  try (with_reducible intro _)
  try simp only [f16,go_sem,cfg,Nat.reduceLeDiff,Nat.reduceLT,Nat.reduceAdd,Nat.reduceSub,Nat.reduceMul,Nat.reduceBEq,Nat.reduceBNe,Nat.reduceEqDiff,reduceCtorEq,reduceIte,Int.reduceLT,Int.reduceLE,Int.reduceAdd,Int.reduceSub,Int.reduceNeg,Int.reduceEq,Int.reduceBEq,Int.reduceBNe,Int.reduceToNat,Nat.reduceDiv,Nat.reduceMod,rowsF_length,rowsS_length,hs,h4,hf,h20,hb]
  refine ev_call (c36 l hl) (retW0 rfl rfl rfl rfl) ?_
  simp only [f16,go_sem,cfg,Nat.reduceLeDiff,Nat.reduceLT,Nat.reduceAdd,Nat.reduceSub,Nat.reduceMul,Nat.reduceBEq,Nat.reduceBNe,Nat.reduceEqDiff,reduceCtorEq,reduceIte,Int.reduceLT,Int.reduceLE,Int.reduceAdd,Int.reduceSub,Int.reduceNeg,Int.reduceEq,Int.reduceBEq,Int.reduceBNe,Int.reduceToNat,Nat.reduceDiv,Nat.reduceMod,rowsF_length,rowsS_length,hs,h4,hf,h20,hb]
  try (with_reducible intro _)
  try simp only [f16,go_sem,cfg,Nat.reduceLeDiff,Nat.reduceLT,Nat.reduceAdd,Nat.reduceSub,Nat.reduceMul,Nat.reduceBEq,Nat.reduceBNe,Nat.reduceEqDiff,reduceCtorEq,reduceIte,Int.reduceLT,Int.reduceLE,Int.reduceAdd,Int.reduceSub,Int.reduceNeg,Int.reduceEq,Int.reduceBEq,Int.reduceBNe,Int.reduceToNat,Nat.reduceDiv,Nat.reduceMod,rowsF_length,rowsS_length,hs,h4,hf,h20,hb]
  refine ev_call (c37) (retW0 rfl rfl rfl rfl) ?_
  simp only [f16,go_sem,cfg,Nat.reduceLeDiff,Nat.reduceLT,Nat.reduceAdd,Nat.reduceSub,Nat.reduceMul,Nat.reduceBEq,Nat.reduceBNe,Nat.reduceEqDiff,reduceCtorEq,reduceIte,Int.reduceLT,Int.reduceLE,Int.reduceAdd,Int.reduceSub,Int.reduceNeg,Int.reduceEq,Int.reduceBEq,Int.reduceBNe,Int.reduceToNat,Nat.reduceDiv,Nat.reduceMod,rowsF_length,rowsS_length,hs,h4,hf,h20,hb]
  try (with_reducible intro _)
  try simp only [f16,go_sem,cfg,Nat.reduceLeDiff,Nat.reduceLT,Nat.reduceAdd,Nat.reduceSub,Nat.reduceMul,Nat.reduceBEq,Nat.reduceBNe,Nat.reduceEqDiff,reduceCtorEq,reduceIte,Int.reduceLT,Int.reduceLE,Int.reduceAdd,Int.reduceSub,Int.reduceNeg,Int.reduceEq,Int.reduceBEq,Int.reduceBNe,Int.reduceToNat,Nat.reduceDiv,Nat.reduceMod,rowsF_length,rowsS_length,hs,h4,hf,h20,hb]
  refine loop_on (fun i : Nat => ⟨[.dead,.cref 1 0,.v (vB false),.dead,.dead,.dead,.dead,.dead,.dead,.dead,.dead,.dead,.dead,.dead,.dead,.dead,.dead,.dead,.dead,.dead,.dead,.own 9 (rowsS frN),.v (vI 3),.v (vI i),.dead,.dead,.dead,.dead,.dead,.dead,.dead,.dead,.dead,.dead,.dead,.dead,.dead,.dead,.dead,.dead,.dead,.dead,.dead,.dead,.dead,.dead,.dead,.dead,.dead,.dead,.dead,.dead,.dead,.dead,.dead,.dead,.dead,.dead,.dead,.dead,.dead,.dead,.dead,.dead,.dead,.dead,.dead,.dead,.dead,.dead,.dead,.dead,.dead,.dead,.dead,.dead,.dead,.dead,.dead,.dead,.dead,.dead,.dead,.dead,.dead,.dead,.dead,.dead,.dead,.dead,.dead,.dead,.dead,.dead,.dead,.dead,.dead],[none,some [.v (vS me),.v (vS ta),.v (vI st),.v (vS re),.v (vB ba),.imm 51 (rowsF l),.v (vS bo)],none,none,none,none,none,none,none,none,none,none,none,none,none,none,none,none,none,none,none,none,none,none,none,none,none,none,none,none,none,none,none,none,none,none,none,none,none,none,none,none,none,none,none,none,none,none,none,none,none,none,none,none,none,none,none,none,none,none,none,none,none,none,none,none,none,none,none,none,none,none,none,none,none,none,none,none,none,none,none,none,none,none,none,none,none,none,none,none,none,none,none,none,none,none,none]⟩) [1,2,21,22,23] (fun i => i ≤ 3) (fun i => 3 - i) 0 rfl (by omega) ?_
  intro i hi
  simp only [f16,go_sem,cfg,Nat.reduceLeDiff,Nat.reduceLT,Nat.reduceAdd,Nat.reduceSub,Nat.reduceMul,Nat.reduceBEq,Nat.reduceBNe,Nat.reduceEqDiff,reduceCtorEq,reduceIte,Int.reduceLT,Int.reduceLE,Int.reduceAdd,Int.reduceSub,Int.reduceNeg,Int.reduceEq,Int.reduceBEq,Int.reduceBNe,Int.reduceToNat,Nat.reduceDiv,Nat.reduceMod,rowsF_length,rowsS_length,hs,h4,hf,h20,hb]
  refine Or.elim (Classical.em (i < 3)) (fun hc => ?_) fun hc => ?_
  · have hx := hno i hc
    unfold hasF at hx
    have hw : IntKind.i64.wrap ((i : Int) + 1) = ((i + 1 : Nat) : Int) := by rw [IntKind.wrap_i64]; omega
    have hc1 : (i : Int) < 3 := by omega
    have hc2 : i < frN.length := by show i < 3; omega
    have g1 := rowsS_getD hc2
    simp only [f16,go_sem,cfg,Nat.reduceLeDiff,Nat.reduceLT,Nat.reduceAdd,Nat.reduceSub,Nat.reduceMul,Nat.reduceBEq,Nat.reduceBNe,Nat.reduceEqDiff,reduceCtorEq,reduceIte,Int.reduceLT,Int.reduceLE,Int.reduceAdd,Int.reduceSub,Int.reduceNeg,Int.reduceEq,Int.reduceBEq,Int.reduceBNe,Int.reduceToNat,Nat.reduceDiv,Nat.reduceMod,rowsF_length,rowsS_length,hc1,hc2,g1]
    refine ev_call (c38 l hl (frN.getD i []) (frN_len (by omega)) hf) (retW0 rfl rfl rfl rfl) ?_
    simp only [f16,go_sem,cfg,Nat.reduceLeDiff,Nat.reduceLT,Nat.reduceAdd,Nat.reduceSub,Nat.reduceMul,Nat.reduceBEq,Nat.reduceBNe,Nat.reduceEqDiff,reduceCtorEq,reduceIte,Int.reduceLT,Int.reduceLE,Int.reduceAdd,Int.reduceSub,Int.reduceNeg,Int.reduceEq,Int.reduceBEq,Int.reduceBNe,Int.reduceToNat,Nat.reduceDiv,Nat.reduceMod,rowsF_length,rowsS_length,hx,hw]
    first | exact ⟨i + 1,rfl,hc,by omega⟩ | trace_state
  · have he : i = 3 := by omega
    subst he
    simp only [f16,go_sem,cfg,Nat.reduceLeDiff,Nat.reduceLT,Nat.reduceAdd,Nat.reduceSub,Nat.reduceMul,Nat.reduceBEq,Nat.reduceBNe,Nat.reduceEqDiff,reduceCtorEq,reduceIte,Int.reduceLT,Int.reduceLE,Int.reduceAdd,Int.reduceSub,Int.reduceNeg,Int.reduceEq,Int.reduceBEq,Int.reduceBNe,Int.reduceToNat,Nat.reduceDiv,Nat.reduceMod,rowsF_length,rowsS_length,hs,h4,hf,h20,hb,hm,r1,r2,r3,r4,r5,r6,hH]
    refine ev_call (c41 _) (retW0 rfl rfl rfl rfl) ?_
    simp only [f16,go_sem,cfg,Nat.reduceLeDiff,Nat.reduceLT,Nat.reduceAdd,Nat.reduceSub,Nat.reduceMul,Nat.reduceBEq,Nat.reduceBNe,Nat.reduceEqDiff,reduceCtorEq,reduceIte,Int.reduceLT,Int.reduceLE,Int.reduceAdd,Int.reduceSub,Int.reduceNeg,Int.reduceEq,Int.reduceBEq,Int.reduceBNe,Int.reduceToNat,Nat.reduceDiv,Nat.reduceMod,rowsF_length,rowsS_length,hs,h4,hf,h20,hb,hm,r1,r2,r3,r4,r5,r6,hH]
    refine ev_call (c42 _ h3) (retW0 rfl rfl rfl rfl) ?_
    simp only [f16,go_sem,cfg,Nat.reduceLeDiff,Nat.reduceLT,Nat.reduceAdd,Nat.reduceSub,Nat.reduceMul,Nat.reduceBEq,Nat.reduceBNe,Nat.reduceEqDiff,reduceCtorEq,reduceIte,Int.reduceLT,Int.reduceLE,Int.reduceAdd,Int.reduceSub,Int.reduceNeg,Int.reduceEq,Int.reduceBEq,Int.reduceBNe,Int.reduceToNat,Nat.reduceDiv,Nat.reduceMod,rowsF_length,rowsS_length,hs,h4,hf,h20,hb,hm,r1,r2,r3,r4,r5,r6,hH]
    refine ev_call (c43 _) (retW0 rfl rfl rfl rfl) ?_
    simp only [f16,go_sem,cfg,Nat.reduceLeDiff,Nat.reduceLT,Nat.reduceAdd,Nat.reduceSub,Nat.reduceMul,Nat.reduceBEq,Nat.reduceBNe,Nat.reduceEqDiff,reduceCtorEq,reduceIte,Int.reduceLT,Int.reduceLE,Int.reduceAdd,Int.reduceSub,Int.reduceNeg,Int.reduceEq,Int.reduceBEq,Int.reduceBNe,Int.reduceToNat,Nat.reduceDiv,Nat.reduceMod,rowsF_length,rowsS_length,hs,h4,hf,h20,hb,hm,r1,r2,r3,r4,r5,r6,hH]
    refine ev_call ((by rw [r4] at hd; exact hd : Sem prog 44 ⟨[.agg [.v (vS me),.v (vS ta),.v (vI st),.v (vS re),.v (vB true),.imm 51 (rowsF l),.v (vS bo)]],[none]⟩ ⟨[.dead,.v (vS H)],[none,none]⟩)) (retW0 rfl rfl rfl rfl) ?_
    simp only [f16,go_sem,cfg,Nat.reduceLeDiff,Nat.reduceLT,Nat.reduceAdd,Nat.reduceSub,Nat.reduceMul,Nat.reduceBEq,Nat.reduceBNe,Nat.reduceEqDiff,reduceCtorEq,reduceIte,Int.reduceLT,Int.reduceLE,Int.reduceAdd,Int.reduceSub,Int.reduceNeg,Int.reduceEq,Int.reduceBEq,Int.reduceBNe,Int.reduceToNat,Nat.reduceDiv,Nat.reduceMod,rowsF_length,rowsS_length,hs,h4,hf,h20,hb,hm,r1,r2,r3,r4,r5,r6,hH]
    try (with_reducible intro _)
    try simp only [f16,go_sem,cfg,Nat.reduceLeDiff,Nat.reduceLT,Nat.reduceAdd,Nat.reduceSub,Nat.reduceMul,Nat.reduceBEq,Nat.reduceBNe,Nat.reduceEqDiff,reduceCtorEq,reduceIte,Int.reduceLT,Int.reduceLE,Int.reduceAdd,Int.reduceSub,Int.reduceNeg,Int.reduceEq,Int.reduceBEq,Int.reduceBNe,Int.reduceToNat,Nat.reduceDiv,Nat.reduceMod,rowsF_length,rowsS_length,hs,h4,hf,h20,hb,hm,r1,r2,r3,r4,r5,r6,hH]
    first | exact fin0 (.inr rfl) rfl rfl rfl rfl | trace_state
theorem c16p (me ta : List UInt8) (st : Int) (re : List UInt8) (ba : Bool) (l : List Fld) (bo : List UInt8) (h1 : me.length ≤ 9223372036854775807) (h2 : ta.length ≤ 9223372036854775807) (h3 : re.length ≤ 9223372036854775807) (h4 : bo.length ≤ 9223372036854775807) (hl : Small l) (hf : fieldsB l = true) (h20 : ¬ (20 : Int) ≤ (l.length : Int)) (hb : ¬ (600 : Int) < (bo.length : Int)) (hno : ∀ i,i < 3 → hasF (frN.getD i []) l = false) (hm : (me == []) = true) (r1 : (ta == []) = true) (r2 : statusB st = true) (r3 : reasonB re = true) (r4 : ba = false) (r5 : bareB st = true) : Sem prog 16 ⟨[.agg [.v (vS me),.v (vS ta),.v (vI st),.v (vS re),.v (vB ba),.imm 51 (rowsF l),.v (vS bo)]],[none]⟩ ⟨[.dead,.v (vB (false))],[none]⟩ := by
  refine sem_fin (cfg := cfg 1) (ts := [.tm 2]) tbOk func16 rfl rfl rfl rfl (fun t h => by cases h) ?_
  have hs : l.length ≤ 9223372036854775807 := hl.1
  simp only [f16,go_sem,cfg,Nat.reduceLeDiff,Nat.reduceLT,Nat.reduceAdd,Nat.reduceSub,Nat.reduceMul,Nat.reduceBEq,Nat.reduceBNe,Nat.reduceEqDiff,reduceCtorEq,reduceIte,Int.reduceLT,Int.reduceLE,Int.reduceAdd,Int.reduceSub,Int.reduceNeg,Int.reduceEq,Int.reduceBEq,Int.reduceBNe,Int.reduceToNat,Nat.reduceDiv,Nat.reduceMod,rowsF_length,rowsS_length,hs,h4,hf,h20,hb]
  try (with_reducible intro _)
  try simp only [f16,go_sem,cfg,Nat.reduceLeDiff,Nat.reduceLT,Nat.reduceAdd,Nat.reduceSub,Nat.reduceMul,Nat.reduceBEq,Nat.reduceBNe,Nat.reduceEqDiff,reduceCtorEq,reduceIte,Int.reduceLT,Int.reduceLE,Int.reduceAdd,Int.reduceSub,Int.reduceNeg,Int.reduceEq,Int.reduceBEq,Int.reduceBNe,Int.reduceToNat,Nat.reduceDiv,Nat.reduceMod,rowsF_length,rowsS_length,hs,h4,hf,h20,hb]
  refine ev_call (c36 l hl) (retW0 rfl rfl rfl rfl) ?_
  simp only [f16,go_sem,cfg,Nat.reduceLeDiff,Nat.reduceLT,Nat.reduceAdd,Nat.reduceSub,Nat.reduceMul,Nat.reduceBEq,Nat.reduceBNe,Nat.reduceEqDiff,reduceCtorEq,reduceIte,Int.reduceLT,Int.reduceLE,Int.reduceAdd,Int.reduceSub,Int.reduceNeg,Int.reduceEq,Int.reduceBEq,Int.reduceBNe,Int.reduceToNat,Nat.reduceDiv,Nat.reduceMod,rowsF_length,rowsS_length,hs,h4,hf,h20,hb]
  try (with_reducible intro _)
  try simp only [f16,go_sem,cfg,Nat.reduceLeDiff,Nat.reduceLT,Nat.reduceAdd,Nat.reduceSub,Nat.reduceMul,Nat.reduceBEq,Nat.reduceBNe,Nat.reduceEqDiff,reduceCtorEq,reduceIte,Int.reduceLT,Int.reduceLE,Int.reduceAdd,Int.reduceSub,Int.reduceNeg,Int.reduceEq,Int.reduceBEq,Int.reduceBNe,Int.reduceToNat,Nat.reduceDiv,Nat.reduceMod,rowsF_length,rowsS_length,hs,h4,hf,h20,hb]
  refine ev_call (c37) (retW0 rfl rfl rfl rfl) ?_
  simp only [f16,go_sem,cfg,Nat.reduceLeDiff,Nat.reduceLT,Nat.reduceAdd,Nat.reduceSub,Nat.reduceMul,Nat.reduceBEq,Nat.reduceBNe,Nat.reduceEqDiff,reduceCtorEq,reduceIte,Int.reduceLT,Int.reduceLE,Int.reduceAdd,Int.reduceSub,Int.reduceNeg,Int.reduceEq,Int.reduceBEq,Int.reduceBNe,Int.reduceToNat,Nat.reduceDiv,Nat.reduceMod,rowsF_length,rowsS_length,hs,h4,hf,h20,hb]
  try (with_reducible intro _)
  try simp only [f16,go_sem,cfg,Nat.reduceLeDiff,Nat.reduceLT,Nat.reduceAdd,Nat.reduceSub,Nat.reduceMul,Nat.reduceBEq,Nat.reduceBNe,Nat.reduceEqDiff,reduceCtorEq,reduceIte,Int.reduceLT,Int.reduceLE,Int.reduceAdd,Int.reduceSub,Int.reduceNeg,Int.reduceEq,Int.reduceBEq,Int.reduceBNe,Int.reduceToNat,Nat.reduceDiv,Nat.reduceMod,rowsF_length,rowsS_length,hs,h4,hf,h20,hb]
  refine loop_on (fun i : Nat => ⟨[.dead,.cref 1 0,.v (vB false),.dead,.dead,.dead,.dead,.dead,.dead,.dead,.dead,.dead,.dead,.dead,.dead,.dead,.dead,.dead,.dead,.dead,.dead,.own 9 (rowsS frN),.v (vI 3),.v (vI i),.dead,.dead,.dead,.dead,.dead,.dead,.dead,.dead,.dead,.dead,.dead,.dead,.dead,.dead,.dead,.dead,.dead,.dead,.dead,.dead,.dead,.dead,.dead,.dead,.dead,.dead,.dead,.dead,.dead,.dead,.dead,.dead,.dead,.dead,.dead,.dead,.dead,.dead,.dead,.dead,.dead,.dead,.dead,.dead,.dead,.dead,.dead,.dead,.dead,.dead,.dead,.dead,.dead,.dead,.dead,.dead,.dead,.dead,.dead,.dead,.dead,.dead,.dead,.dead,.dead,.dead,.dead,.dead,.dead,.dead,.dead,.dead,.dead],[none,some [.v (vS me),.v (vS ta),.v (vI st),.v (vS re),.v (vB ba),.imm 51 (rowsF l),.v (vS bo)],none,none,none,none,none,none,none,none,none,none,none,none,none,none,none,none,none,none,none,none,none,none,none,none,none,none,none,none,none,none,none,none,none,none,none,none,none,none,none,none,none,none,none,none,none,none,none,none,none,none,none,none,none,none,none,none,none,none,none,none,none,none,none,none,none,none,none,none,none,none,none,none,none,none,none,none,none,none,none,none,none,none,none,none,none,none,none,none,none,none,none,none,none,none,none]⟩) [1,2,21,22,23] (fun i => i ≤ 3) (fun i => 3 - i) 0 rfl (by omega) ?_
  intro i hi
  simp only [f16,go_sem,cfg,Nat.reduceLeDiff,Nat.reduceLT,Nat.reduceAdd,Nat.reduceSub,Nat.reduceMul,Nat.reduceBEq,Nat.reduceBNe,Nat.reduceEqDiff,reduceCtorEq,reduceIte,Int.reduceLT,Int.reduceLE,Int.reduceAdd,Int.reduceSub,Int.reduceNeg,Int.reduceEq,Int.reduceBEq,Int.reduceBNe,Int.reduceToNat,Nat.reduceDiv,Nat.reduceMod,rowsF_length,rowsS_length,hs,h4,hf,h20,hb]
  refine Or.elim (Classical.em (i < 3)) (fun hc => ?_) fun hc => ?_
  · have hx := hno i hc
    unfold hasF at hx
    have hw : IntKind.i64.wrap ((i : Int) + 1) = ((i + 1 : Nat) : Int) := by rw [IntKind.wrap_i64]; omega
    have hc1 : (i : Int) < 3 := by omega
    have hc2 : i < frN.length := by show i < 3; omega
    have g1 := rowsS_getD hc2
    simp only [f16,go_sem,cfg,Nat.reduceLeDiff,Nat.reduceLT,Nat.reduceAdd,Nat.reduceSub,Nat.reduceMul,Nat.reduceBEq,Nat.reduceBNe,Nat.reduceEqDiff,reduceCtorEq,reduceIte,Int.reduceLT,Int.reduceLE,Int.reduceAdd,Int.reduceSub,Int.reduceNeg,Int.reduceEq,Int.reduceBEq,Int.reduceBNe,Int.reduceToNat,Nat.reduceDiv,Nat.reduceMod,rowsF_length,rowsS_length,hc1,hc2,g1]
    refine ev_call (c38 l hl (frN.getD i []) (frN_len (by omega)) hf) (retW0 rfl rfl rfl rfl) ?_
    simp only [f16,go_sem,cfg,Nat.reduceLeDiff,Nat.reduceLT,Nat.reduceAdd,Nat.reduceSub,Nat.reduceMul,Nat.reduceBEq,Nat.reduceBNe,Nat.reduceEqDiff,reduceCtorEq,reduceIte,Int.reduceLT,Int.reduceLE,Int.reduceAdd,Int.reduceSub,Int.reduceNeg,Int.reduceEq,Int.reduceBEq,Int.reduceBNe,Int.reduceToNat,Nat.reduceDiv,Nat.reduceMod,rowsF_length,rowsS_length,hx,hw]
    first | exact ⟨i + 1,rfl,hc,by omega⟩ | trace_state
  · have he : i = 3 := by omega
    subst he
    simp only [f16,go_sem,cfg,Nat.reduceLeDiff,Nat.reduceLT,Nat.reduceAdd,Nat.reduceSub,Nat.reduceMul,Nat.reduceBEq,Nat.reduceBNe,Nat.reduceEqDiff,reduceCtorEq,reduceIte,Int.reduceLT,Int.reduceLE,Int.reduceAdd,Int.reduceSub,Int.reduceNeg,Int.reduceEq,Int.reduceBEq,Int.reduceBNe,Int.reduceToNat,Nat.reduceDiv,Nat.reduceMod,rowsF_length,rowsS_length,hs,h4,hf,h20,hb,hm,r1,r2,r3,r4,r5]
    refine ev_call (c41 _) (retW0 rfl rfl rfl rfl) ?_
    simp only [f16,go_sem,cfg,Nat.reduceLeDiff,Nat.reduceLT,Nat.reduceAdd,Nat.reduceSub,Nat.reduceMul,Nat.reduceBEq,Nat.reduceBNe,Nat.reduceEqDiff,reduceCtorEq,reduceIte,Int.reduceLT,Int.reduceLE,Int.reduceAdd,Int.reduceSub,Int.reduceNeg,Int.reduceEq,Int.reduceBEq,Int.reduceBNe,Int.reduceToNat,Nat.reduceDiv,Nat.reduceMod,rowsF_length,rowsS_length,hs,h4,hf,h20,hb,hm,r1,r2,r3,r4,r5]
    refine ev_call (c42 _ h3) (retW0 rfl rfl rfl rfl) ?_
    simp only [f16,go_sem,cfg,Nat.reduceLeDiff,Nat.reduceLT,Nat.reduceAdd,Nat.reduceSub,Nat.reduceMul,Nat.reduceBEq,Nat.reduceBNe,Nat.reduceEqDiff,reduceCtorEq,reduceIte,Int.reduceLT,Int.reduceLE,Int.reduceAdd,Int.reduceSub,Int.reduceNeg,Int.reduceEq,Int.reduceBEq,Int.reduceBNe,Int.reduceToNat,Nat.reduceDiv,Nat.reduceMod,rowsF_length,rowsS_length,hs,h4,hf,h20,hb,hm,r1,r2,r3,r4,r5]
    refine ev_call (c43 _) (retW0 rfl rfl rfl rfl) ?_
    simp only [f16,go_sem,cfg,Nat.reduceLeDiff,Nat.reduceLT,Nat.reduceAdd,Nat.reduceSub,Nat.reduceMul,Nat.reduceBEq,Nat.reduceBNe,Nat.reduceEqDiff,reduceCtorEq,reduceIte,Int.reduceLT,Int.reduceLE,Int.reduceAdd,Int.reduceSub,Int.reduceNeg,Int.reduceEq,Int.reduceBEq,Int.reduceBNe,Int.reduceToNat,Nat.reduceDiv,Nat.reduceMod,rowsF_length,rowsS_length,hs,h4,hf,h20,hb,hm,r1,r2,r3,r4,r5]
    try (with_reducible intro _)
    try simp only [f16,go_sem,cfg,Nat.reduceLeDiff,Nat.reduceLT,Nat.reduceAdd,Nat.reduceSub,Nat.reduceMul,Nat.reduceBEq,Nat.reduceBNe,Nat.reduceEqDiff,reduceCtorEq,reduceIte,Int.reduceLT,Int.reduceLE,Int.reduceAdd,Int.reduceSub,Int.reduceNeg,Int.reduceEq,Int.reduceBEq,Int.reduceBNe,Int.reduceToNat,Nat.reduceDiv,Nat.reduceMod,rowsF_length,rowsS_length,hs,h4,hf,h20,hb,hm,r1,r2,r3,r4,r5]
    first | exact fin0 (.inr rfl) rfl rfl rfl rfl | trace_state
theorem c16q (me ta : List UInt8) (st : Int) (re : List UInt8) (ba : Bool) (l : List Fld) (bo : List UInt8) (h1 : me.length ≤ 9223372036854775807) (h2 : ta.length ≤ 9223372036854775807) (h3 : re.length ≤ 9223372036854775807) (h4 : bo.length ≤ 9223372036854775807) (hl : Small l) (hf : fieldsB l = true) (h20 : ¬ (20 : Int) ≤ (l.length : Int)) (hb : ¬ (600 : Int) < (bo.length : Int)) (hno : ∀ i,i < 3 → hasF (frN.getD i []) l = false) (hm : (me == []) = true) (r1 : (ta == []) = true) (r2 : statusB st = true) (r3 : reasonB re = true) (r4 : ba = false) (r5 : bareB st = false) (H : List UInt8) (hH : H.length ≤ 9223372036854775807) (hd : Sem prog 44 ⟨[.agg [.v (vS me),.v (vS ta),.v (vI st),.v (vS re),.v (vB ba),.imm 51 (rowsF l),.v (vS bo)]],[none]⟩ ⟨[.dead,.v (vS H)],[none,none]⟩) : Sem prog 16 ⟨[.agg [.v (vS me),.v (vS ta),.v (vI st),.v (vS re),.v (vB ba),.imm 51 (rowsF l),.v (vS bo)]],[none]⟩ ⟨[.dead,.v (vB (decide ((H.length : Int) ≤ 1500)))],[none]⟩ := by
  refine sem_fin (cfg := cfg 1) (ts := [.tm 2]) tbOk func16 rfl rfl rfl rfl (fun t h => by cases h) ?_
  have hs : l.length ≤ 9223372036854775807 := hl.1
  simp only [f16,go_sem,cfg,Nat.reduceLeDiff,Nat.reduceLT,Nat.reduceAdd,Nat.reduceSub,Nat.reduceMul,Nat.reduceBEq,Nat.reduceBNe,Nat.reduceEqDiff,reduceCtorEq,reduceIte,Int.reduceLT,Int.reduceLE,Int.reduceAdd,Int.reduceSub,Int.reduceNeg,Int.reduceEq,Int.reduceBEq,Int.reduceBNe,Int.reduceToNat,Nat.reduceDiv,Nat.reduceMod,rowsF_length,rowsS_length,hs,h4,hf,h20,hb]
  try (with_reducible intro _)
  try simp only [f16,go_sem,cfg,Nat.reduceLeDiff,Nat.reduceLT,Nat.reduceAdd,Nat.reduceSub,Nat.reduceMul,Nat.reduceBEq,Nat.reduceBNe,Nat.reduceEqDiff,reduceCtorEq,reduceIte,Int.reduceLT,Int.reduceLE,Int.reduceAdd,Int.reduceSub,Int.reduceNeg,Int.reduceEq,Int.reduceBEq,Int.reduceBNe,Int.reduceToNat,Nat.reduceDiv,Nat.reduceMod,rowsF_length,rowsS_length,hs,h4,hf,h20,hb]
  refine ev_call (c36 l hl) (retW0 rfl rfl rfl rfl) ?_
  simp only [f16,go_sem,cfg,Nat.reduceLeDiff,Nat.reduceLT,Nat.reduceAdd,Nat.reduceSub,Nat.reduceMul,Nat.reduceBEq,Nat.reduceBNe,Nat.reduceEqDiff,reduceCtorEq,reduceIte,Int.reduceLT,Int.reduceLE,Int.reduceAdd,Int.reduceSub,Int.reduceNeg,Int.reduceEq,Int.reduceBEq,Int.reduceBNe,Int.reduceToNat,Nat.reduceDiv,Nat.reduceMod,rowsF_length,rowsS_length,hs,h4,hf,h20,hb]
  try (with_reducible intro _)
  try simp only [f16,go_sem,cfg,Nat.reduceLeDiff,Nat.reduceLT,Nat.reduceAdd,Nat.reduceSub,Nat.reduceMul,Nat.reduceBEq,Nat.reduceBNe,Nat.reduceEqDiff,reduceCtorEq,reduceIte,Int.reduceLT,Int.reduceLE,Int.reduceAdd,Int.reduceSub,Int.reduceNeg,Int.reduceEq,Int.reduceBEq,Int.reduceBNe,Int.reduceToNat,Nat.reduceDiv,Nat.reduceMod,rowsF_length,rowsS_length,hs,h4,hf,h20,hb]
  refine ev_call (c37) (retW0 rfl rfl rfl rfl) ?_
  simp only [f16,go_sem,cfg,Nat.reduceLeDiff,Nat.reduceLT,Nat.reduceAdd,Nat.reduceSub,Nat.reduceMul,Nat.reduceBEq,Nat.reduceBNe,Nat.reduceEqDiff,reduceCtorEq,reduceIte,Int.reduceLT,Int.reduceLE,Int.reduceAdd,Int.reduceSub,Int.reduceNeg,Int.reduceEq,Int.reduceBEq,Int.reduceBNe,Int.reduceToNat,Nat.reduceDiv,Nat.reduceMod,rowsF_length,rowsS_length,hs,h4,hf,h20,hb]
  try (with_reducible intro _)
  try simp only [f16,go_sem,cfg,Nat.reduceLeDiff,Nat.reduceLT,Nat.reduceAdd,Nat.reduceSub,Nat.reduceMul,Nat.reduceBEq,Nat.reduceBNe,Nat.reduceEqDiff,reduceCtorEq,reduceIte,Int.reduceLT,Int.reduceLE,Int.reduceAdd,Int.reduceSub,Int.reduceNeg,Int.reduceEq,Int.reduceBEq,Int.reduceBNe,Int.reduceToNat,Nat.reduceDiv,Nat.reduceMod,rowsF_length,rowsS_length,hs,h4,hf,h20,hb]
  refine loop_on (fun i : Nat => ⟨[.dead,.cref 1 0,.v (vB false),.dead,.dead,.dead,.dead,.dead,.dead,.dead,.dead,.dead,.dead,.dead,.dead,.dead,.dead,.dead,.dead,.dead,.dead,.own 9 (rowsS frN),.v (vI 3),.v (vI i),.dead,.dead,.dead,.dead,.dead,.dead,.dead,.dead,.dead,.dead,.dead,.dead,.dead,.dead,.dead,.dead,.dead,.dead,.dead,.dead,.dead,.dead,.dead,.dead,.dead,.dead,.dead,.dead,.dead,.dead,.dead,.dead,.dead,.dead,.dead,.dead,.dead,.dead,.dead,.dead,.dead,.dead,.dead,.dead,.dead,.dead,.dead,.dead,.dead,.dead,.dead,.dead,.dead,.dead,.dead,.dead,.dead,.dead,.dead,.dead,.dead,.dead,.dead,.dead,.dead,.dead,.dead,.dead,.dead,.dead,.dead,.dead,.dead],[none,some [.v (vS me),.v (vS ta),.v (vI st),.v (vS re),.v (vB ba),.imm 51 (rowsF l),.v (vS bo)],none,none,none,none,none,none,none,none,none,none,none,none,none,none,none,none,none,none,none,none,none,none,none,none,none,none,none,none,none,none,none,none,none,none,none,none,none,none,none,none,none,none,none,none,none,none,none,none,none,none,none,none,none,none,none,none,none,none,none,none,none,none,none,none,none,none,none,none,none,none,none,none,none,none,none,none,none,none,none,none,none,none,none,none,none,none,none,none,none,none,none,none,none,none,none]⟩) [1,2,21,22,23] (fun i => i ≤ 3) (fun i => 3 - i) 0 rfl (by omega) ?_
  intro i hi
  simp only [f16,go_sem,cfg,Nat.reduceLeDiff,Nat.reduceLT,Nat.reduceAdd,Nat.reduceSub,Nat.reduceMul,Nat.reduceBEq,Nat.reduceBNe,Nat.reduceEqDiff,reduceCtorEq,reduceIte,Int.reduceLT,Int.reduceLE,Int.reduceAdd,Int.reduceSub,Int.reduceNeg,Int.reduceEq,Int.reduceBEq,Int.reduceBNe,Int.reduceToNat,Nat.reduceDiv,Nat.reduceMod,rowsF_length,rowsS_length,hs,h4,hf,h20,hb]
  refine Or.elim (Classical.em (i < 3)) (fun hc => ?_) fun hc => ?_
  · have hx := hno i hc
    unfold hasF at hx
    have hw : IntKind.i64.wrap ((i : Int) + 1) = ((i + 1 : Nat) : Int) := by rw [IntKind.wrap_i64]; omega
    have hc1 : (i : Int) < 3 := by omega
    have hc2 : i < frN.length := by show i < 3; omega
    have g1 := rowsS_getD hc2
    simp only [f16,go_sem,cfg,Nat.reduceLeDiff,Nat.reduceLT,Nat.reduceAdd,Nat.reduceSub,Nat.reduceMul,Nat.reduceBEq,Nat.reduceBNe,Nat.reduceEqDiff,reduceCtorEq,reduceIte,Int.reduceLT,Int.reduceLE,Int.reduceAdd,Int.reduceSub,Int.reduceNeg,Int.reduceEq,Int.reduceBEq,Int.reduceBNe,Int.reduceToNat,Nat.reduceDiv,Nat.reduceMod,rowsF_length,rowsS_length,hc1,hc2,g1]
    refine ev_call (c38 l hl (frN.getD i []) (frN_len (by omega)) hf) (retW0 rfl rfl rfl rfl) ?_
    simp only [f16,go_sem,cfg,Nat.reduceLeDiff,Nat.reduceLT,Nat.reduceAdd,Nat.reduceSub,Nat.reduceMul,Nat.reduceBEq,Nat.reduceBNe,Nat.reduceEqDiff,reduceCtorEq,reduceIte,Int.reduceLT,Int.reduceLE,Int.reduceAdd,Int.reduceSub,Int.reduceNeg,Int.reduceEq,Int.reduceBEq,Int.reduceBNe,Int.reduceToNat,Nat.reduceDiv,Nat.reduceMod,rowsF_length,rowsS_length,hx,hw]
    first | exact ⟨i + 1,rfl,hc,by omega⟩ | trace_state
  · have he : i = 3 := by omega
    subst he
    simp only [f16,go_sem,cfg,Nat.reduceLeDiff,Nat.reduceLT,Nat.reduceAdd,Nat.reduceSub,Nat.reduceMul,Nat.reduceBEq,Nat.reduceBNe,Nat.reduceEqDiff,reduceCtorEq,reduceIte,Int.reduceLT,Int.reduceLE,Int.reduceAdd,Int.reduceSub,Int.reduceNeg,Int.reduceEq,Int.reduceBEq,Int.reduceBNe,Int.reduceToNat,Nat.reduceDiv,Nat.reduceMod,rowsF_length,rowsS_length,hs,h4,hf,h20,hb,hm,r1,r2,r3,r4,r5,hH]
    refine ev_call (c41 _) (retW0 rfl rfl rfl rfl) ?_
    simp only [f16,go_sem,cfg,Nat.reduceLeDiff,Nat.reduceLT,Nat.reduceAdd,Nat.reduceSub,Nat.reduceMul,Nat.reduceBEq,Nat.reduceBNe,Nat.reduceEqDiff,reduceCtorEq,reduceIte,Int.reduceLT,Int.reduceLE,Int.reduceAdd,Int.reduceSub,Int.reduceNeg,Int.reduceEq,Int.reduceBEq,Int.reduceBNe,Int.reduceToNat,Nat.reduceDiv,Nat.reduceMod,rowsF_length,rowsS_length,hs,h4,hf,h20,hb,hm,r1,r2,r3,r4,r5,hH]
    refine ev_call (c42 _ h3) (retW0 rfl rfl rfl rfl) ?_
    simp only [f16,go_sem,cfg,Nat.reduceLeDiff,Nat.reduceLT,Nat.reduceAdd,Nat.reduceSub,Nat.reduceMul,Nat.reduceBEq,Nat.reduceBNe,Nat.reduceEqDiff,reduceCtorEq,reduceIte,Int.reduceLT,Int.reduceLE,Int.reduceAdd,Int.reduceSub,Int.reduceNeg,Int.reduceEq,Int.reduceBEq,Int.reduceBNe,Int.reduceToNat,Nat.reduceDiv,Nat.reduceMod,rowsF_length,rowsS_length,hs,h4,hf,h20,hb,hm,r1,r2,r3,r4,r5,hH]
    refine ev_call (c43 _) (retW0 rfl rfl rfl rfl) ?_
    simp only [f16,go_sem,cfg,Nat.reduceLeDiff,Nat.reduceLT,Nat.reduceAdd,Nat.reduceSub,Nat.reduceMul,Nat.reduceBEq,Nat.reduceBNe,Nat.reduceEqDiff,reduceCtorEq,reduceIte,Int.reduceLT,Int.reduceLE,Int.reduceAdd,Int.reduceSub,Int.reduceNeg,Int.reduceEq,Int.reduceBEq,Int.reduceBNe,Int.reduceToNat,Nat.reduceDiv,Nat.reduceMod,rowsF_length,rowsS_length,hs,h4,hf,h20,hb,hm,r1,r2,r3,r4,r5,hH]
    refine ev_call ((by rw [r4] at hd; exact hd : Sem prog 44 ⟨[.agg [.v (vS me),.v (vS ta),.v (vI st),.v (vS re),.v (vB false),.imm 51 (rowsF l),.v (vS bo)]],[none]⟩ ⟨[.dead,.v (vS H)],[none,none]⟩)) (retW0 rfl rfl rfl rfl) ?_
    simp only [f16,go_sem,cfg,Nat.reduceLeDiff,Nat.reduceLT,Nat.reduceAdd,Nat.reduceSub,Nat.reduceMul,Nat.reduceBEq,Nat.reduceBNe,Nat.reduceEqDiff,reduceCtorEq,reduceIte,Int.reduceLT,Int.reduceLE,Int.reduceAdd,Int.reduceSub,Int.reduceNeg,Int.reduceEq,Int.reduceBEq,Int.reduceBNe,Int.reduceToNat,Nat.reduceDiv,Nat.reduceMod,rowsF_length,rowsS_length,hs,h4,hf,h20,hb,hm,r1,r2,r3,r4,r5,hH]
    try (with_reducible intro _)
    try simp only [f16,go_sem,cfg,Nat.reduceLeDiff,Nat.reduceLT,Nat.reduceAdd,Nat.reduceSub,Nat.reduceMul,Nat.reduceBEq,Nat.reduceBNe,Nat.reduceEqDiff,reduceCtorEq,reduceIte,Int.reduceLT,Int.reduceLE,Int.reduceAdd,Int.reduceSub,Int.reduceNeg,Int.reduceEq,Int.reduceBEq,Int.reduceBNe,Int.reduceToNat,Nat.reduceDiv,Nat.reduceMod,rowsF_length,rowsS_length,hs,h4,hf,h20,hb,hm,r1,r2,r3,r4,r5,hH]
    first | exact fin0 (.inr rfl) rfl rfl rfl rfl | trace_state
theorem hasF_any (name : List UInt8) (l : List Fld) : hasF name l = l.any (hitB name) := by
  unfold hasF valsB
  rw [List.length_map]
  cases h : l.any (hitB name)
  · rw [List.any_eq_false] at h
    rw [List.filter_eq_nil_iff.2 (fun p hp => h p hp)]
    rfl
  · rw [List.any_eq_true] at h
    obtain ⟨p,h1,h2⟩ := h
    exact decide_eq_true (List.length_pos_iff.2 (List.ne_nil_of_mem (List.mem_filter.2 ⟨h1,h2⟩)))
theorem frB_eq (p : Fld) : frB p = (hitB clN p || hitB teN p || hitB trN p) := by
  have e1 : foldB clN = clN := by decide
  have e2 : foldB teN = teN := by decide
  have e3 : foldB trN = trN := by decide
  unfold frB hitB
  rw [e1,e2,e3]
theorem any_frB (l : List Fld) : l.any frB = (hasF clN l || hasF teN l || hasF trN l) := by
  simp only [hasF_any]
  induction l with
  | nil => rfl
  | cons p l ih =>
    simp only [List.any_cons,frB_eq,ih]
    grind
theorem fr_none {l : List Fld} (h : l.any frB = false) : ∀ i,i < 3 → hasF (frN.getD i []) l = false := by
  rw [any_frB] at h
  simp only [Bool.or_eq_false_iff] at h
  intro i hi
  have : i = 0 ∨ i = 1 ∨ i = 2 := by omega
  rcases this with rfl | rfl | rfl
  · exact h.1.1
  · exact h.1.2
  · exact h.2
theorem fr_some {l : List Fld} (h : l.any frB = true) : ∃ k,k < 3 ∧ (∀ i,i < k → hasF (frN.getD i []) l = false) ∧ hasF (frN.getD k []) l = true := by
  rw [any_frB] at h
  cases h1 : hasF clN l
  · cases h2 : hasF teN l
    · rw [h1,h2] at h
      refine ⟨2,by decide,fun i hi => ?_,h⟩
      have : i = 0 ∨ i = 1 := by omega
      rcases this with rfl | rfl
      · exact h1
      · exact h2
    · refine ⟨1,by decide,fun i hi => ?_,h2⟩
      have : i = 0 := by omega
      subst this
      exact h1
  · exact ⟨0,by decide,fun i hi => absurd hi (by omega),h1⟩
def H44 : Prop := ∀ (me ta : List UInt8) (st : Nat) (re : List UInt8) (ba : Bool) (l : List Fld) (bo : List UInt8),Small l → fieldsB l = true → me.length ≤ 20 → ta.length ≤ 200 → re.length ≤ 40 → st ≤ 999 → bo.length ≤ 600 →
  Sem prog 44 ⟨[.agg [.v (vS me),.v (vS ta),.v (vI (st : Nat)),.v (vS re),.v (vB ba),.imm 51 (rowsF l),.v (vS bo)]],[none]⟩ ⟨[.dead,.v (vS (headT me ta st re ba l bo))],[none,none]⟩
theorem c16 (h44 : H44) (me ta : List UInt8) (st : Int) (re : List UInt8) (ba : Bool) (l : List Fld) (bo : List UInt8) (h1 : me.length ≤ 9223372036854775807) (h2 : ta.length ≤ 9223372036854775807) (h3 : re.length ≤ 9223372036854775807) (h4 : bo.length ≤ 9223372036854775807) (hl : Small l) : Sem prog 16 ⟨[.agg [.v (vS me),.v (vS ta),.v (vI st),.v (vS re),.v (vB ba),.imm 51 (rowsF l),.v (vS bo)]],[none]⟩ ⟨[.dead,.v (vB (msgB me ta st re ba l bo))],[none]⟩ := by
  cases hf : fieldsB l
  · have hz : msgB me ta st re ba l bo = false := by simp [msgB,hf]
    rw [hz]; exact c16a me ta st re ba l bo h1 h2 h3 h4 hl hf
  have hn20 := fields_len hf
  by_cases h20 : (20 : Int) ≤ (l.length : Int)
  · have hz : msgB me ta st re ba l bo = false := by
      have : l.length = 20 := by omega
      simp [msgB,this]
    rw [hz]; exact c16b me ta st re ba l bo h1 h2 h3 h4 hl hf h20
  have e1 : (l.length == 20) = false := by rw [beq_eq_false_iff_ne]; omega
  by_cases hb : (600 : Int) < (bo.length : Int)
  · have hz : msgB me ta st re ba l bo = false := by
      have : ¬ bo.length ≤ 600 := by omega
      simp [msgB,this]
    rw [hz]; exact c16c me ta st re ba l bo h1 h2 h3 h4 hl hf h20 hb
  have hbo : bo.length ≤ 600 := by omega
  cases hfr : l.any frB
  case true =>
    have hz : msgB me ta st re ba l bo = false := by simp [msgB,hfr]
    obtain ⟨k,k1,k2,k3⟩ := fr_some hfr
    rw [hz]; exact c16d me ta st re ba l bo h1 h2 h3 h4 hl hf h20 hb k k1 k2 k3
  have hno := fr_none hfr
  have hdec : ∀ H : List UInt8,decide (H.length ≤ 1500) = decide ((H.length : Int) ≤ 1500) := fun H => decide_eq_decide.2 (by omega)
  cases hm : me == []
  · have hz : msgB me ta st re ba l bo = (requestB me ta st re ba && decide ((headT me ta st re ba l bo).length ≤ 1500)) := by simp [msgB,hf,e1,hfr,hbo,hm]
    cases r1 : (tokenI me && decide (me.length ≤ 20))
    · rw [hz,show requestB me ta st re ba = false by unfold requestB methodB; rw [r1]; rfl]; exact c16e me ta st re ba l bo h1 h2 h3 h4 hl hf h20 hb hno hm r1
    cases r2 : targetB ta
    · rw [hz,show requestB me ta st re ba = false by unfold requestB methodB; rw [r1,r2]; rfl]; exact c16f me ta st re ba l bo h1 h2 h3 h4 hl hf h20 hb hno hm r1 r2
    cases r3 : (st != 0)
    case true =>
      rw [hz,show requestB me ta st re ba = false by unfold requestB methodB; rw [r1,r2,show (st == 0) = false by simpa using r3]; rfl]; exact c16g me ta st re ba l bo h1 h2 h3 h4 hl hf h20 hb hno hm r1 r2 r3
    cases r4 : re == []
    · rw [hz,show requestB me ta st re ba = false by unfold requestB methodB; rw [r4]; simp]; exact c16h me ta st re ba l bo h1 h2 h3 h4 hl hf h20 hb hno hm r1 r2 r3 r4
    have r3' : (st == 0) = true := by simpa using r3
    by_cases r5 : ba = true
    · rw [hz,show requestB me ta st re ba = false by unfold requestB methodB; rw [r5]; simp]; exact c16i me ta st re ba l bo h1 h2 h3 h4 hl hf h20 hb hno hm r1 r2 r3 r4 r5
    · have r5 : ba = false := by simpa using r5
      have hr : requestB me ta st re ba = true := by unfold requestB methodB; rw [r1,r2,r3',r4,r5]; rfl
      obtain ⟨g1,g2,g3,n,g4,g5⟩ := head_le (ba := ba) (bo := bo) (me := me) (ta := ta) (st := st) (re := re) (by rw [hm]; exact hr)
      subst g4
      have := c16j me ta n re ba l bo h1 h2 h3 h4 hl hf h20 hb hno hm r1 r2 r3 r4 r5 _ (head_len hf g1 g2 g3 g5 hbo) (h44 me ta n re ba l bo hl hf g1 g2 g3 g5 hbo)
      rw [hz,hr,Bool.true_and,hdec]
      exact this
  · have hz : msgB me ta st re ba l bo = (answerB ta st re ba bo && decide ((headT me ta st re ba l bo).length ≤ 1500)) := by simp [msgB,hf,e1,hfr,hbo,hm]
    cases r1 : ta == []
    · rw [hz,show answerB ta st re ba bo = false by unfold answerB; rw [r1]; simp]; exact c16k me ta st re ba l bo h1 h2 h3 h4 hl hf h20 hb hno hm r1
    cases r2 : statusB st
    · rw [hz,show answerB ta st re ba bo = false by unfold answerB; rw [r2]; simp]; exact c16l me ta st re ba l bo h1 h2 h3 h4 hl hf h20 hb hno hm r1 r2
    cases r3 : reasonB re
    · rw [hz,show answerB ta st re ba bo = false by unfold answerB; rw [r3]; simp]; exact c16m me ta st re ba l bo h1 h2 h3 h4 hl hf h20 hb hno hm r1 r2 r3
    have fin : answerB ta st re ba bo = true → ∃ n : Nat,st = n ∧ (headT me ta n re ba l bo).length ≤ 9223372036854775807 ∧ Sem prog 44 ⟨[.agg [.v (vS me),.v (vS ta),.v (vI (n : Nat)),.v (vS re),.v (vB ba),.imm 51 (rowsF l),.v (vS bo)]],[none]⟩ ⟨[.dead,.v (vS (headT me ta n re ba l bo))],[none,none]⟩ := by
      intro hr
      obtain ⟨g1,g2,g3,n,g4,g5⟩ := head_le (ba := ba) (bo := bo) (me := me) (ta := ta) (st := st) (re := re) (by rw [hm]; exact hr)
      exact ⟨n,g4,head_len hf g1 g2 g3 g5 hbo,h44 me ta n re ba l bo hl hf g1 g2 g3 g5 hbo⟩
    by_cases r4 : ba = true
    · cases r5 : bo == []
      · rw [hz,show answerB ta st re ba bo = false by unfold answerB; rw [r4,r5]; simp]; exact c16n me ta st re ba l bo h1 h2 h3 h4 hl hf h20 hb hno hm r1 r2 r3 r4 r5
      · have hr : answerB ta st re ba bo = true := by unfold answerB; rw [r1,r2,r3,r4,r5]; rfl
        obtain ⟨n,g4,hlen,hsem⟩ := fin hr
        subst g4
        rw [hz,hr,Bool.true_and,hdec]
        cases r6 : bareB (n : Int)
        · exact c16r me ta n re ba l bo h1 h2 h3 h4 hl hf h20 hb hno hm r1 r2 r3 r4 r5 r6 _ hlen hsem
        · exact c16o me ta n re ba l bo h1 h2 h3 h4 hl hf h20 hb hno hm r1 r2 r3 r4 r5 r6 _ hlen hsem
    · have r4 : ba = false := by simpa using r4
      cases r5 : bareB st
      · have hr : answerB ta st re ba bo = true := by unfold answerB; rw [r1,r2,r3,r4,r5]; rfl
        obtain ⟨n,g4,hlen,hsem⟩ := fin hr
        subst g4
        rw [hz,hr,Bool.true_and,hdec]
        exact c16q me ta n re ba l bo h1 h2 h3 h4 hl hf h20 hb hno hm r1 r2 r3 r4 r5 _ hlen hsem
      · rw [hz,show answerB ta st re ba bo = false by unfold answerB; rw [r4,r5]; simp]; exact c16p me ta st re ba l bo h1 h2 h3 h4 hl hf h20 hb hno hm r1 r2 r3 r4 r5
end Go.Proofs.YtagfeejofceheaaGreatDoor.Fw

/- Contracts: elements of a list. -/
namespace Go.Proofs.YtagfeejofceheaaGreatDoor.Fw
open Go
open Go.Proofs.Tryz
set_option maxRecDepth 100000
set_option maxHeartbeats 600000
set_option linter.unusedSimpArgs false
set_option linter.unusedVariables false
attribute [local congr] c_bnd c_slot c_cell c_all c_len c_chk c_asm c_opdR c_wp c_pwp c_pOps c_Done c_nx c_blk c_fin c_rowsR c_leafR c_opdsR c_coeLeaf c_coeLeaves c_lendLeaf c_lendLeaves c_coeCapt c_argR c_argsR c_boundR c_partsR c_srcR c_mfgo c_ite c_wpF c_OutF c_pHead c_pDraw
def addE (out : List (List UInt8)) (e : List UInt8) : List (List UInt8) := if e == [] then out else out ++ [e]
def elGo (s : List UInt8) (fr : Nat) (q : Bool) (i : Nat) (out : List (List UInt8)) : List (List UInt8) :=
  if h : i < s.length then
    if s.getD i 0 = 34 then elGo s fr (!q) (i + 1) out
    else if q = true ∧ s.getD i 0 = 92 then elGo s fr q (i + 2) out
    else if q = false ∧ s.getD i 0 = 44 then elGo s (i + 1) q (i + 1) (addE out (trimB ((s.drop fr).take (i - fr))))
    else elGo s fr q (i + 1) out
  else addE out (trimB (s.drop fr))
termination_by s.length - i
decreasing_by all_goals omega
def elB (s : List UInt8) : List (List UInt8) := elGo s 0 false 0 []
theorem elGo_end {s : List UInt8} {fr : Nat} {q : Bool} {i : Nat} {out : List (List UInt8)} (h : ¬ i < s.length) : elGo s fr q i out = addE out (trimB (s.drop fr)) := by
  rw [elGo,dif_neg h]
theorem elGo_q {s : List UInt8} {fr : Nat} {q : Bool} {i : Nat} {out : List (List UInt8)} (h : i < s.length) (hc : s.getD i 0 = 34) : elGo s fr q i out = elGo s fr (!q) (i + 1) out := by
  rw [elGo,dif_pos h,if_pos hc]
theorem elGo_b {s : List UInt8} {fr : Nat} {i : Nat} {out : List (List UInt8)} (h : i < s.length) (hc : s.getD i 0 ≠ 34) (hb : s.getD i 0 = 92) : elGo s fr true i out = elGo s fr true (i + 2) out := by
  rw [elGo,dif_pos h,if_neg hc,if_pos ⟨rfl,hb⟩]
theorem elGo_c {s : List UInt8} {fr : Nat} {i : Nat} {out : List (List UInt8)} (h : i < s.length) (hc : s.getD i 0 ≠ 34) (hb : s.getD i 0 = 44) : elGo s fr false i out = elGo s (i + 1) false (i + 1) (addE out (trimB ((s.drop fr).take (i - fr)))) := by
  rw [elGo,dif_pos h,if_neg hc,if_neg (by simp),if_pos ⟨rfl,hb⟩]
theorem elGo_n {s : List UInt8} {fr : Nat} {q : Bool} {i : Nat} {out : List (List UInt8)} (h : i < s.length) (hc : s.getD i 0 ≠ 34) (h1 : ¬ (q = true ∧ s.getD i 0 = 92)) (h2 : ¬ (q = false ∧ s.getD i 0 = 44)) : elGo s fr q i out = elGo s fr q (i + 1) out := by
  rw [elGo,dif_pos h,if_neg hc,if_neg h1,if_neg h2]
theorem addE_len (out : List (List UInt8)) (e : List UInt8) : (addE out e).length ≤ out.length + 1 := by
  unfold addE
  split <;> simp
theorem trimB_len (l : List UInt8) : (trimB l).length ≤ l.length := by
  unfold trimB trimR
  rw [List.length_reverse]
  have h1 := (List.dropWhile_sublist spc (l := (l.dropWhile spc).reverse)).length_le
  have h2 := (List.dropWhile_sublist spc (l := l)).length_le
  rw [List.length_reverse] at h1
  omega
theorem sd_addE {out : List (List UInt8)} {e : List UInt8} (h : (e == []) = false) : sd 9 (rowsS (addE out e)) = .own 9 (rowsS out ++ [[.v (vS e)]]) := by
  unfold addE
  rw [h,if_neg (by simp),rowsS_snoc,sd_snoc]
theorem addE_nil {out : List (List UInt8)} {e : List UInt8} (h : (e == []) = true) : addE out e = out := by
  unfold addE
  rw [if_pos h]
theorem byte_is (b : UInt8) (k : Nat) (hk : k < 256) : ((b.toNat : Int) == (k : Int)) = decide (b = UInt8.ofNat k) := by
  rw [Bool.eq_iff_iff,beq_iff_eq,decide_eq_true_eq]
  constructor
  · intro h
    have h : b.toNat = k := by omega
    rw [← h]; simp
  · intro h
    rw [h]
    simp
    omega
theorem c110 (e : List UInt8) (he : e.length ≤ 9223372036854775807) (out : List (List UInt8)) (ho : out.length ≤ 1048576) : Sem prog 110 ⟨[.v (vS e),.cref 1 0],[none,some [sd 9 (rowsS out)]]⟩ ⟨[.dead,.dead,.tup []],[none,some [sd 9 (rowsS (addE out (trimB e)))]]⟩ := by
  have hlen : out.length ≤ 9223372036854775806 := by omega
  have hlen2 : (rowsS out).length + 1 ≤ 9223372036854775807 := by rw [rowsS_length]; omega
  cases hz : trimB e == []
  · rw [sd_addE hz]
    cases ho : rowsS out with
    | nil =>
      rw [sd_nil]
      refine sem_fin (cfg := cfg 2) (ts := []) tbOk func110 rfl rfl rfl rfl (fun t h => by cases h) ?_
      simp only [f110,go_sem,cfg,Nat.reduceLeDiff,Nat.reduceLT,Nat.reduceAdd,Nat.reduceSub,Nat.reduceMul,Nat.reduceBEq,Nat.reduceBNe,Nat.reduceEqDiff,reduceCtorEq,reduceIte,Int.reduceLT,Int.reduceLE,Int.reduceAdd,Int.reduceSub,Int.reduceNeg,Int.reduceEq,Int.reduceBEq,Int.reduceBNe,Int.reduceToNat,Nat.reduceDiv,Nat.reduceMod]
      refine ev_call (c90 e he) (retW0 rfl rfl rfl rfl) ?_
      simp only [f110,go_sem,cfg,Nat.reduceLeDiff,Nat.reduceLT,Nat.reduceAdd,Nat.reduceSub,Nat.reduceMul,Nat.reduceBEq,Nat.reduceBNe,Nat.reduceEqDiff,reduceCtorEq,reduceIte,Int.reduceLT,Int.reduceLE,Int.reduceAdd,Int.reduceSub,Int.reduceNeg,Int.reduceEq,Int.reduceBEq,Int.reduceBNe,Int.reduceToNat,Nat.reduceDiv,Nat.reduceMod,hz]
      first | exact ⟨.inr rfl,_,.inl rfl,rfl,rfl⟩ | exact ⟨.inl rfl,_,.inl rfl,rfl,rfl⟩ | trace_state
    | cons x xs =>
      rw [sd_cons]
      have hlx : xs.length + 1 = out.length := by rw [← rowsS_length out,ho]; rfl
      rw [ho] at hlen2
      refine sem_fin (cfg := cfg 2) (ts := []) tbOk func110 rfl rfl rfl rfl (fun t h => by cases h) ?_
      simp only [f110,go_sem,cfg,Nat.reduceLeDiff,Nat.reduceLT,Nat.reduceAdd,Nat.reduceSub,Nat.reduceMul,Nat.reduceBEq,Nat.reduceBNe,Nat.reduceEqDiff,reduceCtorEq,reduceIte,Int.reduceLT,Int.reduceLE,Int.reduceAdd,Int.reduceSub,Int.reduceNeg,Int.reduceEq,Int.reduceBEq,Int.reduceBNe,Int.reduceToNat,Nat.reduceDiv,Nat.reduceMod]
      refine ev_call (c90 e he) (retW0 rfl rfl rfl rfl) ?_
      simp only [f110,go_sem,cfg,Nat.reduceLeDiff,Nat.reduceLT,Nat.reduceAdd,Nat.reduceSub,Nat.reduceMul,Nat.reduceBEq,Nat.reduceBNe,Nat.reduceEqDiff,reduceCtorEq,reduceIte,Int.reduceLT,Int.reduceLE,Int.reduceAdd,Int.reduceSub,Int.reduceNeg,Int.reduceEq,Int.reduceBEq,Int.reduceBNe,Int.reduceToNat,Nat.reduceDiv,Nat.reduceMod,hz,hlen2]
      try (with_reducible intro hlen3)
      with_reducible refine And.intro (by omega) ?_
      first | exact ⟨.inr rfl,_,.inl rfl,rfl,rfl⟩ | exact ⟨.inl rfl,_,.inl rfl,rfl,rfl⟩ | trace_state
  · rw [addE_nil hz]
    cases ho : rowsS out with
    | nil =>
      rw [sd_nil]
      refine sem_fin (cfg := cfg 2) (ts := []) tbOk func110 rfl rfl rfl rfl (fun t h => by cases h) ?_
      simp only [f110,go_sem,cfg,Nat.reduceLeDiff,Nat.reduceLT,Nat.reduceAdd,Nat.reduceSub,Nat.reduceMul,Nat.reduceBEq,Nat.reduceBNe,Nat.reduceEqDiff,reduceCtorEq,reduceIte,Int.reduceLT,Int.reduceLE,Int.reduceAdd,Int.reduceSub,Int.reduceNeg,Int.reduceEq,Int.reduceBEq,Int.reduceBNe,Int.reduceToNat,Nat.reduceDiv,Nat.reduceMod]
      refine ev_call (c90 e he) (retW0 rfl rfl rfl rfl) ?_
      simp only [f110,go_sem,cfg,Nat.reduceLeDiff,Nat.reduceLT,Nat.reduceAdd,Nat.reduceSub,Nat.reduceMul,Nat.reduceBEq,Nat.reduceBNe,Nat.reduceEqDiff,reduceCtorEq,reduceIte,Int.reduceLT,Int.reduceLE,Int.reduceAdd,Int.reduceSub,Int.reduceNeg,Int.reduceEq,Int.reduceBEq,Int.reduceBNe,Int.reduceToNat,Nat.reduceDiv,Nat.reduceMod,hz]
      first | exact ⟨.inr rfl,_,.inl rfl,rfl,rfl⟩ | exact ⟨.inl rfl,_,.inl rfl,rfl,rfl⟩ | trace_state
    | cons x xs =>
      rw [sd_cons]
      refine sem_fin (cfg := cfg 2) (ts := []) tbOk func110 rfl rfl rfl rfl (fun t h => by cases h) ?_
      simp only [f110,go_sem,cfg,Nat.reduceLeDiff,Nat.reduceLT,Nat.reduceAdd,Nat.reduceSub,Nat.reduceMul,Nat.reduceBEq,Nat.reduceBNe,Nat.reduceEqDiff,reduceCtorEq,reduceIte,Int.reduceLT,Int.reduceLE,Int.reduceAdd,Int.reduceSub,Int.reduceNeg,Int.reduceEq,Int.reduceBEq,Int.reduceBNe,Int.reduceToNat,Nat.reduceDiv,Nat.reduceMod]
      refine ev_call (c90 e he) (retW0 rfl rfl rfl rfl) ?_
      simp only [f110,go_sem,cfg,Nat.reduceLeDiff,Nat.reduceLT,Nat.reduceAdd,Nat.reduceSub,Nat.reduceMul,Nat.reduceBEq,Nat.reduceBNe,Nat.reduceEqDiff,reduceCtorEq,reduceIte,Int.reduceLT,Int.reduceLE,Int.reduceAdd,Int.reduceSub,Int.reduceNeg,Int.reduceEq,Int.reduceBEq,Int.reduceBNe,Int.reduceToNat,Nat.reduceDiv,Nat.reduceMod,hz]
      first | exact ⟨.inr rfl,_,.inl rfl,rfl,rfl⟩ | exact ⟨.inl rfl,_,.inl rfl,rfl,rfl⟩ | trace_state
theorem c97 (s : List UInt8) (hs : s.length ≤ 4000) : Sem prog 97 ⟨[.v (vS s)],[none]⟩ ⟨[.dead,sd 9 (rowsS (elB s))],[none]⟩ := by
  refine sem_fin (cfg := cfg 1) (ts := [.tm 2]) tbOk func97 rfl rfl rfl rfl (fun t h => by cases h) ?_
  have hs9 : s.length ≤ 9223372036854775807 := by omega
  have hs4 : ¬ (4000 : Int) < (s.length : Int) := by omega
  simp only [f97,go_sem,cfg,Nat.reduceLeDiff,Nat.reduceLT,Nat.reduceAdd,Nat.reduceSub,Nat.reduceMul,Nat.reduceBEq,Nat.reduceBNe,Nat.reduceEqDiff,reduceCtorEq,reduceIte,Int.reduceLT,Int.reduceLE,Int.reduceAdd,Int.reduceSub,Int.reduceNeg,Int.reduceEq,Int.reduceBEq,Int.reduceBNe,Int.reduceToNat,Nat.reduceDiv,Nat.reduceMod,hs9,hs4]
  try (with_reducible intro hlen)
  try simp only [f97,go_sem,cfg,Nat.reduceLeDiff,Nat.reduceLT,Nat.reduceAdd,Nat.reduceSub,Nat.reduceMul,Nat.reduceBEq,Nat.reduceBNe,Nat.reduceEqDiff,reduceCtorEq,reduceIte,Int.reduceLT,Int.reduceLE,Int.reduceAdd,Int.reduceSub,Int.reduceNeg,Int.reduceEq,Int.reduceBEq,Int.reduceBNe,Int.reduceToNat,Nat.reduceDiv,Nat.reduceMod,hs9,hs4]
  refine loop_on (fun st : Nat × Nat × Bool × List (List UInt8) => ⟨[.v (vS s),.dead,.nil,.cref 3 0,.clo 110 [.cref 3 0],.v (vI st.2.1),.v (vB st.2.2.1),.v (vI st.1),.dead,.dead,.dead,.dead,.dead,.dead,.dead,.dead,.dead,.dead,.dead,.dead,.dead,.dead,.dead,.dead,.dead,.dead,.dead,.dead,.dead,.dead,.dead,.dead,.dead,.dead,.dead,.dead,.dead,.dead,.dead,.dead,.dead,.dead,.dead,.dead,.dead,.dead,.dead,.dead,.dead,.dead,.dead,.dead,.dead,.dead,.dead,.dead,.dead,.dead],[none,none,none,some [sd 9 (rowsS st.2.2.2)],none,none,none,none,none,none,none,none,none,none,none,none,none,none,none,none,none,none,none,none,none,none,none,none,none,none,none,none,none,none,none,none,none,none,none,none,none,none,none,none,none,none,none,none,none,none,none,none,none,none,none,none,none,none]⟩) [0,2,3,4,5,6,7] (fun st => st.2.1 ≤ st.1 ∧ st.2.1 ≤ s.length ∧ st.2.2.2.length ≤ st.1 ∧ st.2.2.2.length ≤ 4001 ∧ elGo s st.2.1 st.2.2.1 st.1 st.2.2.2 = elB s) (fun st => s.length + 2 - st.1) (0,0,false,[]) rfl ⟨by decide,Nat.zero_le _,by simp,by simp,rfl⟩ ?_
  rintro ⟨i,fr,q,out⟩ ⟨g1,g2,g3,g5,g4⟩
  have g1 : fr ≤ i := g1
  have g2 : fr ≤ s.length := g2
  have g3 : out.length ≤ i := g3
  have g5 : out.length ≤ 4001 := g5
  have g4 : elGo s fr q i out = elB s := g4
  simp only [f97,go_sem,cfg,Nat.reduceLeDiff,Nat.reduceLT,Nat.reduceAdd,Nat.reduceSub,Nat.reduceMul,Nat.reduceBEq,Nat.reduceBNe,Nat.reduceEqDiff,reduceCtorEq,reduceIte,Int.reduceLT,Int.reduceLE,Int.reduceAdd,Int.reduceSub,Int.reduceNeg,Int.reduceEq,Int.reduceBEq,Int.reduceBNe,Int.reduceToNat,Nat.reduceDiv,Nat.reduceMod,hs9]
  try (with_reducible intro hlen2)
  refine Or.elim (Classical.em (i < s.length)) (fun hc => ?_) fun hc => ?_
  · have hw := wrapN hc hs9
    have hw2 : IntKind.i64.wrap (((i + 1 : Nat) : Int) + 1) = ((i + 2 : Nat) : Int) := by rw [IntKind.wrap_i64]; omega
    have k34 := byte_is (s.getD i 0) 34 (by decide)
    have k92 := byte_is (s.getD i 0) 92 (by decide)
    have k44 := byte_is (s.getD i 0) 44 (by decide)
    have k34 : (((s.getD i 0).toNat : Int) == 34) = decide (s.getD i 0 = 34) := k34
    have k92 : (((s.getD i 0).toNat : Int) == 92) = decide (s.getD i 0 = 92) := k92
    have k44 : (((s.getD i 0).toNat : Int) == 44) = decide (s.getD i 0 = 44) := k44
    simp only [f97,go_sem,cfg,Nat.reduceLeDiff,Nat.reduceLT,Nat.reduceAdd,Nat.reduceSub,Nat.reduceMul,Nat.reduceBEq,Nat.reduceBNe,Nat.reduceEqDiff,reduceCtorEq,reduceIte,Int.reduceLT,Int.reduceLE,Int.reduceAdd,Int.reduceSub,Int.reduceNeg,Int.reduceEq,Int.reduceBEq,Int.reduceBNe,Int.reduceToNat,Nat.reduceDiv,Nat.reduceMod,hs9,hc]
    by_cases hq : s.getD i 0 = 34
    · rw [decide_eq_true hq] at k34
      simp only [f97,go_sem,cfg,Nat.reduceLeDiff,Nat.reduceLT,Nat.reduceAdd,Nat.reduceSub,Nat.reduceMul,Nat.reduceBEq,Nat.reduceBNe,Nat.reduceEqDiff,reduceCtorEq,reduceIte,Int.reduceLT,Int.reduceLE,Int.reduceAdd,Int.reduceSub,Int.reduceNeg,Int.reduceEq,Int.reduceBEq,Int.reduceBNe,Int.reduceToNat,Nat.reduceDiv,Nat.reduceMod,hs9,hc,k34,hw]
      refine ⟨(i + 1,fr,!q,out),?_,⟨by show fr ≤ i + 1; omega,g2,by show out.length ≤ i + 1; omega,g5,(elGo_q hc hq).symm.trans g4⟩,by show s.length + 2 - (i + 1) < s.length + 2 - i; omega⟩
      dsimp only
      generalize rowsS out = R
      cases R <;> rfl
    rw [decide_eq_false hq] at k34
    cases q with
    | true =>
      by_cases hb : s.getD i 0 = 92
      · rw [decide_eq_true hb] at k92
        simp only [f97,go_sem,cfg,Nat.reduceLeDiff,Nat.reduceLT,Nat.reduceAdd,Nat.reduceSub,Nat.reduceMul,Nat.reduceBEq,Nat.reduceBNe,Nat.reduceEqDiff,reduceCtorEq,reduceIte,Int.reduceLT,Int.reduceLE,Int.reduceAdd,Int.reduceSub,Int.reduceNeg,Int.reduceEq,Int.reduceBEq,Int.reduceBNe,Int.reduceToNat,Nat.reduceDiv,Nat.reduceMod,hs9,hc,k34,k92,hw,hw2]
        refine ⟨(i + 2,fr,true,out),?_,⟨by show fr ≤ i + 2; omega,g2,by show out.length ≤ i + 2; omega,g5,(elGo_b hc hq hb).symm.trans g4⟩,by show s.length + 2 - (i + 2) < s.length + 2 - i; omega⟩
        dsimp only
        generalize rowsS out = R
        cases R <;> rfl
      · rw [decide_eq_false hb] at k92
        simp only [f97,go_sem,cfg,Nat.reduceLeDiff,Nat.reduceLT,Nat.reduceAdd,Nat.reduceSub,Nat.reduceMul,Nat.reduceBEq,Nat.reduceBNe,Nat.reduceEqDiff,reduceCtorEq,reduceIte,Int.reduceLT,Int.reduceLE,Int.reduceAdd,Int.reduceSub,Int.reduceNeg,Int.reduceEq,Int.reduceBEq,Int.reduceBNe,Int.reduceToNat,Nat.reduceDiv,Nat.reduceMod,hs9,hc,k34,k92,hw,hw2]
        refine ⟨(i + 1,fr,true,out),?_,⟨by show fr ≤ i + 1; omega,g2,by show out.length ≤ i + 1; omega,g5,(elGo_n hc hq (fun h => hb h.2) (by simp)).symm.trans g4⟩,by show s.length + 2 - (i + 1) < s.length + 2 - i; omega⟩
        dsimp only
        generalize rowsS out = R
        cases R <;> rfl
    | false =>
      by_cases hb : s.getD i 0 = 44
      · rw [decide_eq_true hb] at k44
        have hln : ((s.drop fr).take (i - fr)).length ≤ 4000 := by rw [List.length_take,List.length_drop]; omega
        have h110 := c110 ((s.drop fr).take (i - fr)) (by omega) out (by omega)
        have gz := (elGo_c (fr := fr) (out := out) hc hq hb).symm.trans g4
        have gl := addE_len out (trimB ((s.drop fr).take (i - fr)))
        have gf : ((fr : Int) ≤ (i : Int)) := by omega
        have gi : ((i : Int) ≤ (s.length : Int)) := by omega
        have gi' : i ≤ s.length := by omega
        generalize hA : addE out (trimB ((s.drop fr).take (i - fr))) = A at h110 gz gl
        generalize hR : rowsS A = R at h110
        cases ho : rowsS out with
        | nil =>
          rw [ho,sd_nil] at h110
          cases R with
          | nil => 
            rw [sd_nil] at h110
            simp only [f97,go_sem,cfg,Nat.reduceLeDiff,Nat.reduceLT,Nat.reduceAdd,Nat.reduceSub,Nat.reduceMul,Nat.reduceBEq,Nat.reduceBNe,Nat.reduceEqDiff,reduceCtorEq,reduceIte,Int.reduceLT,Int.reduceLE,Int.reduceAdd,Int.reduceSub,Int.reduceNeg,Int.reduceEq,Int.reduceBEq,Int.reduceBNe,Int.reduceToNat,Nat.reduceDiv,Nat.reduceMod,hs9,hc,k34,k44,hw,hw2,ho,sd_nil,sd_cons,gf,gi,gi',g1,g2]
            refine ev_call h110 (retWc rfl rfl rfl rfl rfl rfl rfl rfl) ?_
            simp only [f97,go_sem,cfg,Nat.reduceLeDiff,Nat.reduceLT,Nat.reduceAdd,Nat.reduceSub,Nat.reduceMul,Nat.reduceBEq,Nat.reduceBNe,Nat.reduceEqDiff,reduceCtorEq,reduceIte,Int.reduceLT,Int.reduceLE,Int.reduceAdd,Int.reduceSub,Int.reduceNeg,Int.reduceEq,Int.reduceBEq,Int.reduceBNe,Int.reduceToNat,Nat.reduceDiv,Nat.reduceMod,hs9,hc,k34,k44,hw,hw2]
            refine ⟨(i + 1,i + 1,false,A),?_,⟨by show i + 1 ≤ i + 1; omega,by show i + 1 ≤ s.length; omega,by show A.length ≤ i + 1; omega,by show A.length ≤ 4001; omega,gz⟩,by show s.length + 2 - (i + 1) < s.length + 2 - i; omega⟩
            dsimp only
            rw [hR]
            rfl
          | cons y ys => 
            rw [sd_cons] at h110
            simp only [f97,go_sem,cfg,Nat.reduceLeDiff,Nat.reduceLT,Nat.reduceAdd,Nat.reduceSub,Nat.reduceMul,Nat.reduceBEq,Nat.reduceBNe,Nat.reduceEqDiff,reduceCtorEq,reduceIte,Int.reduceLT,Int.reduceLE,Int.reduceAdd,Int.reduceSub,Int.reduceNeg,Int.reduceEq,Int.reduceBEq,Int.reduceBNe,Int.reduceToNat,Nat.reduceDiv,Nat.reduceMod,hs9,hc,k34,k44,hw,hw2,ho,sd_nil,sd_cons,gf,gi,gi',g1,g2]
            refine ev_call h110 (retWc rfl rfl rfl rfl rfl rfl rfl rfl) ?_
            simp only [f97,go_sem,cfg,Nat.reduceLeDiff,Nat.reduceLT,Nat.reduceAdd,Nat.reduceSub,Nat.reduceMul,Nat.reduceBEq,Nat.reduceBNe,Nat.reduceEqDiff,reduceCtorEq,reduceIte,Int.reduceLT,Int.reduceLE,Int.reduceAdd,Int.reduceSub,Int.reduceNeg,Int.reduceEq,Int.reduceBEq,Int.reduceBNe,Int.reduceToNat,Nat.reduceDiv,Nat.reduceMod,hs9,hc,k34,k44,hw,hw2]
            refine ⟨(i + 1,i + 1,false,A),?_,⟨by show i + 1 ≤ i + 1; omega,by show i + 1 ≤ s.length; omega,by show A.length ≤ i + 1; omega,by show A.length ≤ 4001; omega,gz⟩,by show s.length + 2 - (i + 1) < s.length + 2 - i; omega⟩
            dsimp only
            rw [hR]
            rfl
        | cons x xs =>
          rw [ho,sd_cons] at h110
          cases R with
          | nil => 
            rw [sd_nil] at h110
            simp only [f97,go_sem,cfg,Nat.reduceLeDiff,Nat.reduceLT,Nat.reduceAdd,Nat.reduceSub,Nat.reduceMul,Nat.reduceBEq,Nat.reduceBNe,Nat.reduceEqDiff,reduceCtorEq,reduceIte,Int.reduceLT,Int.reduceLE,Int.reduceAdd,Int.reduceSub,Int.reduceNeg,Int.reduceEq,Int.reduceBEq,Int.reduceBNe,Int.reduceToNat,Nat.reduceDiv,Nat.reduceMod,hs9,hc,k34,k44,hw,hw2,ho,sd_nil,sd_cons,gf,gi,gi',g1,g2]
            refine ev_call h110 (retWc rfl rfl rfl rfl rfl rfl rfl rfl) ?_
            simp only [f97,go_sem,cfg,Nat.reduceLeDiff,Nat.reduceLT,Nat.reduceAdd,Nat.reduceSub,Nat.reduceMul,Nat.reduceBEq,Nat.reduceBNe,Nat.reduceEqDiff,reduceCtorEq,reduceIte,Int.reduceLT,Int.reduceLE,Int.reduceAdd,Int.reduceSub,Int.reduceNeg,Int.reduceEq,Int.reduceBEq,Int.reduceBNe,Int.reduceToNat,Nat.reduceDiv,Nat.reduceMod,hs9,hc,k34,k44,hw,hw2]
            refine ⟨(i + 1,i + 1,false,A),?_,⟨by show i + 1 ≤ i + 1; omega,by show i + 1 ≤ s.length; omega,by show A.length ≤ i + 1; omega,by show A.length ≤ 4001; omega,gz⟩,by show s.length + 2 - (i + 1) < s.length + 2 - i; omega⟩
            dsimp only
            rw [hR]
            rfl
          | cons y ys => 
            rw [sd_cons] at h110
            simp only [f97,go_sem,cfg,Nat.reduceLeDiff,Nat.reduceLT,Nat.reduceAdd,Nat.reduceSub,Nat.reduceMul,Nat.reduceBEq,Nat.reduceBNe,Nat.reduceEqDiff,reduceCtorEq,reduceIte,Int.reduceLT,Int.reduceLE,Int.reduceAdd,Int.reduceSub,Int.reduceNeg,Int.reduceEq,Int.reduceBEq,Int.reduceBNe,Int.reduceToNat,Nat.reduceDiv,Nat.reduceMod,hs9,hc,k34,k44,hw,hw2,ho,sd_nil,sd_cons,gf,gi,gi',g1,g2]
            refine ev_call h110 (retWc rfl rfl rfl rfl rfl rfl rfl rfl) ?_
            simp only [f97,go_sem,cfg,Nat.reduceLeDiff,Nat.reduceLT,Nat.reduceAdd,Nat.reduceSub,Nat.reduceMul,Nat.reduceBEq,Nat.reduceBNe,Nat.reduceEqDiff,reduceCtorEq,reduceIte,Int.reduceLT,Int.reduceLE,Int.reduceAdd,Int.reduceSub,Int.reduceNeg,Int.reduceEq,Int.reduceBEq,Int.reduceBNe,Int.reduceToNat,Nat.reduceDiv,Nat.reduceMod,hs9,hc,k34,k44,hw,hw2]
            refine ⟨(i + 1,i + 1,false,A),?_,⟨by show i + 1 ≤ i + 1; omega,by show i + 1 ≤ s.length; omega,by show A.length ≤ i + 1; omega,by show A.length ≤ 4001; omega,gz⟩,by show s.length + 2 - (i + 1) < s.length + 2 - i; omega⟩
            dsimp only
            rw [hR]
            rfl
      · rw [decide_eq_false hb] at k44
        simp only [f97,go_sem,cfg,Nat.reduceLeDiff,Nat.reduceLT,Nat.reduceAdd,Nat.reduceSub,Nat.reduceMul,Nat.reduceBEq,Nat.reduceBNe,Nat.reduceEqDiff,reduceCtorEq,reduceIte,Int.reduceLT,Int.reduceLE,Int.reduceAdd,Int.reduceSub,Int.reduceNeg,Int.reduceEq,Int.reduceBEq,Int.reduceBNe,Int.reduceToNat,Nat.reduceDiv,Nat.reduceMod,hs9,hc,k34,k44,hw,hw2]
        refine ⟨(i + 1,fr,false,out),?_,⟨by show fr ≤ i + 1; omega,g2,by show out.length ≤ i + 1; omega,g5,(elGo_n hc hq (by simp) (fun h => hb h.2)).symm.trans g4⟩,by show s.length + 2 - (i + 1) < s.length + 2 - i; omega⟩
        dsimp only
        generalize rowsS out = R
        cases R <;> rfl
  · have gz : elB s = addE out (trimB (s.drop fr)) := g4.symm.trans (elGo_end hc)
    rw [gz]
    have gf : ((fr : Int) ≤ (s.length : Int)) := by omega
    have hln : (s.drop fr).length ≤ 4000 := by rw [List.length_drop]; omega
    have h110 := c110 (s.drop fr) (by omega) out (by omega)
    have htk : (s.drop fr).take (s.length - fr) = s.drop fr := List.take_of_length_le (by rw [List.length_drop]; omega)
    generalize rowsS (addE out (trimB (s.drop fr))) = R at h110
    cases ho : rowsS out with
    | nil =>
      rw [ho,sd_nil] at h110
      cases R with
      | nil => 
        rw [sd_nil] at h110
        rw [sd_nil]
        simp only [f97,go_sem,cfg,Nat.reduceLeDiff,Nat.reduceLT,Nat.reduceAdd,Nat.reduceSub,Nat.reduceMul,Nat.reduceBEq,Nat.reduceBNe,Nat.reduceEqDiff,reduceCtorEq,reduceIte,Int.reduceLT,Int.reduceLE,Int.reduceAdd,Int.reduceSub,Int.reduceNeg,Int.reduceEq,Int.reduceBEq,Int.reduceBNe,Int.reduceToNat,Nat.reduceDiv,Nat.reduceMod,hs9,hc,ho,sd_nil,sd_cons,gf,g1,g2,htk]
        refine ev_call h110 (retWc rfl rfl rfl rfl rfl rfl rfl rfl) ?_
        simp only [f97,go_sem,cfg,Nat.reduceLeDiff,Nat.reduceLT,Nat.reduceAdd,Nat.reduceSub,Nat.reduceMul,Nat.reduceBEq,Nat.reduceBNe,Nat.reduceEqDiff,reduceCtorEq,reduceIte,Int.reduceLT,Int.reduceLE,Int.reduceAdd,Int.reduceSub,Int.reduceNeg,Int.reduceEq,Int.reduceBEq,Int.reduceBNe,Int.reduceToNat,Nat.reduceDiv,Nat.reduceMod,hs9]
        first | exact fin0 (.inr rfl) rfl rfl rfl rfl | trace_state
      | cons y ys => 
        rw [sd_cons] at h110
        rw [sd_cons]
        simp only [f97,go_sem,cfg,Nat.reduceLeDiff,Nat.reduceLT,Nat.reduceAdd,Nat.reduceSub,Nat.reduceMul,Nat.reduceBEq,Nat.reduceBNe,Nat.reduceEqDiff,reduceCtorEq,reduceIte,Int.reduceLT,Int.reduceLE,Int.reduceAdd,Int.reduceSub,Int.reduceNeg,Int.reduceEq,Int.reduceBEq,Int.reduceBNe,Int.reduceToNat,Nat.reduceDiv,Nat.reduceMod,hs9,hc,ho,sd_nil,sd_cons,gf,g1,g2,htk]
        refine ev_call h110 (retWc rfl rfl rfl rfl rfl rfl rfl rfl) ?_
        simp only [f97,go_sem,cfg,Nat.reduceLeDiff,Nat.reduceLT,Nat.reduceAdd,Nat.reduceSub,Nat.reduceMul,Nat.reduceBEq,Nat.reduceBNe,Nat.reduceEqDiff,reduceCtorEq,reduceIte,Int.reduceLT,Int.reduceLE,Int.reduceAdd,Int.reduceSub,Int.reduceNeg,Int.reduceEq,Int.reduceBEq,Int.reduceBNe,Int.reduceToNat,Nat.reduceDiv,Nat.reduceMod,hs9]
        first | exact fin0 (.inr rfl) rfl rfl rfl rfl | trace_state
    | cons x xs =>
      rw [ho,sd_cons] at h110
      cases R with
      | nil => 
        rw [sd_nil] at h110
        rw [sd_nil]
        simp only [f97,go_sem,cfg,Nat.reduceLeDiff,Nat.reduceLT,Nat.reduceAdd,Nat.reduceSub,Nat.reduceMul,Nat.reduceBEq,Nat.reduceBNe,Nat.reduceEqDiff,reduceCtorEq,reduceIte,Int.reduceLT,Int.reduceLE,Int.reduceAdd,Int.reduceSub,Int.reduceNeg,Int.reduceEq,Int.reduceBEq,Int.reduceBNe,Int.reduceToNat,Nat.reduceDiv,Nat.reduceMod,hs9,hc,ho,sd_nil,sd_cons,gf,g1,g2,htk]
        refine ev_call h110 (retWc rfl rfl rfl rfl rfl rfl rfl rfl) ?_
        simp only [f97,go_sem,cfg,Nat.reduceLeDiff,Nat.reduceLT,Nat.reduceAdd,Nat.reduceSub,Nat.reduceMul,Nat.reduceBEq,Nat.reduceBNe,Nat.reduceEqDiff,reduceCtorEq,reduceIte,Int.reduceLT,Int.reduceLE,Int.reduceAdd,Int.reduceSub,Int.reduceNeg,Int.reduceEq,Int.reduceBEq,Int.reduceBNe,Int.reduceToNat,Nat.reduceDiv,Nat.reduceMod,hs9]
        first | exact fin0 (.inr rfl) rfl rfl rfl rfl | trace_state
      | cons y ys => 
        rw [sd_cons] at h110
        rw [sd_cons]
        simp only [f97,go_sem,cfg,Nat.reduceLeDiff,Nat.reduceLT,Nat.reduceAdd,Nat.reduceSub,Nat.reduceMul,Nat.reduceBEq,Nat.reduceBNe,Nat.reduceEqDiff,reduceCtorEq,reduceIte,Int.reduceLT,Int.reduceLE,Int.reduceAdd,Int.reduceSub,Int.reduceNeg,Int.reduceEq,Int.reduceBEq,Int.reduceBNe,Int.reduceToNat,Nat.reduceDiv,Nat.reduceMod,hs9,hc,ho,sd_nil,sd_cons,gf,g1,g2,htk]
        refine ev_call h110 (retWc rfl rfl rfl rfl rfl rfl rfl rfl) ?_
        simp only [f97,go_sem,cfg,Nat.reduceLeDiff,Nat.reduceLT,Nat.reduceAdd,Nat.reduceSub,Nat.reduceMul,Nat.reduceBEq,Nat.reduceBNe,Nat.reduceEqDiff,reduceCtorEq,reduceIte,Int.reduceLT,Int.reduceLE,Int.reduceAdd,Int.reduceSub,Int.reduceNeg,Int.reduceEq,Int.reduceBEq,Int.reduceBNe,Int.reduceToNat,Nat.reduceDiv,Nat.reduceMod,hs9]
        first | exact fin0 (.inr rfl) rfl rfl rfl rfl | trace_state
theorem c89 (s : List UInt8) (hs : s.length ≤ 4000) : Sem prog 89 ⟨[.v (vS s)],[none]⟩ ⟨[.dead,sd 9 (rowsS (elB s))],[none]⟩ := by
  refine sem_fin (cfg := cfg 1) (ts := [.tm 2]) tbOk func89 rfl rfl rfl rfl (fun t h => by cases h) ?_
  have hs9 : s.length ≤ 9223372036854775807 := by omega
  have hs4 : ¬ (4000 : Int) < (s.length : Int) := by omega
  simp only [f89,go_sem,cfg,Nat.reduceLeDiff,Nat.reduceLT,Nat.reduceAdd,Nat.reduceSub,Nat.reduceMul,Nat.reduceBEq,Nat.reduceBNe,Nat.reduceEqDiff,reduceCtorEq,reduceIte,Int.reduceLT,Int.reduceLE,Int.reduceAdd,Int.reduceSub,Int.reduceNeg,Int.reduceEq,Int.reduceBEq,Int.reduceBNe,Int.reduceToNat,Nat.reduceDiv,Nat.reduceMod,hs9,hs4]
  try (with_reducible intro hlen)
  try simp only [f89,go_sem,cfg,Nat.reduceLeDiff,Nat.reduceLT,Nat.reduceAdd,Nat.reduceSub,Nat.reduceMul,Nat.reduceBEq,Nat.reduceBNe,Nat.reduceEqDiff,reduceCtorEq,reduceIte,Int.reduceLT,Int.reduceLE,Int.reduceAdd,Int.reduceSub,Int.reduceNeg,Int.reduceEq,Int.reduceBEq,Int.reduceBNe,Int.reduceToNat,Nat.reduceDiv,Nat.reduceMod,hs9,hs4]
  refine loop_on (fun st : Nat × Nat × Bool × List (List UInt8) × Bool => ⟨[.v (vS s),.dead,.nil,sd 9 (rowsS st.2.2.2.1),.v (vI st.2.1),.v (vB st.2.2.1),.v (vI st.1),.dead,.dead,.dead,.dead,.dead,.dead,.dead,.dead,.dead,.dead,.dead,.dead,.dead,.dead,.dead,.dead,.dead,.dead,.dead,.dead,.dead,.dead,.dead,.dead,.dead,.dead,.dead,.dead,.dead,.dead,.dead,.dead,.dead,.dead,.dead,.dead,.dead,.dead,.dead,.dead,.dead,.dead,.dead,.dead,.dead,.dead,.dead,.dead,.dead,.dead,.dead,.dead,.dead,.dead,.dead,.dead,.dead,.dead,.dead,.dead,.dead,.dead,.dead],List.replicate 70 none⟩) [0,2,3,4,5,6] (fun st => st.2.1 ≤ s.length + 1 ∧ (st.1 ≤ s.length → st.2.1 ≤ st.1) ∧ st.2.2.2.1.length ≤ st.1 ∧ st.2.2.2.1.length ≤ 4001 ∧ st.1 ≤ s.length + 1 ∧ (st.2.2.2.2 = (decide (st.1 ≤ s.length))) ∧ (if st.2.2.2.2 then elGo s st.2.1 st.2.2.1 st.1 st.2.2.2.1 else st.2.2.2.1) = elB s) (fun st => s.length + 2 - st.1) (0,0,false,[],true) rfl ⟨Nat.zero_le _,fun _ => Nat.le_refl _,by simp,by simp,Nat.zero_le _,by simp,rfl⟩ ?_
  rintro ⟨i,fr,q,out,live⟩ ⟨g1,g2,g3,g5,g6,g7,g4⟩
  have g1 : fr ≤ s.length + 1 := g1
  have g2 : i ≤ s.length → fr ≤ i := g2
  have g3 : out.length ≤ i := g3
  have g5 : out.length ≤ 4001 := g5
  have g6 : i ≤ s.length + 1 := g6
  have g7 : live = decide (i ≤ s.length) := g7
  have g4 : (if live then elGo s fr q i out else out) = elB s := g4
  simp only [f89,go_sem,cfg,Nat.reduceLeDiff,Nat.reduceLT,Nat.reduceAdd,Nat.reduceSub,Nat.reduceMul,Nat.reduceBEq,Nat.reduceBNe,Nat.reduceEqDiff,reduceCtorEq,reduceIte,Int.reduceLT,Int.reduceLE,Int.reduceAdd,Int.reduceSub,Int.reduceNeg,Int.reduceEq,Int.reduceBEq,Int.reduceBNe,Int.reduceToNat,Nat.reduceDiv,Nat.reduceMod,hs9]
  try (with_reducible intro hlen2)
  refine Or.elim (Classical.em (i ≤ s.length)) (fun hle => ?_) fun hle => ?_
  · have g2 := g2 hle
    rw [decide_eq_true hle] at g7
    rw [g7,if_pos rfl] at g4
    have hlei : ((i : Int) ≤ (s.length : Int)) := by omega
    have hw : IntKind.i64.wrap ((i : Int) + 1) = ((i + 1 : Nat) : Int) := by rw [IntKind.wrap_i64]; omega
    have hw2 : IntKind.i64.wrap (((i + 1 : Nat) : Int) + 1) = ((i + 2 : Nat) : Int) := by rw [IntKind.wrap_i64]; omega
    have gf : ((fr : Int) ≤ (i : Int)) := by omega
    have hln : ((s.drop fr).take (i - fr)).length ≤ 4000 := by rw [List.length_take,List.length_drop]; omega
    have hln9 : ((s.drop fr).take (i - fr)).length ≤ 9223372036854775807 := by omega
    have h85 := c85 ((s.drop fr).take (i - fr)) hln9
    have hso : (rowsS out).length + 1 ≤ 9223372036854775807 := by rw [rowsS_length]; omega
    have htl := trimB_len ((s.drop fr).take (i - fr))
    have htl9 : (trimB ((s.drop fr).take (i - fr))).length ≤ 9223372036854775807 := by omega
    simp only [f89,go_sem,cfg,Nat.reduceLeDiff,Nat.reduceLT,Nat.reduceAdd,Nat.reduceSub,Nat.reduceMul,Nat.reduceBEq,Nat.reduceBNe,Nat.reduceEqDiff,reduceCtorEq,reduceIte,Int.reduceLT,Int.reduceLE,Int.reduceAdd,Int.reduceSub,Int.reduceNeg,Int.reduceEq,Int.reduceBEq,Int.reduceBNe,Int.reduceToNat,Nat.reduceDiv,Nat.reduceMod,hs9,hle,hlei]
    by_cases hend : i = s.length
    · have heq : ((i : Int) == (s.length : Int)) = true := by rw [beq_iff_eq]; omega
      have hdt : (s.drop fr).take (i - fr) = s.drop fr := List.take_of_length_le (by rw [List.length_drop]; omega)
      have gz : addE out (trimB ((s.drop fr).take (i - fr))) = elB s := by rw [hdt]; exact (elGo_end (by omega)).symm.trans g4
      generalize hE : (s.drop fr).take (i - fr) = el at h85 htl htl9 gz hln hln9
      cases hz : trimB el == []
      · have hlp : (0 : Int) < ((trimB el).length : Int) := by
          have : trimB el ≠ [] := by rw [beq_eq_false_iff_ne] at hz; exact hz
          have := List.length_pos_iff.2 this
          omega
        have hA := sd_addE (out := out) hz
        cases ho : rowsS out with
        | nil =>
          rw [ho] at hA hso
          simp only [f89,go_sem,cfg,Nat.reduceLeDiff,Nat.reduceLT,Nat.reduceAdd,Nat.reduceSub,Nat.reduceMul,Nat.reduceBEq,Nat.reduceBNe,Nat.reduceEqDiff,reduceCtorEq,reduceIte,Int.reduceLT,Int.reduceLE,Int.reduceAdd,Int.reduceSub,Int.reduceNeg,Int.reduceEq,Int.reduceBEq,Int.reduceBNe,Int.reduceToNat,Nat.reduceDiv,Nat.reduceMod,hs9,hso,gf,hE,ho,sd_nil,sd_cons,g2,hle,heq]
          refine ev_call h85 (retW0 rfl rfl rfl rfl) ?_
          simp only [f89,go_sem,cfg,Nat.reduceLeDiff,Nat.reduceLT,Nat.reduceAdd,Nat.reduceSub,Nat.reduceMul,Nat.reduceBEq,Nat.reduceBNe,Nat.reduceEqDiff,reduceCtorEq,reduceIte,Int.reduceLT,Int.reduceLE,Int.reduceAdd,Int.reduceSub,Int.reduceNeg,Int.reduceEq,Int.reduceBEq,Int.reduceBNe,Int.reduceToNat,Nat.reduceDiv,Nat.reduceMod,hs9,hso,hlp,htl9,hw,ho]
          try (with_reducible intro hlen3)
          try simp only [f89,go_sem,cfg,Nat.reduceLeDiff,Nat.reduceLT,Nat.reduceAdd,Nat.reduceSub,Nat.reduceMul,Nat.reduceBEq,Nat.reduceBNe,Nat.reduceEqDiff,reduceCtorEq,reduceIte,Int.reduceLT,Int.reduceLE,Int.reduceAdd,Int.reduceSub,Int.reduceNeg,Int.reduceEq,Int.reduceBEq,Int.reduceBNe,Int.reduceToNat,Nat.reduceDiv,Nat.reduceMod,hs9,hso,hlp,htl9,hw,ho]
          refine ⟨(i + 1,i + 1,q,addE out (trimB el),false),?_,⟨by show i + 1 ≤ s.length + 1; omega,fun h => absurd h (by show ¬ i + 1 ≤ s.length; omega),by show (addE out (trimB el)).length ≤ i + 1; have := addE_len out (trimB el); omega,by show (addE out (trimB el)).length ≤ 4001; have := addE_len out (trimB el); omega,by show i + 1 ≤ s.length + 1; omega,(decide_eq_false (by show ¬ i + 1 ≤ s.length; omega)).symm,by rw [if_neg (by simp)]; exact gz⟩,by show s.length + 2 - (i + 1) < s.length + 2 - i; omega⟩
          dsimp only
          rw [hA]
          rfl
        | cons x xs =>
          have hlx : xs.length + 1 = out.length := by rw [← rowsS_length out,ho]; rfl
          rw [ho] at hA hso
          simp only [f89,go_sem,cfg,Nat.reduceLeDiff,Nat.reduceLT,Nat.reduceAdd,Nat.reduceSub,Nat.reduceMul,Nat.reduceBEq,Nat.reduceBNe,Nat.reduceEqDiff,reduceCtorEq,reduceIte,Int.reduceLT,Int.reduceLE,Int.reduceAdd,Int.reduceSub,Int.reduceNeg,Int.reduceEq,Int.reduceBEq,Int.reduceBNe,Int.reduceToNat,Nat.reduceDiv,Nat.reduceMod,hs9,hso,gf,hE,ho,sd_nil,sd_cons,g2,hle,heq]
          refine ev_call h85 (retW0 rfl rfl rfl rfl) ?_
          simp only [f89,go_sem,cfg,Nat.reduceLeDiff,Nat.reduceLT,Nat.reduceAdd,Nat.reduceSub,Nat.reduceMul,Nat.reduceBEq,Nat.reduceBNe,Nat.reduceEqDiff,reduceCtorEq,reduceIte,Int.reduceLT,Int.reduceLE,Int.reduceAdd,Int.reduceSub,Int.reduceNeg,Int.reduceEq,Int.reduceBEq,Int.reduceBNe,Int.reduceToNat,Nat.reduceDiv,Nat.reduceMod,hs9,hso,hlp,htl9,hw,ho]
          try (with_reducible intro hlen3)
          try simp only [f89,go_sem,cfg,Nat.reduceLeDiff,Nat.reduceLT,Nat.reduceAdd,Nat.reduceSub,Nat.reduceMul,Nat.reduceBEq,Nat.reduceBNe,Nat.reduceEqDiff,reduceCtorEq,reduceIte,Int.reduceLT,Int.reduceLE,Int.reduceAdd,Int.reduceSub,Int.reduceNeg,Int.reduceEq,Int.reduceBEq,Int.reduceBNe,Int.reduceToNat,Nat.reduceDiv,Nat.reduceMod,hs9,hso,hlp,htl9,hw,ho]
          with_reducible refine And.intro (by omega) ?_
          refine ⟨(i + 1,i + 1,q,addE out (trimB el),false),?_,⟨by show i + 1 ≤ s.length + 1; omega,fun h => absurd h (by show ¬ i + 1 ≤ s.length; omega),by show (addE out (trimB el)).length ≤ i + 1; have := addE_len out (trimB el); omega,by show (addE out (trimB el)).length ≤ 4001; have := addE_len out (trimB el); omega,by show i + 1 ≤ s.length + 1; omega,(decide_eq_false (by show ¬ i + 1 ≤ s.length; omega)).symm,by rw [if_neg (by simp)]; exact gz⟩,by show s.length + 2 - (i + 1) < s.length + 2 - i; omega⟩
          dsimp only
          rw [hA]
          rfl
      · have hlp : ¬ (0 : Int) < ((trimB el).length : Int) := by
          have : trimB el = [] := by simpa using hz
          rw [this]; simp
        have hA := addE_nil (out := out) hz
        cases ho : rowsS out with
        | nil =>
          simp only [f89,go_sem,cfg,Nat.reduceLeDiff,Nat.reduceLT,Nat.reduceAdd,Nat.reduceSub,Nat.reduceMul,Nat.reduceBEq,Nat.reduceBNe,Nat.reduceEqDiff,reduceCtorEq,reduceIte,Int.reduceLT,Int.reduceLE,Int.reduceAdd,Int.reduceSub,Int.reduceNeg,Int.reduceEq,Int.reduceBEq,Int.reduceBNe,Int.reduceToNat,Nat.reduceDiv,Nat.reduceMod,hs9,gf,hE,ho,sd_nil,sd_cons,g2,hle,heq]
          refine ev_call h85 (retW0 rfl rfl rfl rfl) ?_
          simp only [f89,go_sem,cfg,Nat.reduceLeDiff,Nat.reduceLT,Nat.reduceAdd,Nat.reduceSub,Nat.reduceMul,Nat.reduceBEq,Nat.reduceBNe,Nat.reduceEqDiff,reduceCtorEq,reduceIte,Int.reduceLT,Int.reduceLE,Int.reduceAdd,Int.reduceSub,Int.reduceNeg,Int.reduceEq,Int.reduceBEq,Int.reduceBNe,Int.reduceToNat,Nat.reduceDiv,Nat.reduceMod,hs9,hlp,htl9,hw,ho]
          refine ⟨(i + 1,i + 1,q,addE out (trimB el),false),?_,⟨by show i + 1 ≤ s.length + 1; omega,fun h => absurd h (by show ¬ i + 1 ≤ s.length; omega),by show (addE out (trimB el)).length ≤ i + 1; have := addE_len out (trimB el); omega,by show (addE out (trimB el)).length ≤ 4001; have := addE_len out (trimB el); omega,by show i + 1 ≤ s.length + 1; omega,(decide_eq_false (by show ¬ i + 1 ≤ s.length; omega)).symm,by rw [if_neg (by simp)]; exact gz⟩,by show s.length + 2 - (i + 1) < s.length + 2 - i; omega⟩
          dsimp only
          rw [hA,ho]
          rfl
        | cons x xs =>
          simp only [f89,go_sem,cfg,Nat.reduceLeDiff,Nat.reduceLT,Nat.reduceAdd,Nat.reduceSub,Nat.reduceMul,Nat.reduceBEq,Nat.reduceBNe,Nat.reduceEqDiff,reduceCtorEq,reduceIte,Int.reduceLT,Int.reduceLE,Int.reduceAdd,Int.reduceSub,Int.reduceNeg,Int.reduceEq,Int.reduceBEq,Int.reduceBNe,Int.reduceToNat,Nat.reduceDiv,Nat.reduceMod,hs9,gf,hE,ho,sd_nil,sd_cons,g2,hle,heq]
          refine ev_call h85 (retW0 rfl rfl rfl rfl) ?_
          simp only [f89,go_sem,cfg,Nat.reduceLeDiff,Nat.reduceLT,Nat.reduceAdd,Nat.reduceSub,Nat.reduceMul,Nat.reduceBEq,Nat.reduceBNe,Nat.reduceEqDiff,reduceCtorEq,reduceIte,Int.reduceLT,Int.reduceLE,Int.reduceAdd,Int.reduceSub,Int.reduceNeg,Int.reduceEq,Int.reduceBEq,Int.reduceBNe,Int.reduceToNat,Nat.reduceDiv,Nat.reduceMod,hs9,hlp,htl9,hw,ho]
          refine ⟨(i + 1,i + 1,q,addE out (trimB el),false),?_,⟨by show i + 1 ≤ s.length + 1; omega,fun h => absurd h (by show ¬ i + 1 ≤ s.length; omega),by show (addE out (trimB el)).length ≤ i + 1; have := addE_len out (trimB el); omega,by show (addE out (trimB el)).length ≤ 4001; have := addE_len out (trimB el); omega,by show i + 1 ≤ s.length + 1; omega,(decide_eq_false (by show ¬ i + 1 ≤ s.length; omega)).symm,by rw [if_neg (by simp)]; exact gz⟩,by show s.length + 2 - (i + 1) < s.length + 2 - i; omega⟩
          dsimp only
          rw [hA,ho]
          rfl
    have hi : i < s.length := by omega
    have heq : ((i : Int) == (s.length : Int)) = false := by rw [beq_eq_false_iff_ne]; omega
    have k34 : (((s.getD i 0).toNat : Int) == 34) = decide (s.getD i 0 = 34) := byte_is (s.getD i 0) 34 (by decide)
    have k92 : (((s.getD i 0).toNat : Int) == 92) = decide (s.getD i 0 = 92) := byte_is (s.getD i 0) 92 (by decide)
    have k44 : (((s.getD i 0).toNat : Int) == 44) = decide (s.getD i 0 = 44) := byte_is (s.getD i 0) 44 (by decide)
    by_cases hq : s.getD i 0 = 34
    · rw [decide_eq_true hq] at k34
      have e44 : ¬ s.getD i 0 = 44 := by rw [hq]; decide
      rw [decide_eq_false e44] at k44
      cases q with
      | true =>
        simp only [f89,go_sem,cfg,Nat.reduceLeDiff,Nat.reduceLT,Nat.reduceAdd,Nat.reduceSub,Nat.reduceMul,Nat.reduceBEq,Nat.reduceBNe,Nat.reduceEqDiff,reduceCtorEq,reduceIte,Int.reduceLT,Int.reduceLE,Int.reduceAdd,Int.reduceSub,Int.reduceNeg,Int.reduceEq,Int.reduceBEq,Int.reduceBNe,Int.reduceToNat,Nat.reduceDiv,Nat.reduceMod,hs9,heq,hi,k34,k44,hw]
        refine ⟨(i + 1,fr,false,out,true),?_,⟨g1,fun _ => by show fr ≤ i + 1; omega,by show out.length ≤ i + 1; omega,g5,by show i + 1 ≤ s.length + 1; omega,(decide_eq_true (by show i + 1 ≤ s.length; omega)).symm,by rw [if_pos rfl]; exact (elGo_q hi hq).symm.trans g4⟩,by show s.length + 2 - (i + 1) < s.length + 2 - i; omega⟩
        dsimp only
        generalize rowsS out = R
        cases R <;> rfl
      | false =>
        simp only [f89,go_sem,cfg,Nat.reduceLeDiff,Nat.reduceLT,Nat.reduceAdd,Nat.reduceSub,Nat.reduceMul,Nat.reduceBEq,Nat.reduceBNe,Nat.reduceEqDiff,reduceCtorEq,reduceIte,Int.reduceLT,Int.reduceLE,Int.reduceAdd,Int.reduceSub,Int.reduceNeg,Int.reduceEq,Int.reduceBEq,Int.reduceBNe,Int.reduceToNat,Nat.reduceDiv,Nat.reduceMod,hs9,heq,hi,k34,k44,hw]
        refine ⟨(i + 1,fr,true,out,true),?_,⟨g1,fun _ => by show fr ≤ i + 1; omega,by show out.length ≤ i + 1; omega,g5,by show i + 1 ≤ s.length + 1; omega,(decide_eq_true (by show i + 1 ≤ s.length; omega)).symm,by rw [if_pos rfl]; exact (elGo_q hi hq).symm.trans g4⟩,by show s.length + 2 - (i + 1) < s.length + 2 - i; omega⟩
        dsimp only
        generalize rowsS out = R
        cases R <;> rfl
    rw [decide_eq_false hq] at k34
    cases q with
    | true =>
      by_cases hb : s.getD i 0 = 92
      · rw [decide_eq_true hb] at k92
        by_cases hl : i + 1 < s.length
        · have hl1 : ((i + 1 : Nat) : Int) < (s.length : Int) := by omega
          simp only [f89,go_sem,cfg,Nat.reduceLeDiff,Nat.reduceLT,Nat.reduceAdd,Nat.reduceSub,Nat.reduceMul,Nat.reduceBEq,Nat.reduceBNe,Nat.reduceEqDiff,reduceCtorEq,reduceIte,Int.reduceLT,Int.reduceLE,Int.reduceAdd,Int.reduceSub,Int.reduceNeg,Int.reduceEq,Int.reduceBEq,Int.reduceBNe,Int.reduceToNat,Nat.reduceDiv,Nat.reduceMod,hs9,heq,hi,k34,k92,hw,hw2,hl,hl1]
          refine ⟨(i + 2,fr,true,out,true),?_,⟨g1,fun _ => by show fr ≤ i + 2; omega,by show out.length ≤ i + 2; omega,g5,by show i + 2 ≤ s.length + 1; omega,(decide_eq_true (by show i + 2 ≤ s.length; omega)).symm,by rw [if_pos rfl]; exact (elGo_b hi hq hb).symm.trans g4⟩,by show s.length + 2 - (i + 2) < s.length + 2 - i; omega⟩
          dsimp only
          generalize rowsS out = R
          cases R <;> rfl
        · have hl1 : ¬ ((i + 1 : Nat) : Int) < (s.length : Int) := by omega
          simp only [f89,go_sem,cfg,Nat.reduceLeDiff,Nat.reduceLT,Nat.reduceAdd,Nat.reduceSub,Nat.reduceMul,Nat.reduceBEq,Nat.reduceBNe,Nat.reduceEqDiff,reduceCtorEq,reduceIte,Int.reduceLT,Int.reduceLE,Int.reduceAdd,Int.reduceSub,Int.reduceNeg,Int.reduceEq,Int.reduceBEq,Int.reduceBNe,Int.reduceToNat,Nat.reduceDiv,Nat.reduceMod,hs9,heq,hi,k34,k92,hw,hl,hl1]
          refine ⟨(i + 1,fr,true,out,true),?_,⟨g1,fun _ => by show fr ≤ i + 1; omega,by show out.length ≤ i + 1; omega,g5,by show i + 1 ≤ s.length + 1; omega,(decide_eq_true (by show i + 1 ≤ s.length; omega)).symm,by rw [if_pos rfl]; exact (elGo_end (by omega)).trans ((elGo_end (by omega)).symm.trans ((elGo_b hi hq hb).symm.trans g4))⟩,by show s.length + 2 - (i + 1) < s.length + 2 - i; omega⟩
          dsimp only
          generalize rowsS out = R
          cases R <;> rfl
      · rw [decide_eq_false hb] at k92
        simp only [f89,go_sem,cfg,Nat.reduceLeDiff,Nat.reduceLT,Nat.reduceAdd,Nat.reduceSub,Nat.reduceMul,Nat.reduceBEq,Nat.reduceBNe,Nat.reduceEqDiff,reduceCtorEq,reduceIte,Int.reduceLT,Int.reduceLE,Int.reduceAdd,Int.reduceSub,Int.reduceNeg,Int.reduceEq,Int.reduceBEq,Int.reduceBNe,Int.reduceToNat,Nat.reduceDiv,Nat.reduceMod,hs9,heq,hi,k34,k92,hw]
        refine ⟨(i + 1,fr,true,out,true),?_,⟨g1,fun _ => by show fr ≤ i + 1; omega,by show out.length ≤ i + 1; omega,g5,by show i + 1 ≤ s.length + 1; omega,(decide_eq_true (by show i + 1 ≤ s.length; omega)).symm,by rw [if_pos rfl]; exact (elGo_n hi hq (fun h => hb h.2) (by simp)).symm.trans g4⟩,by show s.length + 2 - (i + 1) < s.length + 2 - i; omega⟩
        dsimp only
        generalize rowsS out = R
        cases R <;> rfl
    | false =>
      by_cases hb : s.getD i 0 = 44
      · rw [decide_eq_true hb] at k44
        have gz := (elGo_c (fr := fr) (out := out) hi hq hb).symm.trans g4
        generalize hE : (s.drop fr).take (i - fr) = el at h85 htl htl9 gz hln hln9
        cases hz : trimB el == []
        · have hlp : (0 : Int) < ((trimB el).length : Int) := by
            have : trimB el ≠ [] := by rw [beq_eq_false_iff_ne] at hz; exact hz
            have := List.length_pos_iff.2 this
            omega
          have hA := sd_addE (out := out) hz
          cases ho : rowsS out with
          | nil =>
            rw [ho] at hA hso
            simp only [f89,go_sem,cfg,Nat.reduceLeDiff,Nat.reduceLT,Nat.reduceAdd,Nat.reduceSub,Nat.reduceMul,Nat.reduceBEq,Nat.reduceBNe,Nat.reduceEqDiff,reduceCtorEq,reduceIte,Int.reduceLT,Int.reduceLE,Int.reduceAdd,Int.reduceSub,Int.reduceNeg,Int.reduceEq,Int.reduceBEq,Int.reduceBNe,Int.reduceToNat,Nat.reduceDiv,Nat.reduceMod,hs9,hso,gf,hE,ho,sd_nil,sd_cons,g2,hle,heq,hi,k44]
            refine ev_call h85 (retW0 rfl rfl rfl rfl) ?_
            simp only [f89,go_sem,cfg,Nat.reduceLeDiff,Nat.reduceLT,Nat.reduceAdd,Nat.reduceSub,Nat.reduceMul,Nat.reduceBEq,Nat.reduceBNe,Nat.reduceEqDiff,reduceCtorEq,reduceIte,Int.reduceLT,Int.reduceLE,Int.reduceAdd,Int.reduceSub,Int.reduceNeg,Int.reduceEq,Int.reduceBEq,Int.reduceBNe,Int.reduceToNat,Nat.reduceDiv,Nat.reduceMod,hs9,hso,hlp,htl9,hw,ho]
            try (with_reducible intro hlen3)
            try simp only [f89,go_sem,cfg,Nat.reduceLeDiff,Nat.reduceLT,Nat.reduceAdd,Nat.reduceSub,Nat.reduceMul,Nat.reduceBEq,Nat.reduceBNe,Nat.reduceEqDiff,reduceCtorEq,reduceIte,Int.reduceLT,Int.reduceLE,Int.reduceAdd,Int.reduceSub,Int.reduceNeg,Int.reduceEq,Int.reduceBEq,Int.reduceBNe,Int.reduceToNat,Nat.reduceDiv,Nat.reduceMod,hs9,hso,hlp,htl9,hw,ho]
            refine ⟨(i + 1,i + 1,false,addE out (trimB el),true),?_,⟨by show i + 1 ≤ s.length + 1; omega,fun _ => Nat.le_refl _,by show (addE out (trimB el)).length ≤ i + 1; have := addE_len out (trimB el); omega,by show (addE out (trimB el)).length ≤ 4001; have := addE_len out (trimB el); omega,by show i + 1 ≤ s.length + 1; omega,(decide_eq_true (by show i + 1 ≤ s.length; omega)).symm,by rw [if_pos rfl]; exact gz⟩,by show s.length + 2 - (i + 1) < s.length + 2 - i; omega⟩
            dsimp only
            rw [hA]
            rfl
          | cons x xs =>
            have hlx : xs.length + 1 = out.length := by rw [← rowsS_length out,ho]; rfl
            rw [ho] at hA hso
            simp only [f89,go_sem,cfg,Nat.reduceLeDiff,Nat.reduceLT,Nat.reduceAdd,Nat.reduceSub,Nat.reduceMul,Nat.reduceBEq,Nat.reduceBNe,Nat.reduceEqDiff,reduceCtorEq,reduceIte,Int.reduceLT,Int.reduceLE,Int.reduceAdd,Int.reduceSub,Int.reduceNeg,Int.reduceEq,Int.reduceBEq,Int.reduceBNe,Int.reduceToNat,Nat.reduceDiv,Nat.reduceMod,hs9,hso,gf,hE,ho,sd_nil,sd_cons,g2,hle,heq,hi,k44]
            refine ev_call h85 (retW0 rfl rfl rfl rfl) ?_
            simp only [f89,go_sem,cfg,Nat.reduceLeDiff,Nat.reduceLT,Nat.reduceAdd,Nat.reduceSub,Nat.reduceMul,Nat.reduceBEq,Nat.reduceBNe,Nat.reduceEqDiff,reduceCtorEq,reduceIte,Int.reduceLT,Int.reduceLE,Int.reduceAdd,Int.reduceSub,Int.reduceNeg,Int.reduceEq,Int.reduceBEq,Int.reduceBNe,Int.reduceToNat,Nat.reduceDiv,Nat.reduceMod,hs9,hso,hlp,htl9,hw,ho]
            try (with_reducible intro hlen3)
            try simp only [f89,go_sem,cfg,Nat.reduceLeDiff,Nat.reduceLT,Nat.reduceAdd,Nat.reduceSub,Nat.reduceMul,Nat.reduceBEq,Nat.reduceBNe,Nat.reduceEqDiff,reduceCtorEq,reduceIte,Int.reduceLT,Int.reduceLE,Int.reduceAdd,Int.reduceSub,Int.reduceNeg,Int.reduceEq,Int.reduceBEq,Int.reduceBNe,Int.reduceToNat,Nat.reduceDiv,Nat.reduceMod,hs9,hso,hlp,htl9,hw,ho]
            with_reducible refine And.intro (by omega) ?_
            refine ⟨(i + 1,i + 1,false,addE out (trimB el),true),?_,⟨by show i + 1 ≤ s.length + 1; omega,fun _ => Nat.le_refl _,by show (addE out (trimB el)).length ≤ i + 1; have := addE_len out (trimB el); omega,by show (addE out (trimB el)).length ≤ 4001; have := addE_len out (trimB el); omega,by show i + 1 ≤ s.length + 1; omega,(decide_eq_true (by show i + 1 ≤ s.length; omega)).symm,by rw [if_pos rfl]; exact gz⟩,by show s.length + 2 - (i + 1) < s.length + 2 - i; omega⟩
            dsimp only
            rw [hA]
            rfl
        · have hlp : ¬ (0 : Int) < ((trimB el).length : Int) := by
            have : trimB el = [] := by simpa using hz
            rw [this]; simp
          have hA := addE_nil (out := out) hz
          cases ho : rowsS out with
          | nil =>
            simp only [f89,go_sem,cfg,Nat.reduceLeDiff,Nat.reduceLT,Nat.reduceAdd,Nat.reduceSub,Nat.reduceMul,Nat.reduceBEq,Nat.reduceBNe,Nat.reduceEqDiff,reduceCtorEq,reduceIte,Int.reduceLT,Int.reduceLE,Int.reduceAdd,Int.reduceSub,Int.reduceNeg,Int.reduceEq,Int.reduceBEq,Int.reduceBNe,Int.reduceToNat,Nat.reduceDiv,Nat.reduceMod,hs9,gf,hE,ho,sd_nil,sd_cons,g2,hle,heq,hi,k44]
            refine ev_call h85 (retW0 rfl rfl rfl rfl) ?_
            simp only [f89,go_sem,cfg,Nat.reduceLeDiff,Nat.reduceLT,Nat.reduceAdd,Nat.reduceSub,Nat.reduceMul,Nat.reduceBEq,Nat.reduceBNe,Nat.reduceEqDiff,reduceCtorEq,reduceIte,Int.reduceLT,Int.reduceLE,Int.reduceAdd,Int.reduceSub,Int.reduceNeg,Int.reduceEq,Int.reduceBEq,Int.reduceBNe,Int.reduceToNat,Nat.reduceDiv,Nat.reduceMod,hs9,hlp,htl9,hw,ho]
            refine ⟨(i + 1,i + 1,false,addE out (trimB el),true),?_,⟨by show i + 1 ≤ s.length + 1; omega,fun _ => Nat.le_refl _,by show (addE out (trimB el)).length ≤ i + 1; have := addE_len out (trimB el); omega,by show (addE out (trimB el)).length ≤ 4001; have := addE_len out (trimB el); omega,by show i + 1 ≤ s.length + 1; omega,(decide_eq_true (by show i + 1 ≤ s.length; omega)).symm,by rw [if_pos rfl]; exact gz⟩,by show s.length + 2 - (i + 1) < s.length + 2 - i; omega⟩
            dsimp only
            rw [hA,ho]
            rfl
          | cons x xs =>
            simp only [f89,go_sem,cfg,Nat.reduceLeDiff,Nat.reduceLT,Nat.reduceAdd,Nat.reduceSub,Nat.reduceMul,Nat.reduceBEq,Nat.reduceBNe,Nat.reduceEqDiff,reduceCtorEq,reduceIte,Int.reduceLT,Int.reduceLE,Int.reduceAdd,Int.reduceSub,Int.reduceNeg,Int.reduceEq,Int.reduceBEq,Int.reduceBNe,Int.reduceToNat,Nat.reduceDiv,Nat.reduceMod,hs9,gf,hE,ho,sd_nil,sd_cons,g2,hle,heq,hi,k44]
            refine ev_call h85 (retW0 rfl rfl rfl rfl) ?_
            simp only [f89,go_sem,cfg,Nat.reduceLeDiff,Nat.reduceLT,Nat.reduceAdd,Nat.reduceSub,Nat.reduceMul,Nat.reduceBEq,Nat.reduceBNe,Nat.reduceEqDiff,reduceCtorEq,reduceIte,Int.reduceLT,Int.reduceLE,Int.reduceAdd,Int.reduceSub,Int.reduceNeg,Int.reduceEq,Int.reduceBEq,Int.reduceBNe,Int.reduceToNat,Nat.reduceDiv,Nat.reduceMod,hs9,hlp,htl9,hw,ho]
            refine ⟨(i + 1,i + 1,false,addE out (trimB el),true),?_,⟨by show i + 1 ≤ s.length + 1; omega,fun _ => Nat.le_refl _,by show (addE out (trimB el)).length ≤ i + 1; have := addE_len out (trimB el); omega,by show (addE out (trimB el)).length ≤ 4001; have := addE_len out (trimB el); omega,by show i + 1 ≤ s.length + 1; omega,(decide_eq_true (by show i + 1 ≤ s.length; omega)).symm,by rw [if_pos rfl]; exact gz⟩,by show s.length + 2 - (i + 1) < s.length + 2 - i; omega⟩
            dsimp only
            rw [hA,ho]
            rfl
      · rw [decide_eq_false hb] at k44
        simp only [f89,go_sem,cfg,Nat.reduceLeDiff,Nat.reduceLT,Nat.reduceAdd,Nat.reduceSub,Nat.reduceMul,Nat.reduceBEq,Nat.reduceBNe,Nat.reduceEqDiff,reduceCtorEq,reduceIte,Int.reduceLT,Int.reduceLE,Int.reduceAdd,Int.reduceSub,Int.reduceNeg,Int.reduceEq,Int.reduceBEq,Int.reduceBNe,Int.reduceToNat,Nat.reduceDiv,Nat.reduceMod,hs9,heq,hi,k34,k44,hw]
        refine ⟨(i + 1,fr,false,out,true),?_,⟨g1,fun _ => by show fr ≤ i + 1; omega,by show out.length ≤ i + 1; omega,g5,by show i + 1 ≤ s.length + 1; omega,(decide_eq_true (by show i + 1 ≤ s.length; omega)).symm,by rw [if_pos rfl]; exact (elGo_n hi hq (by simp) (fun h => hb h.2)).symm.trans g4⟩,by show s.length + 2 - (i + 1) < s.length + 2 - i; omega⟩
        dsimp only
        generalize rowsS out = R
        cases R <;> rfl
  · have hlei : ¬ ((i : Int) ≤ (s.length : Int)) := by omega
    rw [decide_eq_false hle] at g7
    rw [g7,if_neg (by simp)] at g4
    rw [← g4]
    simp only [f89,go_sem,cfg,Nat.reduceLeDiff,Nat.reduceLT,Nat.reduceAdd,Nat.reduceSub,Nat.reduceMul,Nat.reduceBEq,Nat.reduceBNe,Nat.reduceEqDiff,reduceCtorEq,reduceIte,Int.reduceLT,Int.reduceLE,Int.reduceAdd,Int.reduceSub,Int.reduceNeg,Int.reduceEq,Int.reduceBEq,Int.reduceBNe,Int.reduceToNat,Nat.reduceDiv,Nat.reduceMod,hs9,hle,hlei]
    generalize rowsS out = R
    cases R with
    | nil =>
      rw [sd_nil]
      simp only [f89,go_sem,cfg,Nat.reduceLeDiff,Nat.reduceLT,Nat.reduceAdd,Nat.reduceSub,Nat.reduceMul,Nat.reduceBEq,Nat.reduceBNe,Nat.reduceEqDiff,reduceCtorEq,reduceIte,Int.reduceLT,Int.reduceLE,Int.reduceAdd,Int.reduceSub,Int.reduceNeg,Int.reduceEq,Int.reduceBEq,Int.reduceBNe,Int.reduceToNat,Nat.reduceDiv,Nat.reduceMod,hs9,hle,hlei]
      first | exact fin0 (.inr rfl) rfl rfl rfl rfl | trace_state
    | cons y ys =>
      rw [sd_cons]
      simp only [f89,go_sem,cfg,Nat.reduceLeDiff,Nat.reduceLT,Nat.reduceAdd,Nat.reduceSub,Nat.reduceMul,Nat.reduceBEq,Nat.reduceBNe,Nat.reduceEqDiff,reduceCtorEq,reduceIte,Int.reduceLT,Int.reduceLE,Int.reduceAdd,Int.reduceSub,Int.reduceNeg,Int.reduceEq,Int.reduceBEq,Int.reduceBNe,Int.reduceToNat,Nat.reduceDiv,Nat.reduceMod,hs9,hle,hlei]
      first | exact fin0 (.inr rfl) rfl rfl rfl rfl | trace_state
end Go.Proofs.YtagfeejofceheaaGreatDoor.Fw

/- The library's functions over slices of strings, and strconv.Itoa, off the kit's shelf, as contracts here. -/
namespace Go.Proofs.YtagfeejofceheaaGreatDoor.Fw
open Go Go.Proofs
open Go.Shelf
set_option linter.unusedVariables false
set_option linter.unusedSimpArgs false
def lib_laysM171_ren : Go.Shelf.Ren := ⟨fun | 171 => 75 | 243 => 94 | 246 => 108 | 283 => 123 | 284 => 124 | 285 => 125 | 286 => 126 | 129 => 121 | 317 => 135 | 318 => 136 | 319 => 137 | 320 => 138 | 337 => 140 | 338 => 141 | n => n,fun | 3 => 3 | 9 => 9 | 2 => 2 | 4 => 4 | 171 => 109 | 0 => 0 | 53 => 108 | 37 => 67 | 5 => 5 | 173 => 111 | 212 => 122 | 51 => 106 | 20 => 20 | 213 => 123 | 46 => 90 | 232 => 127 | 233 => 128 | n => n,fun | 17 => 0 | 18 => 2 | 19 => 3 | n => n⟩
theorem lib_laysM171 : Go.Proofs.LaysM.n171 Tryz.prog lib_laysM171_ren := {
  mixed := by kernel_rfl
  f129 := Tryz.func121.trans (congrArg some (by kernel_rfl))
  f171 := Tryz.func75.trans (congrArg some (by kernel_rfl))
  f243 := Tryz.func94.trans (congrArg some (by kernel_rfl))
  f246 := Tryz.func108.trans (congrArg some (by kernel_rfl))
  f283 := Tryz.func123.trans (congrArg some (by kernel_rfl))
  f284 := Tryz.func124.trans (congrArg some (by kernel_rfl))
  f285 := Tryz.func125.trans (congrArg some (by kernel_rfl))
  f286 := Tryz.func126.trans (congrArg some (by kernel_rfl))
  f317 := Tryz.func135.trans (congrArg some (by kernel_rfl))
  f318 := Tryz.func136.trans (congrArg some (by kernel_rfl))
  f319 := Tryz.func137.trans (congrArg some (by kernel_rfl))
  f320 := Tryz.func138.trans (congrArg some (by kernel_rfl))
  f337 := Tryz.func140.trans (congrArg some (by kernel_rfl))
  f338 := Tryz.func141.trans (congrArg some (by kernel_rfl))
  t0 := Tryz.underlying0
  a0 := Tryz.isAgg0
  z0 := Tryz.sizeOf0
  v0 := Tryz.zeroValue0
  t2 := Tryz.underlying2
  a2 := Tryz.isAgg2
  z2 := Tryz.sizeOf2
  v2 := Tryz.zeroValue2
  t3 := Tryz.underlying3
  a3 := Tryz.isAgg3
  z3 := Tryz.sizeOf3
  v3 := Tryz.zeroValue3
  t4 := Tryz.underlying4
  a4 := Tryz.isAgg4
  z4 := Tryz.sizeOf4
  v4 := Tryz.zeroValue4
  t5 := Tryz.underlying5
  a5 := Tryz.isAgg5
  z5 := Tryz.sizeOf5
  v5 := Tryz.zeroValue5
  t9 := Tryz.underlying9
  a9 := Tryz.isAgg9
  z9 := Tryz.sizeOf9
  v9 := Tryz.zeroValue9
  t20 := Tryz.underlying20
  a20 := Tryz.isAgg20
  z20 := Tryz.sizeOf20
  v20 := Tryz.zeroValue20
  t37 := Tryz.underlying67
  a37 := Tryz.isAgg67
  z37 := Tryz.sizeOf67
  v37 := Tryz.zeroValue67
  t46 := Tryz.underlying90
  a46 := Tryz.isAgg90
  z46 := Tryz.sizeOf90
  v46 := Tryz.zeroValue90
  t51 := Tryz.underlying106
  a51 := Tryz.isAgg106
  z51 := Tryz.sizeOf106
  v51 := Tryz.zeroValue106
  t53 := Tryz.underlying108
  a53 := Tryz.isAgg108
  z53 := Tryz.sizeOf108
  v53 := Tryz.zeroValue108
  t171 := Tryz.underlying109
  a171 := Tryz.isAgg109
  z171 := Tryz.sizeOf109
  v171 := Tryz.zeroValue109
  t173 := Tryz.underlying111
  a173 := Tryz.isAgg111
  z173 := Tryz.sizeOf111
  v173 := Tryz.zeroValue111
  t212 := Tryz.underlying122
  a212 := Tryz.isAgg122
  z212 := Tryz.sizeOf122
  v212 := Tryz.zeroValue122
  t213 := Tryz.underlying123
  a213 := Tryz.isAgg123
  z213 := Tryz.sizeOf123
  t232 := Tryz.underlying127
  a232 := Tryz.isAgg127
  z232 := Tryz.sizeOf127
  v232 := Tryz.zeroValue127
  t233 := Tryz.underlying128
  a233 := Tryz.isAgg128
  z233 := Tryz.sizeOf128
  v233 := Tryz.zeroValue128
  g17 := by kernel_rfl
  g18 := by kernel_rfl
  g19 := by kernel_rfl
  i0 := by kernel_rfl
  i2 := by kernel_rfl
  i3 := by kernel_rfl
  i4 := by kernel_rfl
  i5 := by kernel_rfl
  i9 := by kernel_rfl
  i20 := by kernel_rfl
  i37 := by kernel_rfl
  i46 := by kernel_rfl
  i51 := by kernel_rfl
  i53 := by kernel_rfl
  i171 := by kernel_rfl
  i173 := by kernel_rfl
  i212 := by kernel_rfl
  i232 := by kernel_rfl
  i233 := by kernel_rfl
  m17 := by kernel_rfl
  m18 := by kernel_rfl
  m19 := by kernel_rfl }
open Go.RowKit Go.Sort Go.Lib in
theorem lib_strconv_Itoa (n : Int) (h0 : -9223372036854775808 ≤ n) (h1 : n ≤ 9223372036854775807) (w : World) (htab : Lib.TabIs Tryz.prog w "internal/strconv.uint64pow10" .u64 Lib.pow10Tab) :
    Calls Tryz.prog 75 #[.int .i64 n] w fun e w' => e = .returned (.string ⟨(Lib.itoa n).toArray⟩) ∧ ∃ k os,w' = grow (w.drewN k) os := Any.strconv_Itoa lib_laysM171 n h0 h1 w htab
def lib_lays190_ren : Go.Shelf.Ren := ⟨fun | 190 => 81 | 125 => 99 | 258 => 98 | 128 => 120 | 129 => 121 | 302 => 111 | 303 => 112 | 304 => 113 | 305 => 114 | 306 => 115 | 307 => 116 | 308 => 117 | 309 => 118 | 310 => 119 | 333 => 128 | 329 => 129 | 330 => 130 | 334 => 131 | 335 => 132 | 336 => 133 | 344 => 139 | n => n,fun | 31 => 52 | 9 => 9 | 3 => 3 | 46 => 90 | 0 => 0 | 51 => 106 | 53 => 108 | 4 => 4 | 183 => 99 | 182 => 98 | 131 => 103 | 5 => 5 | 218 => 114 | 222 => 118 | 228 => 124 | 229 => 125 | n => n,fun | n => n⟩
theorem lib_lays190 : Go.Proofs.Lays.n190 Tryz.prog lib_lays190_ren := {
  mixed := by kernel_rfl
  f125 := Tryz.func99.trans (congrArg some (by kernel_rfl))
  f128 := Tryz.func120.trans (congrArg some (by kernel_rfl))
  f129 := Tryz.func121.trans (congrArg some (by kernel_rfl))
  f190 := Tryz.func81.trans (congrArg some (by kernel_rfl))
  f258 := Tryz.func98.trans (congrArg some (by kernel_rfl))
  f302 := Tryz.func111.trans (congrArg some (by kernel_rfl))
  f303 := Tryz.func112.trans (congrArg some (by kernel_rfl))
  f304 := Tryz.func113.trans (congrArg some (by kernel_rfl))
  f305 := Tryz.func114.trans (congrArg some (by kernel_rfl))
  f306 := Tryz.func115.trans (congrArg some (by kernel_rfl))
  f307 := Tryz.func116.trans (congrArg some (by kernel_rfl))
  f308 := Tryz.func117.trans (congrArg some (by kernel_rfl))
  f309 := Tryz.func118.trans (congrArg some (by kernel_rfl))
  f310 := Tryz.func119.trans (congrArg some (by kernel_rfl))
  f329 := Tryz.func129.trans (congrArg some (by kernel_rfl))
  f330 := Tryz.func130.trans (congrArg some (by kernel_rfl))
  f333 := Tryz.func128.trans (congrArg some (by kernel_rfl))
  f334 := Tryz.func131.trans (congrArg some (by kernel_rfl))
  f335 := Tryz.func132.trans (congrArg some (by kernel_rfl))
  f336 := Tryz.func133.trans (congrArg some (by kernel_rfl))
  f344 := Tryz.func139.trans (congrArg some (by kernel_rfl))
  t0 := Tryz.underlying0
  a0 := Tryz.isAgg0
  z0 := Tryz.sizeOf0
  v0 := Tryz.zeroValue0
  t3 := Tryz.underlying3
  a3 := Tryz.isAgg3
  z3 := Tryz.sizeOf3
  v3 := Tryz.zeroValue3
  t4 := Tryz.underlying4
  a4 := Tryz.isAgg4
  z4 := Tryz.sizeOf4
  v4 := Tryz.zeroValue4
  t5 := Tryz.underlying5
  a5 := Tryz.isAgg5
  z5 := Tryz.sizeOf5
  v5 := Tryz.zeroValue5
  t9 := Tryz.underlying9
  a9 := Tryz.isAgg9
  z9 := Tryz.sizeOf9
  v9 := Tryz.zeroValue9
  t31 := Tryz.underlying52
  a31 := Tryz.isAgg52
  z31 := Tryz.sizeOf52
  v31 := Tryz.zeroValue52
  t46 := Tryz.underlying90
  a46 := Tryz.isAgg90
  z46 := Tryz.sizeOf90
  v46 := Tryz.zeroValue90
  t51 := Tryz.underlying106
  a51 := Tryz.isAgg106
  z51 := Tryz.sizeOf106
  v51 := Tryz.zeroValue106
  t53 := Tryz.underlying108
  a53 := Tryz.isAgg108
  z53 := Tryz.sizeOf108
  v53 := Tryz.zeroValue108
  t131 := Tryz.underlying103
  a131 := Tryz.isAgg103
  z131 := Tryz.sizeOf103
  v131 := Tryz.zeroValue103
  t182 := Tryz.underlying98
  a182 := Tryz.isAgg98
  z182 := Tryz.sizeOf98
  v182 := Tryz.zeroValue98
  t183 := Tryz.underlying99
  a183 := Tryz.isAgg99
  z183 := Tryz.sizeOf99
  v183 := Tryz.zeroValue99
  t218 := Tryz.underlying114
  a218 := Tryz.isAgg114
  z218 := Tryz.sizeOf114
  v218 := Tryz.zeroValue114
  t222 := Tryz.underlying118
  a222 := Tryz.isAgg118
  z222 := Tryz.sizeOf118
  v222 := Tryz.zeroValue118
  t228 := Tryz.underlying124
  a228 := Tryz.isAgg124
  z228 := Tryz.sizeOf124
  v228 := Tryz.zeroValue124
  t229 := Tryz.underlying125
  a229 := Tryz.isAgg125
  z229 := Tryz.sizeOf125
  v229 := Tryz.zeroValue125 }
open Go.Sort Go.RowKit in
theorem lib_slices_Sort_string (blk off cap : Nat) (ss : List (List UInt8)) (w : World) (hH : Holds encStr w blk off ss.toArray) (hblk : blk < w.heap.size) (hsz : ss.length < 4611686018427387904) :
    Calls Tryz.prog 81 #[.slice (some ⟨blk,off,none⟩) ss.length cap] w fun e w' =>
      e = .returned (.tuple #[]) ∧ ∃ n os,w' = grow (putRow encStr (Sort.ahead w n) blk off (ss.mergeSort fun x y => decide (x ≤ y)).toArray) os := Any.slices_Sort_string lib_lays190 blk off cap ss w hH hblk hsz
def lib_lays109_ren : Go.Shelf.Ren := ⟨fun | 109 => 83 | n => n,fun | 31 => 52 | 9 => 9 | 3 => 3 | 0 => 0 | 4 => 4 | n => n,fun | n => n⟩
theorem lib_lays109 : Go.Proofs.Lays.n109 Tryz.prog lib_lays109_ren := {
  mixed := by kernel_rfl
  f109 := Tryz.func83.trans (congrArg some (by kernel_rfl))
  t0 := Tryz.underlying0
  a0 := Tryz.isAgg0
  z0 := Tryz.sizeOf0
  v0 := Tryz.zeroValue0
  t3 := Tryz.underlying3
  a3 := Tryz.isAgg3
  z3 := Tryz.sizeOf3
  v3 := Tryz.zeroValue3
  t4 := Tryz.underlying4
  a4 := Tryz.isAgg4
  z4 := Tryz.sizeOf4
  v4 := Tryz.zeroValue4
  t9 := Tryz.underlying9
  a9 := Tryz.isAgg9
  z9 := Tryz.sizeOf9
  v9 := Tryz.zeroValue9
  t31 := Tryz.underlying52
  a31 := Tryz.isAgg52
  z31 := Tryz.sizeOf52
  v31 := Tryz.zeroValue52 }
def lib_lays110_ren : Go.Shelf.Ren := ⟨fun | 110 => 51 | 109 => 83 | n => n,fun | 31 => 52 | 9 => 9 | 4 => 4 | 3 => 3 | 0 => 0 | n => n,fun | n => n⟩
theorem lib_lays110 : Go.Proofs.Lays.n110 Tryz.prog lib_lays110_ren := {
  mixed := by kernel_rfl
  f109 := Tryz.func83.trans (congrArg some (by kernel_rfl))
  f110 := Tryz.func51.trans (congrArg some (by kernel_rfl))
  t0 := Tryz.underlying0
  a0 := Tryz.isAgg0
  z0 := Tryz.sizeOf0
  v0 := Tryz.zeroValue0
  t3 := Tryz.underlying3
  a3 := Tryz.isAgg3
  z3 := Tryz.sizeOf3
  v3 := Tryz.zeroValue3
  t4 := Tryz.underlying4
  a4 := Tryz.isAgg4
  z4 := Tryz.sizeOf4
  v4 := Tryz.zeroValue4
  t9 := Tryz.underlying9
  a9 := Tryz.isAgg9
  z9 := Tryz.sizeOf9
  v9 := Tryz.zeroValue9
  t31 := Tryz.underlying52
  a31 := Tryz.isAgg52
  z31 := Tryz.sizeOf52
  v31 := Tryz.zeroValue52 }
open Go.Lib in
theorem lib_slices_Contains_string (b off n c : Nat) (zs : List ByteArray) (x : ByteArray) (w : World) (hz : n ≤ zs.length) (hbig : n ≤ 9223372036854775807) (hc : ∀ j,j < zs.length → w.cell? ⟨b,off + j,none⟩ = some (.string (zs.getD j ByteArray.empty))) :
    Calls Tryz.prog 51 #[.slice (some ⟨b,off,none⟩) n c,.string x] w fun e w' => e = .returned (.bool (Lib.containsS (zs.take n) x)) ∧ w' = w := Any.slices_Contains_string lib_lays110 b off n c zs x w hz hbig hc
open Go.Lib in
theorem lib_slices_Contains_string_empty (a : Option Addr) (c : Nat) (x : ByteArray) (w : World) :
    Calls Tryz.prog 51 #[.slice a 0 c,.string x] w fun e w' => e = .returned (.bool false) ∧ w' = w := Any.slices_Contains_string_empty lib_lays110 a c x w
def lib_lays194_ren : Go.Shelf.Ren := ⟨fun | 194 => 82 | n => n,fun | 31 => 52 | 9 => 9 | 3 => 3 | 4 => 4 | 0 => 0 | n => n,fun | n => n⟩
theorem lib_lays194 : Go.Proofs.Lays.n194 Tryz.prog lib_lays194_ren := {
  mixed := by kernel_rfl
  f194 := Tryz.func82.trans (congrArg some (by kernel_rfl))
  t0 := Tryz.underlying0
  a0 := Tryz.isAgg0
  z0 := Tryz.sizeOf0
  v0 := Tryz.zeroValue0
  t3 := Tryz.underlying3
  a3 := Tryz.isAgg3
  z3 := Tryz.sizeOf3
  v3 := Tryz.zeroValue3
  t4 := Tryz.underlying4
  a4 := Tryz.isAgg4
  z4 := Tryz.sizeOf4
  v4 := Tryz.zeroValue4
  t9 := Tryz.underlying9
  a9 := Tryz.isAgg9
  z9 := Tryz.sizeOf9
  v9 := Tryz.zeroValue9
  t31 := Tryz.underlying52
  a31 := Tryz.isAgg52
  z31 := Tryz.sizeOf52
  v31 := Tryz.zeroValue52 }
open Go.RowKit Go.Lib Go.Sort in
theorem lib_slices_Compact_string_empty (a : Option Addr) (cap : Nat) (w : World) :
    Calls Tryz.prog 82 #[.slice a 0 cap] w fun e w' => e = .returned (.slice a 0 cap) ∧ w' = w := Any.slices_Compact_string_empty lib_lays194 a cap w
open Go.RowKit Go.Lib Go.Sort in
theorem lib_slices_Compact_string_cells (b off n c : Nat) (Sx : Nat → ByteArray) (w : World) (hbig : n ≤ 9223372036854775807) (hcap : n ≤ c) (hc : ∀ i,i < n → w.cell? ⟨b,off + i,none⟩ = some (.string (Sx i))) (hf : ∀ j,j < n → w.frozen? ⟨b,off + j,none⟩ = false) :
    Calls Tryz.prog 82 #[.slice (some ⟨b,off,none⟩) n c] w fun e w' => e = .returned (.slice (some ⟨b,off,none⟩) (Lib.compact (Lib.strsOf Sx n)).length c) ∧ ∃ q,w' = (w.drewN q).setCells b off ((Lib.compact (Lib.strsOf Sx n) ++ List.replicate (n - (Lib.compact (Lib.strsOf Sx n)).length) []).map encStr) := Any.slices_Compact_string_cells lib_lays194 b off n c Sx w hbig hcap hc hf
open Go.RowKit Go.Sort in
theorem lib_slices_Sort_string_none (p : Option Addr) (cap : Nat) (w : World) :
    Calls Tryz.prog 81 #[.slice p 0 cap] w fun e w' => e = .returned (.tuple #[]) ∧ w' = w := Any.slices_Sort_string_none lib_lays190 p cap w
set_option maxRecDepth 100000
theorem Rel.push {P : Program} {w0 : World} {L : Nat → Nat → Prop} {E : Env} {a : Act} {w : World} {F : Lf → Nat → Prop} {loc : Nat → Nat × Nat} {M : Nat → Prop} (R : Rel w0 L ⟨P,E,a,w,F,loc,M⟩) (hd : a.defers = []) {d : D} {v : Value} (hno : d.anyOwn = false) (h : ∀ (C : Ctx) t,SRel C t d v) :
    Rel w0 L ⟨P,⟨E.sl ++ [d],E.ce ++ [none]⟩,{ tmps := a.tmps.push v,defers := [] },w,F,loc,M⟩ := by
  have hl : a.tmps.size = E.sl.length := R.tmps
  have R1 := R.pad 1
  have R2 := R1.put1 E.sl.length d v (by
    show ((E.sl ++ List.replicate 1 D.dead).getD E.sl.length .dead).anyOwn = false
    rw [List.getD_eq_getElem?_getD,List.getElem?_append_right (Nat.le_refl _)]
    simp [D.anyOwn,D.comps,D.leaves1,D.isOwn]) (h _ _)
  have e1 : (E.sl ++ List.replicate 1 D.dead).set E.sl.length d = E.sl ++ [d] := by
    rw [List.set_append_right _ _ (Nat.le_refl _)]
    simp
  have e2 : (a.tmps ++ Array.replicate 1 undef).setIfInBounds E.sl.length v = a.tmps.push v := by
    rw [← hl]
    exact set_push a.tmps v
  have R3 : Rel w0 L { P := P,E := ⟨(E.sl ++ List.replicate 1 D.dead).set E.sl.length d,E.ce ++ List.replicate 1 none⟩,a := { tmps := (a.tmps ++ Array.replicate 1 undef).setIfInBounds E.sl.length v,defers := [] },w := w,F := F,loc := loc,M := M } := R2
  rw [e1,e2] at R3
  exact R3
theorem tup0 (C : Ctx) (t : Nat) : SRel C t (.tup []) (.tuple #[]) := .tup [] #[] rfl fun i d h => by simp at h
theorem strs_get {zs : List (List UInt8)} {i j : Nat} {t : T} (h : T.get? (rowsS zs) i j = some t) : j = 0 ∧ ∃ s,zs[i]? = some s ∧ t = .v (vS s) := by
  unfold T.get? rowsS at h
  rw [List.getElem?_map] at h
  cases hz : zs[i]? with
  | none => rw [hz] at h; simp at h
  | some s =>
    rw [hz] at h
    cases j with
    | zero => exact ⟨rfl,s,rfl,by simpa using h.symm⟩
    | succ j => simp at h
theorem own_strs {P : Program} {w : World} {F : Nat → Prop} {e : TypeId} {vs : List (List UInt8)} {v : Value} (he : P.cellsOf e = 1) (h : OwnT P w (.sl e (rowsS vs)) v F) :
    (vs = [] ∧ v = .slice none 0 0) ∨ ∃ b o cap cs fr,v = .slice (some ⟨b,o,none⟩) vs.length cap ∧ w.heap[b]? = some (.cells cs e fr) ∧ F b ∧ Thawed cs.size fr ∧ o + cap ≤ cs.size ∧ vs.length ≤ cap ∧ cap ≤ 9223372036854775807 ∧ ∀ (j : Nat) s,vs[j]? = some s → cs[o + j]? = some (vS s) := by
  generalize hx : rowsS vs = xs at h
  cases h with
  | emp =>
    left
    refine ⟨?_,rfl⟩
    cases vs with
    | nil => rfl
    | cons => simp [rowsS] at hx
  | row _ _ b o cap cs fr _ G X h1 h2 h3 h4 h5 h6 h7 h8 h9 h10 h11 h12 =>
    right
    have hlen : vs.length = xs.length := by rw [← hx]; simp [rowsS]
    rw [he,Nat.mul_one] at h4
    refine ⟨b,o,cap,cs,fr,by rw [hlen],h1,h2,h3,h4,by rw [hlen]; exact h5,h6,fun j s hj => ?_⟩
    have hg : T.get? xs j 0 = some (.v (vS s)) := by
      unfold T.get? rowsS at *
      rw [← hx,List.getElem?_map,hj]; rfl
    have a1 := h10 j 0 _ hg
    have a2 := h11 j 0 _ hg
    rw [he,Nat.mul_one,Nat.add_zero] at a1
    have e : X j 0 = vS s := by
      generalize X j 0 = y at a2
      cases a2; rfl
    rw [a1,e]
theorem own_of_strs {P : Program} {w : World} {F : Nat → Prop} {e : TypeId} {zs : List (List UInt8)} {b o cap : Nat} {cs : Array Value} {fr : Nat × Nat} (he : P.cellsOf e = 1) (h1 : w.heap[b]? = some (.cells cs e fr)) (h2 : F b) (h3 : Thawed cs.size fr) (h4 : o + cap ≤ cs.size) (h5 : zs.length ≤ cap) (h6 : cap ≤ 9223372036854775807)
    (hl : ∀ s,s ∈ zs → s.length ≤ 9223372036854775807) (h : ∀ (j : Nat) s,zs[j]? = some s → cs[o + j]? = some (vS s)) : OwnT P w (.sl e (rowsS zs)) (.slice (some ⟨b,o,none⟩) zs.length cap) F := by
  have hlen : zs.length = (rowsS zs).length := by simp [rowsS]
  rw [hlen]
  rw [hlen] at h5
  refine .row e _ b o cap cs fr F (fun _ _ _ => False) (fun i _ => vS (zs.getD i [])) h1 h2 h3 (by rw [he,Nat.mul_one]; exact h4) h5 h6 ?_ (fun _ _ _ h => h.elim) (fun _ _ _ _ _ h => h.elim) ?_ ?_ ?_
  · intro i r hr
    unfold rowsS at hr
    rw [List.getElem?_map] at hr
    cases hz : zs[i]? with
    | none => rw [hz] at hr; simp at hr
    | some s => rw [hz] at hr; simp at hr; rw [← hr,he]; rfl
  · intro i j t ht
    obtain ⟨rfl,s,hs,rfl⟩ := strs_get ht
    rw [he,Nat.mul_one,Nat.add_zero,h i s hs,List.getD_eq_getElem?_getD,hs]
    rfl
  · intro i j t ht
    obtain ⟨rfl,s,hs,rfl⟩ := strs_get ht
    have : zs.getD i [] = s := by rw [List.getD_eq_getElem?_getD,hs]; rfl
    rw [this]
    refine .v _ _ ?_
    simp only [scal,decide_eq_true_eq]
    exact hl s (List.mem_of_getElem? hs)
  · intro _ i j t ht
    obtain ⟨rfl,s,hs,rfl⟩ := strs_get ht
    rfl
theorem frozen_of {w : World} {b o : Nat} {cs : Array Value} {e : TypeId} {fr : Nat × Nat} (h1 : w.heap[b]? = some (.cells cs e fr)) (h3 : Thawed cs.size fr) (ho : o < cs.size) : w.frozen? ⟨b,o,none⟩ = false := by
  unfold World.frozen?
  simp only [h1]
  obtain ⟨lo,hi⟩ := fr
  have := h3 o ho
  simp only [Bool.and_eq_false_iff,decide_eq_false_iff_not]
  by_cases h : lo ≤ o
  · exact .inr fun h2 => this ⟨h,h2⟩
  · exact .inl h
theorem ext_drewN (w : World) (n : Nat) : Ext w (w.drewN n) := ⟨rfl,rfl,rfl,Nat.le_refl _,fun _ _ => rfl⟩
theorem ext_grow (w : World) (os : Array Obj) : Ext w (Sort.grow w os) := by
  refine ⟨rfl,rfl,rfl,by simp [Sort.grow],fun b hb => ?_⟩
  simp only [Sort.grow]
  rw [Array.getElem?_append_left hb]
theorem args1 {a : Act} (h : a.tmps.size = 1) : a.tmps = #[a.tmps.getD 0 undef] := by
  apply Array.ext
  · simpa using h
  · intro i hi hi2
    have : i = 0 := by simp at hi2; omega
    subst this; simp [Array.getD,h]
theorem args2 {a : Act} (hsz : a.tmps.size = 2) : a.tmps = #[a.tmps.getD 0 undef,a.tmps.getD 1 undef] := by
  apply Array.ext
  · simpa using hsz
  · intro i hi hi2
    have : i = 0 ∨ i = 1 := by simp at hi2; omega
    rcases this with rfl | rfl <;> simp [Array.getD,hsz]
theorem c51 (vs : List (List UInt8)) (s : List UInt8) (hN : vs.length ≤ 9223372036854775807) : Sem Tryz.prog 51 ⟨[.imm 9 (rowsS vs),.v (vS s)],[none,none]⟩ ⟨[.imm 9 (rowsS vs),.v (vS s),.v (vB (vs.contains s))],[none,none,none]⟩ := by
  refine sem_calls (Ein := ⟨[.imm 9 (rowsS vs),.v (vS s)],[none,none]⟩) (r := vB (vs.contains s)) (enter_of Tryz.func51 rfl rfl) rfl rfl rfl ?_
  intro w a F loc M R
  have h0 := slot_of R (i := 0) (d := .imm 9 (rowsS vs)) rfl rfl (by simp)
  have h1 := slot_of R (i := 1) (d := .v (vS s)) rfl rfl (by simp)
  rw [args2 R.tmps]
  generalize a.tmps.getD 0 undef = v0 at h0
  generalize a.tmps.getD 1 undef = v1 at h1
  cases h1
  cases h0 with
  | imm _ _ _ h =>
    rcases strs_of (by kernel_rfl) h with ⟨rfl,base,cap,rfl⟩ | ⟨b,o,cap,rfl,hb,hc,hcells⟩
    · exact (lib_slices_Contains_string_empty base cap (ofL s) w).mono fun e w' ⟨he,hw⟩ => ⟨he,hw ▸ RowKit.Below.refl _ _⟩
    · have hcs : Lib.containsS ((vs.map ofL).take (vs.map ofL).length) (ofL s) = vs.contains s := by
        rw [List.take_length,Bool.eq_iff_iff,Lib.containsS_iff,List.contains_iff_mem]
        constructor
        · intro h
          obtain ⟨x,hx,he⟩ := List.mem_map.1 h
          rw [ofL_inj] at he; rw [← he]; exact hx
        · exact fun h => List.mem_map.2 ⟨s,h,rfl⟩
      have := lib_slices_Contains_string b o (vs.map ofL).length cap (vs.map ofL) (ofL s) w (Nat.le_refl _) (by simp; omega) (fun j hj => by
        rw [hcells j _ (List.getElem?_eq_getElem hj),List.getD_eq_getElem?_getD,List.getElem?_eq_getElem hj]; rfl)
      rw [hcs] at this
      exact this.mono fun e w' ⟨he,hw⟩ => ⟨he,hw ▸ RowKit.Below.refl _ _⟩
theorem c75 (n : Int) (h0 : -9223372036854775808 ≤ n) (h1 : n ≤ 9223372036854775807) (hlen : (Lib.itoa n).length ≤ 9223372036854775807) : Sem Tryz.prog 75 ⟨[.v (vI n)],[none]⟩ ⟨[.v (vI n),.v (vS (Lib.itoa n))],[none,none]⟩ := by
  refine sem_calls (Ein := ⟨[.v (vI n)],[none]⟩) (r := vS (Lib.itoa n)) (enter_of Tryz.func75 rfl rfl) rfl (by simp only [scal,decide_eq_true_eq]; exact hlen) rfl ?_
  intro w a F loc M R
  have hv := slot_of R (i := 0) (d := .v (vI n)) rfl rfl (by simp)
  rw [args1 R.tmps]
  generalize a.tmps.getD 0 undef = v0 at hv
  cases hv
  obtain ⟨B,hB,hL,hg⟩ := R.glob
  have htab := hg w (fun _ _ => rfl) _ List.mem_cons_self (by
    intro h
    have hs : (Tryz.prog.globalNamed (tabName [105,110,116,101,114,110,97,108,47,115,116,114,99,111,110,118,46,117,105,110,116,54,52,112,111,119,49,48])).isSome = true := by kernel_rfl
    have h : Tryz.prog.globalNamed (tabName [105,110,116,101,114,110,97,108,47,115,116,114,99,111,110,118,46,117,105,110,116,54,52,112,111,119,49,48]) = none := h
    rw [h] at hs
    cases hs)
  have htab : Lib.TabIs Tryz.prog w "internal/strconv.uint64pow10" .u64 Lib.pow10Tab := by
    have e : tabName [105,110,116,101,114,110,97,108,47,115,116,114,99,111,110,118,46,117,105,110,116,54,52,112,111,119,49,48] = "internal/strconv.uint64pow10" := by decide
    rw [← e]; exact htab
  exact (lib_strconv_Itoa n h0 h1 w htab).mono fun e w' ⟨he,k,os,hw⟩ => ⟨he,by
    have x := (ext_drewN w k).trans (ext_grow _ os)
    rw [hw]
    exact ⟨x.os,x.tape,x.output,x.size,x.kept⟩⟩
theorem holds_strs {w : World} {b o cap : Nat} {vs : List (List UInt8)} {cs : Array Value} {e : TypeId} {fr : Nat × Nat} (h1 : w.heap[b]? = some (.cells cs e fr)) (h3 : Thawed cs.size fr) (h4 : o + cap ≤ cs.size) (h5 : vs.length ≤ cap) (h : ∀ (j : Nat) s,vs[j]? = some s → cs[o + j]? = some (vS s)) :
    ∀ j,j < vs.length → w.cell? ⟨b,o + j,none⟩ = some (vS (vs.getD j [])) ∧ w.frozen? ⟨b,o + j,none⟩ = false := by
  intro j hj
  refine ⟨?_,frozen_of h1 h3 (by omega)⟩
  have hx : vs[j]? = some vs[j] := List.getElem?_eq_getElem hj
  rw [cell_of h1,h j _ hx,List.getD_eq_getElem?_getD,hx]
  rfl
theorem set_strs {cs cs' : Array Value} {o n : Nat} {zs : List (List UInt8)} (hc : ∀ j,cs'[j]? = if o ≤ j ∧ j < o + n then (zs.map fun s => vS s)[j - o]? else cs[j]?) (hn : zs.length ≤ n) : ∀ (j : Nat) s,zs[j]? = some s → cs'[o + j]? = some (vS s) := by
  intro j s hj
  have hlt : j < zs.length := (List.getElem?_eq_some_iff.1 hj).1
  rw [hc,if_pos (by omega),show o + j - o = j by omega,List.getElem?_map,hj]
  rfl
def sortB (vs : List (List UInt8)) : List (List UInt8) := vs.mergeSort fun x y => decide (x ≤ y)
theorem sortB_len (vs : List (List UInt8)) : (sortB vs).length = vs.length := List.length_mergeSort ..
theorem sortB_mem {vs : List (List UInt8)} {s : List UInt8} : s ∈ sortB vs ↔ s ∈ vs := (List.mergeSort_perm vs _).mem_iff
theorem compactUpTo_mem (d : Array (List UInt8)) (s : List UInt8) : ∀ m,s ∈ Lib.compactUpTo d m ↔ ∃ j,j < m ∧ d[j]! = s
  | 0 => by simp [Lib.compactUpTo]
  | m + 1 => by
    rw [Lib.compactUpTo_succ,List.mem_append,compactUpTo_mem d s m]
    constructor
    · rintro (⟨j,h1,h2⟩ | h)
      · exact ⟨j,by omega,h2⟩
      · split at h
        · exact ⟨m,by omega,(List.mem_singleton.1 h).symm⟩
        · simp at h
    · rintro ⟨j,h1,h2⟩
      by_cases hj : j < m
      · exact .inl ⟨j,hj,h2⟩
      · have : j = m := by omega
        subst this
        split
        · exact .inr (by rw [h2]; exact List.mem_singleton.2 rfl)
        · rename_i hk
          unfold Lib.keeps at hk
          simp only [Bool.or_eq_true,not_or,bne_iff_ne,ne_eq,Decidable.not_not,beq_iff_eq,decide_eq_true_eq] at hk
          exact .inl ⟨j - 1,by omega,by rw [← h2]; exact hk.2.symm⟩
theorem compact_mem {vs : List (List UInt8)} {s : List UInt8} : s ∈ Lib.compact vs ↔ s ∈ vs := by
  unfold Lib.compact
  rw [compactUpTo_mem]
  constructor
  · rintro ⟨j,h1,h2⟩
    rw [← h2]
    simp [h1]
  · intro h
    obtain ⟨j,h1,h2⟩ := List.mem_iff_getElem.1 h
    exact ⟨j,h1,by simp [h1,h2]⟩
theorem leaf0 {v : Value} (h : one v = true) : vleafOf v 0 = v := by cases v <;> simp [one] at h <;> rfl
theorem c81 (vs : List (List UInt8)) (hN : vs.length ≤ 1048576) (hl : ∀ s,s ∈ vs → s.length ≤ 9223372036854775807) : Sem Tryz.prog 81 ⟨[.own 9 (rowsS vs)],[none]⟩ ⟨[.own 9 (rowsS (sortB vs)),.tup []],[none,none]⟩ := by
  intro w a F loc M R
  refine .inl ⟨enter_of Tryz.func81 rfl rfl _ _,?_⟩
  have hv := slot_of R (i := 0) (d := .own 9 (rowsS vs)) rfl rfl (by simp)
  have hE : (⟨[.own 9 (rowsS vs)],[none]⟩ : Env).leaf ⟨false,0,0⟩ = .own 9 (rowsS vs) := rfl
  have hargs : a.tmps = #[a.tmps.getD 0 undef] := args1 R.tmps
  rw [hargs]
  have hcv : vleafOf (a.tmps.getD 0 undef) 0 = a.tmps.getD 0 undef → Ctx.cv ⟨Tryz.prog,⟨[.own 9 (rowsS vs)],[none]⟩,a,w,F,loc,M⟩ ⟨false,0,0⟩ = a.tmps.getD 0 undef := fun h => h
  generalize a.tmps.getD 0 undef = v0 at hv hcv hargs
  cases hv with
  | own _ _ _ h =>
    rcases own_strs (by kernel_rfl) h with ⟨rfl,rfl⟩ | ⟨b,o,cap,cs,fr,rfl,h1,h2,h3,h4,h5,h6,h7⟩
    · refine (lib_slices_Sort_string_none none 0 w).mono ?_
      rintro e w' ⟨rfl,rfl⟩
      refine ⟨_,rfl,F,loc,fun _ _ => rfl,?_⟩
      have := R.push R.defers (d := .tup []) (v := .tuple #[]) rfl tup0
      rw [show sortB [] = [] from by simp [sortB]]
      simp only [hargs] at this
      exact this
    · have hh := holds_strs h1 h3 h4 h5 h7
      have hH : Go.Sort.Holds Go.Proofs.encStr w b o vs.toArray := by
        intro j hj
        have hj : j < vs.length := by simpa using hj
        obtain ⟨a1,a2⟩ := hh j hj
        refine ⟨a1.trans ?_,a2⟩
        simp [List.getD,hj,Go.Proofs.encStr]
        rfl
      refine (lib_slices_Sort_string b o cap vs w hH (Array.getElem?_eq_some_iff.1 h1).1 (by omega)).mono ?_
      rintro e w' ⟨rfl,n,os,rfl⟩
      refine ⟨_,rfl,F,loc,fun _ _ => rfl,?_⟩
      have hp := Lib.putRow_eq_setCells Go.Proofs.encStr w b o vs.toArray (sortB vs) n hH (by rw [sortB_len]; simp)
      have hp : Go.Sort.putRow Go.Proofs.encStr (Go.Sort.ahead w n) b o (vs.mergeSort fun x y => decide (x ≤ y)).toArray = (w.drewN n).setCells b o ((sortB vs).map Go.Proofs.encStr) := hp
      rw [hp]
      have hlm : ((sortB vs).map Go.Proofs.encStr).length = vs.length := by rw [List.length_map,sortB_len]
      obtain ⟨cs',hw,hc⟩ := setCells_wrt b 9 fr ((sortB vs).map Go.Proofs.encStr) o (w.drewN n) cs h1 (by rw [hlm]; omega)
      rw [hlm] at hc
      have R1 := R.drew (ext_drewN w n)
      have R2 := R1.row (q := ⟨false,0,0⟩) (xs' := rowsS (sortB vs)) hE (by simp [rowsS,sortB_len]) (fun i j t ht => by
        obtain ⟨rfl,s,hs,rfl⟩ := strs_get ht
        rfl) hw h2 (by
        show OwnT Tryz.prog _ _ (Ctx.cv ⟨Tryz.prog,⟨[.own 9 (rowsS vs)],[none]⟩,a,w,F,loc,M⟩ ⟨false,0,0⟩) _
        rw [hcv rfl]
        have := own_of_strs (P := Tryz.prog) (w := (w.drewN n).setCells b o ((sortB vs).map Go.Proofs.encStr)) (F := F ⟨false,0,0⟩) (e := 9) (zs := sortB vs) (cap := cap) (by kernel_rfl) hw.new h2 (by rw [hw.sz]; exact h3) (by rw [hw.sz]; exact h4) (by rw [sortB_len]; exact h5) h6 (fun s hs => hl s (sortB_mem.1 hs)) (set_strs hc (by rw [sortB_len]; exact Nat.le_refl _))
        rw [sortB_len] at this
        exact this)
      have R3 := R2.drew (ext_grow _ os)
      have := R3.push R.defers (d := .tup []) (v := .tuple #[]) rfl tup0
      simp only [hargs] at this
      exact this
theorem c82 (vs : List (List UInt8)) (hN : vs.length ≤ 1048576) (hl : ∀ s,s ∈ vs → s.length ≤ 9223372036854775807) : Sem Tryz.prog 82 ⟨[.own 9 (rowsS vs)],[none]⟩ ⟨[.dead,.own 9 (rowsS (Lib.compact vs))],[none,none]⟩ := by
  intro w a F loc M R
  refine .inl ⟨enter_of Tryz.func82 rfl rfl _ _,?_⟩
  have hv := slot_of R (i := 0) (d := .own 9 (rowsS vs)) rfl rfl (by simp)
  have ha : a.tmps.size = 1 := R.tmps
  have hdf : a.defers = [] := R.defers
  have hdead : ∀ e xs,(⟨[.dead,.dead],[none,none]⟩ : Env).leaf ⟨false,0,0⟩ ≠ .own e xs := fun e xs h => by cases h
  have hK : Rel w (lentOf ⟨[.own 9 (rowsS vs)],[none]⟩ F loc) ⟨Tryz.prog,⟨[.dead],[none]⟩,a,w,F,loc,M⟩ := R.kill fun p => p == ⟨false,0,0⟩
  have hargs := args1 ha
  have go : ∀ (w1 : World),Rel w (lentOf ⟨[.own 9 (rowsS vs)],[none]⟩ F loc) ⟨Tryz.prog,⟨[.dead],[none]⟩,a,w1,F,loc,M⟩ → ∀ (v : Value) (zs : List (List UInt8)),OwnT Tryz.prog w1 (.sl 9 (rowsS zs)) v (F ⟨false,0,0⟩) →
      ∃ F',Rel w (lentOf ⟨[.own 9 (rowsS vs)],[none]⟩ F loc) ⟨Tryz.prog,⟨[.dead,.own 9 (rowsS zs)],[none,none]⟩,{ tmps := a.tmps.push v,defers := [] },w1,F',loc,M⟩ := by
    intro w1 R1 v zs ho
    have R2 := R1.pad 1
    obtain ⟨F',R3⟩ := R2.put2 (q := ⟨false,0,0⟩) (t := 1) (e := 9) (zs := rowsS zs) (v := v) hdead rfl ho
    refine ⟨F',?_⟩
    have e2 : (a.tmps ++ Array.replicate 1 undef).setIfInBounds 1 v = a.tmps.push v := by
      have := set_push a.tmps v
      rw [ha] at this
      exact this
    have R4 : Rel w (lentOf ⟨[.own 9 (rowsS vs)],[none]⟩ F loc) ⟨Tryz.prog,⟨[.dead,.own 9 (rowsS zs)],[none,none]⟩,{ tmps := (a.tmps ++ Array.replicate 1 undef).setIfInBounds 1 v,defers := [] },w1,F',loc,M⟩ := R3
    rw [e2] at R4
    exact R4
  rw [hargs]
  generalize a.tmps.getD 0 undef = v0 at hv hargs
  cases hv with
  | own _ _ _ h =>
    rcases own_strs (by kernel_rfl) h with ⟨rfl,rfl⟩ | ⟨b,o,cap,cs,fr,rfl,h1,h2,h3,h4,h5,h6,h7⟩
    · refine (lib_slices_Compact_string_empty none 0 w).mono ?_
      rintro e w' ⟨rfl,rfl⟩
      obtain ⟨F',R'⟩ := go _ hK (.slice none 0 0) (Lib.compact []) (by rw [show Lib.compact ([] : List (List UInt8)) = [] from rfl]; exact .emp _ _)
      simp only [hargs] at R'
      exact ⟨_,rfl,F',loc,fun _ _ => rfl,R'⟩
    · have hh := holds_strs h1 h3 h4 h5 h7
      have hst : Lib.strsOf (fun i => ofL (vs.getD i [])) vs.length = vs := by
        unfold Lib.strsOf
        apply List.ext_getElem?
        intro i
        rw [List.getElem?_map]
        by_cases hi : i < vs.length
        · rw [List.getElem?_range hi,List.getElem?_eq_getElem hi]
          simp [List.getD,hi]
          rfl
        · rw [List.getElem?_eq_none (by simp; omega),List.getElem?_eq_none (by omega)]; rfl
      have := lib_slices_Compact_string_cells b o vs.length cap (fun i => ofL (vs.getD i [])) w (by omega) h5 (fun i hi => (hh i hi).1) (fun i hi => (hh i hi).2)
      rw [hst] at this
      refine this.mono ?_
      rintro e w' ⟨rfl,n,rfl⟩
      have hcl := Lib.compact_length_le vs
      have hlm : ((Lib.compact vs ++ List.replicate (vs.length - (Lib.compact vs).length) []).map Go.Proofs.encStr).length = vs.length := by simp; omega
      obtain ⟨cs',hw,hc⟩ := setCells_wrt b 9 fr ((Lib.compact vs ++ List.replicate (vs.length - (Lib.compact vs).length) []).map Go.Proofs.encStr) o (w.drewN n) cs h1 (by rw [hlm]; omega)
      rw [hlm] at hc
      have R1 := hK.drew (ext_drewN w n)
      have R2 := R1.wrf (q := ⟨false,0,0⟩) h2 (fun e xs h => by cases h) hw
      obtain ⟨F',R'⟩ := go _ R2 (.slice (some ⟨b,o,none⟩) (Lib.compact vs).length cap) (Lib.compact vs) (own_of_strs (cap := cap) (by kernel_rfl) hw.new h2 (by rw [hw.sz]; exact h3) (by rw [hw.sz]; exact h4) (by omega) h6 (fun s hs => hl s (compact_mem.1 hs)) (fun j s hj => by
        refine set_strs (zs := Lib.compact vs ++ List.replicate (vs.length - (Lib.compact vs).length) []) hc (by simp; omega) j s ?_
        rw [List.getElem?_append_left (List.getElem?_eq_some_iff.1 hj).1]; exact hj))
      simp only [hargs] at R'
      exact ⟨_,rfl,F',loc,fun _ _ => rfl,R'⟩
end Go.Proofs.YtagfeejofceheaaGreatDoor.Fw

/- Contracts: words, names of hops. -/
namespace Go.Proofs.YtagfeejofceheaaGreatDoor.Fw
open Go
open Go.Proofs.Tryz
set_option maxRecDepth 100000
set_option maxHeartbeats 600000
set_option linter.unusedSimpArgs false
set_option linter.unusedVariables false
attribute [local congr] c_bnd c_slot c_cell c_all c_len c_chk c_asm c_opdR c_wp c_pwp c_pOps c_Done c_nx c_blk c_fin c_rowsR c_leafR c_opdsR c_coeLeaf c_coeLeaves c_lendLeaf c_lendLeaves c_coeCapt c_argR c_argsR c_boundR c_partsR c_srcR c_mfgo c_ite c_wpF c_OutF c_pHead c_pDraw
def connN : List UInt8 := [99,111,110,110,101,99,116,105,111,110]
def hopN : List (List UInt8) := [[99,111,110,110,101,99,116,105,111,110],[107,101,101,112,45,97,108,105,118,101],[112,114,111,120,121,45,99,111,110,110,101,99,116,105,111,110],[116,101],[116,114,97,105,108,101,114],[116,114,97,110,115,102,101,114,45,101,110,99,111,100,105,110,103],[117,112,103,114,97,100,101]]
def wordsB (name : List UInt8) (l : List Fld) : List (List UInt8) := elB (joinB (valsB name l))
theorem addE_mem {out : List (List UInt8)} {e s : List UInt8} (h : s ∈ addE out e) : s ∈ out ∨ s = e := by
  unfold addE at h
  split at h
  · exact .inl h
  · simpa using h
theorem elGo_mem (s : List UInt8) : ∀ (n : Nat) (fr : Nat) (q : Bool) (i : Nat) (out : List (List UInt8)),s.length + 2 - i ≤ n → (∀ x,x ∈ out → x.length ≤ s.length) → (∀ x,x ∈ elGo s fr q i out → x.length ≤ s.length)
  | 0,fr,q,i,out,hn,h => by
    rw [elGo_end (by omega)]
    intro x hx
    rcases addE_mem hx with h1 | h1
    · exact h x h1
    · rw [h1]; have := trimB_len (s.drop fr); rw [List.length_drop] at this; omega
  | n + 1,fr,q,i,out,hn,h => by
    by_cases hi : i < s.length
    · by_cases hq : s.getD i 0 = 34
      · rw [elGo_q hi hq]; exact elGo_mem s n _ _ _ _ (by omega) h
      · by_cases hb : q = true ∧ s.getD i 0 = 92
        · obtain ⟨rfl,hb⟩ := hb
          rw [elGo_b hi hq hb]; exact elGo_mem s n _ _ _ _ (by omega) h
        · by_cases hc : q = false ∧ s.getD i 0 = 44
          · obtain ⟨rfl,hc⟩ := hc
            rw [elGo_c hi hq hc]
            refine elGo_mem s n _ _ _ _ (by omega) ?_
            intro x hx
            rcases addE_mem hx with h1 | h1
            · exact h x h1
            · rw [h1]; have := trimB_len ((s.drop fr).take (i - fr)); rw [List.length_take,List.length_drop] at this; omega
          · rw [elGo_n hi hq hb hc]; exact elGo_mem s n _ _ _ _ (by omega) h
    · rw [elGo_end hi]
      intro x hx
      rcases addE_mem hx with h1 | h1
      · exact h x h1
      · rw [h1]; have := trimB_len (s.drop fr); rw [List.length_drop] at this; omega
theorem elGo_len (s : List UInt8) : ∀ (n : Nat) (fr : Nat) (q : Bool) (i : Nat) (out : List (List UInt8)),s.length + 2 - i ≤ n → (elGo s fr q i out).length ≤ out.length + (s.length - i) + 1
  | 0,fr,q,i,out,hn => by
    rw [elGo_end (by omega)]
    have := addE_len out (trimB (s.drop fr))
    omega
  | n + 1,fr,q,i,out,hn => by
    by_cases hi : i < s.length
    · by_cases hq : s.getD i 0 = 34
      · rw [elGo_q hi hq]; have := elGo_len s n fr (!q) (i + 1) out (by omega); omega
      · by_cases hb : q = true ∧ s.getD i 0 = 92
        · obtain ⟨rfl,hb⟩ := hb
          rw [elGo_b hi hq hb]; have := elGo_len s n fr true (i + 2) out (by omega); omega
        · by_cases hc : q = false ∧ s.getD i 0 = 44
          · obtain ⟨rfl,hc⟩ := hc
            rw [elGo_c hi hq hc]
            have h1 := elGo_len s n (i + 1) false (i + 1) (addE out (trimB ((s.drop fr).take (i - fr)))) (by omega)
            have h2 := addE_len out (trimB ((s.drop fr).take (i - fr)))
            omega
          · rw [elGo_n hi hq hb hc]; have := elGo_len s n fr q (i + 1) out (by omega); omega
    · rw [elGo_end hi]
      have := addE_len out (trimB (s.drop fr))
      omega
theorem words_le {name : List UInt8} {l : List Fld} (h : fieldsB l = true) : (wordsB name l).length ≤ 3841 ∧ ∀ x,x ∈ wordsB name l → x.length ≤ 3840 := by
  have hj := joined_len (name := name) h
  unfold wordsB
  generalize joinB (valsB name l) = s at hj
  constructor
  · have := elGo_len s (s.length + 2) 0 false 0 [] (by omega)
    simp only [List.length_nil] at this
    unfold elB
    omega
  · intro x hx
    have := elGo_mem s (s.length + 2) 0 false 0 [] (by omega) (fun _ h => by cases h) x hx
    omega
theorem c80 (l : List Fld) (hl : Small l) (name : List UInt8) (hn : name.length ≤ 9223372036854775807) (h : fieldsB l = true) : Sem prog 80 ⟨[.imm 51 (rowsF l),.v (vS name)],[none,none]⟩ ⟨[.dead,.dead,sd 9 (rowsS (wordsB name l))],[none,none]⟩ := by
  refine sem_fin (cfg := cfg 2) (ts := [.tm 4]) tbOk func80 rfl rfl rfl rfl (fun t h => by cases h) ?_
  have hj := joined_len (name := name) h
  have hc1 := c46 l hl name hn h
  have hc2 := c97 (joinB (valsB name l)) (by omega)
  have hw : wordsB name l = elB (joinB (valsB name l)) := rfl
  rw [hw]
  simp only [f80,go_sem,cfg,Nat.reduceLeDiff,Nat.reduceLT,Nat.reduceAdd,Nat.reduceSub,Nat.reduceMul,Nat.reduceBEq,Nat.reduceBNe,Nat.reduceEqDiff,reduceCtorEq,reduceIte,Int.reduceLT,Int.reduceLE,Int.reduceAdd,Int.reduceSub,Int.reduceNeg,Int.reduceEq,Int.reduceBEq,Int.reduceBNe,Int.reduceToNat,Nat.reduceDiv,Nat.reduceMod,rowsF_length,rowsS_length,sd_nil,sd_cons]
  refine ev_call hc1 (retW0 rfl rfl rfl rfl) ?_
  simp only [f80,go_sem,cfg,Nat.reduceLeDiff,Nat.reduceLT,Nat.reduceAdd,Nat.reduceSub,Nat.reduceMul,Nat.reduceBEq,Nat.reduceBNe,Nat.reduceEqDiff,reduceCtorEq,reduceIte,Int.reduceLT,Int.reduceLE,Int.reduceAdd,Int.reduceSub,Int.reduceNeg,Int.reduceEq,Int.reduceBEq,Int.reduceBNe,Int.reduceToNat,Nat.reduceDiv,Nat.reduceMod,rowsF_length,rowsS_length,sd_nil,sd_cons]
  generalize elB (joinB (valsB name l)) = W at hc2
  cases hr : rowsS W with
  | nil =>
    rw [hr] at hc2
    refine ev_call hc2 (retW0 rfl rfl rfl rfl) ?_
    simp only [f80,go_sem,cfg,Nat.reduceLeDiff,Nat.reduceLT,Nat.reduceAdd,Nat.reduceSub,Nat.reduceMul,Nat.reduceBEq,Nat.reduceBNe,Nat.reduceEqDiff,reduceCtorEq,reduceIte,Int.reduceLT,Int.reduceLE,Int.reduceAdd,Int.reduceSub,Int.reduceNeg,Int.reduceEq,Int.reduceBEq,Int.reduceBNe,Int.reduceToNat,Nat.reduceDiv,Nat.reduceMod,rowsF_length,rowsS_length,sd_nil,sd_cons]
    first | exact fin0 (.inr rfl) rfl rfl rfl rfl | trace_state
  | cons x xs =>
    rw [hr] at hc2
    refine ev_call hc2 (retW0 rfl rfl rfl rfl) ?_
    simp only [f80,go_sem,cfg,Nat.reduceLeDiff,Nat.reduceLT,Nat.reduceAdd,Nat.reduceSub,Nat.reduceMul,Nat.reduceBEq,Nat.reduceBNe,Nat.reduceEqDiff,reduceCtorEq,reduceIte,Int.reduceLT,Int.reduceLE,Int.reduceAdd,Int.reduceSub,Int.reduceNeg,Int.reduceEq,Int.reduceBEq,Int.reduceBNe,Int.reduceToNat,Nat.reduceDiv,Nat.reduceMod,rowsF_length,rowsS_length,sd_nil,sd_cons]
    first | exact fin0 (.inr rfl) rfl rfl rfl rfl | trace_state
theorem c64 (l : List Fld) (hl : Small l) (name : List UInt8) (hn : name.length ≤ 9223372036854775807) (h : fieldsB l = true) : Sem prog 64 ⟨[.imm 51 (rowsF l),.v (vS name)],[none,none]⟩ ⟨[.dead,.dead,sd 9 (rowsS (wordsB name l))],[none,none]⟩ := by
  refine sem_fin (cfg := cfg 2) (ts := [.tm 4]) tbOk func64 rfl rfl rfl rfl (fun t h => by cases h) ?_
  have hj := joined_len (name := name) h
  have hc1 := c30 l hl name hn h
  have hc2 := c89 (joinB (valsB name l)) (by omega)
  have hw : wordsB name l = elB (joinB (valsB name l)) := rfl
  rw [hw]
  simp only [f64,go_sem,cfg,Nat.reduceLeDiff,Nat.reduceLT,Nat.reduceAdd,Nat.reduceSub,Nat.reduceMul,Nat.reduceBEq,Nat.reduceBNe,Nat.reduceEqDiff,reduceCtorEq,reduceIte,Int.reduceLT,Int.reduceLE,Int.reduceAdd,Int.reduceSub,Int.reduceNeg,Int.reduceEq,Int.reduceBEq,Int.reduceBNe,Int.reduceToNat,Nat.reduceDiv,Nat.reduceMod,rowsF_length,rowsS_length,sd_nil,sd_cons]
  refine ev_call hc1 (retW0 rfl rfl rfl rfl) ?_
  simp only [f64,go_sem,cfg,Nat.reduceLeDiff,Nat.reduceLT,Nat.reduceAdd,Nat.reduceSub,Nat.reduceMul,Nat.reduceBEq,Nat.reduceBNe,Nat.reduceEqDiff,reduceCtorEq,reduceIte,Int.reduceLT,Int.reduceLE,Int.reduceAdd,Int.reduceSub,Int.reduceNeg,Int.reduceEq,Int.reduceBEq,Int.reduceBNe,Int.reduceToNat,Nat.reduceDiv,Nat.reduceMod,rowsF_length,rowsS_length,sd_nil,sd_cons]
  generalize elB (joinB (valsB name l)) = W at hc2
  cases hr : rowsS W with
  | nil =>
    rw [hr] at hc2
    refine ev_call hc2 (retW0 rfl rfl rfl rfl) ?_
    simp only [f64,go_sem,cfg,Nat.reduceLeDiff,Nat.reduceLT,Nat.reduceAdd,Nat.reduceSub,Nat.reduceMul,Nat.reduceBEq,Nat.reduceBNe,Nat.reduceEqDiff,reduceCtorEq,reduceIte,Int.reduceLT,Int.reduceLE,Int.reduceAdd,Int.reduceSub,Int.reduceNeg,Int.reduceEq,Int.reduceBEq,Int.reduceBNe,Int.reduceToNat,Nat.reduceDiv,Nat.reduceMod,rowsF_length,rowsS_length,sd_nil,sd_cons]
    first | exact fin0 (.inr rfl) rfl rfl rfl rfl | trace_state
  | cons x xs =>
    rw [hr] at hc2
    refine ev_call hc2 (retW0 rfl rfl rfl rfl) ?_
    simp only [f64,go_sem,cfg,Nat.reduceLeDiff,Nat.reduceLT,Nat.reduceAdd,Nat.reduceSub,Nat.reduceMul,Nat.reduceBEq,Nat.reduceBNe,Nat.reduceEqDiff,reduceCtorEq,reduceIte,Int.reduceLT,Int.reduceLE,Int.reduceAdd,Int.reduceSub,Int.reduceNeg,Int.reduceEq,Int.reduceBEq,Int.reduceBNe,Int.reduceToNat,Nat.reduceDiv,Nat.reduceMod,rowsF_length,rowsS_length,sd_nil,sd_cons]
    first | exact fin0 (.inr rfl) rfl rfl rfl rfl | trace_state
end Go.Proofs.YtagfeejofceheaaGreatDoor.Fw

/- Contracts: names of hops. -/
namespace Go.Proofs.YtagfeejofceheaaGreatDoor.Fw
open Go
open Go.Proofs.Tryz
set_option maxRecDepth 100000
set_option maxHeartbeats 600000
set_option linter.unusedSimpArgs false
set_option linter.unusedVariables false
attribute [local congr] c_bnd c_slot c_cell c_all c_len c_chk c_asm c_opdR c_wp c_pwp c_pOps c_Done c_nx c_blk c_fin c_rowsR c_leafR c_opdsR c_coeLeaf c_coeLeaves c_lendLeaf c_lendLeaves c_coeCapt c_argR c_argsR c_boundR c_partsR c_srcR c_mfgo c_ite c_wpF c_OutF c_pHead c_pDraw
def tokW (ws : List (List UInt8)) : List (List UInt8) := (ws.filter tokenI).map foldB
theorem tokW_hit {ws : List (List UInt8)} {i : Nat} (h : i < ws.length) (hb : tokenI (ws.getD i []) = true) : tokW (ws.take (i + 1)) = tokW (ws.take i) ++ [foldB (ws.getD i [])] := by
  have : [ws.getD i []].filter tokenI = [ws.getD i []] := by rw [List.filter_cons,if_pos hb]; rfl
  rw [take_at (d := []) h,tokW,List.filter_append,this,List.map_append]; rfl
theorem tokW_miss {ws : List (List UInt8)} {i : Nat} (h : i < ws.length) (hb : tokenI (ws.getD i []) = false) : tokW (ws.take (i + 1)) = tokW (ws.take i) := by
  have : [ws.getD i []].filter tokenI = [] := by rw [List.filter_cons,if_neg (by rw [hb]; simp)]; rfl
  rw [take_at (d := []) h,tokW,List.filter_append,this,List.append_nil]; rfl
theorem tokW_len (ws : List (List UInt8)) : (tokW ws).length ≤ ws.length := by unfold tokW; rw [List.length_map]; exact List.length_filter_le _ _
def hopI (ws : List (List UInt8)) : List (List UInt8) := Lib.compact (sortB (hopN ++ tokW ws))
theorem fold_len (l : List UInt8) : (foldB l).length = l.length := by simp [foldB]
theorem rowsS_app (a b : List (List UInt8)) : rowsS (a ++ b) = rowsS a ++ rowsS b := by simp [rowsS]
theorem hop_rows (s : List UInt8) (acc : List (List UInt8)) : rowsS (hopN ++ (acc ++ [s])) = rowsS (hopN ++ acc) ++ [[.v (vS s)]] := by rw [← List.append_assoc,rowsS_snoc]
theorem hop_ne (acc : List (List UInt8)) : rowsS (hopN ++ acc) ≠ [] := rowsS_ne (by simp [hopN])
theorem elem_le {ws : List (List UInt8)} (h : ∀ x,x ∈ ws → x.length ≤ 3840) {i : Nat} (hi : i < ws.length) : (ws.getD i []).length ≤ 9223372036854775807 := by
  rw [List.getD_eq_getElem?_getD,List.getElem?_eq_getElem hi]
  have := h _ (List.getElem_mem hi)
  simp only [Option.getD_some]
  omega
theorem tokW_le {ws : List (List UInt8)} (h : ∀ x,x ∈ ws → x.length ≤ 3840) : ∀ s,s ∈ hopN ++ tokW ws → s.length ≤ 9223372036854775807 := by
  intro s hs
  rcases List.mem_append.1 hs with h1 | h1
  · have : ∀ x,x ∈ hopN → x.length ≤ 30 := by decide
    have := this s h1
    omega
  · unfold tokW at h1
    obtain ⟨x,hx,rfl⟩ := List.mem_map.1 h1
    rw [fold_len]
    have := h x (List.mem_filter.1 hx).1
    omega
theorem c48n (l : List Fld) (hl : Small l) (h : fieldsB l = false) : Sem prog 48 ⟨[.imm 51 (rowsF l)],[none]⟩ ⟨[.dead,.nil],[none]⟩ := by
  refine sem_fin (cfg := cfg 1) (ts := [.tm 2]) tbOk func48 rfl rfl rfl rfl (fun t h => by cases h) ?_
  simp only [f48,go_sem,cfg,Nat.reduceLeDiff,Nat.reduceLT,Nat.reduceAdd,Nat.reduceSub,Nat.reduceMul,Nat.reduceBEq,Nat.reduceBNe,Nat.reduceEqDiff,reduceCtorEq,reduceIte,Int.reduceLT,Int.reduceLE,Int.reduceAdd,Int.reduceSub,Int.reduceNeg,Int.reduceEq,Int.reduceBEq,Int.reduceBNe,Int.reduceToNat,Nat.reduceDiv,Nat.reduceMod,rowsF_length,rowsS_length,sd_nil,sd_cons]
  refine ev_call (c36 l hl) (retW0 rfl rfl rfl rfl) ?_
  simp only [f48,go_sem,cfg,Nat.reduceLeDiff,Nat.reduceLT,Nat.reduceAdd,Nat.reduceSub,Nat.reduceMul,Nat.reduceBEq,Nat.reduceBNe,Nat.reduceEqDiff,reduceCtorEq,reduceIte,Int.reduceLT,Int.reduceLE,Int.reduceAdd,Int.reduceSub,Int.reduceNeg,Int.reduceEq,Int.reduceBEq,Int.reduceBNe,Int.reduceToNat,Nat.reduceDiv,Nat.reduceMod,rowsF_length,rowsS_length,sd_nil,sd_cons,h]
  first | exact fin0 (.inr rfl) rfl rfl rfl rfl | trace_state
theorem c48 (l : List Fld) (hl : Small l) (h : fieldsB l = true) : Sem prog 48 ⟨[.imm 51 (rowsF l)],[none]⟩ ⟨[.dead,.own 9 (rowsS (hopI (wordsB connN l)))],[none]⟩ := by
  refine sem_fin (cfg := cfg 1) (ts := [.tm 2]) tbOk func48 rfl rfl rfl rfl (fun t h => by cases h) ?_
  simp only [f48,go_sem,cfg,Nat.reduceLeDiff,Nat.reduceLT,Nat.reduceAdd,Nat.reduceSub,Nat.reduceMul,Nat.reduceBEq,Nat.reduceBNe,Nat.reduceEqDiff,reduceCtorEq,reduceIte,Int.reduceLT,Int.reduceLE,Int.reduceAdd,Int.reduceSub,Int.reduceNeg,Int.reduceEq,Int.reduceBEq,Int.reduceBNe,Int.reduceToNat,Nat.reduceDiv,Nat.reduceMod,rowsF_length,rowsS_length,sd_nil,sd_cons]
  refine ev_call (c36 l hl) (retW0 rfl rfl rfl rfl) ?_
  simp only [f48,go_sem,cfg,Nat.reduceLeDiff,Nat.reduceLT,Nat.reduceAdd,Nat.reduceSub,Nat.reduceMul,Nat.reduceBEq,Nat.reduceBNe,Nat.reduceEqDiff,reduceCtorEq,reduceIte,Int.reduceLT,Int.reduceLE,Int.reduceAdd,Int.reduceSub,Int.reduceNeg,Int.reduceEq,Int.reduceBEq,Int.reduceBNe,Int.reduceToNat,Nat.reduceDiv,Nat.reduceMod,rowsF_length,rowsS_length,sd_nil,sd_cons,h]
  have h80 := c80 l hl connN (by decide) h
  obtain ⟨hw1,hw2⟩ := words_le (name := connN) h
  generalize wordsB connN l = ws at h80 hw1 hw2 ⊢
  have hws : ws.length ≤ 9223372036854775807 := by omega
  cases hr : rowsS ws with
  | nil =>
    have hz : ws = [] := by
      cases ws with
      | nil => rfl
      | cons => simp [rowsS] at hr
    subst hz
    refine ev_call h80 (retW0 rfl rfl rfl rfl) ?_
    simp only [f48,go_sem,cfg,Nat.reduceLeDiff,Nat.reduceLT,Nat.reduceAdd,Nat.reduceSub,Nat.reduceMul,Nat.reduceBEq,Nat.reduceBNe,Nat.reduceEqDiff,reduceCtorEq,reduceIte,Int.reduceLT,Int.reduceLE,Int.reduceAdd,Int.reduceSub,Int.reduceNeg,Int.reduceEq,Int.reduceBEq,Int.reduceBNe,Int.reduceToNat,Nat.reduceDiv,Nat.reduceMod,rowsF_length,rowsS_length,sd_nil,sd_cons,rowsS,List.map_nil]
    refine loop_on (fun i : Nat => ⟨[.dead,.dead,.nil,.own 9 (rowsS (hopN ++ tokW [])),.dead,.dead,.dead,.dead,.dead,.dead,.dead,.nil,.v (vI 0),.v (vI 0),.dead,.dead,.dead,.dead,.dead,.dead,.dead,.dead,.dead,.dead,.dead,.dead,.dead,.dead,.dead],List.replicate 29 none⟩) [2,3,11,12,13] (fun i => True) (fun i => 0) 0 rfl trivial ?_
    intro i hi
    have hc : ¬ ((0 : Int) < 0) := by omega
    have ws0 : True := trivial
    generalize hWW : ([] : List (List UInt8)) = ws at hw1 hw2 ⊢
    simp only [f48,go_sem,cfg,Nat.reduceLeDiff,Nat.reduceLT,Nat.reduceAdd,Nat.reduceSub,Nat.reduceMul,Nat.reduceBEq,Nat.reduceBNe,Nat.reduceEqDiff,reduceCtorEq,reduceIte,Int.reduceLT,Int.reduceLE,Int.reduceAdd,Int.reduceSub,Int.reduceNeg,Int.reduceEq,Int.reduceBEq,Int.reduceBNe,Int.reduceToNat,Nat.reduceDiv,Nat.reduceMod,rowsF_length,rowsS_length,sd_nil,sd_cons,hc]
    refine ev_call (c81 (hopN ++ tokW ws) (by rw [List.length_append]; have : hopN.length = 7 := rfl; have := tokW_len ws; omega) (tokW_le hw2)) (retW1 rfl rfl rfl rfl rfl rfl) ?_
    simp only [f48,go_sem,cfg,Nat.reduceLeDiff,Nat.reduceLT,Nat.reduceAdd,Nat.reduceSub,Nat.reduceMul,Nat.reduceBEq,Nat.reduceBNe,Nat.reduceEqDiff,reduceCtorEq,reduceIte,Int.reduceLT,Int.reduceLE,Int.reduceAdd,Int.reduceSub,Int.reduceNeg,Int.reduceEq,Int.reduceBEq,Int.reduceBNe,Int.reduceToNat,Nat.reduceDiv,Nat.reduceMod,rowsF_length,rowsS_length,sd_nil,sd_cons,hc]
    refine ev_call (c82 (sortB (hopN ++ tokW ws)) (by rw [sortB_len,List.length_append]; have : hopN.length = 7 := rfl; have := tokW_len ws; omega) (fun s hs => tokW_le hw2 s (sortB_mem.1 hs))) (retWm rfl rfl rfl rfl rfl rfl) ?_
    simp only [f48,go_sem,cfg,Nat.reduceLeDiff,Nat.reduceLT,Nat.reduceAdd,Nat.reduceSub,Nat.reduceMul,Nat.reduceBEq,Nat.reduceBNe,Nat.reduceEqDiff,reduceCtorEq,reduceIte,Int.reduceLT,Int.reduceLE,Int.reduceAdd,Int.reduceSub,Int.reduceNeg,Int.reduceEq,Int.reduceBEq,Int.reduceBNe,Int.reduceToNat,Nat.reduceDiv,Nat.reduceMod,rowsF_length,rowsS_length,sd_nil,sd_cons,hc]
    first | exact fin0 (.inr rfl) rfl rfl rfl rfl | trace_state
  | cons x xs =>
    rw [hr,sd_cons] at h80
    refine ev_call h80 (retW0 rfl rfl rfl rfl) ?_
    have hlx : (x :: xs).length = ws.length := by rw [← hr,rowsS_length]
    rw [← hr]
    simp only [f48,go_sem,cfg,Nat.reduceLeDiff,Nat.reduceLT,Nat.reduceAdd,Nat.reduceSub,Nat.reduceMul,Nat.reduceBEq,Nat.reduceBNe,Nat.reduceEqDiff,reduceCtorEq,reduceIte,Int.reduceLT,Int.reduceLE,Int.reduceAdd,Int.reduceSub,Int.reduceNeg,Int.reduceEq,Int.reduceBEq,Int.reduceBNe,Int.reduceToNat,Nat.reduceDiv,Nat.reduceMod,rowsF_length,rowsS_length,sd_nil,sd_cons,hws]
    refine loop_on (fun i : Nat => ⟨[.dead,.dead,.nil,.own 9 (rowsS (hopN ++ tokW (ws.take i))),.dead,.dead,.dead,.dead,.dead,.dead,.dead,.own 9 (rowsS ws),.v (vI ws.length),.v (vI i),.dead,.dead,.dead,.dead,.dead,.dead,.dead,.dead,.dead,.dead,.dead,.dead,.dead,.dead,.dead],List.replicate 29 none⟩) [2,3,11,12,13] (fun i => i ≤ ws.length) (fun i => ws.length - i) 0 rfl (by omega) ?_
    intro i hi
    simp only [f48,go_sem,cfg,Nat.reduceLeDiff,Nat.reduceLT,Nat.reduceAdd,Nat.reduceSub,Nat.reduceMul,Nat.reduceBEq,Nat.reduceBNe,Nat.reduceEqDiff,reduceCtorEq,reduceIte,Int.reduceLT,Int.reduceLE,Int.reduceAdd,Int.reduceSub,Int.reduceNeg,Int.reduceEq,Int.reduceBEq,Int.reduceBNe,Int.reduceToNat,Nat.reduceDiv,Nat.reduceMod,rowsF_length,rowsS_length,sd_nil,sd_cons,hws]
    refine Or.elim (Classical.em (i < ws.length)) (fun hc => ?_) fun hc => ?_
    · have hw := wrapN hc hws
      have hci : ((i : Int) < (ws.length : Int)) := by omega
      have g1 := rowsS_getD hc
      have g2 := elem_le hw2 hc
      have g3 := tokW_len (ws.take i)
      have g4 : (ws.take i).length ≤ 3841 := by rw [List.length_take]; omega
      have g5 : (hopN ++ tokW (ws.take i)).length + 1 ≤ 9223372036854775807 := by rw [List.length_append]; have : hopN.length = 7 := rfl; omega
      have g6 : (hopN ++ tokW (ws.take i)).length ≤ 4000 := by rw [List.length_append]; have : hopN.length = 7 := rfl; omega
      have h69 := c69 (ws.getD i []) g2
      have h52 := c52 (ws.getD i []) g2
      cases hb : tokenI (ws.getD i [])
      · rw [hb] at h69
        have ht := tokW_miss hc hb
        simp only [f48,go_sem,cfg,Nat.reduceLeDiff,Nat.reduceLT,Nat.reduceAdd,Nat.reduceSub,Nat.reduceMul,Nat.reduceBEq,Nat.reduceBNe,Nat.reduceEqDiff,reduceCtorEq,reduceIte,Int.reduceLT,Int.reduceLE,Int.reduceAdd,Int.reduceSub,Int.reduceNeg,Int.reduceEq,Int.reduceBEq,Int.reduceBNe,Int.reduceToNat,Nat.reduceDiv,Nat.reduceMod,rowsF_length,rowsS_length,sd_nil,sd_cons,hws,hc,hci,g1]
        refine ev_call h69 (retW0 rfl rfl rfl rfl) ?_
        simp only [f48,go_sem,cfg,Nat.reduceLeDiff,Nat.reduceLT,Nat.reduceAdd,Nat.reduceSub,Nat.reduceMul,Nat.reduceBEq,Nat.reduceBNe,Nat.reduceEqDiff,reduceCtorEq,reduceIte,Int.reduceLT,Int.reduceLE,Int.reduceAdd,Int.reduceSub,Int.reduceNeg,Int.reduceEq,Int.reduceBEq,Int.reduceBNe,Int.reduceToNat,Nat.reduceDiv,Nat.reduceMod,rowsF_length,rowsS_length,sd_nil,sd_cons,hws,hc,hci,g1,hw]
        first | exact ⟨i + 1,by rw [ht]; rfl,hc,by omega⟩ | trace_state
      · rw [hb] at h69
        have ht := tokW_hit hc hb
        simp only [f48,go_sem,cfg,Nat.reduceLeDiff,Nat.reduceLT,Nat.reduceAdd,Nat.reduceSub,Nat.reduceMul,Nat.reduceBEq,Nat.reduceBNe,Nat.reduceEqDiff,reduceCtorEq,reduceIte,Int.reduceLT,Int.reduceLE,Int.reduceAdd,Int.reduceSub,Int.reduceNeg,Int.reduceEq,Int.reduceBEq,Int.reduceBNe,Int.reduceToNat,Nat.reduceDiv,Nat.reduceMod,rowsF_length,rowsS_length,sd_nil,sd_cons,hws,hc,hci,g1]
        refine ev_call h69 (retW0 rfl rfl rfl rfl) ?_
        simp only [f48,go_sem,cfg,Nat.reduceLeDiff,Nat.reduceLT,Nat.reduceAdd,Nat.reduceSub,Nat.reduceMul,Nat.reduceBEq,Nat.reduceBNe,Nat.reduceEqDiff,reduceCtorEq,reduceIte,Int.reduceLT,Int.reduceLE,Int.reduceAdd,Int.reduceSub,Int.reduceNeg,Int.reduceEq,Int.reduceBEq,Int.reduceBNe,Int.reduceToNat,Nat.reduceDiv,Nat.reduceMod,rowsF_length,rowsS_length,sd_nil,sd_cons,hws,hc,hci,g1,hw]
        refine ev_call h52 (retW0 rfl rfl rfl rfl) ?_
        simp only [f48,go_sem,cfg,Nat.reduceLeDiff,Nat.reduceLT,Nat.reduceAdd,Nat.reduceSub,Nat.reduceMul,Nat.reduceBEq,Nat.reduceBNe,Nat.reduceEqDiff,reduceCtorEq,reduceIte,Int.reduceLT,Int.reduceLE,Int.reduceAdd,Int.reduceSub,Int.reduceNeg,Int.reduceEq,Int.reduceBEq,Int.reduceBNe,Int.reduceToNat,Nat.reduceDiv,Nat.reduceMod,rowsF_length,rowsS_length,sd_nil,sd_cons,hws,hc,hci,g1,hw,g5]
        repeat' with_reducible refine And.intro (by omega) ?_
        first | exact ⟨i + 1,by rw [ht,hop_rows]; rfl,hc,by omega⟩ | trace_state
    · have he : i = ws.length := by omega
      subst he
      rw [List.take_of_length_le (Nat.le_refl _)]
      simp only [f48,go_sem,cfg,Nat.reduceLeDiff,Nat.reduceLT,Nat.reduceAdd,Nat.reduceSub,Nat.reduceMul,Nat.reduceBEq,Nat.reduceBNe,Nat.reduceEqDiff,reduceCtorEq,reduceIte,Int.reduceLT,Int.reduceLE,Int.reduceAdd,Int.reduceSub,Int.reduceNeg,Int.reduceEq,Int.reduceBEq,Int.reduceBNe,Int.reduceToNat,Nat.reduceDiv,Nat.reduceMod,rowsF_length,rowsS_length,sd_nil,sd_cons,hc]
      refine ev_call (c81 (hopN ++ tokW ws) (by rw [List.length_append]; have : hopN.length = 7 := rfl; have := tokW_len ws; omega) (tokW_le hw2)) (retW1 rfl rfl rfl rfl rfl rfl) ?_
      simp only [f48,go_sem,cfg,Nat.reduceLeDiff,Nat.reduceLT,Nat.reduceAdd,Nat.reduceSub,Nat.reduceMul,Nat.reduceBEq,Nat.reduceBNe,Nat.reduceEqDiff,reduceCtorEq,reduceIte,Int.reduceLT,Int.reduceLE,Int.reduceAdd,Int.reduceSub,Int.reduceNeg,Int.reduceEq,Int.reduceBEq,Int.reduceBNe,Int.reduceToNat,Nat.reduceDiv,Nat.reduceMod,rowsF_length,rowsS_length,sd_nil,sd_cons,hc]
      refine ev_call (c82 (sortB (hopN ++ tokW ws)) (by rw [sortB_len,List.length_append]; have : hopN.length = 7 := rfl; have := tokW_len ws; omega) (fun s hs => tokW_le hw2 s (sortB_mem.1 hs))) (retWm rfl rfl rfl rfl rfl rfl) ?_
      simp only [f48,go_sem,cfg,Nat.reduceLeDiff,Nat.reduceLT,Nat.reduceAdd,Nat.reduceSub,Nat.reduceMul,Nat.reduceBEq,Nat.reduceBNe,Nat.reduceEqDiff,reduceCtorEq,reduceIte,Int.reduceLT,Int.reduceLE,Int.reduceAdd,Int.reduceSub,Int.reduceNeg,Int.reduceEq,Int.reduceBEq,Int.reduceBNe,Int.reduceToNat,Nat.reduceDiv,Nat.reduceMod,rowsF_length,rowsS_length,sd_nil,sd_cons,hc]
      first | exact fin0 (.inr rfl) rfl rfl rfl rfl | trace_state
end Go.Proofs.YtagfeejofceheaaGreatDoor.Fw
