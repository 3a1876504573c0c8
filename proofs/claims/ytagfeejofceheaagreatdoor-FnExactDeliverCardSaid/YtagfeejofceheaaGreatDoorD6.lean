/- Texts of the proof: FdH FdI FdJ FwBd FwBe FwBf FdK FdL FdM. -/
import Derived.Shelf.Strings.Builder1
import Derived.Test.YtagfeejofceheaaGreatDoorD5
set_option linter.unusedSimpArgs false
set_option linter.unusedVariables false
/- Contracts: a text is put into an ascending list. -/
namespace Go.Proofs.YtagfeejofceheaaGreatDoor.Fw
open Go
open Go.Proofs.Tryz
set_option maxRecDepth 100000
set_option maxHeartbeats 600000
set_option linter.unusedSimpArgs false
set_option linter.unusedVariables false
attribute [local congr] c_bnd c_slot c_cell c_all c_len c_chk c_asm c_opdR c_wp c_pwp c_pOps c_Done c_nx c_blk c_fin c_rowsR c_leafR c_opdsR c_coeLeaf c_coeLeaves c_lendLeaf c_lendLeaves c_coeCapt c_argR c_argsR c_boundR c_partsR c_srcR c_mfgo c_ite c_wpF c_OutF c_pHead c_pDraw
def insB : List (List UInt8) → List UInt8 → List (List UInt8)
  | [],s => [s]
  | x :: l,s => if ltB s x = true then s :: x :: l else x :: insB l s
def dnB (l : List (List UInt8)) (s : List UInt8) (i : Nat) : Bool := (l.take i).any fun x => ltB s x
def stB (l : List (List UInt8)) (s : List UInt8) (i : Nat) : List (List UInt8) := if dnB l s i = true then insB (l.take i) s else l.take i
def putB (l : List (List UInt8)) (s : List UInt8) : List (List UInt8) := if l.contains s = true then l else insB l s
theorem insB_any {s x : List UInt8} : ∀ {l : List (List UInt8)},l.any (fun y => ltB s y) = true → insB (l ++ [x]) s = insB l s ++ [x]
  | [],h => by simp at h
  | y :: l,h => by
    by_cases hy : ltB s y = true
    · simp [insB,hy]
    · have h : l.any (fun y => ltB s y) = true := by simpa [hy] using h
      simp [insB,hy,insB_any h]
theorem insB_none {s : List UInt8} : ∀ {l : List (List UInt8)},l.any (fun y => ltB s y) = false → insB l s = l ++ [s]
  | [],_ => rfl
  | y :: l,h => by
    rw [List.any_cons,Bool.or_eq_false_iff] at h
    simp [insB,h.1,insB_none h.2]
theorem insB_here {s x : List UInt8} (hx : ltB s x = true) : ∀ {l : List (List UInt8)},l.any (fun y => ltB s y) = false → insB (l ++ [x]) s = l ++ [s] ++ [x]
  | [],_ => by simp [insB,hx]
  | y :: l,h => by
    rw [List.any_cons,Bool.or_eq_false_iff] at h
    simp [insB,h.1,insB_here hx h.2]
theorem insB_mem {s x : List UInt8} : ∀ {l : List (List UInt8)},x ∈ insB l s ↔ x = s ∨ x ∈ l
  | [] => by simp [insB]
  | y :: l => by
    unfold insB
    split
    · simp
    · rw [List.mem_cons,insB_mem,List.mem_cons]; grind
theorem insB_len (s : List UInt8) : ∀ (l : List (List UInt8)),(insB l s).length = l.length + 1
  | [] => rfl
  | y :: l => by
    unfold insB
    split
    · rfl
    · rw [List.length_cons,insB_len s l]; rfl
theorem putB_mem {l : List (List UInt8)} {s x : List UInt8} : x ∈ putB l s ↔ x = s ∨ x ∈ l := by
  unfold putB
  split
  · rename_i h
    rw [List.contains_iff_mem] at h
    constructor
    · exact .inr
    · rintro (rfl | h2)
      · exact h
      · exact h2
  · exact insB_mem
theorem putB_len (l : List (List UInt8)) (s : List UInt8) : (putB l s).length ≤ l.length + 1 := by
  unfold putB
  split
  · omega
  · rw [insB_len]; exact Nat.le_refl _
theorem dnB_succ {l : List (List UInt8)} {s : List UInt8} {i : Nat} (h : i < l.length) : dnB l s (i + 1) = (dnB l s i || ltB s (l.getD i [])) := by
  unfold dnB
  rw [take_at (d := []) h,List.any_append]
  simp only [List.any_cons,List.any_nil,Bool.or_false]
theorem stB_done {l : List (List UInt8)} {s : List UInt8} {i : Nat} (h : i < l.length) (hd : dnB l s i = true) : stB l s (i + 1) = stB l s i ++ [l.getD i []] := by
  unfold stB
  rw [dnB_succ h,hd,Bool.true_or,if_pos rfl,if_pos rfl,take_at (d := []) h]
  exact insB_any hd
theorem stB_here {l : List (List UInt8)} {s : List UInt8} {i : Nat} (h : i < l.length) (hd : dnB l s i = false) (hx : ltB s (l.getD i []) = true) : stB l s (i + 1) = stB l s i ++ [s] ++ [l.getD i []] := by
  unfold stB
  rw [dnB_succ h,hd,hx,Bool.or_true,if_pos rfl,if_neg (by simp),take_at (d := []) h]
  exact insB_here hx hd
theorem stB_not {l : List (List UInt8)} {s : List UInt8} {i : Nat} (h : i < l.length) (hd : dnB l s i = false) (hx : ltB s (l.getD i []) = false) : stB l s (i + 1) = stB l s i ++ [l.getD i []] := by
  unfold stB
  rw [dnB_succ h,hd,hx,Bool.or_false,if_neg (by simp),if_neg (by simp),take_at (d := []) h]
theorem stB_len (l : List (List UInt8)) (s : List UInt8) (i : Nat) : (stB l s i).length ≤ i + 1 := by
  unfold stB
  split
  · rw [insB_len,List.length_take]; omega
  · rw [List.length_take]; omega
theorem c65 (l : List (List UInt8)) (s : List UInt8) (hl : l.length ≤ 1048576) : Sem prog 65 ⟨[.own 9 (rowsS l),.v (vS s)],[none,none]⟩ ⟨[.dead,.dead,.own 9 (rowsS (putB l s))],[none,none]⟩ := by
  refine sem_fin (cfg := cfg 2) (ts := [.tm 4]) tbOk func65 rfl rfl rfl rfl (fun t h => by cases h) ?_
  have hl9 : l.length ≤ 9223372036854775807 := by omega
  have h33 := c33 l s hl9
  simp only [f65,go_sem,cfg,Nat.reduceLeDiff,Nat.reduceLT,Nat.reduceAdd,Nat.reduceSub,Nat.reduceMul,Nat.reduceBEq,Nat.reduceBNe,Nat.reduceEqDiff,reduceCtorEq,reduceIte,Int.reduceLT,Int.reduceLE,Int.reduceAdd,Int.reduceSub,Int.reduceNeg,Int.reduceEq,Int.reduceBEq,Int.reduceBNe,Int.reduceToNat,Nat.reduceDiv,Nat.reduceMod,rowsF_length,rowsS_length,sd_nil,sd_cons]
  refine ev_call h33 (retW0 rfl rfl rfl rfl) ?_
  cases hcn : l.contains s
  case true =>
    have hp : putB l s = l := by unfold putB; rw [if_pos hcn]
    rw [hp]
    simp only [f65,go_sem,cfg,Nat.reduceLeDiff,Nat.reduceLT,Nat.reduceAdd,Nat.reduceSub,Nat.reduceMul,Nat.reduceBEq,Nat.reduceBNe,Nat.reduceEqDiff,reduceCtorEq,reduceIte,Int.reduceLT,Int.reduceLE,Int.reduceAdd,Int.reduceSub,Int.reduceNeg,Int.reduceEq,Int.reduceBEq,Int.reduceBNe,Int.reduceToNat,Nat.reduceDiv,Nat.reduceMod,rowsF_length,rowsS_length,sd_nil,sd_cons,hcn]
    first | exact fin0 (.inr rfl) rfl rfl rfl rfl | trace_state
  have hp : putB l s = insB l s := by unfold putB; rw [if_neg (by rw [hcn]; simp)]
  rw [hp]
  simp only [f65,go_sem,cfg,Nat.reduceLeDiff,Nat.reduceLT,Nat.reduceAdd,Nat.reduceSub,Nat.reduceMul,Nat.reduceBEq,Nat.reduceBNe,Nat.reduceEqDiff,reduceCtorEq,reduceIte,Int.reduceLT,Int.reduceLE,Int.reduceAdd,Int.reduceSub,Int.reduceNeg,Int.reduceEq,Int.reduceBEq,Int.reduceBNe,Int.reduceToNat,Nat.reduceDiv,Nat.reduceMod,rowsF_length,rowsS_length,sd_nil,sd_cons,hcn]
  refine loop_on (fun i : Nat => ⟨[.own 9 (rowsS l),.v (vS s),.dead,.dead,.nil,sd 9 (rowsS (stB l s i)),.v (vB (dnB l s i)),.v (vI i),.dead,.dead,.dead,.dead,.dead,.dead,.dead,.dead,.dead,.dead,.dead,.dead,.dead,.dead,.dead,.dead,.dead,.dead,.dead,.dead,.dead,.dead,.dead,.dead,.dead,.dead,.dead,.dead,.dead,.dead,.dead,.dead,.dead,.dead,.dead,.dead,.dead,.dead],List.replicate 46 none⟩) [0,1,4,5,6,7] (fun i => i ≤ l.length) (fun i => l.length - i) 0 rfl (by omega) ?_
  intro i hi
  have hsl := stB_len l s i
  have hend : i = l.length → (dnB l s i = true → rowsS (stB l s i) = rowsS (insB l s)) ∧ (dnB l s i = false → rowsS (stB l s i) ++ [[.v (vS s)]] = rowsS (insB l s)) := by
    intro e
    subst e
    unfold stB dnB
    rw [List.take_length]
    refine ⟨fun h => by rw [if_pos h],fun h => by rw [if_neg (by rw [h]; simp),insB_none h,rowsS_snoc]⟩
  have hrl := rowsS_length (stB l s i)
  generalize hacc : rowsS (stB l s i) = acc at hend hrl ⊢
  simp only [f65,go_sem,cfg,Nat.reduceLeDiff,Nat.reduceLT,Nat.reduceAdd,Nat.reduceSub,Nat.reduceMul,Nat.reduceBEq,Nat.reduceBNe,Nat.reduceEqDiff,reduceCtorEq,reduceIte,Int.reduceLT,Int.reduceLE,Int.reduceAdd,Int.reduceSub,Int.reduceNeg,Int.reduceEq,Int.reduceBEq,Int.reduceBNe,Int.reduceToNat,Nat.reduceDiv,Nat.reduceMod,rowsF_length,rowsS_length,sd_nil,sd_cons,hl9]
  try (with_reducible intro hlen)
  refine Or.elim (Classical.em (i < l.length)) (fun hc => ?_) fun hc => ?_
  · have hw := wrapN hc hl9
    have hci : ((i : Int) < (l.length : Int)) := by omega
    have g1 := rowsS_getD hc
    cases acc with
    | nil =>
      have hle1 : True := trivial
      have hle2 : True := trivial
      cases hd : dnB l s i
      · cases hx : ltB s (l.getD i [])
        · have hnd : dnB l s (i + 1) = false := by rw [dnB_succ hc,hd,hx]; rfl
          have hst := stB_not hc hd hx
          simp only [f65,go_sem,cfg,Nat.reduceLeDiff,Nat.reduceLT,Nat.reduceAdd,Nat.reduceSub,Nat.reduceMul,Nat.reduceBEq,Nat.reduceBNe,Nat.reduceEqDiff,reduceCtorEq,reduceIte,Int.reduceLT,Int.reduceLE,Int.reduceAdd,Int.reduceSub,Int.reduceNeg,Int.reduceEq,Int.reduceBEq,Int.reduceBNe,Int.reduceToNat,Nat.reduceDiv,Nat.reduceMod,rowsF_length,rowsS_length,sd_nil,sd_cons,hl9,hc,hci,g1,hd,hx,hle1,hle2]
          repeat' with_reducible refine And.intro (by (try simp only [List.length_append,List.length_cons,List.length_nil]); omega) ?_
          try simp only [f65,go_sem,cfg,Nat.reduceLeDiff,Nat.reduceLT,Nat.reduceAdd,Nat.reduceSub,Nat.reduceMul,Nat.reduceBEq,Nat.reduceBNe,Nat.reduceEqDiff,reduceCtorEq,reduceIte,Int.reduceLT,Int.reduceLE,Int.reduceAdd,Int.reduceSub,Int.reduceNeg,Int.reduceEq,Int.reduceBEq,Int.reduceBNe,Int.reduceToNat,Nat.reduceDiv,Nat.reduceMod,rowsF_length,rowsS_length,sd_nil,sd_cons,hl9,hc,hci,g1,hd,hx,hw,hle1,hle2]
          repeat' with_reducible refine And.intro (by (try simp only [List.length_append,List.length_cons,List.length_nil]); omega) ?_
          try simp only [f65,go_sem,cfg,Nat.reduceLeDiff,Nat.reduceLT,Nat.reduceAdd,Nat.reduceSub,Nat.reduceMul,Nat.reduceBEq,Nat.reduceBNe,Nat.reduceEqDiff,reduceCtorEq,reduceIte,Int.reduceLT,Int.reduceLE,Int.reduceAdd,Int.reduceSub,Int.reduceNeg,Int.reduceEq,Int.reduceBEq,Int.reduceBNe,Int.reduceToNat,Nat.reduceDiv,Nat.reduceMod,rowsF_length,rowsS_length,sd_nil,sd_cons,hl9,hc,hci,g1,hd,hx,hw,hle1,hle2]
          first | exact ⟨i + 1,by rw [hnd,hst,rowsS_snoc,hacc]; rfl,hc,by omega⟩ | trace_state
        · have hnd : dnB l s (i + 1) = true := by rw [dnB_succ hc,hd,hx]; rfl
          have hst := stB_here hc hd hx
          simp only [f65,go_sem,cfg,Nat.reduceLeDiff,Nat.reduceLT,Nat.reduceAdd,Nat.reduceSub,Nat.reduceMul,Nat.reduceBEq,Nat.reduceBNe,Nat.reduceEqDiff,reduceCtorEq,reduceIte,Int.reduceLT,Int.reduceLE,Int.reduceAdd,Int.reduceSub,Int.reduceNeg,Int.reduceEq,Int.reduceBEq,Int.reduceBNe,Int.reduceToNat,Nat.reduceDiv,Nat.reduceMod,rowsF_length,rowsS_length,sd_nil,sd_cons,hl9,hc,hci,g1,hd,hx,hle1,hle2]
          repeat' with_reducible refine And.intro (by (try simp only [List.length_append,List.length_cons,List.length_nil]); omega) ?_
          try simp only [f65,go_sem,cfg,Nat.reduceLeDiff,Nat.reduceLT,Nat.reduceAdd,Nat.reduceSub,Nat.reduceMul,Nat.reduceBEq,Nat.reduceBNe,Nat.reduceEqDiff,reduceCtorEq,reduceIte,Int.reduceLT,Int.reduceLE,Int.reduceAdd,Int.reduceSub,Int.reduceNeg,Int.reduceEq,Int.reduceBEq,Int.reduceBNe,Int.reduceToNat,Nat.reduceDiv,Nat.reduceMod,rowsF_length,rowsS_length,sd_nil,sd_cons,hl9,hc,hci,g1,hd,hx,hw,hle1,hle2]
          repeat' with_reducible refine And.intro (by (try simp only [List.length_append,List.length_cons,List.length_nil]); omega) ?_
          try simp only [f65,go_sem,cfg,Nat.reduceLeDiff,Nat.reduceLT,Nat.reduceAdd,Nat.reduceSub,Nat.reduceMul,Nat.reduceBEq,Nat.reduceBNe,Nat.reduceEqDiff,reduceCtorEq,reduceIte,Int.reduceLT,Int.reduceLE,Int.reduceAdd,Int.reduceSub,Int.reduceNeg,Int.reduceEq,Int.reduceBEq,Int.reduceBNe,Int.reduceToNat,Nat.reduceDiv,Nat.reduceMod,rowsF_length,rowsS_length,sd_nil,sd_cons,hl9,hc,hci,g1,hd,hx,hw,hle1,hle2]
          first | exact ⟨i + 1,by rw [hnd,hst,rowsS_snoc,rowsS_snoc,hacc]; rfl,hc,by omega⟩ | trace_state
      · have hnd : dnB l s (i + 1) = true := by rw [dnB_succ hc,hd]; rfl
        have hst := stB_done hc hd
        simp only [f65,go_sem,cfg,Nat.reduceLeDiff,Nat.reduceLT,Nat.reduceAdd,Nat.reduceSub,Nat.reduceMul,Nat.reduceBEq,Nat.reduceBNe,Nat.reduceEqDiff,reduceCtorEq,reduceIte,Int.reduceLT,Int.reduceLE,Int.reduceAdd,Int.reduceSub,Int.reduceNeg,Int.reduceEq,Int.reduceBEq,Int.reduceBNe,Int.reduceToNat,Nat.reduceDiv,Nat.reduceMod,rowsF_length,rowsS_length,sd_nil,sd_cons,hl9,hc,hci,g1,hd,hle1,hle2]
        repeat' with_reducible refine And.intro (by (try simp only [List.length_append,List.length_cons,List.length_nil]); omega) ?_
        try simp only [f65,go_sem,cfg,Nat.reduceLeDiff,Nat.reduceLT,Nat.reduceAdd,Nat.reduceSub,Nat.reduceMul,Nat.reduceBEq,Nat.reduceBNe,Nat.reduceEqDiff,reduceCtorEq,reduceIte,Int.reduceLT,Int.reduceLE,Int.reduceAdd,Int.reduceSub,Int.reduceNeg,Int.reduceEq,Int.reduceBEq,Int.reduceBNe,Int.reduceToNat,Nat.reduceDiv,Nat.reduceMod,rowsF_length,rowsS_length,sd_nil,sd_cons,hl9,hc,hci,g1,hd,hw,hle1,hle2]
        first | exact ⟨i + 1,by rw [hnd,hst,rowsS_snoc,hacc]; rfl,hc,by omega⟩ | trace_state
    | cons x xs =>
      have hlx : xs.length + 1 = (stB l s i).length := hrl
      have hle1 : xs.length + 1 + 1 ≤ 9223372036854775807 := by omega
      have hle2 : xs.length + 1 + 1 + 1 ≤ 9223372036854775807 := by omega
      cases hd : dnB l s i
      · cases hx : ltB s (l.getD i [])
        · have hnd : dnB l s (i + 1) = false := by rw [dnB_succ hc,hd,hx]; rfl
          have hst := stB_not hc hd hx
          simp only [f65,go_sem,cfg,Nat.reduceLeDiff,Nat.reduceLT,Nat.reduceAdd,Nat.reduceSub,Nat.reduceMul,Nat.reduceBEq,Nat.reduceBNe,Nat.reduceEqDiff,reduceCtorEq,reduceIte,Int.reduceLT,Int.reduceLE,Int.reduceAdd,Int.reduceSub,Int.reduceNeg,Int.reduceEq,Int.reduceBEq,Int.reduceBNe,Int.reduceToNat,Nat.reduceDiv,Nat.reduceMod,rowsF_length,rowsS_length,sd_nil,sd_cons,hl9,hc,hci,g1,hd,hx,hle1,hle2]
          repeat' with_reducible refine And.intro (by (try simp only [List.length_append,List.length_cons,List.length_nil]); omega) ?_
          try simp only [f65,go_sem,cfg,Nat.reduceLeDiff,Nat.reduceLT,Nat.reduceAdd,Nat.reduceSub,Nat.reduceMul,Nat.reduceBEq,Nat.reduceBNe,Nat.reduceEqDiff,reduceCtorEq,reduceIte,Int.reduceLT,Int.reduceLE,Int.reduceAdd,Int.reduceSub,Int.reduceNeg,Int.reduceEq,Int.reduceBEq,Int.reduceBNe,Int.reduceToNat,Nat.reduceDiv,Nat.reduceMod,rowsF_length,rowsS_length,sd_nil,sd_cons,hl9,hc,hci,g1,hd,hx,hw,hle1,hle2]
          repeat' with_reducible refine And.intro (by (try simp only [List.length_append,List.length_cons,List.length_nil]); omega) ?_
          try simp only [f65,go_sem,cfg,Nat.reduceLeDiff,Nat.reduceLT,Nat.reduceAdd,Nat.reduceSub,Nat.reduceMul,Nat.reduceBEq,Nat.reduceBNe,Nat.reduceEqDiff,reduceCtorEq,reduceIte,Int.reduceLT,Int.reduceLE,Int.reduceAdd,Int.reduceSub,Int.reduceNeg,Int.reduceEq,Int.reduceBEq,Int.reduceBNe,Int.reduceToNat,Nat.reduceDiv,Nat.reduceMod,rowsF_length,rowsS_length,sd_nil,sd_cons,hl9,hc,hci,g1,hd,hx,hw,hle1,hle2]
          first | exact ⟨i + 1,by rw [hnd,hst,rowsS_snoc,hacc]; rfl,hc,by omega⟩ | trace_state
        · have hnd : dnB l s (i + 1) = true := by rw [dnB_succ hc,hd,hx]; rfl
          have hst := stB_here hc hd hx
          simp only [f65,go_sem,cfg,Nat.reduceLeDiff,Nat.reduceLT,Nat.reduceAdd,Nat.reduceSub,Nat.reduceMul,Nat.reduceBEq,Nat.reduceBNe,Nat.reduceEqDiff,reduceCtorEq,reduceIte,Int.reduceLT,Int.reduceLE,Int.reduceAdd,Int.reduceSub,Int.reduceNeg,Int.reduceEq,Int.reduceBEq,Int.reduceBNe,Int.reduceToNat,Nat.reduceDiv,Nat.reduceMod,rowsF_length,rowsS_length,sd_nil,sd_cons,hl9,hc,hci,g1,hd,hx,hle1,hle2]
          repeat' with_reducible refine And.intro (by (try simp only [List.length_append,List.length_cons,List.length_nil]); omega) ?_
          try simp only [f65,go_sem,cfg,Nat.reduceLeDiff,Nat.reduceLT,Nat.reduceAdd,Nat.reduceSub,Nat.reduceMul,Nat.reduceBEq,Nat.reduceBNe,Nat.reduceEqDiff,reduceCtorEq,reduceIte,Int.reduceLT,Int.reduceLE,Int.reduceAdd,Int.reduceSub,Int.reduceNeg,Int.reduceEq,Int.reduceBEq,Int.reduceBNe,Int.reduceToNat,Nat.reduceDiv,Nat.reduceMod,rowsF_length,rowsS_length,sd_nil,sd_cons,hl9,hc,hci,g1,hd,hx,hw,hle1,hle2]
          repeat' with_reducible refine And.intro (by (try simp only [List.length_append,List.length_cons,List.length_nil]); omega) ?_
          try simp only [f65,go_sem,cfg,Nat.reduceLeDiff,Nat.reduceLT,Nat.reduceAdd,Nat.reduceSub,Nat.reduceMul,Nat.reduceBEq,Nat.reduceBNe,Nat.reduceEqDiff,reduceCtorEq,reduceIte,Int.reduceLT,Int.reduceLE,Int.reduceAdd,Int.reduceSub,Int.reduceNeg,Int.reduceEq,Int.reduceBEq,Int.reduceBNe,Int.reduceToNat,Nat.reduceDiv,Nat.reduceMod,rowsF_length,rowsS_length,sd_nil,sd_cons,hl9,hc,hci,g1,hd,hx,hw,hle1,hle2]
          first | exact ⟨i + 1,by rw [hnd,hst,rowsS_snoc,rowsS_snoc,hacc]; rfl,hc,by omega⟩ | trace_state
      · have hnd : dnB l s (i + 1) = true := by rw [dnB_succ hc,hd]; rfl
        have hst := stB_done hc hd
        simp only [f65,go_sem,cfg,Nat.reduceLeDiff,Nat.reduceLT,Nat.reduceAdd,Nat.reduceSub,Nat.reduceMul,Nat.reduceBEq,Nat.reduceBNe,Nat.reduceEqDiff,reduceCtorEq,reduceIte,Int.reduceLT,Int.reduceLE,Int.reduceAdd,Int.reduceSub,Int.reduceNeg,Int.reduceEq,Int.reduceBEq,Int.reduceBNe,Int.reduceToNat,Nat.reduceDiv,Nat.reduceMod,rowsF_length,rowsS_length,sd_nil,sd_cons,hl9,hc,hci,g1,hd,hle1,hle2]
        repeat' with_reducible refine And.intro (by (try simp only [List.length_append,List.length_cons,List.length_nil]); omega) ?_
        try simp only [f65,go_sem,cfg,Nat.reduceLeDiff,Nat.reduceLT,Nat.reduceAdd,Nat.reduceSub,Nat.reduceMul,Nat.reduceBEq,Nat.reduceBNe,Nat.reduceEqDiff,reduceCtorEq,reduceIte,Int.reduceLT,Int.reduceLE,Int.reduceAdd,Int.reduceSub,Int.reduceNeg,Int.reduceEq,Int.reduceBEq,Int.reduceBNe,Int.reduceToNat,Nat.reduceDiv,Nat.reduceMod,rowsF_length,rowsS_length,sd_nil,sd_cons,hl9,hc,hci,g1,hd,hw,hle1,hle2]
        first | exact ⟨i + 1,by rw [hnd,hst,rowsS_snoc,hacc]; rfl,hc,by omega⟩ | trace_state
  · have he := hend (by omega)
    have hci : ¬ ((i : Int) < (l.length : Int)) := by omega
    cases hd : dnB l s i
    · rw [← he.2 hd]
      cases acc with
      | nil =>
        simp only [f65,go_sem,cfg,Nat.reduceLeDiff,Nat.reduceLT,Nat.reduceAdd,Nat.reduceSub,Nat.reduceMul,Nat.reduceBEq,Nat.reduceBNe,Nat.reduceEqDiff,reduceCtorEq,reduceIte,Int.reduceLT,Int.reduceLE,Int.reduceAdd,Int.reduceSub,Int.reduceNeg,Int.reduceEq,Int.reduceBEq,Int.reduceBNe,Int.reduceToNat,Nat.reduceDiv,Nat.reduceMod,rowsF_length,rowsS_length,sd_nil,sd_cons,hl9,hc,hci,hd]
        first | exact fin0 (.inr rfl) rfl rfl rfl rfl | trace_state
      | cons x xs =>
        have hlx : xs.length + 1 = (stB l s i).length := hrl
        have hle1 : xs.length + 1 + 1 ≤ 9223372036854775807 := by omega
        simp only [f65,go_sem,cfg,Nat.reduceLeDiff,Nat.reduceLT,Nat.reduceAdd,Nat.reduceSub,Nat.reduceMul,Nat.reduceBEq,Nat.reduceBNe,Nat.reduceEqDiff,reduceCtorEq,reduceIte,Int.reduceLT,Int.reduceLE,Int.reduceAdd,Int.reduceSub,Int.reduceNeg,Int.reduceEq,Int.reduceBEq,Int.reduceBNe,Int.reduceToNat,Nat.reduceDiv,Nat.reduceMod,rowsF_length,rowsS_length,sd_nil,sd_cons,hl9,hc,hci,hd,hle1]
        repeat' with_reducible refine And.intro (by omega) ?_
        try simp only [f65,go_sem,cfg,Nat.reduceLeDiff,Nat.reduceLT,Nat.reduceAdd,Nat.reduceSub,Nat.reduceMul,Nat.reduceBEq,Nat.reduceBNe,Nat.reduceEqDiff,reduceCtorEq,reduceIte,Int.reduceLT,Int.reduceLE,Int.reduceAdd,Int.reduceSub,Int.reduceNeg,Int.reduceEq,Int.reduceBEq,Int.reduceBNe,Int.reduceToNat,Nat.reduceDiv,Nat.reduceMod,rowsF_length,rowsS_length,sd_nil,sd_cons,hl9,hc,hci,hd,hle1]
        first | exact fin0 (.inr rfl) rfl rfl rfl rfl | trace_state
    · rw [← he.1 hd]
      cases acc with
      | nil =>
        exfalso
        have h0 : (stB l s i).length = 0 := hrl.symm
        unfold stB at h0
        rw [if_pos hd,insB_len] at h0
        omega
      | cons x xs =>
        simp only [f65,go_sem,cfg,Nat.reduceLeDiff,Nat.reduceLT,Nat.reduceAdd,Nat.reduceSub,Nat.reduceMul,Nat.reduceBEq,Nat.reduceBNe,Nat.reduceEqDiff,reduceCtorEq,reduceIte,Int.reduceLT,Int.reduceLE,Int.reduceAdd,Int.reduceSub,Int.reduceNeg,Int.reduceEq,Int.reduceBEq,Int.reduceBNe,Int.reduceToNat,Nat.reduceDiv,Nat.reduceMod,rowsF_length,rowsS_length,sd_nil,sd_cons,hl9,hc,hci,hd]
        first | exact fin0 (.inr rfl) rfl rfl rfl rfl | trace_state
def hopF (ws : List (List UInt8)) : List (List UInt8) := (tokW ws).foldl putB hopN
theorem hopF_snoc {ws : List (List UInt8)} {i : Nat} (h : i < ws.length) (hb : tokenI (ws.getD i []) = true) : hopF (ws.take (i + 1)) = putB (hopF (ws.take i)) (foldB (ws.getD i [])) := by
  unfold hopF
  rw [tokW_hit h hb,List.foldl_append]; rfl
theorem hopF_miss {ws : List (List UInt8)} {i : Nat} (h : i < ws.length) (hb : tokenI (ws.getD i []) = false) : hopF (ws.take (i + 1)) = hopF (ws.take i) := by
  unfold hopF
  rw [tokW_miss h hb]
theorem foldl_put_len : ∀ (ts l : List (List UInt8)),(ts.foldl putB l).length ≤ l.length + ts.length
  | [],l => by simp
  | t :: ts,l => by
    have h1 := foldl_put_len ts (putB l t)
    have h2 := putB_len l t
    simp only [List.foldl_cons,List.length_cons]
    omega
theorem hopF_len (ws : List (List UInt8)) : (hopF ws).length ≤ 7 + ws.length := by
  have h1 := foldl_put_len (tokW ws) hopN
  have h2 := tokW_len ws
  have : hopN.length = 7 := rfl
  unfold hopF
  omega
theorem foldl_put_mem {x : List UInt8} : ∀ (ts l : List (List UInt8)),x ∈ ts.foldl putB l ↔ x ∈ l ∨ x ∈ ts
  | [],l => by simp
  | t :: ts,l => by
    rw [List.foldl_cons,foldl_put_mem ts,putB_mem,List.mem_cons]; grind
theorem hop_same (ws : List (List UInt8)) (x : List UInt8) : (hopF ws).contains x = (hopI ws).contains x := by
  rw [Bool.eq_iff_iff,List.contains_iff_mem,List.contains_iff_mem]
  unfold hopF hopI
  rw [foldl_put_mem,compact_mem,sortB_mem,List.mem_append]
theorem hopF_ne (ws : List (List UInt8)) : 7 ≤ (hopF ws).length := by
  have : ∀ (ts l : List (List UInt8)),l.length ≤ (ts.foldl putB l).length := by
    intro ts
    induction ts with
    | nil => exact fun l => Nat.le_refl _
    | cons t ts ih =>
      intro l
      refine Nat.le_trans ?_ (ih _)
      unfold putB
      split
      · exact Nat.le_refl _
      · rw [insB_len]; omega
  exact this (tokW ws) hopN
theorem c32n (l : List Fld) (hl : Small l) (h : fieldsB l = false) : Sem prog 32 ⟨[.imm 51 (rowsF l)],[none]⟩ ⟨[.dead,.nil],[none]⟩ := by
  refine sem_fin (cfg := cfg 1) (ts := [.tm 2]) tbOk func32 rfl rfl rfl rfl (fun t h => by cases h) ?_
  simp only [f32,go_sem,cfg,Nat.reduceLeDiff,Nat.reduceLT,Nat.reduceAdd,Nat.reduceSub,Nat.reduceMul,Nat.reduceBEq,Nat.reduceBNe,Nat.reduceEqDiff,reduceCtorEq,reduceIte,Int.reduceLT,Int.reduceLE,Int.reduceAdd,Int.reduceSub,Int.reduceNeg,Int.reduceEq,Int.reduceBEq,Int.reduceBNe,Int.reduceToNat,Nat.reduceDiv,Nat.reduceMod,rowsF_length,rowsS_length,sd_nil,sd_cons]
  refine ev_call (c24 l hl) (retW0 rfl rfl rfl rfl) ?_
  simp only [f32,go_sem,cfg,Nat.reduceLeDiff,Nat.reduceLT,Nat.reduceAdd,Nat.reduceSub,Nat.reduceMul,Nat.reduceBEq,Nat.reduceBNe,Nat.reduceEqDiff,reduceCtorEq,reduceIte,Int.reduceLT,Int.reduceLE,Int.reduceAdd,Int.reduceSub,Int.reduceNeg,Int.reduceEq,Int.reduceBEq,Int.reduceBNe,Int.reduceToNat,Nat.reduceDiv,Nat.reduceMod,rowsF_length,rowsS_length,sd_nil,sd_cons,h]
  first | exact fin0 (.inr rfl) rfl rfl rfl rfl | trace_state
theorem c32 (l : List Fld) (hl : Small l) (h : fieldsB l = true) : Sem prog 32 ⟨[.imm 51 (rowsF l)],[none]⟩ ⟨[.dead,.own 9 (rowsS (hopF (wordsB connN l)))],[none]⟩ := by
  refine sem_fin (cfg := cfg 1) (ts := [.tm 2]) tbOk func32 rfl rfl rfl rfl (fun t h => by cases h) ?_
  simp only [f32,go_sem,cfg,Nat.reduceLeDiff,Nat.reduceLT,Nat.reduceAdd,Nat.reduceSub,Nat.reduceMul,Nat.reduceBEq,Nat.reduceBNe,Nat.reduceEqDiff,reduceCtorEq,reduceIte,Int.reduceLT,Int.reduceLE,Int.reduceAdd,Int.reduceSub,Int.reduceNeg,Int.reduceEq,Int.reduceBEq,Int.reduceBNe,Int.reduceToNat,Nat.reduceDiv,Nat.reduceMod,rowsF_length,rowsS_length,sd_nil,sd_cons]
  refine ev_call (c24 l hl) (retW0 rfl rfl rfl rfl) ?_
  simp only [f32,go_sem,cfg,Nat.reduceLeDiff,Nat.reduceLT,Nat.reduceAdd,Nat.reduceSub,Nat.reduceMul,Nat.reduceBEq,Nat.reduceBNe,Nat.reduceEqDiff,reduceCtorEq,reduceIte,Int.reduceLT,Int.reduceLE,Int.reduceAdd,Int.reduceSub,Int.reduceNeg,Int.reduceEq,Int.reduceBEq,Int.reduceBNe,Int.reduceToNat,Nat.reduceDiv,Nat.reduceMod,rowsF_length,rowsS_length,sd_nil,sd_cons,h]
  have h64 := c64 l hl connN (by decide) h
  obtain ⟨hw1,hw2⟩ := words_le (name := connN) h
  generalize wordsB connN l = ws at h64 hw1 hw2 ⊢
  have hws : ws.length ≤ 9223372036854775807 := by omega
  cases hr : rowsS ws with
  | nil =>
    have hz : ws = [] := by
      cases ws with
      | nil => rfl
      | cons => simp [rowsS] at hr
    subst hz
    refine ev_call h64 (retW0 rfl rfl rfl rfl) ?_
    simp only [f32,go_sem,cfg,Nat.reduceLeDiff,Nat.reduceLT,Nat.reduceAdd,Nat.reduceSub,Nat.reduceMul,Nat.reduceBEq,Nat.reduceBNe,Nat.reduceEqDiff,reduceCtorEq,reduceIte,Int.reduceLT,Int.reduceLE,Int.reduceAdd,Int.reduceSub,Int.reduceNeg,Int.reduceEq,Int.reduceBEq,Int.reduceBNe,Int.reduceToNat,Nat.reduceDiv,Nat.reduceMod,rowsF_length,rowsS_length,sd_nil,sd_cons,rowsS,List.map_nil]
    refine loop_on (fun i : Nat => ⟨[.imm 51 (rowsF l),.dead,.nil,.own 9 (rowsS (hopF [])),.nil,.v (vI 0),.dead,.dead,.dead,.dead,.dead,.dead,.dead,.dead,.dead,.dead,.dead,.dead,.dead,.dead,.dead,.dead,.dead,.dead,.dead,.dead,.dead,.dead,.dead,.dead,.dead],List.replicate 31 none⟩) [0,2,3,4,5] (fun i => True) (fun i => 0) 0 rfl trivial ?_
    intro i hi
    simp only [f32,go_sem,cfg,Nat.reduceLeDiff,Nat.reduceLT,Nat.reduceAdd,Nat.reduceSub,Nat.reduceMul,Nat.reduceBEq,Nat.reduceBNe,Nat.reduceEqDiff,reduceCtorEq,reduceIte,Int.reduceLT,Int.reduceLE,Int.reduceAdd,Int.reduceSub,Int.reduceNeg,Int.reduceEq,Int.reduceBEq,Int.reduceBNe,Int.reduceToNat,Nat.reduceDiv,Nat.reduceMod,rowsF_length,rowsS_length,sd_nil,sd_cons]
    first | exact fin0 (.inr rfl) rfl rfl rfl rfl | trace_state
  | cons x xs =>
    rw [hr,sd_cons] at h64
    refine ev_call h64 (retW0 rfl rfl rfl rfl) ?_
    rw [← hr]
    simp only [f32,go_sem,cfg,Nat.reduceLeDiff,Nat.reduceLT,Nat.reduceAdd,Nat.reduceSub,Nat.reduceMul,Nat.reduceBEq,Nat.reduceBNe,Nat.reduceEqDiff,reduceCtorEq,reduceIte,Int.reduceLT,Int.reduceLE,Int.reduceAdd,Int.reduceSub,Int.reduceNeg,Int.reduceEq,Int.reduceBEq,Int.reduceBNe,Int.reduceToNat,Nat.reduceDiv,Nat.reduceMod,rowsF_length,rowsS_length,sd_nil,sd_cons,hws]
    refine loop_on (fun i : Nat => ⟨[.imm 51 (rowsF l),.dead,.nil,.own 9 (rowsS (hopF (ws.take i))),.own 9 (rowsS ws),.v (vI i),.dead,.dead,.dead,.dead,.dead,.dead,.dead,.dead,.dead,.dead,.dead,.dead,.dead,.dead,.dead,.dead,.dead,.dead,.dead,.dead,.dead,.dead,.dead,.dead,.dead],List.replicate 31 none⟩) [0,2,3,4,5] (fun i => i ≤ ws.length) (fun i => ws.length - i) 0 rfl (by omega) ?_
    intro i hi
    simp only [f32,go_sem,cfg,Nat.reduceLeDiff,Nat.reduceLT,Nat.reduceAdd,Nat.reduceSub,Nat.reduceMul,Nat.reduceBEq,Nat.reduceBNe,Nat.reduceEqDiff,reduceCtorEq,reduceIte,Int.reduceLT,Int.reduceLE,Int.reduceAdd,Int.reduceSub,Int.reduceNeg,Int.reduceEq,Int.reduceBEq,Int.reduceBNe,Int.reduceToNat,Nat.reduceDiv,Nat.reduceMod,rowsF_length,rowsS_length,sd_nil,sd_cons,hws]
    try (with_reducible intro hlen)
    refine Or.elim (Classical.em (i < ws.length)) (fun hc => ?_) fun hc => ?_
    · have hw := wrapN hc hws
      have hci : ((i : Int) < (ws.length : Int)) := by omega
      have g1 := rowsS_getD hc
      have g2 := elem_le hw2 hc
      have g3 := hopF_len (ws.take i)
      have g4 : (ws.take i).length ≤ 3841 := by rw [List.length_take]; omega
      have h56 := c56 (ws.getD i []) g2
      rw [token_eq] at h56
      have h34 := c34 (ws.getD i []) g2
      have h65 := c65 (hopF (ws.take i)) (foldB (ws.getD i [])) (by omega)
      cases hb : tokenI (ws.getD i [])
      · rw [hb] at h56
        have ht := hopF_miss hc hb
        simp only [f32,go_sem,cfg,Nat.reduceLeDiff,Nat.reduceLT,Nat.reduceAdd,Nat.reduceSub,Nat.reduceMul,Nat.reduceBEq,Nat.reduceBNe,Nat.reduceEqDiff,reduceCtorEq,reduceIte,Int.reduceLT,Int.reduceLE,Int.reduceAdd,Int.reduceSub,Int.reduceNeg,Int.reduceEq,Int.reduceBEq,Int.reduceBNe,Int.reduceToNat,Nat.reduceDiv,Nat.reduceMod,rowsF_length,rowsS_length,sd_nil,sd_cons,hws,hc,hci,g1]
        refine ev_call h56 (retW0 rfl rfl rfl rfl) ?_
        simp only [f32,go_sem,cfg,Nat.reduceLeDiff,Nat.reduceLT,Nat.reduceAdd,Nat.reduceSub,Nat.reduceMul,Nat.reduceBEq,Nat.reduceBNe,Nat.reduceEqDiff,reduceCtorEq,reduceIte,Int.reduceLT,Int.reduceLE,Int.reduceAdd,Int.reduceSub,Int.reduceNeg,Int.reduceEq,Int.reduceBEq,Int.reduceBNe,Int.reduceToNat,Nat.reduceDiv,Nat.reduceMod,rowsF_length,rowsS_length,sd_nil,sd_cons,hws,hc,hci,g1,hw]
        first | exact ⟨i + 1,by rw [ht]; rfl,hc,by omega⟩ | trace_state
      · rw [hb] at h56
        have ht := hopF_snoc hc hb
        simp only [f32,go_sem,cfg,Nat.reduceLeDiff,Nat.reduceLT,Nat.reduceAdd,Nat.reduceSub,Nat.reduceMul,Nat.reduceBEq,Nat.reduceBNe,Nat.reduceEqDiff,reduceCtorEq,reduceIte,Int.reduceLT,Int.reduceLE,Int.reduceAdd,Int.reduceSub,Int.reduceNeg,Int.reduceEq,Int.reduceBEq,Int.reduceBNe,Int.reduceToNat,Nat.reduceDiv,Nat.reduceMod,rowsF_length,rowsS_length,sd_nil,sd_cons,hws,hc,hci,g1]
        refine ev_call h56 (retW0 rfl rfl rfl rfl) ?_
        simp only [f32,go_sem,cfg,Nat.reduceLeDiff,Nat.reduceLT,Nat.reduceAdd,Nat.reduceSub,Nat.reduceMul,Nat.reduceBEq,Nat.reduceBNe,Nat.reduceEqDiff,reduceCtorEq,reduceIte,Int.reduceLT,Int.reduceLE,Int.reduceAdd,Int.reduceSub,Int.reduceNeg,Int.reduceEq,Int.reduceBEq,Int.reduceBNe,Int.reduceToNat,Nat.reduceDiv,Nat.reduceMod,rowsF_length,rowsS_length,sd_nil,sd_cons,hws,hc,hci,g1,hw]
        refine ev_call h34 (retW0 rfl rfl rfl rfl) ?_
        simp only [f32,go_sem,cfg,Nat.reduceLeDiff,Nat.reduceLT,Nat.reduceAdd,Nat.reduceSub,Nat.reduceMul,Nat.reduceBEq,Nat.reduceBNe,Nat.reduceEqDiff,reduceCtorEq,reduceIte,Int.reduceLT,Int.reduceLE,Int.reduceAdd,Int.reduceSub,Int.reduceNeg,Int.reduceEq,Int.reduceBEq,Int.reduceBNe,Int.reduceToNat,Nat.reduceDiv,Nat.reduceMod,rowsF_length,rowsS_length,sd_nil,sd_cons,hws,hc,hci,g1,hw]
        refine ev_call h65 (retWm rfl rfl rfl rfl rfl rfl) ?_
        simp only [f32,go_sem,cfg,Nat.reduceLeDiff,Nat.reduceLT,Nat.reduceAdd,Nat.reduceSub,Nat.reduceMul,Nat.reduceBEq,Nat.reduceBNe,Nat.reduceEqDiff,reduceCtorEq,reduceIte,Int.reduceLT,Int.reduceLE,Int.reduceAdd,Int.reduceSub,Int.reduceNeg,Int.reduceEq,Int.reduceBEq,Int.reduceBNe,Int.reduceToNat,Nat.reduceDiv,Nat.reduceMod,rowsF_length,rowsS_length,sd_nil,sd_cons,hws,hc,hci,g1,hw]
        first | exact ⟨i + 1,by rw [ht]; rfl,hc,by omega⟩ | trace_state
    · have he : i = ws.length := by omega
      have hci : ¬ ((i : Int) < (ws.length : Int)) := by omega
      subst he
      rw [List.take_of_length_le (Nat.le_refl _)]
      simp only [f32,go_sem,cfg,Nat.reduceLeDiff,Nat.reduceLT,Nat.reduceAdd,Nat.reduceSub,Nat.reduceMul,Nat.reduceBEq,Nat.reduceBNe,Nat.reduceEqDiff,reduceCtorEq,reduceIte,Int.reduceLT,Int.reduceLE,Int.reduceAdd,Int.reduceSub,Int.reduceNeg,Int.reduceEq,Int.reduceBEq,Int.reduceBNe,Int.reduceToNat,Nat.reduceDiv,Nat.reduceMod,rowsF_length,rowsS_length,sd_nil,sd_cons,hws,hc,hci]
      first | exact fin0 (.inr rfl) rfl rfl rfl rfl | trace_state
end Go.Proofs.YtagfeejofceheaaGreatDoor.Fw

/- Contracts: fields that go from end to end. -/
namespace Go.Proofs.YtagfeejofceheaaGreatDoor.Fw
open Go
open Go.Proofs.Tryz
set_option maxRecDepth 100000
set_option maxHeartbeats 600000
set_option linter.unusedSimpArgs false
set_option linter.unusedVariables false
attribute [local congr] c_bnd c_slot c_cell c_all c_len c_chk c_asm c_opdR c_wp c_pwp c_pOps c_Done c_nx c_blk c_fin c_rowsR c_leafR c_opdsR c_coeLeaf c_coeLeaves c_lendLeaf c_lendLeaves c_coeCapt c_argR c_argsR c_boundR c_partsR c_srcR c_mfgo c_ite c_wpF c_OutF c_pHead c_pDraw
def keepF (p : List UInt8 → Bool) (l : List Fld) : List Fld := l.filter fun q => p q.1
theorem keepF_hit {p : List UInt8 → Bool} {l : List Fld} {i : Nat} (h : i < l.length) (hb : p (l.getD i ([],[])).1 = true) : keepF p (l.take (i + 1)) = keepF p (l.take i) ++ [l.getD i ([],[])] := by
  have : [l.getD i ([],[])].filter (fun q => p q.1) = [l.getD i ([],[])] := by rw [List.filter_cons,if_pos hb]; rfl
  rw [take_at (d := ([],[])) h,keepF,List.filter_append,this]; rfl
theorem keepF_miss {p : List UInt8 → Bool} {l : List Fld} {i : Nat} (h : i < l.length) (hb : p (l.getD i ([],[])).1 = false) : keepF p (l.take (i + 1)) = keepF p (l.take i) := by
  have : [l.getD i ([],[])].filter (fun q => p q.1) = [] := by rw [List.filter_cons,if_neg (by rw [hb]; simp)]; rfl
  rw [take_at (d := ([],[])) h,keepF,List.filter_append,this,List.append_nil]; rfl
theorem keepF_le (p : List UInt8 → Bool) (l : List Fld) (i : Nat) : (rowsF (keepF p (l.take i))).length ≤ i := by
  rw [rowsF_length]
  refine Nat.le_trans (List.length_filter_le _ _) ?_
  rw [List.length_take]; omega
def e2eB (l : List Fld) : List Fld := if fieldsB l = true then keepF (fun n => !(hopI (wordsB connN l)).contains (foldB n)) l else []
theorem c49n (f : FuncId) (ls : List D) (l : List Fld) (hl : Small l) (h : fieldsB l = false) : Sem prog 49 ⟨[.imm 51 (rowsF l),.clo f [.rptr ls]],[none,none]⟩ ⟨[.dead,.dead,.nil],[none,none]⟩ := by
  refine sem_fin (cfg := cfg 2) (ts := [.tm 4]) tbOk func49 rfl rfl rfl rfl (fun t h => by cases h) ?_
  simp only [f49,go_sem,cfg,Nat.reduceLeDiff,Nat.reduceLT,Nat.reduceAdd,Nat.reduceSub,Nat.reduceMul,Nat.reduceBEq,Nat.reduceBNe,Nat.reduceEqDiff,reduceCtorEq,reduceIte,Int.reduceLT,Int.reduceLE,Int.reduceAdd,Int.reduceSub,Int.reduceNeg,Int.reduceEq,Int.reduceBEq,Int.reduceBNe,Int.reduceToNat,Nat.reduceDiv,Nat.reduceMod,rowsF_length,rowsS_length,sd_nil,sd_cons]
  refine ev_call (c36 l hl) (retW0 rfl rfl rfl rfl) ?_
  simp only [f49,go_sem,cfg,Nat.reduceLeDiff,Nat.reduceLT,Nat.reduceAdd,Nat.reduceSub,Nat.reduceMul,Nat.reduceBEq,Nat.reduceBNe,Nat.reduceEqDiff,reduceCtorEq,reduceIte,Int.reduceLT,Int.reduceLE,Int.reduceAdd,Int.reduceSub,Int.reduceNeg,Int.reduceEq,Int.reduceBEq,Int.reduceBNe,Int.reduceToNat,Nat.reduceDiv,Nat.reduceMod,rowsF_length,rowsS_length,sd_nil,sd_cons,h]
  first | exact fin0 (.inr rfl) rfl rfl rfl rfl | trace_state
theorem c49k (f : FuncId) (ls : List D) (p : List UInt8 → Bool) (hp : pts f = [9,9]) (hm0 : md f 0 = 0) (hm1 : md f 1 = 0) (hf : ∀ n : List UInt8,n.length ≤ 9223372036854775807 → Sem prog f ⟨[.v (vS n),.rptr ls],[none,none]⟩ ⟨[.dead,.dead,.v (vB (p n))],[none,none]⟩) (l : List Fld) (hl : Small l) (h : fieldsB l = true) : Sem prog 49 ⟨[.imm 51 (rowsF l),.clo f [.rptr ls]],[none,none]⟩ ⟨[.dead,.dead,sd 51 (rowsF (keepF p l))],[none,none]⟩ := by
  refine sem_fin (cfg := cfg 2) (ts := [.tm 4]) tbOk func49 rfl rfl rfl rfl (fun t h => by cases h) ?_
  simp only [f49,go_sem,cfg,Nat.reduceLeDiff,Nat.reduceLT,Nat.reduceAdd,Nat.reduceSub,Nat.reduceMul,Nat.reduceBEq,Nat.reduceBNe,Nat.reduceEqDiff,reduceCtorEq,reduceIte,Int.reduceLT,Int.reduceLE,Int.reduceAdd,Int.reduceSub,Int.reduceNeg,Int.reduceEq,Int.reduceBEq,Int.reduceBNe,Int.reduceToNat,Nat.reduceDiv,Nat.reduceMod,rowsF_length,rowsS_length,sd_nil,sd_cons,List.length_append]
  refine ev_call (c36 l hl) (retW0 rfl rfl rfl rfl) ?_
  simp only [f49,go_sem,cfg,Nat.reduceLeDiff,Nat.reduceLT,Nat.reduceAdd,Nat.reduceSub,Nat.reduceMul,Nat.reduceBEq,Nat.reduceBNe,Nat.reduceEqDiff,reduceCtorEq,reduceIte,Int.reduceLT,Int.reduceLE,Int.reduceAdd,Int.reduceSub,Int.reduceNeg,Int.reduceEq,Int.reduceBEq,Int.reduceBNe,Int.reduceToNat,Nat.reduceDiv,Nat.reduceMod,rowsF_length,rowsS_length,sd_nil,sd_cons,List.length_append,h]
  have hs : l.length ≤ 9223372036854775807 := hl.1
  have h20 := fields_len h
  try simp only [f49,go_sem,cfg,Nat.reduceLeDiff,Nat.reduceLT,Nat.reduceAdd,Nat.reduceSub,Nat.reduceMul,Nat.reduceBEq,Nat.reduceBNe,Nat.reduceEqDiff,reduceCtorEq,reduceIte,Int.reduceLT,Int.reduceLE,Int.reduceAdd,Int.reduceSub,Int.reduceNeg,Int.reduceEq,Int.reduceBEq,Int.reduceBNe,Int.reduceToNat,Nat.reduceDiv,Nat.reduceMod,rowsF_length,rowsS_length,sd_nil,sd_cons,List.length_append,hs]
  refine loop_on (fun i : Nat => ⟨[.imm 51 (rowsF l),.clo f [.rptr ls],.dead,.dead,.nil,sd 51 (rowsF (keepF p (l.take i))),.dead,.dead,.dead,.dead,.dead,.imm 51 (rowsF l),.v (vI l.length),.v (vI i),.dead,.dead,.dead,.dead,.dead,.dead,.dead,.dead,.dead,.dead,.dead,.dead,.dead],List.replicate 27 none⟩) [0,1,4,5,11,12,13] (fun i => i ≤ l.length) (fun i => l.length - i) 0 rfl (by omega) ?_
  intro i hi
  have hle := keepF_le p l i
  have hend : i = l.length → keepF p (l.take i) = keepF p l := fun e => by rw [e,List.take_length]
  generalize hacc : rowsF (keepF p (l.take i)) = acc at hle ⊢
  simp only [f49,go_sem,cfg,Nat.reduceLeDiff,Nat.reduceLT,Nat.reduceAdd,Nat.reduceSub,Nat.reduceMul,Nat.reduceBEq,Nat.reduceBNe,Nat.reduceEqDiff,reduceCtorEq,reduceIte,Int.reduceLT,Int.reduceLE,Int.reduceAdd,Int.reduceSub,Int.reduceNeg,Int.reduceEq,Int.reduceBEq,Int.reduceBNe,Int.reduceToNat,Nat.reduceDiv,Nat.reduceMod,rowsF_length,rowsS_length,sd_nil,sd_cons,List.length_append,hs]
  cases acc with
  | nil =>
    try simp only [f49,go_sem,cfg,Nat.reduceLeDiff,Nat.reduceLT,Nat.reduceAdd,Nat.reduceSub,Nat.reduceMul,Nat.reduceBEq,Nat.reduceBNe,Nat.reduceEqDiff,reduceCtorEq,reduceIte,Int.reduceLT,Int.reduceLE,Int.reduceAdd,Int.reduceSub,Int.reduceNeg,Int.reduceEq,Int.reduceBEq,Int.reduceBNe,Int.reduceToNat,Nat.reduceDiv,Nat.reduceMod,rowsF_length,rowsS_length,sd_nil,sd_cons,List.length_append,hs]
    by_cases hc : i < l.length
    · have hw := wrapN hc hs
      have h1 := rowsF_getD hc
      have hsm := hl.at hc
      simp only [f49,go_sem,cfg,Nat.reduceLeDiff,Nat.reduceLT,Nat.reduceAdd,Nat.reduceSub,Nat.reduceMul,Nat.reduceBEq,Nat.reduceBNe,Nat.reduceEqDiff,reduceCtorEq,reduceIte,Int.reduceLT,Int.reduceLE,Int.reduceAdd,Int.reduceSub,Int.reduceNeg,Int.reduceEq,Int.reduceBEq,Int.reduceBNe,Int.reduceToNat,Nat.reduceDiv,Nat.reduceMod,rowsF_length,rowsS_length,sd_nil,sd_cons,List.length_append,hs,hc,h1,hp,hm0,hm1]
      refine ev_call (hf _ hsm.1) (retW0 rfl rfl rfl rfl) ?_
      cases hb : p (l.getD i ([],[])).1
      · simp only [f49,go_sem,cfg,Nat.reduceLeDiff,Nat.reduceLT,Nat.reduceAdd,Nat.reduceSub,Nat.reduceMul,Nat.reduceBEq,Nat.reduceBNe,Nat.reduceEqDiff,reduceCtorEq,reduceIte,Int.reduceLT,Int.reduceLE,Int.reduceAdd,Int.reduceSub,Int.reduceNeg,Int.reduceEq,Int.reduceBEq,Int.reduceBNe,Int.reduceToNat,Nat.reduceDiv,Nat.reduceMod,rowsF_length,rowsS_length,sd_nil,sd_cons,List.length_append,hs,hc,h1,hb,hw]
        exact ⟨i + 1,by rw [keepF_miss hc hb,hacc]; rfl,hc,by omega⟩
      · simp only [f49,go_sem,cfg,Nat.reduceLeDiff,Nat.reduceLT,Nat.reduceAdd,Nat.reduceSub,Nat.reduceMul,Nat.reduceBEq,Nat.reduceBNe,Nat.reduceEqDiff,reduceCtorEq,reduceIte,Int.reduceLT,Int.reduceLE,Int.reduceAdd,Int.reduceSub,Int.reduceNeg,Int.reduceEq,Int.reduceBEq,Int.reduceBNe,Int.reduceToNat,Nat.reduceDiv,Nat.reduceMod,rowsF_length,rowsS_length,sd_nil,sd_cons,List.length_append,hs,hc,h1,hb,hw]
        have hb1 : (1 : Nat) * 32 ≤ 140737488355328 := by omega
        try simp only [f49,go_sem,cfg,Nat.reduceLeDiff,Nat.reduceLT,Nat.reduceAdd,Nat.reduceSub,Nat.reduceMul,Nat.reduceBEq,Nat.reduceBNe,Nat.reduceEqDiff,reduceCtorEq,reduceIte,Int.reduceLT,Int.reduceLE,Int.reduceAdd,Int.reduceSub,Int.reduceNeg,Int.reduceEq,Int.reduceBEq,Int.reduceBNe,Int.reduceToNat,Nat.reduceDiv,Nat.reduceMod,rowsF_length,rowsS_length,sd_nil,sd_cons,List.length_append,hs,hc,h1,hb,hw,hb1]
        first | exact ⟨i + 1,by rw [keepF_hit hc hb,rowsF_snoc,hacc]; rfl,hc,by omega⟩ | trace_state
    · have he := hend (by omega)
      rw [he] at hacc
      simp only [f49,go_sem,cfg,Nat.reduceLeDiff,Nat.reduceLT,Nat.reduceAdd,Nat.reduceSub,Nat.reduceMul,Nat.reduceBEq,Nat.reduceBNe,Nat.reduceEqDiff,reduceCtorEq,reduceIte,Int.reduceLT,Int.reduceLE,Int.reduceAdd,Int.reduceSub,Int.reduceNeg,Int.reduceEq,Int.reduceBEq,Int.reduceBNe,Int.reduceToNat,Nat.reduceDiv,Nat.reduceMod,rowsF_length,rowsS_length,sd_nil,sd_cons,List.length_append,hc]
      first | (refine fin0 (.inr rfl) rfl rfl rfl ?_; rw [hacc]; rfl) | trace_state
  | cons x xs =>
    try simp only [f49,go_sem,cfg,Nat.reduceLeDiff,Nat.reduceLT,Nat.reduceAdd,Nat.reduceSub,Nat.reduceMul,Nat.reduceBEq,Nat.reduceBNe,Nat.reduceEqDiff,reduceCtorEq,reduceIte,Int.reduceLT,Int.reduceLE,Int.reduceAdd,Int.reduceSub,Int.reduceNeg,Int.reduceEq,Int.reduceBEq,Int.reduceBNe,Int.reduceToNat,Nat.reduceDiv,Nat.reduceMod,rowsF_length,rowsS_length,sd_nil,sd_cons,List.length_append,hs]
    by_cases hc : i < l.length
    · have hw := wrapN hc hs
      have h1 := rowsF_getD hc
      have hsm := hl.at hc
      simp only [f49,go_sem,cfg,Nat.reduceLeDiff,Nat.reduceLT,Nat.reduceAdd,Nat.reduceSub,Nat.reduceMul,Nat.reduceBEq,Nat.reduceBNe,Nat.reduceEqDiff,reduceCtorEq,reduceIte,Int.reduceLT,Int.reduceLE,Int.reduceAdd,Int.reduceSub,Int.reduceNeg,Int.reduceEq,Int.reduceBEq,Int.reduceBNe,Int.reduceToNat,Nat.reduceDiv,Nat.reduceMod,rowsF_length,rowsS_length,sd_nil,sd_cons,List.length_append,hs,hc,h1,hp,hm0,hm1]
      refine ev_call (hf _ hsm.1) (retW0 rfl rfl rfl rfl) ?_
      cases hb : p (l.getD i ([],[])).1
      · simp only [f49,go_sem,cfg,Nat.reduceLeDiff,Nat.reduceLT,Nat.reduceAdd,Nat.reduceSub,Nat.reduceMul,Nat.reduceBEq,Nat.reduceBNe,Nat.reduceEqDiff,reduceCtorEq,reduceIte,Int.reduceLT,Int.reduceLE,Int.reduceAdd,Int.reduceSub,Int.reduceNeg,Int.reduceEq,Int.reduceBEq,Int.reduceBNe,Int.reduceToNat,Nat.reduceDiv,Nat.reduceMod,rowsF_length,rowsS_length,sd_nil,sd_cons,List.length_append,hs,hc,h1,hb,hw]
        exact ⟨i + 1,by rw [keepF_miss hc hb,hacc]; rfl,hc,by omega⟩
      · simp only [f49,go_sem,cfg,Nat.reduceLeDiff,Nat.reduceLT,Nat.reduceAdd,Nat.reduceSub,Nat.reduceMul,Nat.reduceBEq,Nat.reduceBNe,Nat.reduceEqDiff,reduceCtorEq,reduceIte,Int.reduceLT,Int.reduceLE,Int.reduceAdd,Int.reduceSub,Int.reduceNeg,Int.reduceEq,Int.reduceBEq,Int.reduceBNe,Int.reduceToNat,Nat.reduceDiv,Nat.reduceMod,rowsF_length,rowsS_length,sd_nil,sd_cons,List.length_append,hs,hc,h1,hb,hw]
        have hb1 : (xs.length + 1 + 1) * 32 ≤ 140737488355328 := by simp only [List.length_cons] at hle; omega
        try simp only [f49,go_sem,cfg,Nat.reduceLeDiff,Nat.reduceLT,Nat.reduceAdd,Nat.reduceSub,Nat.reduceMul,Nat.reduceBEq,Nat.reduceBNe,Nat.reduceEqDiff,reduceCtorEq,reduceIte,Int.reduceLT,Int.reduceLE,Int.reduceAdd,Int.reduceSub,Int.reduceNeg,Int.reduceEq,Int.reduceBEq,Int.reduceBNe,Int.reduceToNat,Nat.reduceDiv,Nat.reduceMod,rowsF_length,rowsS_length,sd_nil,sd_cons,List.length_append,hs,hc,h1,hb,hw,hb1]
        first | exact ⟨i + 1,by rw [keepF_hit hc hb,rowsF_snoc,hacc]; rfl,hc,by omega⟩ | trace_state
    · have he := hend (by omega)
      rw [he] at hacc
      simp only [f49,go_sem,cfg,Nat.reduceLeDiff,Nat.reduceLT,Nat.reduceAdd,Nat.reduceSub,Nat.reduceMul,Nat.reduceBEq,Nat.reduceBNe,Nat.reduceEqDiff,reduceCtorEq,reduceIte,Int.reduceLT,Int.reduceLE,Int.reduceAdd,Int.reduceSub,Int.reduceNeg,Int.reduceEq,Int.reduceBEq,Int.reduceBNe,Int.reduceToNat,Nat.reduceDiv,Nat.reduceMod,rowsF_length,rowsS_length,sd_nil,sd_cons,List.length_append,hc]
      first | (refine fin0 (.inr rfl) rfl rfl rfl ?_; rw [hacc]; rfl) | trace_state
theorem c50 (hs : List (List UInt8)) (hh : hs.length ≤ 9223372036854775807) (n : List UInt8) (hn : n.length ≤ 9223372036854775807) : Sem prog 50 ⟨[.v (vS n),.rptr [.imm 9 (rowsS hs)]],[none,none]⟩ ⟨[.dead,.dead,.v (vB (!hs.contains (foldB n)))],[none,none]⟩ := by
  refine sem_fin (cfg := cfg 2) (ts := [.tm 3]) tbOk func50 rfl rfl rfl rfl (fun t h => by cases h) ?_
  simp only [f50,go_sem,cfg,Nat.reduceLeDiff,Nat.reduceLT,Nat.reduceAdd,Nat.reduceSub,Nat.reduceMul,Nat.reduceBEq,Nat.reduceBNe,Nat.reduceEqDiff,reduceCtorEq,reduceIte,Int.reduceLT,Int.reduceLE,Int.reduceAdd,Int.reduceSub,Int.reduceNeg,Int.reduceEq,Int.reduceBEq,Int.reduceBNe,Int.reduceToNat,Nat.reduceDiv,Nat.reduceMod, *]
  repeat' ((first | refine draw_intro 6 [[5,6,7,8,3],[4,6,7,8,3],[4,7,8,3],[5,8,3],[4,5,6,3],[]] mixedOk rfl ?_ | refine ev_call (c52 n hn) (retW0 rfl rfl rfl rfl) ?_ | refine of_call (c52 n hn) (retW0 rfl rfl rfl rfl) rfl rfl rfl ?_ | refine ev_call (c51 hs (foldB n) hh) (retW0 rfl rfl rfl rfl) ?_ | refine of_call (c51 hs (foldB n) hh) (retW0 rfl rfl rfl rfl) rfl rfl rfl ?_ | split) <;> (try simp only [f50,go_sem,cfg,Nat.reduceLeDiff,Nat.reduceLT,Nat.reduceAdd,Nat.reduceSub,Nat.reduceMul,Nat.reduceBEq,Nat.reduceBNe,Nat.reduceEqDiff,reduceCtorEq,reduceIte,Int.reduceLT,Int.reduceLE,Int.reduceAdd,Int.reduceSub,Int.reduceNeg,Int.reduceEq,Int.reduceBEq,Int.reduceBNe,Int.reduceToNat,Nat.reduceDiv,Nat.reduceMod, *]))
  all_goals
    first | exact fin0 (.inr rfl) rfl rfl rfl rfl | trace_state
theorem hopI_len (ws : List (List UInt8)) : (hopI ws).length ≤ 7 + ws.length := by
  unfold hopI
  have h1 := Lib.compact_length_le (sortB (hopN ++ tokW ws))
  have h2 := tokW_len ws
  rw [sortB_len,List.length_append] at h1
  have : hopN.length = 7 := rfl
  omega
theorem rowsS_has {hs : List (List UInt8)} (h : hs ≠ []) : ∃ x xs,rowsS hs = x :: xs := by
  cases hs with
  | nil => exact absurd rfl h
  | cons x xs => exact ⟨_,_,rfl⟩
theorem c18 (l : List Fld) (hl : Small l) : Sem prog 18 ⟨[.imm 51 (rowsF l)],[none]⟩ ⟨[.dead,sd 51 (rowsF (e2eB l))],[none]⟩ := by
  refine sem_fin (cfg := cfg 1) (ts := [.tm 2]) tbOk func18 rfl rfl rfl rfl (fun t h => by cases h) ?_
  cases h : fieldsB l
  · have he : e2eB l = [] := by unfold e2eB; rw [if_neg (by rw [h]; simp)]
    rw [he]
    simp only [f18,go_sem,cfg,Nat.reduceLeDiff,Nat.reduceLT,Nat.reduceAdd,Nat.reduceSub,Nat.reduceMul,Nat.reduceBEq,Nat.reduceBNe,Nat.reduceEqDiff,reduceCtorEq,reduceIte,Int.reduceLT,Int.reduceLE,Int.reduceAdd,Int.reduceSub,Int.reduceNeg,Int.reduceEq,Int.reduceBEq,Int.reduceBNe,Int.reduceToNat,Nat.reduceDiv,Nat.reduceMod,rowsF_length,rowsS_length,sd_nil,sd_cons]
    refine ev_call (c48n l hl h) (retW0 rfl rfl rfl rfl) ?_
    simp only [f18,go_sem,cfg,Nat.reduceLeDiff,Nat.reduceLT,Nat.reduceAdd,Nat.reduceSub,Nat.reduceMul,Nat.reduceBEq,Nat.reduceBNe,Nat.reduceEqDiff,reduceCtorEq,reduceIte,Int.reduceLT,Int.reduceLE,Int.reduceAdd,Int.reduceSub,Int.reduceNeg,Int.reduceEq,Int.reduceBEq,Int.reduceBNe,Int.reduceToNat,Nat.reduceDiv,Nat.reduceMod,rowsF_length,rowsS_length,sd_nil,sd_cons]
    refine ev_call (c49n 50 [.nil] l hl h) (retW0 rfl rfl rfl rfl) ?_
    simp only [f18,go_sem,cfg,Nat.reduceLeDiff,Nat.reduceLT,Nat.reduceAdd,Nat.reduceSub,Nat.reduceMul,Nat.reduceBEq,Nat.reduceBNe,Nat.reduceEqDiff,reduceCtorEq,reduceIte,Int.reduceLT,Int.reduceLE,Int.reduceAdd,Int.reduceSub,Int.reduceNeg,Int.reduceEq,Int.reduceBEq,Int.reduceBNe,Int.reduceToNat,Nat.reduceDiv,Nat.reduceMod,rowsF_length,rowsS_length,sd_nil,sd_cons]
    first | exact fin0 (.inr rfl) rfl rfl rfl rfl | trace_state
  · have he : e2eB l = keepF (fun n => !(hopI (wordsB connN l)).contains (foldB n)) l := by unfold e2eB; rw [if_pos h]
    rw [he]
    have h48 := c48 l hl h
    obtain ⟨hw1,hw2⟩ := words_le (name := connN) h
    have hlen := hopI_len (wordsB connN l)
    generalize hopI (wordsB connN l) = hs at h48 hlen ⊢
    have h50 := c50 hs (by omega)
    have h49 := c49k 50 [.imm 9 (rowsS hs)] (fun n => !hs.contains (foldB n)) rfl rfl rfl h50 l hl h
    simp only [f18,go_sem,cfg,Nat.reduceLeDiff,Nat.reduceLT,Nat.reduceAdd,Nat.reduceSub,Nat.reduceMul,Nat.reduceBEq,Nat.reduceBNe,Nat.reduceEqDiff,reduceCtorEq,reduceIte,Int.reduceLT,Int.reduceLE,Int.reduceAdd,Int.reduceSub,Int.reduceNeg,Int.reduceEq,Int.reduceBEq,Int.reduceBNe,Int.reduceToNat,Nat.reduceDiv,Nat.reduceMod,rowsF_length,rowsS_length,sd_nil,sd_cons]
    refine ev_call h48 (retW0 rfl rfl rfl rfl) ?_
    simp only [f18,go_sem,cfg,Nat.reduceLeDiff,Nat.reduceLT,Nat.reduceAdd,Nat.reduceSub,Nat.reduceMul,Nat.reduceBEq,Nat.reduceBNe,Nat.reduceEqDiff,reduceCtorEq,reduceIte,Int.reduceLT,Int.reduceLE,Int.reduceAdd,Int.reduceSub,Int.reduceNeg,Int.reduceEq,Int.reduceBEq,Int.reduceBNe,Int.reduceToNat,Nat.reduceDiv,Nat.reduceMod,rowsF_length,rowsS_length,sd_nil,sd_cons]
    generalize rowsF (keepF (fun n => !hs.contains (foldB n)) l) = R at h49 ⊢
    cases R with
    | nil =>
      rw [sd_nil] at h49
      refine ev_call h49 (retW0 rfl rfl rfl rfl) ?_
      simp only [f18,go_sem,cfg,Nat.reduceLeDiff,Nat.reduceLT,Nat.reduceAdd,Nat.reduceSub,Nat.reduceMul,Nat.reduceBEq,Nat.reduceBNe,Nat.reduceEqDiff,reduceCtorEq,reduceIte,Int.reduceLT,Int.reduceLE,Int.reduceAdd,Int.reduceSub,Int.reduceNeg,Int.reduceEq,Int.reduceBEq,Int.reduceBNe,Int.reduceToNat,Nat.reduceDiv,Nat.reduceMod,rowsF_length,rowsS_length,sd_nil,sd_cons]
      first | exact fin0 (.inr rfl) rfl rfl rfl rfl | trace_state
    | cons y ys =>
      rw [sd_cons] at h49
      refine ev_call h49 (retW0 rfl rfl rfl rfl) ?_
      simp only [f18,go_sem,cfg,Nat.reduceLeDiff,Nat.reduceLT,Nat.reduceAdd,Nat.reduceSub,Nat.reduceMul,Nat.reduceBEq,Nat.reduceBNe,Nat.reduceEqDiff,reduceCtorEq,reduceIte,Int.reduceLT,Int.reduceLE,Int.reduceAdd,Int.reduceSub,Int.reduceNeg,Int.reduceEq,Int.reduceBEq,Int.reduceBNe,Int.reduceToNat,Nat.reduceDiv,Nat.reduceMod,rowsF_length,rowsS_length,sd_nil,sd_cons]
      first | exact fin0 (.inr rfl) rfl rfl rfl rfl | trace_state
theorem c14 (l : List Fld) (hl : Small l) : Sem prog 14 ⟨[.imm 51 (rowsF l)],[none]⟩ ⟨[.dead,sd 51 (rowsF (e2eB l))],[none]⟩ := by
  refine sem_fin (cfg := cfg 1) (ts := [.tm 2]) tbOk func14 rfl rfl rfl rfl (fun t h => by cases h) ?_
  have hs : l.length ≤ 9223372036854775807 := hl.1
  cases h : fieldsB l
  · have he : e2eB l = [] := by unfold e2eB; rw [if_neg (by rw [h]; simp)]
    rw [he]
    simp only [f14,go_sem,cfg,Nat.reduceLeDiff,Nat.reduceLT,Nat.reduceAdd,Nat.reduceSub,Nat.reduceMul,Nat.reduceBEq,Nat.reduceBNe,Nat.reduceEqDiff,reduceCtorEq,reduceIte,Int.reduceLT,Int.reduceLE,Int.reduceAdd,Int.reduceSub,Int.reduceNeg,Int.reduceEq,Int.reduceBEq,Int.reduceBNe,Int.reduceToNat,Nat.reduceDiv,Nat.reduceMod,rowsF_length,rowsS_length,sd_nil,sd_cons,List.length_append]
    refine ev_call (c32n l hl h) (retW0 rfl rfl rfl rfl) ?_
    simp only [f14,go_sem,cfg,Nat.reduceLeDiff,Nat.reduceLT,Nat.reduceAdd,Nat.reduceSub,Nat.reduceMul,Nat.reduceBEq,Nat.reduceBNe,Nat.reduceEqDiff,reduceCtorEq,reduceIte,Int.reduceLT,Int.reduceLE,Int.reduceAdd,Int.reduceSub,Int.reduceNeg,Int.reduceEq,Int.reduceBEq,Int.reduceBNe,Int.reduceToNat,Nat.reduceDiv,Nat.reduceMod,rowsF_length,rowsS_length,sd_nil,sd_cons,List.length_append]
    first | exact fin0 (.inr rfl) rfl rfl rfl rfl | trace_state
  have h20 := fields_len h
  have he : e2eB l = keepF (fun n => !(hopF (wordsB connN l)).contains (foldB n)) l := by
    unfold e2eB
    rw [if_pos h]
    congr 1
    funext n
    rw [hop_same]
  rw [he]
  have h32 := c32 l hl h
  obtain ⟨hw1,hw2⟩ := words_le (name := connN) h
  have hlen := hopF_len (wordsB connN l)
  have hne := hopF_ne (wordsB connN l)
  generalize hopF (wordsB connN l) = hp at h32 hlen hne ⊢
  have hz : ((hp.length : Int) == 0) = false := by rw [beq_eq_false_iff_ne]; omega
  have hp9 : hp.length ≤ 9223372036854775807 := by omega
  simp only [f14,go_sem,cfg,Nat.reduceLeDiff,Nat.reduceLT,Nat.reduceAdd,Nat.reduceSub,Nat.reduceMul,Nat.reduceBEq,Nat.reduceBNe,Nat.reduceEqDiff,reduceCtorEq,reduceIte,Int.reduceLT,Int.reduceLE,Int.reduceAdd,Int.reduceSub,Int.reduceNeg,Int.reduceEq,Int.reduceBEq,Int.reduceBNe,Int.reduceToNat,Nat.reduceDiv,Nat.reduceMod,rowsF_length,rowsS_length,sd_nil,sd_cons,List.length_append]
  refine ev_call h32 (retW0 rfl rfl rfl rfl) ?_
  simp only [f14,go_sem,cfg,Nat.reduceLeDiff,Nat.reduceLT,Nat.reduceAdd,Nat.reduceSub,Nat.reduceMul,Nat.reduceBEq,Nat.reduceBNe,Nat.reduceEqDiff,reduceCtorEq,reduceIte,Int.reduceLT,Int.reduceLE,Int.reduceAdd,Int.reduceSub,Int.reduceNeg,Int.reduceEq,Int.reduceBEq,Int.reduceBNe,Int.reduceToNat,Nat.reduceDiv,Nat.reduceMod,rowsF_length,rowsS_length,sd_nil,sd_cons,List.length_append,hz,hp9]
  try (with_reducible intro hlen3)
  try simp only [f14,go_sem,cfg,Nat.reduceLeDiff,Nat.reduceLT,Nat.reduceAdd,Nat.reduceSub,Nat.reduceMul,Nat.reduceBEq,Nat.reduceBNe,Nat.reduceEqDiff,reduceCtorEq,reduceIte,Int.reduceLT,Int.reduceLE,Int.reduceAdd,Int.reduceSub,Int.reduceNeg,Int.reduceEq,Int.reduceBEq,Int.reduceBNe,Int.reduceToNat,Nat.reduceDiv,Nat.reduceMod,rowsF_length,rowsS_length,sd_nil,sd_cons,List.length_append,hz,hp9]
  generalize hP : (fun n : List UInt8 => !hp.contains (foldB n)) = p
  have hpp : ∀ n,p n = !hp.contains (foldB n) := fun n => by rw [← hP]
  refine loop_on (fun i : Nat => ⟨[.imm 51 (rowsF l),.dead,.nil,sd 51 (rowsF (keepF p (l.take i))),.own 9 (rowsS hp),.v (vI i),.dead,.dead,.dead,.dead,.dead,.dead,.dead,.dead,.dead,.dead,.dead,.dead,.dead,.dead,.dead,.dead,.dead,.dead,.dead,.dead,.dead,.dead,.dead,.dead,.dead,.dead,.dead,.dead],List.replicate 34 none⟩) [0,2,3,4,5] (fun i => i ≤ l.length) (fun i => l.length - i) 0 rfl (by omega) ?_
  intro i hi
  have hle := keepF_le p l i
  have hend : i = l.length → keepF p (l.take i) = keepF p l := fun e => by rw [e,List.take_length]
  have keepF_hit : ∀ {i : Nat},i < l.length → (!hp.contains (foldB (l.getD i ([],[])).1)) = true → keepF p (l.take (i + 1)) = keepF p (l.take i) ++ [l.getD i ([],[])] := fun h1 h2 => keepF_hit h1 ((hpp _).trans h2)
  have keepF_miss : ∀ {i : Nat},i < l.length → (!hp.contains (foldB (l.getD i ([],[])).1)) = false → keepF p (l.take (i + 1)) = keepF p (l.take i) := fun h1 h2 => keepF_miss h1 ((hpp _).trans h2)
  generalize hacc : rowsF (keepF p (l.take i)) = acc at hle ⊢
  simp only [f14,go_sem,cfg,Nat.reduceLeDiff,Nat.reduceLT,Nat.reduceAdd,Nat.reduceSub,Nat.reduceMul,Nat.reduceBEq,Nat.reduceBNe,Nat.reduceEqDiff,reduceCtorEq,reduceIte,Int.reduceLT,Int.reduceLE,Int.reduceAdd,Int.reduceSub,Int.reduceNeg,Int.reduceEq,Int.reduceBEq,Int.reduceBNe,Int.reduceToNat,Nat.reduceDiv,Nat.reduceMod,rowsF_length,rowsS_length,sd_nil,sd_cons,List.length_append,hs]
  try (with_reducible intro hlen4)
  cases acc with
  | nil =>
    try simp only [f14,go_sem,cfg,Nat.reduceLeDiff,Nat.reduceLT,Nat.reduceAdd,Nat.reduceSub,Nat.reduceMul,Nat.reduceBEq,Nat.reduceBNe,Nat.reduceEqDiff,reduceCtorEq,reduceIte,Int.reduceLT,Int.reduceLE,Int.reduceAdd,Int.reduceSub,Int.reduceNeg,Int.reduceEq,Int.reduceBEq,Int.reduceBNe,Int.reduceToNat,Nat.reduceDiv,Nat.reduceMod,rowsF_length,rowsS_length,sd_nil,sd_cons,List.length_append,hs]
    by_cases hc : i < l.length
    · have hw := wrapN hc hs
      have h1 := rowsF_getD hc
      have hsm := hl.at hc
      have h34 := c34 _ hsm.1
      have h33 := c33 hp (foldB (l.getD i ([],[])).1) (by omega)
      simp only [f14,go_sem,cfg,Nat.reduceLeDiff,Nat.reduceLT,Nat.reduceAdd,Nat.reduceSub,Nat.reduceMul,Nat.reduceBEq,Nat.reduceBNe,Nat.reduceEqDiff,reduceCtorEq,reduceIte,Int.reduceLT,Int.reduceLE,Int.reduceAdd,Int.reduceSub,Int.reduceNeg,Int.reduceEq,Int.reduceBEq,Int.reduceBNe,Int.reduceToNat,Nat.reduceDiv,Nat.reduceMod,rowsF_length,rowsS_length,sd_nil,sd_cons,List.length_append,hs,hc,h1]
      refine ev_call h34 (retW0 rfl rfl rfl rfl) ?_
      simp only [f14,go_sem,cfg,Nat.reduceLeDiff,Nat.reduceLT,Nat.reduceAdd,Nat.reduceSub,Nat.reduceMul,Nat.reduceBEq,Nat.reduceBNe,Nat.reduceEqDiff,reduceCtorEq,reduceIte,Int.reduceLT,Int.reduceLE,Int.reduceAdd,Int.reduceSub,Int.reduceNeg,Int.reduceEq,Int.reduceBEq,Int.reduceBNe,Int.reduceToNat,Nat.reduceDiv,Nat.reduceMod,rowsF_length,rowsS_length,sd_nil,sd_cons,List.length_append,hs,hc,h1]
      refine ev_call h33 (retW0 rfl rfl rfl rfl) ?_
      cases hb : hp.contains (foldB (l.getD i ([],[])).1)
      · have hb2 : (!hp.contains (foldB (l.getD i ([],[])).1)) = true := by rw [hb]; rfl
        simp only [f14,go_sem,cfg,Nat.reduceLeDiff,Nat.reduceLT,Nat.reduceAdd,Nat.reduceSub,Nat.reduceMul,Nat.reduceBEq,Nat.reduceBNe,Nat.reduceEqDiff,reduceCtorEq,reduceIte,Int.reduceLT,Int.reduceLE,Int.reduceAdd,Int.reduceSub,Int.reduceNeg,Int.reduceEq,Int.reduceBEq,Int.reduceBNe,Int.reduceToNat,Nat.reduceDiv,Nat.reduceMod,rowsF_length,rowsS_length,sd_nil,sd_cons,List.length_append,hs,hc,h1,hb,hw]
        have hb1 : (1 : Nat) * 32 ≤ 140737488355328 := by omega
        try simp only [f14,go_sem,cfg,Nat.reduceLeDiff,Nat.reduceLT,Nat.reduceAdd,Nat.reduceSub,Nat.reduceMul,Nat.reduceBEq,Nat.reduceBNe,Nat.reduceEqDiff,reduceCtorEq,reduceIte,Int.reduceLT,Int.reduceLE,Int.reduceAdd,Int.reduceSub,Int.reduceNeg,Int.reduceEq,Int.reduceBEq,Int.reduceBNe,Int.reduceToNat,Nat.reduceDiv,Nat.reduceMod,rowsF_length,rowsS_length,sd_nil,sd_cons,List.length_append,hs,hc,h1,hb,hw,hb1]
        first | exact ⟨i + 1,by rw [keepF_hit hc hb2,rowsF_snoc,hacc]; rfl,hc,by omega⟩ | trace_state
      · have hb2 : (!hp.contains (foldB (l.getD i ([],[])).1)) = false := by rw [hb]; rfl
        simp only [f14,go_sem,cfg,Nat.reduceLeDiff,Nat.reduceLT,Nat.reduceAdd,Nat.reduceSub,Nat.reduceMul,Nat.reduceBEq,Nat.reduceBNe,Nat.reduceEqDiff,reduceCtorEq,reduceIte,Int.reduceLT,Int.reduceLE,Int.reduceAdd,Int.reduceSub,Int.reduceNeg,Int.reduceEq,Int.reduceBEq,Int.reduceBNe,Int.reduceToNat,Nat.reduceDiv,Nat.reduceMod,rowsF_length,rowsS_length,sd_nil,sd_cons,List.length_append,hs,hc,h1,hb,hw]
        exact ⟨i + 1,by rw [keepF_miss hc hb2,hacc]; rfl,hc,by omega⟩
    · have he := hend (by omega)
      rw [he] at hacc
      simp only [f14,go_sem,cfg,Nat.reduceLeDiff,Nat.reduceLT,Nat.reduceAdd,Nat.reduceSub,Nat.reduceMul,Nat.reduceBEq,Nat.reduceBNe,Nat.reduceEqDiff,reduceCtorEq,reduceIte,Int.reduceLT,Int.reduceLE,Int.reduceAdd,Int.reduceSub,Int.reduceNeg,Int.reduceEq,Int.reduceBEq,Int.reduceBNe,Int.reduceToNat,Nat.reduceDiv,Nat.reduceMod,rowsF_length,rowsS_length,sd_nil,sd_cons,List.length_append,hc]
      first | (refine fin0 (.inr rfl) rfl rfl rfl ?_; rw [hacc]; rfl) | trace_state
  | cons x xs =>
    try simp only [f14,go_sem,cfg,Nat.reduceLeDiff,Nat.reduceLT,Nat.reduceAdd,Nat.reduceSub,Nat.reduceMul,Nat.reduceBEq,Nat.reduceBNe,Nat.reduceEqDiff,reduceCtorEq,reduceIte,Int.reduceLT,Int.reduceLE,Int.reduceAdd,Int.reduceSub,Int.reduceNeg,Int.reduceEq,Int.reduceBEq,Int.reduceBNe,Int.reduceToNat,Nat.reduceDiv,Nat.reduceMod,rowsF_length,rowsS_length,sd_nil,sd_cons,List.length_append,hs]
    by_cases hc : i < l.length
    · have hw := wrapN hc hs
      have h1 := rowsF_getD hc
      have hsm := hl.at hc
      have h34 := c34 _ hsm.1
      have h33 := c33 hp (foldB (l.getD i ([],[])).1) (by omega)
      simp only [f14,go_sem,cfg,Nat.reduceLeDiff,Nat.reduceLT,Nat.reduceAdd,Nat.reduceSub,Nat.reduceMul,Nat.reduceBEq,Nat.reduceBNe,Nat.reduceEqDiff,reduceCtorEq,reduceIte,Int.reduceLT,Int.reduceLE,Int.reduceAdd,Int.reduceSub,Int.reduceNeg,Int.reduceEq,Int.reduceBEq,Int.reduceBNe,Int.reduceToNat,Nat.reduceDiv,Nat.reduceMod,rowsF_length,rowsS_length,sd_nil,sd_cons,List.length_append,hs,hc,h1]
      refine ev_call h34 (retW0 rfl rfl rfl rfl) ?_
      simp only [f14,go_sem,cfg,Nat.reduceLeDiff,Nat.reduceLT,Nat.reduceAdd,Nat.reduceSub,Nat.reduceMul,Nat.reduceBEq,Nat.reduceBNe,Nat.reduceEqDiff,reduceCtorEq,reduceIte,Int.reduceLT,Int.reduceLE,Int.reduceAdd,Int.reduceSub,Int.reduceNeg,Int.reduceEq,Int.reduceBEq,Int.reduceBNe,Int.reduceToNat,Nat.reduceDiv,Nat.reduceMod,rowsF_length,rowsS_length,sd_nil,sd_cons,List.length_append,hs,hc,h1]
      refine ev_call h33 (retW0 rfl rfl rfl rfl) ?_
      cases hb : hp.contains (foldB (l.getD i ([],[])).1)
      · have hb2 : (!hp.contains (foldB (l.getD i ([],[])).1)) = true := by rw [hb]; rfl
        simp only [f14,go_sem,cfg,Nat.reduceLeDiff,Nat.reduceLT,Nat.reduceAdd,Nat.reduceSub,Nat.reduceMul,Nat.reduceBEq,Nat.reduceBNe,Nat.reduceEqDiff,reduceCtorEq,reduceIte,Int.reduceLT,Int.reduceLE,Int.reduceAdd,Int.reduceSub,Int.reduceNeg,Int.reduceEq,Int.reduceBEq,Int.reduceBNe,Int.reduceToNat,Nat.reduceDiv,Nat.reduceMod,rowsF_length,rowsS_length,sd_nil,sd_cons,List.length_append,hs,hc,h1,hb,hw]
        have hb1 : (xs.length + 1 + 1) * 32 ≤ 140737488355328 := by simp only [List.length_cons] at hle; omega
        try simp only [f14,go_sem,cfg,Nat.reduceLeDiff,Nat.reduceLT,Nat.reduceAdd,Nat.reduceSub,Nat.reduceMul,Nat.reduceBEq,Nat.reduceBNe,Nat.reduceEqDiff,reduceCtorEq,reduceIte,Int.reduceLT,Int.reduceLE,Int.reduceAdd,Int.reduceSub,Int.reduceNeg,Int.reduceEq,Int.reduceBEq,Int.reduceBNe,Int.reduceToNat,Nat.reduceDiv,Nat.reduceMod,rowsF_length,rowsS_length,sd_nil,sd_cons,List.length_append,hs,hc,h1,hb,hw,hb1]
        first | exact ⟨i + 1,by rw [keepF_hit hc hb2,rowsF_snoc,hacc]; rfl,hc,by omega⟩ | trace_state
      · have hb2 : (!hp.contains (foldB (l.getD i ([],[])).1)) = false := by rw [hb]; rfl
        simp only [f14,go_sem,cfg,Nat.reduceLeDiff,Nat.reduceLT,Nat.reduceAdd,Nat.reduceSub,Nat.reduceMul,Nat.reduceBEq,Nat.reduceBNe,Nat.reduceEqDiff,reduceCtorEq,reduceIte,Int.reduceLT,Int.reduceLE,Int.reduceAdd,Int.reduceSub,Int.reduceNeg,Int.reduceEq,Int.reduceBEq,Int.reduceBNe,Int.reduceToNat,Nat.reduceDiv,Nat.reduceMod,rowsF_length,rowsS_length,sd_nil,sd_cons,List.length_append,hs,hc,h1,hb,hw]
        exact ⟨i + 1,by rw [keepF_miss hc hb2,hacc]; rfl,hc,by omega⟩
    · have he := hend (by omega)
      rw [he] at hacc
      simp only [f14,go_sem,cfg,Nat.reduceLeDiff,Nat.reduceLT,Nat.reduceAdd,Nat.reduceSub,Nat.reduceMul,Nat.reduceBEq,Nat.reduceBNe,Nat.reduceEqDiff,reduceCtorEq,reduceIte,Int.reduceLT,Int.reduceLE,Int.reduceAdd,Int.reduceSub,Int.reduceNeg,Int.reduceEq,Int.reduceBEq,Int.reduceBNe,Int.reduceToNat,Nat.reduceDiv,Nat.reduceMod,rowsF_length,rowsS_length,sd_nil,sd_cons,List.length_append,hc]
      first | (refine fin0 (.inr rfl) rfl rfl rfl ?_; rw [hacc]; rfl) | trace_state
end Go.Proofs.YtagfeejofceheaaGreatDoor.Fw

/- Contracts: Deliver. -/
namespace Go.Proofs.YtagfeejofceheaaGreatDoor.Fw
open Go
open Go.Proofs.Tryz
set_option maxRecDepth 100000
set_option maxHeartbeats 600000
set_option linter.unusedSimpArgs false
set_option linter.unusedVariables false
attribute [local congr] c_bnd c_slot c_cell c_all c_len c_chk c_asm c_opdR c_wp c_pwp c_pOps c_Done c_nx c_blk c_fin c_rowsR c_leafR c_opdsR c_coeLeaf c_coeLeaves c_lendLeaf c_lendLeaves c_coeCapt c_argR c_argsR c_boundR c_partsR c_srcR c_mfgo c_ite c_wpF c_OutF c_pHead c_pDraw
def msgZ : D := .agg [.v (vS []),.v (vS []),.v (vI 0),.v (vS []),.v (vB false),.nil,.v (vS [])]
def resM (me ta : List UInt8) (st : Int) (re : List UInt8) (ba : Bool) (bo : List UInt8) : Option (List Fld) → D
  | none => .tup [msgZ,.v (vB false)]
  | some x => .tup [.agg [.v (vS me),.v (vS ta),.v (vI st),.v (vS re),.v (vB ba),.own 51 (rowsF x),.v (vS bo)],.v (vB true)]
theorem optD_none : optD none = .nil := id rfl
theorem optD_some {x : List Fld} : optD (some x) = .own 51 (rowsF x) := id rfl
def delB (me ta : List UInt8) (st : Int) (re : List UInt8) (ba : Bool) (l : List Fld) (bo name : List UInt8) : Option (List Fld) :=
  if (msgB me ta st re ba l bo && (me == [])) = true then
    match addB (e2eB l) name with
    | none => none
    | some x => if msgB me ta st re ba x bo = true then some x else none
  else none
theorem small_filter {l : List Fld} (h : Small l) (p : Fld → Bool) : Small (l.filter p) :=
  ⟨Nat.le_trans (List.length_filter_le _ _) h.1,fun q hq => h.2 q (List.mem_filter.1 hq).1⟩
theorem small_e2e {l : List Fld} (h : Small l) : Small (e2eB l) := by
  unfold e2eB keepF
  split
  · exact small_filter h _
  · exact ⟨by simp,fun q hq => by cases hq⟩
theorem withB_some {l x : List Fld} {f : Fld} (h : withB l f = some x) : x = withoutB f.1 l ++ [f] ∧ fieldB f = true := by
  unfold withB at h
  split at h
  · rename_i hc
    injection h with h
    simp only [Bool.and_eq_true] at hc
    exact ⟨h.symm,hc.1.2⟩
  · cases h
theorem addB_some {l x : List Fld} {name : List UInt8} (hl : Small l) (h : addB l name = some x) : Small x ∧ 0 < x.length ∧ x.length ≤ 1048576 := by
  have hx : ∃ f : Fld,x = withoutB f.1 l ++ [f] ∧ fieldB f = true ∧ fieldsB l = true := by
    unfold addB at h
    split at h
    · rename_i hc
      obtain ⟨h1,h2⟩ := withB_some h
      simp only [Bool.and_eq_true] at hc
      exact ⟨_,h1,h2,hc.1⟩
    · cases h
  obtain ⟨f,rfl,hf,hfs⟩ := hx
  have hfl := fieldB_le hf
  have hs : Small (withoutB f.1 l) := small_filter hl _
  have hn := fields_len hfs
  have hw := wo_len f.1 l
  refine ⟨⟨by rw [List.length_append]; simp; omega,fun q hq => ?_⟩,by simp,by rw [List.length_append]; simp; omega⟩
  rcases List.mem_append.1 hq with h1 | h1
  · exact hs.2 q h1
  · rw [List.mem_singleton] at h1
    rw [h1]
    omega
theorem c19n (h44 : H44) (me ta : List UInt8) (st : Int) (re : List UInt8) (ba : Bool) (l : List Fld) (bo : List UInt8) (h1 : me.length ≤ 9223372036854775807) (h2 : ta.length ≤ 9223372036854775807) (h3 : re.length ≤ 9223372036854775807) (h4 : bo.length ≤ 9223372036854775807) (hl : Small l) (h : msgB me ta st re ba l bo = false) : Sem prog 19 ⟨[.agg [.v (vS me),.v (vS ta),.v (vI st),.v (vS re),.v (vB ba),.own 51 (rowsF l),.v (vS bo)]],[none]⟩ ⟨[.dead,.tup [msgZ,.v (vB false)]],[none]⟩ := by
  refine sem_fin (cfg := cfg 1) (ts := [.ce 2 28,.tm 3]) tbOk func19 rfl rfl rfl rfl (fun t h => by cases h) ?_
  have h16 := c16 h44 me ta st re ba l bo h1 h2 h3 h4 hl
  rw [h] at h16
  simp only [f19,go_sem,cfg,Nat.reduceLeDiff,Nat.reduceLT,Nat.reduceAdd,Nat.reduceSub,Nat.reduceMul,Nat.reduceBEq,Nat.reduceBNe,Nat.reduceEqDiff,reduceCtorEq,reduceIte,Int.reduceLT,Int.reduceLE,Int.reduceAdd,Int.reduceSub,Int.reduceNeg,Int.reduceEq,Int.reduceBEq,Int.reduceBNe,Int.reduceToNat,Nat.reduceDiv,Nat.reduceMod,rowsF_length,rowsS_length,sd_nil,sd_cons]
  refine ev_call h16 (retW0 rfl rfl rfl rfl) ?_
  simp only [f19,go_sem,cfg,Nat.reduceLeDiff,Nat.reduceLT,Nat.reduceAdd,Nat.reduceSub,Nat.reduceMul,Nat.reduceBEq,Nat.reduceBNe,Nat.reduceEqDiff,reduceCtorEq,reduceIte,Int.reduceLT,Int.reduceLE,Int.reduceAdd,Int.reduceSub,Int.reduceNeg,Int.reduceEq,Int.reduceBEq,Int.reduceBNe,Int.reduceToNat,Nat.reduceDiv,Nat.reduceMod,rowsF_length,rowsS_length,sd_nil,sd_cons]
  first | exact fin0 (.inr rfl) rfl rfl rfl rfl | trace_state
theorem c19y (h44 : H44) (me ta : List UInt8) (st : Int) (re : List UInt8) (ba : Bool) (l : List Fld) (bo : List UInt8) (h1 : me.length ≤ 9223372036854775807) (h2 : ta.length ≤ 9223372036854775807) (h3 : re.length ≤ 9223372036854775807) (h4 : bo.length ≤ 9223372036854775807) (hl : Small l) (h : msgB me ta st re ba l bo = true) : Sem prog 19 ⟨[.agg [.v (vS me),.v (vS ta),.v (vI st),.v (vS re),.v (vB ba),.own 51 (rowsF l),.v (vS bo)]],[none]⟩ ⟨[.dead,.tup [.agg [.v (vS me),.v (vS ta),.v (vI st),.v (vS re),.v (vB ba),.own 51 (rowsF l),.v (vS bo)],.v (vB true)]],[none]⟩ := by
  refine sem_fin (cfg := cfg 1) (ts := [.ce 2 28,.tm 3]) tbOk func19 rfl rfl rfl rfl (fun t h => by cases h) ?_
  have h16 := c16 h44 me ta st re ba l bo h1 h2 h3 h4 hl
  rw [h] at h16
  simp only [f19,go_sem,cfg,Nat.reduceLeDiff,Nat.reduceLT,Nat.reduceAdd,Nat.reduceSub,Nat.reduceMul,Nat.reduceBEq,Nat.reduceBNe,Nat.reduceEqDiff,reduceCtorEq,reduceIte,Int.reduceLT,Int.reduceLE,Int.reduceAdd,Int.reduceSub,Int.reduceNeg,Int.reduceEq,Int.reduceBEq,Int.reduceBNe,Int.reduceToNat,Nat.reduceDiv,Nat.reduceMod,rowsF_length,rowsS_length,sd_nil,sd_cons]
  refine ev_call h16 (retW0 rfl rfl rfl rfl) ?_
  simp only [f19,go_sem,cfg,Nat.reduceLeDiff,Nat.reduceLT,Nat.reduceAdd,Nat.reduceSub,Nat.reduceMul,Nat.reduceBEq,Nat.reduceBNe,Nat.reduceEqDiff,reduceCtorEq,reduceIte,Int.reduceLT,Int.reduceLE,Int.reduceAdd,Int.reduceSub,Int.reduceNeg,Int.reduceEq,Int.reduceBEq,Int.reduceBNe,Int.reduceToNat,Nat.reduceDiv,Nat.reduceMod,rowsF_length,rowsS_length,sd_nil,sd_cons]
  first | exact fin0 (.inr rfl) rfl rfl rfl rfl | trace_state
theorem c5a (me ta : List UInt8) (st : Int) (re : List UInt8) (ba : Bool) (l : List Fld) (bo : List UInt8) (name : List UInt8) (h1 : me.length ≤ 9223372036854775807) (h2 : ta.length ≤ 9223372036854775807) (h3 : re.length ≤ 9223372036854775807) (h4 : bo.length ≤ 9223372036854775807) (hl : Small l) (hn : name.length ≤ 9223372036854775807) (h : msgB me ta st re ba l bo = false) : Sem prog 5 ⟨[.agg [.v (vS me),.v (vS ta),.v (vI st),.v (vS re),.v (vB ba),.imm 51 (rowsF l),.v (vS bo)],.v (vS name)],[none,none]⟩ ⟨[.dead,.dead,.tup [msgZ,.v (vB false)]],[none,none]⟩ := by
  refine sem_fin (cfg := cfg 2) (ts := [.ce 4 28,.tm 5]) tbOk func5 rfl rfl rfl rfl (fun t h => by cases h) ?_
  have hok := c12 me ta st re ba l bo h1 h2 h3 h4 hl
  rw [h] at hok
  simp only [f5,go_sem,cfg,Nat.reduceLeDiff,Nat.reduceLT,Nat.reduceAdd,Nat.reduceSub,Nat.reduceMul,Nat.reduceBEq,Nat.reduceBNe,Nat.reduceEqDiff,reduceCtorEq,reduceIte,Int.reduceLT,Int.reduceLE,Int.reduceAdd,Int.reduceSub,Int.reduceNeg,Int.reduceEq,Int.reduceBEq,Int.reduceBNe,Int.reduceToNat,Nat.reduceDiv,Nat.reduceMod,rowsF_length,rowsS_length,sd_nil,sd_cons]
  refine ev_call hok (retW0 rfl rfl rfl rfl) ?_
  simp only [f5,go_sem,cfg,Nat.reduceLeDiff,Nat.reduceLT,Nat.reduceAdd,Nat.reduceSub,Nat.reduceMul,Nat.reduceBEq,Nat.reduceBNe,Nat.reduceEqDiff,reduceCtorEq,reduceIte,Int.reduceLT,Int.reduceLE,Int.reduceAdd,Int.reduceSub,Int.reduceNeg,Int.reduceEq,Int.reduceBEq,Int.reduceBNe,Int.reduceToNat,Nat.reduceDiv,Nat.reduceMod,rowsF_length,rowsS_length,sd_nil,sd_cons]
  first | exact fin0 (.inr rfl) rfl rfl rfl rfl | trace_state
theorem c5b (me ta : List UInt8) (st : Int) (re : List UInt8) (ba : Bool) (l : List Fld) (bo : List UInt8) (name : List UInt8) (h1 : me.length ≤ 9223372036854775807) (h2 : ta.length ≤ 9223372036854775807) (h3 : re.length ≤ 9223372036854775807) (h4 : bo.length ≤ 9223372036854775807) (hl : Small l) (hn : name.length ≤ 9223372036854775807) (h : msgB me ta st re ba l bo = true) (hm : (me == []) = false) : Sem prog 5 ⟨[.agg [.v (vS me),.v (vS ta),.v (vI st),.v (vS re),.v (vB ba),.imm 51 (rowsF l),.v (vS bo)],.v (vS name)],[none,none]⟩ ⟨[.dead,.dead,.tup [msgZ,.v (vB false)]],[none,none]⟩ := by
  refine sem_fin (cfg := cfg 2) (ts := [.ce 4 28,.tm 5]) tbOk func5 rfl rfl rfl rfl (fun t h => by cases h) ?_
  have hok := c12 me ta st re ba l bo h1 h2 h3 h4 hl
  rw [h] at hok
  simp only [f5,go_sem,cfg,Nat.reduceLeDiff,Nat.reduceLT,Nat.reduceAdd,Nat.reduceSub,Nat.reduceMul,Nat.reduceBEq,Nat.reduceBNe,Nat.reduceEqDiff,reduceCtorEq,reduceIte,Int.reduceLT,Int.reduceLE,Int.reduceAdd,Int.reduceSub,Int.reduceNeg,Int.reduceEq,Int.reduceBEq,Int.reduceBNe,Int.reduceToNat,Nat.reduceDiv,Nat.reduceMod,rowsF_length,rowsS_length,sd_nil,sd_cons]
  refine ev_call hok (retW0 rfl rfl rfl rfl) ?_
  simp only [f5,go_sem,cfg,Nat.reduceLeDiff,Nat.reduceLT,Nat.reduceAdd,Nat.reduceSub,Nat.reduceMul,Nat.reduceBEq,Nat.reduceBNe,Nat.reduceEqDiff,reduceCtorEq,reduceIte,Int.reduceLT,Int.reduceLE,Int.reduceAdd,Int.reduceSub,Int.reduceNeg,Int.reduceEq,Int.reduceBEq,Int.reduceBNe,Int.reduceToNat,Nat.reduceDiv,Nat.reduceMod,rowsF_length,rowsS_length,sd_nil,sd_cons,hm]
  first | exact fin0 (.inr rfl) rfl rfl rfl rfl | trace_state
theorem c5c (me ta : List UInt8) (st : Int) (re : List UInt8) (ba : Bool) (l : List Fld) (bo : List UInt8) (name : List UInt8) (h1 : me.length ≤ 9223372036854775807) (h2 : ta.length ≤ 9223372036854775807) (h3 : re.length ≤ 9223372036854775807) (h4 : bo.length ≤ 9223372036854775807) (hl : Small l) (hn : name.length ≤ 9223372036854775807) (h : msgB me ta st re ba l bo = true) (hm : (me == []) = true) (ha : addB (e2eB l) name = none) : Sem prog 5 ⟨[.agg [.v (vS me),.v (vS ta),.v (vI st),.v (vS re),.v (vB ba),.imm 51 (rowsF l),.v (vS bo)],.v (vS name)],[none,none]⟩ ⟨[.dead,.dead,.tup [msgZ,.v (vB false)]],[none,none]⟩ := by
  refine sem_fin (cfg := cfg 2) (ts := [.ce 4 28,.tm 5]) tbOk func5 rfl rfl rfl rfl (fun t h => by cases h) ?_
  have hok := c12 me ta st re ba l bo h1 h2 h3 h4 hl
  rw [h] at hok
  have he := c14 l hl
  have hse := small_e2e hl
  have hv := c13 (e2eB l) hse name hn
  rw [ha,optD_none] at hv
  generalize rowsF (e2eB l) = E at he hv
  cases E with
  | nil =>
    rw [sd_nil] at he
    simp only [f5,go_sem,cfg,Nat.reduceLeDiff,Nat.reduceLT,Nat.reduceAdd,Nat.reduceSub,Nat.reduceMul,Nat.reduceBEq,Nat.reduceBNe,Nat.reduceEqDiff,reduceCtorEq,reduceIte,Int.reduceLT,Int.reduceLE,Int.reduceAdd,Int.reduceSub,Int.reduceNeg,Int.reduceEq,Int.reduceBEq,Int.reduceBNe,Int.reduceToNat,Nat.reduceDiv,Nat.reduceMod,rowsF_length,rowsS_length,sd_nil,sd_cons,hm]
    refine ev_call hok (retW0 rfl rfl rfl rfl) ?_
    simp only [f5,go_sem,cfg,Nat.reduceLeDiff,Nat.reduceLT,Nat.reduceAdd,Nat.reduceSub,Nat.reduceMul,Nat.reduceBEq,Nat.reduceBNe,Nat.reduceEqDiff,reduceCtorEq,reduceIte,Int.reduceLT,Int.reduceLE,Int.reduceAdd,Int.reduceSub,Int.reduceNeg,Int.reduceEq,Int.reduceBEq,Int.reduceBNe,Int.reduceToNat,Nat.reduceDiv,Nat.reduceMod,rowsF_length,rowsS_length,sd_nil,sd_cons,hm]
    refine ev_call he (retW0 rfl rfl rfl rfl) ?_
    simp only [f5,go_sem,cfg,Nat.reduceLeDiff,Nat.reduceLT,Nat.reduceAdd,Nat.reduceSub,Nat.reduceMul,Nat.reduceBEq,Nat.reduceBNe,Nat.reduceEqDiff,reduceCtorEq,reduceIte,Int.reduceLT,Int.reduceLE,Int.reduceAdd,Int.reduceSub,Int.reduceNeg,Int.reduceEq,Int.reduceBEq,Int.reduceBNe,Int.reduceToNat,Nat.reduceDiv,Nat.reduceMod,rowsF_length,rowsS_length,sd_nil,sd_cons,hm]
    refine ev_call hv (retW0 rfl rfl rfl rfl) ?_
    simp only [f5,go_sem,cfg,Nat.reduceLeDiff,Nat.reduceLT,Nat.reduceAdd,Nat.reduceSub,Nat.reduceMul,Nat.reduceBEq,Nat.reduceBNe,Nat.reduceEqDiff,reduceCtorEq,reduceIte,Int.reduceLT,Int.reduceLE,Int.reduceAdd,Int.reduceSub,Int.reduceNeg,Int.reduceEq,Int.reduceBEq,Int.reduceBNe,Int.reduceToNat,Nat.reduceDiv,Nat.reduceMod,rowsF_length,rowsS_length,sd_nil,sd_cons,optD_none,optD_some,hm]
    first | exact fin0 (.inr rfl) rfl rfl rfl rfl | trace_state
  | cons z zs =>
    rw [sd_cons] at he
    simp only [f5,go_sem,cfg,Nat.reduceLeDiff,Nat.reduceLT,Nat.reduceAdd,Nat.reduceSub,Nat.reduceMul,Nat.reduceBEq,Nat.reduceBNe,Nat.reduceEqDiff,reduceCtorEq,reduceIte,Int.reduceLT,Int.reduceLE,Int.reduceAdd,Int.reduceSub,Int.reduceNeg,Int.reduceEq,Int.reduceBEq,Int.reduceBNe,Int.reduceToNat,Nat.reduceDiv,Nat.reduceMod,rowsF_length,rowsS_length,sd_nil,sd_cons,hm]
    refine ev_call hok (retW0 rfl rfl rfl rfl) ?_
    simp only [f5,go_sem,cfg,Nat.reduceLeDiff,Nat.reduceLT,Nat.reduceAdd,Nat.reduceSub,Nat.reduceMul,Nat.reduceBEq,Nat.reduceBNe,Nat.reduceEqDiff,reduceCtorEq,reduceIte,Int.reduceLT,Int.reduceLE,Int.reduceAdd,Int.reduceSub,Int.reduceNeg,Int.reduceEq,Int.reduceBEq,Int.reduceBNe,Int.reduceToNat,Nat.reduceDiv,Nat.reduceMod,rowsF_length,rowsS_length,sd_nil,sd_cons,hm]
    refine ev_call he (retW0 rfl rfl rfl rfl) ?_
    simp only [f5,go_sem,cfg,Nat.reduceLeDiff,Nat.reduceLT,Nat.reduceAdd,Nat.reduceSub,Nat.reduceMul,Nat.reduceBEq,Nat.reduceBNe,Nat.reduceEqDiff,reduceCtorEq,reduceIte,Int.reduceLT,Int.reduceLE,Int.reduceAdd,Int.reduceSub,Int.reduceNeg,Int.reduceEq,Int.reduceBEq,Int.reduceBNe,Int.reduceToNat,Nat.reduceDiv,Nat.reduceMod,rowsF_length,rowsS_length,sd_nil,sd_cons,hm]
    refine ev_call hv (retW0 rfl rfl rfl rfl) ?_
    simp only [f5,go_sem,cfg,Nat.reduceLeDiff,Nat.reduceLT,Nat.reduceAdd,Nat.reduceSub,Nat.reduceMul,Nat.reduceBEq,Nat.reduceBNe,Nat.reduceEqDiff,reduceCtorEq,reduceIte,Int.reduceLT,Int.reduceLE,Int.reduceAdd,Int.reduceSub,Int.reduceNeg,Int.reduceEq,Int.reduceBEq,Int.reduceBNe,Int.reduceToNat,Nat.reduceDiv,Nat.reduceMod,rowsF_length,rowsS_length,sd_nil,sd_cons,optD_none,optD_some,hm]
    first | exact fin0 (.inr rfl) rfl rfl rfl rfl | trace_state
theorem c5d (me ta : List UInt8) (st : Int) (re : List UInt8) (ba : Bool) (l : List Fld) (bo : List UInt8) (name : List UInt8) (h1 : me.length ≤ 9223372036854775807) (h2 : ta.length ≤ 9223372036854775807) (h3 : re.length ≤ 9223372036854775807) (h4 : bo.length ≤ 9223372036854775807) (hl : Small l) (hn : name.length ≤ 9223372036854775807) (h : msgB me ta st re ba l bo = true) (hm : (me == []) = true) (x : List Fld) (ha : addB (e2eB l) name = some x) (hx : Small x) (hx0 : ((x.length : Int) == 0) = false) (hy : msgB me ta st re ba x bo = false) : Sem prog 5 ⟨[.agg [.v (vS me),.v (vS ta),.v (vI st),.v (vS re),.v (vB ba),.imm 51 (rowsF l),.v (vS bo)],.v (vS name)],[none,none]⟩ ⟨[.dead,.dead,.tup [msgZ,.v (vB false)]],[none,none]⟩ := by
  refine sem_fin (cfg := cfg 2) (ts := [.ce 4 28,.tm 5]) tbOk func5 rfl rfl rfl rfl (fun t h => by cases h) ?_
  have hok := c12 me ta st re ba l bo h1 h2 h3 h4 hl
  rw [h] at hok
  have he := c14 l hl
  have hse := small_e2e hl
  have hv := c13 (e2eB l) hse name hn
  rw [ha,optD_some] at hv
  generalize rowsF (e2eB l) = E at he hv
  have h12x := c12 me ta st re ba x bo h1 h2 h3 h4 hx
  rw [hy] at h12x
  have hx9 := hx.1
  cases E with
  | nil =>
    rw [sd_nil] at he
    simp only [f5,go_sem,cfg,Nat.reduceLeDiff,Nat.reduceLT,Nat.reduceAdd,Nat.reduceSub,Nat.reduceMul,Nat.reduceBEq,Nat.reduceBNe,Nat.reduceEqDiff,reduceCtorEq,reduceIte,Int.reduceLT,Int.reduceLE,Int.reduceAdd,Int.reduceSub,Int.reduceNeg,Int.reduceEq,Int.reduceBEq,Int.reduceBNe,Int.reduceToNat,Nat.reduceDiv,Nat.reduceMod,rowsF_length,rowsS_length,sd_nil,sd_cons,hm,hx0,hx.1]
    refine ev_call hok (retW0 rfl rfl rfl rfl) ?_
    simp only [f5,go_sem,cfg,Nat.reduceLeDiff,Nat.reduceLT,Nat.reduceAdd,Nat.reduceSub,Nat.reduceMul,Nat.reduceBEq,Nat.reduceBNe,Nat.reduceEqDiff,reduceCtorEq,reduceIte,Int.reduceLT,Int.reduceLE,Int.reduceAdd,Int.reduceSub,Int.reduceNeg,Int.reduceEq,Int.reduceBEq,Int.reduceBNe,Int.reduceToNat,Nat.reduceDiv,Nat.reduceMod,rowsF_length,rowsS_length,sd_nil,sd_cons,hm,hx0,hx.1]
    refine ev_call he (retW0 rfl rfl rfl rfl) ?_
    simp only [f5,go_sem,cfg,Nat.reduceLeDiff,Nat.reduceLT,Nat.reduceAdd,Nat.reduceSub,Nat.reduceMul,Nat.reduceBEq,Nat.reduceBNe,Nat.reduceEqDiff,reduceCtorEq,reduceIte,Int.reduceLT,Int.reduceLE,Int.reduceAdd,Int.reduceSub,Int.reduceNeg,Int.reduceEq,Int.reduceBEq,Int.reduceBNe,Int.reduceToNat,Nat.reduceDiv,Nat.reduceMod,rowsF_length,rowsS_length,sd_nil,sd_cons,hm,hx0,hx.1]
    refine ev_call hv (retW0 rfl rfl rfl rfl) ?_
    simp only [f5,go_sem,cfg,Nat.reduceLeDiff,Nat.reduceLT,Nat.reduceAdd,Nat.reduceSub,Nat.reduceMul,Nat.reduceBEq,Nat.reduceBNe,Nat.reduceEqDiff,reduceCtorEq,reduceIte,Int.reduceLT,Int.reduceLE,Int.reduceAdd,Int.reduceSub,Int.reduceNeg,Int.reduceEq,Int.reduceBEq,Int.reduceBNe,Int.reduceToNat,Nat.reduceDiv,Nat.reduceMod,rowsF_length,rowsS_length,sd_nil,sd_cons,optD_none,optD_some,hm,hx0,hx.1]
    try (with_reducible intro hlen)
    try simp only [f5,go_sem,cfg,Nat.reduceLeDiff,Nat.reduceLT,Nat.reduceAdd,Nat.reduceSub,Nat.reduceMul,Nat.reduceBEq,Nat.reduceBNe,Nat.reduceEqDiff,reduceCtorEq,reduceIte,Int.reduceLT,Int.reduceLE,Int.reduceAdd,Int.reduceSub,Int.reduceNeg,Int.reduceEq,Int.reduceBEq,Int.reduceBNe,Int.reduceToNat,Nat.reduceDiv,Nat.reduceMod,rowsF_length,rowsS_length,sd_nil,sd_cons,hm,hx0]
    refine ev_call h12x (retW0 rfl rfl rfl rfl) ?_
    simp only [f5,go_sem,cfg,Nat.reduceLeDiff,Nat.reduceLT,Nat.reduceAdd,Nat.reduceSub,Nat.reduceMul,Nat.reduceBEq,Nat.reduceBNe,Nat.reduceEqDiff,reduceCtorEq,reduceIte,Int.reduceLT,Int.reduceLE,Int.reduceAdd,Int.reduceSub,Int.reduceNeg,Int.reduceEq,Int.reduceBEq,Int.reduceBNe,Int.reduceToNat,Nat.reduceDiv,Nat.reduceMod,rowsF_length,rowsS_length,sd_nil,sd_cons,hm,hx0]
    first | exact fin0 (.inr rfl) rfl rfl rfl rfl | trace_state
  | cons z zs =>
    rw [sd_cons] at he
    simp only [f5,go_sem,cfg,Nat.reduceLeDiff,Nat.reduceLT,Nat.reduceAdd,Nat.reduceSub,Nat.reduceMul,Nat.reduceBEq,Nat.reduceBNe,Nat.reduceEqDiff,reduceCtorEq,reduceIte,Int.reduceLT,Int.reduceLE,Int.reduceAdd,Int.reduceSub,Int.reduceNeg,Int.reduceEq,Int.reduceBEq,Int.reduceBNe,Int.reduceToNat,Nat.reduceDiv,Nat.reduceMod,rowsF_length,rowsS_length,sd_nil,sd_cons,hm,hx0,hx.1]
    refine ev_call hok (retW0 rfl rfl rfl rfl) ?_
    simp only [f5,go_sem,cfg,Nat.reduceLeDiff,Nat.reduceLT,Nat.reduceAdd,Nat.reduceSub,Nat.reduceMul,Nat.reduceBEq,Nat.reduceBNe,Nat.reduceEqDiff,reduceCtorEq,reduceIte,Int.reduceLT,Int.reduceLE,Int.reduceAdd,Int.reduceSub,Int.reduceNeg,Int.reduceEq,Int.reduceBEq,Int.reduceBNe,Int.reduceToNat,Nat.reduceDiv,Nat.reduceMod,rowsF_length,rowsS_length,sd_nil,sd_cons,hm,hx0,hx.1]
    refine ev_call he (retW0 rfl rfl rfl rfl) ?_
    simp only [f5,go_sem,cfg,Nat.reduceLeDiff,Nat.reduceLT,Nat.reduceAdd,Nat.reduceSub,Nat.reduceMul,Nat.reduceBEq,Nat.reduceBNe,Nat.reduceEqDiff,reduceCtorEq,reduceIte,Int.reduceLT,Int.reduceLE,Int.reduceAdd,Int.reduceSub,Int.reduceNeg,Int.reduceEq,Int.reduceBEq,Int.reduceBNe,Int.reduceToNat,Nat.reduceDiv,Nat.reduceMod,rowsF_length,rowsS_length,sd_nil,sd_cons,hm,hx0,hx.1]
    refine ev_call hv (retW0 rfl rfl rfl rfl) ?_
    simp only [f5,go_sem,cfg,Nat.reduceLeDiff,Nat.reduceLT,Nat.reduceAdd,Nat.reduceSub,Nat.reduceMul,Nat.reduceBEq,Nat.reduceBNe,Nat.reduceEqDiff,reduceCtorEq,reduceIte,Int.reduceLT,Int.reduceLE,Int.reduceAdd,Int.reduceSub,Int.reduceNeg,Int.reduceEq,Int.reduceBEq,Int.reduceBNe,Int.reduceToNat,Nat.reduceDiv,Nat.reduceMod,rowsF_length,rowsS_length,sd_nil,sd_cons,optD_none,optD_some,hm,hx0,hx.1]
    try (with_reducible intro hlen)
    try simp only [f5,go_sem,cfg,Nat.reduceLeDiff,Nat.reduceLT,Nat.reduceAdd,Nat.reduceSub,Nat.reduceMul,Nat.reduceBEq,Nat.reduceBNe,Nat.reduceEqDiff,reduceCtorEq,reduceIte,Int.reduceLT,Int.reduceLE,Int.reduceAdd,Int.reduceSub,Int.reduceNeg,Int.reduceEq,Int.reduceBEq,Int.reduceBNe,Int.reduceToNat,Nat.reduceDiv,Nat.reduceMod,rowsF_length,rowsS_length,sd_nil,sd_cons,hm,hx0]
    refine ev_call h12x (retW0 rfl rfl rfl rfl) ?_
    simp only [f5,go_sem,cfg,Nat.reduceLeDiff,Nat.reduceLT,Nat.reduceAdd,Nat.reduceSub,Nat.reduceMul,Nat.reduceBEq,Nat.reduceBNe,Nat.reduceEqDiff,reduceCtorEq,reduceIte,Int.reduceLT,Int.reduceLE,Int.reduceAdd,Int.reduceSub,Int.reduceNeg,Int.reduceEq,Int.reduceBEq,Int.reduceBNe,Int.reduceToNat,Nat.reduceDiv,Nat.reduceMod,rowsF_length,rowsS_length,sd_nil,sd_cons,hm,hx0]
    first | exact fin0 (.inr rfl) rfl rfl rfl rfl | trace_state
theorem c5e (me ta : List UInt8) (st : Int) (re : List UInt8) (ba : Bool) (l : List Fld) (bo : List UInt8) (name : List UInt8) (h1 : me.length ≤ 9223372036854775807) (h2 : ta.length ≤ 9223372036854775807) (h3 : re.length ≤ 9223372036854775807) (h4 : bo.length ≤ 9223372036854775807) (hl : Small l) (hn : name.length ≤ 9223372036854775807) (h : msgB me ta st re ba l bo = true) (hm : (me == []) = true) (x : List Fld) (ha : addB (e2eB l) name = some x) (hx : Small x) (hx0 : ((x.length : Int) == 0) = false) (hy : msgB me ta st re ba x bo = true) : Sem prog 5 ⟨[.agg [.v (vS me),.v (vS ta),.v (vI st),.v (vS re),.v (vB ba),.imm 51 (rowsF l),.v (vS bo)],.v (vS name)],[none,none]⟩ ⟨[.dead,.dead,.tup [.agg [.v (vS me),.v (vS ta),.v (vI st),.v (vS re),.v (vB ba),.own 51 (rowsF x),.v (vS bo)],.v (vB true)]],[none,none]⟩ := by
  refine sem_fin (cfg := cfg 2) (ts := [.ce 4 28,.tm 5]) tbOk func5 rfl rfl rfl rfl (fun t h => by cases h) ?_
  have hok := c12 me ta st re ba l bo h1 h2 h3 h4 hl
  rw [h] at hok
  have he := c14 l hl
  have hse := small_e2e hl
  have hv := c13 (e2eB l) hse name hn
  rw [ha,optD_some] at hv
  generalize rowsF (e2eB l) = E at he hv
  have h12x := c12 me ta st re ba x bo h1 h2 h3 h4 hx
  rw [hy] at h12x
  have hx9 := hx.1
  cases E with
  | nil =>
    rw [sd_nil] at he
    simp only [f5,go_sem,cfg,Nat.reduceLeDiff,Nat.reduceLT,Nat.reduceAdd,Nat.reduceSub,Nat.reduceMul,Nat.reduceBEq,Nat.reduceBNe,Nat.reduceEqDiff,reduceCtorEq,reduceIte,Int.reduceLT,Int.reduceLE,Int.reduceAdd,Int.reduceSub,Int.reduceNeg,Int.reduceEq,Int.reduceBEq,Int.reduceBNe,Int.reduceToNat,Nat.reduceDiv,Nat.reduceMod,rowsF_length,rowsS_length,sd_nil,sd_cons,hm,hx0,hx.1]
    refine ev_call hok (retW0 rfl rfl rfl rfl) ?_
    simp only [f5,go_sem,cfg,Nat.reduceLeDiff,Nat.reduceLT,Nat.reduceAdd,Nat.reduceSub,Nat.reduceMul,Nat.reduceBEq,Nat.reduceBNe,Nat.reduceEqDiff,reduceCtorEq,reduceIte,Int.reduceLT,Int.reduceLE,Int.reduceAdd,Int.reduceSub,Int.reduceNeg,Int.reduceEq,Int.reduceBEq,Int.reduceBNe,Int.reduceToNat,Nat.reduceDiv,Nat.reduceMod,rowsF_length,rowsS_length,sd_nil,sd_cons,hm,hx0,hx.1]
    refine ev_call he (retW0 rfl rfl rfl rfl) ?_
    simp only [f5,go_sem,cfg,Nat.reduceLeDiff,Nat.reduceLT,Nat.reduceAdd,Nat.reduceSub,Nat.reduceMul,Nat.reduceBEq,Nat.reduceBNe,Nat.reduceEqDiff,reduceCtorEq,reduceIte,Int.reduceLT,Int.reduceLE,Int.reduceAdd,Int.reduceSub,Int.reduceNeg,Int.reduceEq,Int.reduceBEq,Int.reduceBNe,Int.reduceToNat,Nat.reduceDiv,Nat.reduceMod,rowsF_length,rowsS_length,sd_nil,sd_cons,hm,hx0,hx.1]
    refine ev_call hv (retW0 rfl rfl rfl rfl) ?_
    simp only [f5,go_sem,cfg,Nat.reduceLeDiff,Nat.reduceLT,Nat.reduceAdd,Nat.reduceSub,Nat.reduceMul,Nat.reduceBEq,Nat.reduceBNe,Nat.reduceEqDiff,reduceCtorEq,reduceIte,Int.reduceLT,Int.reduceLE,Int.reduceAdd,Int.reduceSub,Int.reduceNeg,Int.reduceEq,Int.reduceBEq,Int.reduceBNe,Int.reduceToNat,Nat.reduceDiv,Nat.reduceMod,rowsF_length,rowsS_length,sd_nil,sd_cons,optD_none,optD_some,hm,hx0,hx.1]
    try (with_reducible intro hlen)
    try simp only [f5,go_sem,cfg,Nat.reduceLeDiff,Nat.reduceLT,Nat.reduceAdd,Nat.reduceSub,Nat.reduceMul,Nat.reduceBEq,Nat.reduceBNe,Nat.reduceEqDiff,reduceCtorEq,reduceIte,Int.reduceLT,Int.reduceLE,Int.reduceAdd,Int.reduceSub,Int.reduceNeg,Int.reduceEq,Int.reduceBEq,Int.reduceBNe,Int.reduceToNat,Nat.reduceDiv,Nat.reduceMod,rowsF_length,rowsS_length,sd_nil,sd_cons,hm,hx0]
    refine ev_call h12x (retW0 rfl rfl rfl rfl) ?_
    simp only [f5,go_sem,cfg,Nat.reduceLeDiff,Nat.reduceLT,Nat.reduceAdd,Nat.reduceSub,Nat.reduceMul,Nat.reduceBEq,Nat.reduceBNe,Nat.reduceEqDiff,reduceCtorEq,reduceIte,Int.reduceLT,Int.reduceLE,Int.reduceAdd,Int.reduceSub,Int.reduceNeg,Int.reduceEq,Int.reduceBEq,Int.reduceBNe,Int.reduceToNat,Nat.reduceDiv,Nat.reduceMod,rowsF_length,rowsS_length,sd_nil,sd_cons,hm,hx0]
    first | exact fin0 (.inr rfl) rfl rfl rfl rfl | trace_state
  | cons z zs =>
    rw [sd_cons] at he
    simp only [f5,go_sem,cfg,Nat.reduceLeDiff,Nat.reduceLT,Nat.reduceAdd,Nat.reduceSub,Nat.reduceMul,Nat.reduceBEq,Nat.reduceBNe,Nat.reduceEqDiff,reduceCtorEq,reduceIte,Int.reduceLT,Int.reduceLE,Int.reduceAdd,Int.reduceSub,Int.reduceNeg,Int.reduceEq,Int.reduceBEq,Int.reduceBNe,Int.reduceToNat,Nat.reduceDiv,Nat.reduceMod,rowsF_length,rowsS_length,sd_nil,sd_cons,hm,hx0,hx.1]
    refine ev_call hok (retW0 rfl rfl rfl rfl) ?_
    simp only [f5,go_sem,cfg,Nat.reduceLeDiff,Nat.reduceLT,Nat.reduceAdd,Nat.reduceSub,Nat.reduceMul,Nat.reduceBEq,Nat.reduceBNe,Nat.reduceEqDiff,reduceCtorEq,reduceIte,Int.reduceLT,Int.reduceLE,Int.reduceAdd,Int.reduceSub,Int.reduceNeg,Int.reduceEq,Int.reduceBEq,Int.reduceBNe,Int.reduceToNat,Nat.reduceDiv,Nat.reduceMod,rowsF_length,rowsS_length,sd_nil,sd_cons,hm,hx0,hx.1]
    refine ev_call he (retW0 rfl rfl rfl rfl) ?_
    simp only [f5,go_sem,cfg,Nat.reduceLeDiff,Nat.reduceLT,Nat.reduceAdd,Nat.reduceSub,Nat.reduceMul,Nat.reduceBEq,Nat.reduceBNe,Nat.reduceEqDiff,reduceCtorEq,reduceIte,Int.reduceLT,Int.reduceLE,Int.reduceAdd,Int.reduceSub,Int.reduceNeg,Int.reduceEq,Int.reduceBEq,Int.reduceBNe,Int.reduceToNat,Nat.reduceDiv,Nat.reduceMod,rowsF_length,rowsS_length,sd_nil,sd_cons,hm,hx0,hx.1]
    refine ev_call hv (retW0 rfl rfl rfl rfl) ?_
    simp only [f5,go_sem,cfg,Nat.reduceLeDiff,Nat.reduceLT,Nat.reduceAdd,Nat.reduceSub,Nat.reduceMul,Nat.reduceBEq,Nat.reduceBNe,Nat.reduceEqDiff,reduceCtorEq,reduceIte,Int.reduceLT,Int.reduceLE,Int.reduceAdd,Int.reduceSub,Int.reduceNeg,Int.reduceEq,Int.reduceBEq,Int.reduceBNe,Int.reduceToNat,Nat.reduceDiv,Nat.reduceMod,rowsF_length,rowsS_length,sd_nil,sd_cons,optD_none,optD_some,hm,hx0,hx.1]
    try (with_reducible intro hlen)
    try simp only [f5,go_sem,cfg,Nat.reduceLeDiff,Nat.reduceLT,Nat.reduceAdd,Nat.reduceSub,Nat.reduceMul,Nat.reduceBEq,Nat.reduceBNe,Nat.reduceEqDiff,reduceCtorEq,reduceIte,Int.reduceLT,Int.reduceLE,Int.reduceAdd,Int.reduceSub,Int.reduceNeg,Int.reduceEq,Int.reduceBEq,Int.reduceBNe,Int.reduceToNat,Nat.reduceDiv,Nat.reduceMod,rowsF_length,rowsS_length,sd_nil,sd_cons,hm,hx0]
    refine ev_call h12x (retW0 rfl rfl rfl rfl) ?_
    simp only [f5,go_sem,cfg,Nat.reduceLeDiff,Nat.reduceLT,Nat.reduceAdd,Nat.reduceSub,Nat.reduceMul,Nat.reduceBEq,Nat.reduceBNe,Nat.reduceEqDiff,reduceCtorEq,reduceIte,Int.reduceLT,Int.reduceLE,Int.reduceAdd,Int.reduceSub,Int.reduceNeg,Int.reduceEq,Int.reduceBEq,Int.reduceBNe,Int.reduceToNat,Nat.reduceDiv,Nat.reduceMod,rowsF_length,rowsS_length,sd_nil,sd_cons,hm,hx0]
    first | exact fin0 (.inr rfl) rfl rfl rfl rfl | trace_state
theorem c5 (me ta : List UInt8) (st : Int) (re : List UInt8) (ba : Bool) (l : List Fld) (bo : List UInt8) (name : List UInt8) (h1 : me.length ≤ 9223372036854775807) (h2 : ta.length ≤ 9223372036854775807) (h3 : re.length ≤ 9223372036854775807) (h4 : bo.length ≤ 9223372036854775807) (hl : Small l) (hn : name.length ≤ 9223372036854775807) : Sem prog 5 ⟨[.agg [.v (vS me),.v (vS ta),.v (vI st),.v (vS re),.v (vB ba),.imm 51 (rowsF l),.v (vS bo)],.v (vS name)],[none,none]⟩ ⟨[.dead,.dead,resM me ta st re ba bo (delB me ta st re ba l bo name)],[none,none]⟩ := by
  cases h : msgB me ta st re ba l bo
  · have hz : delB me ta st re ba l bo name = none := by unfold delB; rw [h]; rfl
    rw [hz]; exact c5a me ta st re ba l bo name h1 h2 h3 h4 hl hn h
  cases hm : me == []
  · have hz : delB me ta st re ba l bo name = none := by unfold delB; rw [h,hm]; rfl
    rw [hz]; exact c5b me ta st re ba l bo name h1 h2 h3 h4 hl hn h hm
  cases ha : addB (e2eB l) name with
  | none =>
    have hz : delB me ta st re ba l bo name = none := by unfold delB; rw [h,hm,ha]; rfl
    rw [hz]; exact c5c me ta st re ba l bo name h1 h2 h3 h4 hl hn h hm ha
  | some x =>
    obtain ⟨hx,hx0,_⟩ := addB_some (small_e2e hl) ha
    have hx0 : ((x.length : Int) == 0) = false := by rw [beq_eq_false_iff_ne]; omega
    cases hy : msgB me ta st re ba x bo
    · have hz : delB me ta st re ba l bo name = none := by unfold delB; rw [h,hm,ha]; simp [hy]
      rw [hz]; exact c5d me ta st re ba l bo name h1 h2 h3 h4 hl hn h hm x ha hx hx0 hy
    · have hz : delB me ta st re ba l bo name = some x := by unfold delB; rw [h,hm,ha]; simp [hy]
      rw [hz]; exact c5e me ta st re ba l bo name h1 h2 h3 h4 hl hn h hm x ha hx hx0 hy
theorem c7a (h44 : H44) (me ta : List UInt8) (st : Int) (re : List UInt8) (ba : Bool) (l : List Fld) (bo : List UInt8) (name : List UInt8) (h1 : me.length ≤ 9223372036854775807) (h2 : ta.length ≤ 9223372036854775807) (h3 : re.length ≤ 9223372036854775807) (h4 : bo.length ≤ 9223372036854775807) (hl : Small l) (hn : name.length ≤ 9223372036854775807) (h : msgB me ta st re ba l bo = false) : Sem prog 7 ⟨[.agg [.v (vS me),.v (vS ta),.v (vI st),.v (vS re),.v (vB ba),.imm 51 (rowsF l),.v (vS bo)],.v (vS name)],[none,none]⟩ ⟨[.dead,.dead,.tup [msgZ,.v (vB false)]],[none,none]⟩ := by
  refine sem_fin (cfg := cfg 2) (ts := [.ce 4 28,.tm 5]) tbOk func7 rfl rfl rfl rfl (fun t h => by cases h) ?_
  have hok := c16 h44 me ta st re ba l bo h1 h2 h3 h4 hl
  rw [h] at hok
  simp only [f7,go_sem,cfg,Nat.reduceLeDiff,Nat.reduceLT,Nat.reduceAdd,Nat.reduceSub,Nat.reduceMul,Nat.reduceBEq,Nat.reduceBNe,Nat.reduceEqDiff,reduceCtorEq,reduceIte,Int.reduceLT,Int.reduceLE,Int.reduceAdd,Int.reduceSub,Int.reduceNeg,Int.reduceEq,Int.reduceBEq,Int.reduceBNe,Int.reduceToNat,Nat.reduceDiv,Nat.reduceMod,rowsF_length,rowsS_length,sd_nil,sd_cons]
  refine ev_call hok (retW0 rfl rfl rfl rfl) ?_
  simp only [f7,go_sem,cfg,Nat.reduceLeDiff,Nat.reduceLT,Nat.reduceAdd,Nat.reduceSub,Nat.reduceMul,Nat.reduceBEq,Nat.reduceBNe,Nat.reduceEqDiff,reduceCtorEq,reduceIte,Int.reduceLT,Int.reduceLE,Int.reduceAdd,Int.reduceSub,Int.reduceNeg,Int.reduceEq,Int.reduceBEq,Int.reduceBNe,Int.reduceToNat,Nat.reduceDiv,Nat.reduceMod,rowsF_length,rowsS_length,sd_nil,sd_cons]
  first | exact fin0 (.inr rfl) rfl rfl rfl rfl | trace_state
theorem c7b (h44 : H44) (me ta : List UInt8) (st : Int) (re : List UInt8) (ba : Bool) (l : List Fld) (bo : List UInt8) (name : List UInt8) (h1 : me.length ≤ 9223372036854775807) (h2 : ta.length ≤ 9223372036854775807) (h3 : re.length ≤ 9223372036854775807) (h4 : bo.length ≤ 9223372036854775807) (hl : Small l) (hn : name.length ≤ 9223372036854775807) (h : msgB me ta st re ba l bo = true) (hm : (me == []) = false) : Sem prog 7 ⟨[.agg [.v (vS me),.v (vS ta),.v (vI st),.v (vS re),.v (vB ba),.imm 51 (rowsF l),.v (vS bo)],.v (vS name)],[none,none]⟩ ⟨[.dead,.dead,.tup [msgZ,.v (vB false)]],[none,none]⟩ := by
  refine sem_fin (cfg := cfg 2) (ts := [.ce 4 28,.tm 5]) tbOk func7 rfl rfl rfl rfl (fun t h => by cases h) ?_
  have hok := c16 h44 me ta st re ba l bo h1 h2 h3 h4 hl
  rw [h] at hok
  simp only [f7,go_sem,cfg,Nat.reduceLeDiff,Nat.reduceLT,Nat.reduceAdd,Nat.reduceSub,Nat.reduceMul,Nat.reduceBEq,Nat.reduceBNe,Nat.reduceEqDiff,reduceCtorEq,reduceIte,Int.reduceLT,Int.reduceLE,Int.reduceAdd,Int.reduceSub,Int.reduceNeg,Int.reduceEq,Int.reduceBEq,Int.reduceBNe,Int.reduceToNat,Nat.reduceDiv,Nat.reduceMod,rowsF_length,rowsS_length,sd_nil,sd_cons]
  refine ev_call hok (retW0 rfl rfl rfl rfl) ?_
  simp only [f7,go_sem,cfg,Nat.reduceLeDiff,Nat.reduceLT,Nat.reduceAdd,Nat.reduceSub,Nat.reduceMul,Nat.reduceBEq,Nat.reduceBNe,Nat.reduceEqDiff,reduceCtorEq,reduceIte,Int.reduceLT,Int.reduceLE,Int.reduceAdd,Int.reduceSub,Int.reduceNeg,Int.reduceEq,Int.reduceBEq,Int.reduceBNe,Int.reduceToNat,Nat.reduceDiv,Nat.reduceMod,rowsF_length,rowsS_length,sd_nil,sd_cons,hm]
  first | exact fin0 (.inr rfl) rfl rfl rfl rfl | trace_state
theorem c7c (h44 : H44) (me ta : List UInt8) (st : Int) (re : List UInt8) (ba : Bool) (l : List Fld) (bo : List UInt8) (name : List UInt8) (h1 : me.length ≤ 9223372036854775807) (h2 : ta.length ≤ 9223372036854775807) (h3 : re.length ≤ 9223372036854775807) (h4 : bo.length ≤ 9223372036854775807) (hl : Small l) (hn : name.length ≤ 9223372036854775807) (h : msgB me ta st re ba l bo = true) (hm : (me == []) = true) (ha : addB (e2eB l) name = none) : Sem prog 7 ⟨[.agg [.v (vS me),.v (vS ta),.v (vI st),.v (vS re),.v (vB ba),.imm 51 (rowsF l),.v (vS bo)],.v (vS name)],[none,none]⟩ ⟨[.dead,.dead,.tup [msgZ,.v (vB false)]],[none,none]⟩ := by
  refine sem_fin (cfg := cfg 2) (ts := [.ce 4 28,.tm 5]) tbOk func7 rfl rfl rfl rfl (fun t h => by cases h) ?_
  have hok := c16 h44 me ta st re ba l bo h1 h2 h3 h4 hl
  rw [h] at hok
  have he := c18 l hl
  have hse := small_e2e hl
  have hv := c17 (e2eB l) hse name hn
  rw [ha,optD_none] at hv
  generalize rowsF (e2eB l) = E at he hv
  cases E with
  | nil =>
    rw [sd_nil] at he
    simp only [f7,go_sem,cfg,Nat.reduceLeDiff,Nat.reduceLT,Nat.reduceAdd,Nat.reduceSub,Nat.reduceMul,Nat.reduceBEq,Nat.reduceBNe,Nat.reduceEqDiff,reduceCtorEq,reduceIte,Int.reduceLT,Int.reduceLE,Int.reduceAdd,Int.reduceSub,Int.reduceNeg,Int.reduceEq,Int.reduceBEq,Int.reduceBNe,Int.reduceToNat,Nat.reduceDiv,Nat.reduceMod,rowsF_length,rowsS_length,sd_nil,sd_cons,hm]
    refine ev_call hok (retW0 rfl rfl rfl rfl) ?_
    simp only [f7,go_sem,cfg,Nat.reduceLeDiff,Nat.reduceLT,Nat.reduceAdd,Nat.reduceSub,Nat.reduceMul,Nat.reduceBEq,Nat.reduceBNe,Nat.reduceEqDiff,reduceCtorEq,reduceIte,Int.reduceLT,Int.reduceLE,Int.reduceAdd,Int.reduceSub,Int.reduceNeg,Int.reduceEq,Int.reduceBEq,Int.reduceBNe,Int.reduceToNat,Nat.reduceDiv,Nat.reduceMod,rowsF_length,rowsS_length,sd_nil,sd_cons,hm]
    refine ev_call he (retW0 rfl rfl rfl rfl) ?_
    simp only [f7,go_sem,cfg,Nat.reduceLeDiff,Nat.reduceLT,Nat.reduceAdd,Nat.reduceSub,Nat.reduceMul,Nat.reduceBEq,Nat.reduceBNe,Nat.reduceEqDiff,reduceCtorEq,reduceIte,Int.reduceLT,Int.reduceLE,Int.reduceAdd,Int.reduceSub,Int.reduceNeg,Int.reduceEq,Int.reduceBEq,Int.reduceBNe,Int.reduceToNat,Nat.reduceDiv,Nat.reduceMod,rowsF_length,rowsS_length,sd_nil,sd_cons,hm]
    refine ev_call hv (retW0 rfl rfl rfl rfl) ?_
    simp only [f7,go_sem,cfg,Nat.reduceLeDiff,Nat.reduceLT,Nat.reduceAdd,Nat.reduceSub,Nat.reduceMul,Nat.reduceBEq,Nat.reduceBNe,Nat.reduceEqDiff,reduceCtorEq,reduceIte,Int.reduceLT,Int.reduceLE,Int.reduceAdd,Int.reduceSub,Int.reduceNeg,Int.reduceEq,Int.reduceBEq,Int.reduceBNe,Int.reduceToNat,Nat.reduceDiv,Nat.reduceMod,rowsF_length,rowsS_length,sd_nil,sd_cons,optD_none,optD_some,hm]
    first | exact fin0 (.inr rfl) rfl rfl rfl rfl | trace_state
  | cons z zs =>
    rw [sd_cons] at he
    simp only [f7,go_sem,cfg,Nat.reduceLeDiff,Nat.reduceLT,Nat.reduceAdd,Nat.reduceSub,Nat.reduceMul,Nat.reduceBEq,Nat.reduceBNe,Nat.reduceEqDiff,reduceCtorEq,reduceIte,Int.reduceLT,Int.reduceLE,Int.reduceAdd,Int.reduceSub,Int.reduceNeg,Int.reduceEq,Int.reduceBEq,Int.reduceBNe,Int.reduceToNat,Nat.reduceDiv,Nat.reduceMod,rowsF_length,rowsS_length,sd_nil,sd_cons,hm]
    refine ev_call hok (retW0 rfl rfl rfl rfl) ?_
    simp only [f7,go_sem,cfg,Nat.reduceLeDiff,Nat.reduceLT,Nat.reduceAdd,Nat.reduceSub,Nat.reduceMul,Nat.reduceBEq,Nat.reduceBNe,Nat.reduceEqDiff,reduceCtorEq,reduceIte,Int.reduceLT,Int.reduceLE,Int.reduceAdd,Int.reduceSub,Int.reduceNeg,Int.reduceEq,Int.reduceBEq,Int.reduceBNe,Int.reduceToNat,Nat.reduceDiv,Nat.reduceMod,rowsF_length,rowsS_length,sd_nil,sd_cons,hm]
    refine ev_call he (retW0 rfl rfl rfl rfl) ?_
    simp only [f7,go_sem,cfg,Nat.reduceLeDiff,Nat.reduceLT,Nat.reduceAdd,Nat.reduceSub,Nat.reduceMul,Nat.reduceBEq,Nat.reduceBNe,Nat.reduceEqDiff,reduceCtorEq,reduceIte,Int.reduceLT,Int.reduceLE,Int.reduceAdd,Int.reduceSub,Int.reduceNeg,Int.reduceEq,Int.reduceBEq,Int.reduceBNe,Int.reduceToNat,Nat.reduceDiv,Nat.reduceMod,rowsF_length,rowsS_length,sd_nil,sd_cons,hm]
    refine ev_call hv (retW0 rfl rfl rfl rfl) ?_
    simp only [f7,go_sem,cfg,Nat.reduceLeDiff,Nat.reduceLT,Nat.reduceAdd,Nat.reduceSub,Nat.reduceMul,Nat.reduceBEq,Nat.reduceBNe,Nat.reduceEqDiff,reduceCtorEq,reduceIte,Int.reduceLT,Int.reduceLE,Int.reduceAdd,Int.reduceSub,Int.reduceNeg,Int.reduceEq,Int.reduceBEq,Int.reduceBNe,Int.reduceToNat,Nat.reduceDiv,Nat.reduceMod,rowsF_length,rowsS_length,sd_nil,sd_cons,optD_none,optD_some,hm]
    first | exact fin0 (.inr rfl) rfl rfl rfl rfl | trace_state
theorem c7d (h44 : H44) (me ta : List UInt8) (st : Int) (re : List UInt8) (ba : Bool) (l : List Fld) (bo : List UInt8) (name : List UInt8) (h1 : me.length ≤ 9223372036854775807) (h2 : ta.length ≤ 9223372036854775807) (h3 : re.length ≤ 9223372036854775807) (h4 : bo.length ≤ 9223372036854775807) (hl : Small l) (hn : name.length ≤ 9223372036854775807) (h : msgB me ta st re ba l bo = true) (hm : (me == []) = true) (x : List Fld) (ha : addB (e2eB l) name = some x) (hx : Small x) (hx0 : ((x.length : Int) == 0) = false) (hy : msgB me ta st re ba x bo = false) : Sem prog 7 ⟨[.agg [.v (vS me),.v (vS ta),.v (vI st),.v (vS re),.v (vB ba),.imm 51 (rowsF l),.v (vS bo)],.v (vS name)],[none,none]⟩ ⟨[.dead,.dead,.tup [msgZ,.v (vB false)]],[none,none]⟩ := by
  refine sem_fin (cfg := cfg 2) (ts := [.ce 4 28,.tm 5]) tbOk func7 rfl rfl rfl rfl (fun t h => by cases h) ?_
  have hok := c16 h44 me ta st re ba l bo h1 h2 h3 h4 hl
  rw [h] at hok
  have he := c18 l hl
  have hse := small_e2e hl
  have hv := c17 (e2eB l) hse name hn
  rw [ha,optD_some] at hv
  generalize rowsF (e2eB l) = E at he hv
  have h19 := c19n h44 me ta st re ba x bo h1 h2 h3 h4 hx hy
  have hxn : rowsF x ≠ [] := fun e => by
    have h1 := congrArg List.length e
    rw [rowsF_length,List.length_nil] at h1
    rw [beq_eq_false_iff_ne] at hx0
    omega
  cases E with
  | nil =>
    rw [sd_nil] at he
    simp only [f7,go_sem,cfg,Nat.reduceLeDiff,Nat.reduceLT,Nat.reduceAdd,Nat.reduceSub,Nat.reduceMul,Nat.reduceBEq,Nat.reduceBNe,Nat.reduceEqDiff,reduceCtorEq,reduceIte,Int.reduceLT,Int.reduceLE,Int.reduceAdd,Int.reduceSub,Int.reduceNeg,Int.reduceEq,Int.reduceBEq,Int.reduceBNe,Int.reduceToNat,Nat.reduceDiv,Nat.reduceMod,rowsF_length,rowsS_length,sd_nil,sd_cons,hm,hx0,hx.1]
    refine ev_call hok (retW0 rfl rfl rfl rfl) ?_
    simp only [f7,go_sem,cfg,Nat.reduceLeDiff,Nat.reduceLT,Nat.reduceAdd,Nat.reduceSub,Nat.reduceMul,Nat.reduceBEq,Nat.reduceBNe,Nat.reduceEqDiff,reduceCtorEq,reduceIte,Int.reduceLT,Int.reduceLE,Int.reduceAdd,Int.reduceSub,Int.reduceNeg,Int.reduceEq,Int.reduceBEq,Int.reduceBNe,Int.reduceToNat,Nat.reduceDiv,Nat.reduceMod,rowsF_length,rowsS_length,sd_nil,sd_cons,hm,hx0,hx.1]
    refine ev_call he (retW0 rfl rfl rfl rfl) ?_
    simp only [f7,go_sem,cfg,Nat.reduceLeDiff,Nat.reduceLT,Nat.reduceAdd,Nat.reduceSub,Nat.reduceMul,Nat.reduceBEq,Nat.reduceBNe,Nat.reduceEqDiff,reduceCtorEq,reduceIte,Int.reduceLT,Int.reduceLE,Int.reduceAdd,Int.reduceSub,Int.reduceNeg,Int.reduceEq,Int.reduceBEq,Int.reduceBNe,Int.reduceToNat,Nat.reduceDiv,Nat.reduceMod,rowsF_length,rowsS_length,sd_nil,sd_cons,hm,hx0,hx.1]
    refine ev_call hv (retW0 rfl rfl rfl rfl) ?_
    simp only [f7,go_sem,cfg,Nat.reduceLeDiff,Nat.reduceLT,Nat.reduceAdd,Nat.reduceSub,Nat.reduceMul,Nat.reduceBEq,Nat.reduceBNe,Nat.reduceEqDiff,reduceCtorEq,reduceIte,Int.reduceLT,Int.reduceLE,Int.reduceAdd,Int.reduceSub,Int.reduceNeg,Int.reduceEq,Int.reduceBEq,Int.reduceBNe,Int.reduceToNat,Nat.reduceDiv,Nat.reduceMod,rowsF_length,rowsS_length,sd_nil,sd_cons,optD_none,optD_some,hm,hx0,hx.1]
    refine And.intro hxn ?_
    refine ev_call h19 (retWm (i := ⟨false,0,5⟩) (p := ⟨true,2,5⟩) rfl rfl rfl rfl rfl rfl) ?_
    simp only [f7,go_sem,cfg,Nat.reduceLeDiff,Nat.reduceLT,Nat.reduceAdd,Nat.reduceSub,Nat.reduceMul,Nat.reduceBEq,Nat.reduceBNe,Nat.reduceEqDiff,reduceCtorEq,reduceIte,Int.reduceLT,Int.reduceLE,Int.reduceAdd,Int.reduceSub,Int.reduceNeg,Int.reduceEq,Int.reduceBEq,Int.reduceBNe,Int.reduceToNat,Nat.reduceDiv,Nat.reduceMod,rowsF_length,rowsS_length,sd_nil,sd_cons,hm]
    first | exact fin0 (.inr rfl) rfl rfl rfl rfl | trace_state
  | cons z zs =>
    rw [sd_cons] at he
    simp only [f7,go_sem,cfg,Nat.reduceLeDiff,Nat.reduceLT,Nat.reduceAdd,Nat.reduceSub,Nat.reduceMul,Nat.reduceBEq,Nat.reduceBNe,Nat.reduceEqDiff,reduceCtorEq,reduceIte,Int.reduceLT,Int.reduceLE,Int.reduceAdd,Int.reduceSub,Int.reduceNeg,Int.reduceEq,Int.reduceBEq,Int.reduceBNe,Int.reduceToNat,Nat.reduceDiv,Nat.reduceMod,rowsF_length,rowsS_length,sd_nil,sd_cons,hm,hx0,hx.1]
    refine ev_call hok (retW0 rfl rfl rfl rfl) ?_
    simp only [f7,go_sem,cfg,Nat.reduceLeDiff,Nat.reduceLT,Nat.reduceAdd,Nat.reduceSub,Nat.reduceMul,Nat.reduceBEq,Nat.reduceBNe,Nat.reduceEqDiff,reduceCtorEq,reduceIte,Int.reduceLT,Int.reduceLE,Int.reduceAdd,Int.reduceSub,Int.reduceNeg,Int.reduceEq,Int.reduceBEq,Int.reduceBNe,Int.reduceToNat,Nat.reduceDiv,Nat.reduceMod,rowsF_length,rowsS_length,sd_nil,sd_cons,hm,hx0,hx.1]
    refine ev_call he (retW0 rfl rfl rfl rfl) ?_
    simp only [f7,go_sem,cfg,Nat.reduceLeDiff,Nat.reduceLT,Nat.reduceAdd,Nat.reduceSub,Nat.reduceMul,Nat.reduceBEq,Nat.reduceBNe,Nat.reduceEqDiff,reduceCtorEq,reduceIte,Int.reduceLT,Int.reduceLE,Int.reduceAdd,Int.reduceSub,Int.reduceNeg,Int.reduceEq,Int.reduceBEq,Int.reduceBNe,Int.reduceToNat,Nat.reduceDiv,Nat.reduceMod,rowsF_length,rowsS_length,sd_nil,sd_cons,hm,hx0,hx.1]
    refine ev_call hv (retW0 rfl rfl rfl rfl) ?_
    simp only [f7,go_sem,cfg,Nat.reduceLeDiff,Nat.reduceLT,Nat.reduceAdd,Nat.reduceSub,Nat.reduceMul,Nat.reduceBEq,Nat.reduceBNe,Nat.reduceEqDiff,reduceCtorEq,reduceIte,Int.reduceLT,Int.reduceLE,Int.reduceAdd,Int.reduceSub,Int.reduceNeg,Int.reduceEq,Int.reduceBEq,Int.reduceBNe,Int.reduceToNat,Nat.reduceDiv,Nat.reduceMod,rowsF_length,rowsS_length,sd_nil,sd_cons,optD_none,optD_some,hm,hx0,hx.1]
    refine And.intro hxn ?_
    refine ev_call h19 (retWm (i := ⟨false,0,5⟩) (p := ⟨true,2,5⟩) rfl rfl rfl rfl rfl rfl) ?_
    simp only [f7,go_sem,cfg,Nat.reduceLeDiff,Nat.reduceLT,Nat.reduceAdd,Nat.reduceSub,Nat.reduceMul,Nat.reduceBEq,Nat.reduceBNe,Nat.reduceEqDiff,reduceCtorEq,reduceIte,Int.reduceLT,Int.reduceLE,Int.reduceAdd,Int.reduceSub,Int.reduceNeg,Int.reduceEq,Int.reduceBEq,Int.reduceBNe,Int.reduceToNat,Nat.reduceDiv,Nat.reduceMod,rowsF_length,rowsS_length,sd_nil,sd_cons,hm]
    first | exact fin0 (.inr rfl) rfl rfl rfl rfl | trace_state
theorem c7e (h44 : H44) (me ta : List UInt8) (st : Int) (re : List UInt8) (ba : Bool) (l : List Fld) (bo : List UInt8) (name : List UInt8) (h1 : me.length ≤ 9223372036854775807) (h2 : ta.length ≤ 9223372036854775807) (h3 : re.length ≤ 9223372036854775807) (h4 : bo.length ≤ 9223372036854775807) (hl : Small l) (hn : name.length ≤ 9223372036854775807) (h : msgB me ta st re ba l bo = true) (hm : (me == []) = true) (x : List Fld) (ha : addB (e2eB l) name = some x) (hx : Small x) (hx0 : ((x.length : Int) == 0) = false) (hy : msgB me ta st re ba x bo = true) : Sem prog 7 ⟨[.agg [.v (vS me),.v (vS ta),.v (vI st),.v (vS re),.v (vB ba),.imm 51 (rowsF l),.v (vS bo)],.v (vS name)],[none,none]⟩ ⟨[.dead,.dead,.tup [.agg [.v (vS me),.v (vS ta),.v (vI st),.v (vS re),.v (vB ba),.own 51 (rowsF x),.v (vS bo)],.v (vB true)]],[none,none]⟩ := by
  refine sem_fin (cfg := cfg 2) (ts := [.ce 4 28,.tm 5]) tbOk func7 rfl rfl rfl rfl (fun t h => by cases h) ?_
  have hok := c16 h44 me ta st re ba l bo h1 h2 h3 h4 hl
  rw [h] at hok
  have he := c18 l hl
  have hse := small_e2e hl
  have hv := c17 (e2eB l) hse name hn
  rw [ha,optD_some] at hv
  generalize rowsF (e2eB l) = E at he hv
  have h19 := c19y h44 me ta st re ba x bo h1 h2 h3 h4 hx hy
  have hxn : rowsF x ≠ [] := fun e => by
    have h1 := congrArg List.length e
    rw [rowsF_length,List.length_nil] at h1
    rw [beq_eq_false_iff_ne] at hx0
    omega
  cases E with
  | nil =>
    rw [sd_nil] at he
    simp only [f7,go_sem,cfg,Nat.reduceLeDiff,Nat.reduceLT,Nat.reduceAdd,Nat.reduceSub,Nat.reduceMul,Nat.reduceBEq,Nat.reduceBNe,Nat.reduceEqDiff,reduceCtorEq,reduceIte,Int.reduceLT,Int.reduceLE,Int.reduceAdd,Int.reduceSub,Int.reduceNeg,Int.reduceEq,Int.reduceBEq,Int.reduceBNe,Int.reduceToNat,Nat.reduceDiv,Nat.reduceMod,rowsF_length,rowsS_length,sd_nil,sd_cons,hm,hx0,hx.1]
    refine ev_call hok (retW0 rfl rfl rfl rfl) ?_
    simp only [f7,go_sem,cfg,Nat.reduceLeDiff,Nat.reduceLT,Nat.reduceAdd,Nat.reduceSub,Nat.reduceMul,Nat.reduceBEq,Nat.reduceBNe,Nat.reduceEqDiff,reduceCtorEq,reduceIte,Int.reduceLT,Int.reduceLE,Int.reduceAdd,Int.reduceSub,Int.reduceNeg,Int.reduceEq,Int.reduceBEq,Int.reduceBNe,Int.reduceToNat,Nat.reduceDiv,Nat.reduceMod,rowsF_length,rowsS_length,sd_nil,sd_cons,hm,hx0,hx.1]
    refine ev_call he (retW0 rfl rfl rfl rfl) ?_
    simp only [f7,go_sem,cfg,Nat.reduceLeDiff,Nat.reduceLT,Nat.reduceAdd,Nat.reduceSub,Nat.reduceMul,Nat.reduceBEq,Nat.reduceBNe,Nat.reduceEqDiff,reduceCtorEq,reduceIte,Int.reduceLT,Int.reduceLE,Int.reduceAdd,Int.reduceSub,Int.reduceNeg,Int.reduceEq,Int.reduceBEq,Int.reduceBNe,Int.reduceToNat,Nat.reduceDiv,Nat.reduceMod,rowsF_length,rowsS_length,sd_nil,sd_cons,hm,hx0,hx.1]
    refine ev_call hv (retW0 rfl rfl rfl rfl) ?_
    simp only [f7,go_sem,cfg,Nat.reduceLeDiff,Nat.reduceLT,Nat.reduceAdd,Nat.reduceSub,Nat.reduceMul,Nat.reduceBEq,Nat.reduceBNe,Nat.reduceEqDiff,reduceCtorEq,reduceIte,Int.reduceLT,Int.reduceLE,Int.reduceAdd,Int.reduceSub,Int.reduceNeg,Int.reduceEq,Int.reduceBEq,Int.reduceBNe,Int.reduceToNat,Nat.reduceDiv,Nat.reduceMod,rowsF_length,rowsS_length,sd_nil,sd_cons,optD_none,optD_some,hm,hx0,hx.1]
    refine And.intro hxn ?_
    refine ev_call h19 (retWm (i := ⟨false,0,5⟩) (p := ⟨true,2,5⟩) rfl rfl rfl rfl rfl rfl) ?_
    simp only [f7,go_sem,cfg,Nat.reduceLeDiff,Nat.reduceLT,Nat.reduceAdd,Nat.reduceSub,Nat.reduceMul,Nat.reduceBEq,Nat.reduceBNe,Nat.reduceEqDiff,reduceCtorEq,reduceIte,Int.reduceLT,Int.reduceLE,Int.reduceAdd,Int.reduceSub,Int.reduceNeg,Int.reduceEq,Int.reduceBEq,Int.reduceBNe,Int.reduceToNat,Nat.reduceDiv,Nat.reduceMod,rowsF_length,rowsS_length,sd_nil,sd_cons,hm]
    first | exact fin0 (.inr rfl) rfl rfl rfl rfl | trace_state
  | cons z zs =>
    rw [sd_cons] at he
    simp only [f7,go_sem,cfg,Nat.reduceLeDiff,Nat.reduceLT,Nat.reduceAdd,Nat.reduceSub,Nat.reduceMul,Nat.reduceBEq,Nat.reduceBNe,Nat.reduceEqDiff,reduceCtorEq,reduceIte,Int.reduceLT,Int.reduceLE,Int.reduceAdd,Int.reduceSub,Int.reduceNeg,Int.reduceEq,Int.reduceBEq,Int.reduceBNe,Int.reduceToNat,Nat.reduceDiv,Nat.reduceMod,rowsF_length,rowsS_length,sd_nil,sd_cons,hm,hx0,hx.1]
    refine ev_call hok (retW0 rfl rfl rfl rfl) ?_
    simp only [f7,go_sem,cfg,Nat.reduceLeDiff,Nat.reduceLT,Nat.reduceAdd,Nat.reduceSub,Nat.reduceMul,Nat.reduceBEq,Nat.reduceBNe,Nat.reduceEqDiff,reduceCtorEq,reduceIte,Int.reduceLT,Int.reduceLE,Int.reduceAdd,Int.reduceSub,Int.reduceNeg,Int.reduceEq,Int.reduceBEq,Int.reduceBNe,Int.reduceToNat,Nat.reduceDiv,Nat.reduceMod,rowsF_length,rowsS_length,sd_nil,sd_cons,hm,hx0,hx.1]
    refine ev_call he (retW0 rfl rfl rfl rfl) ?_
    simp only [f7,go_sem,cfg,Nat.reduceLeDiff,Nat.reduceLT,Nat.reduceAdd,Nat.reduceSub,Nat.reduceMul,Nat.reduceBEq,Nat.reduceBNe,Nat.reduceEqDiff,reduceCtorEq,reduceIte,Int.reduceLT,Int.reduceLE,Int.reduceAdd,Int.reduceSub,Int.reduceNeg,Int.reduceEq,Int.reduceBEq,Int.reduceBNe,Int.reduceToNat,Nat.reduceDiv,Nat.reduceMod,rowsF_length,rowsS_length,sd_nil,sd_cons,hm,hx0,hx.1]
    refine ev_call hv (retW0 rfl rfl rfl rfl) ?_
    simp only [f7,go_sem,cfg,Nat.reduceLeDiff,Nat.reduceLT,Nat.reduceAdd,Nat.reduceSub,Nat.reduceMul,Nat.reduceBEq,Nat.reduceBNe,Nat.reduceEqDiff,reduceCtorEq,reduceIte,Int.reduceLT,Int.reduceLE,Int.reduceAdd,Int.reduceSub,Int.reduceNeg,Int.reduceEq,Int.reduceBEq,Int.reduceBNe,Int.reduceToNat,Nat.reduceDiv,Nat.reduceMod,rowsF_length,rowsS_length,sd_nil,sd_cons,optD_none,optD_some,hm,hx0,hx.1]
    refine And.intro hxn ?_
    refine ev_call h19 (retWm (i := ⟨false,0,5⟩) (p := ⟨true,2,5⟩) rfl rfl rfl rfl rfl rfl) ?_
    simp only [f7,go_sem,cfg,Nat.reduceLeDiff,Nat.reduceLT,Nat.reduceAdd,Nat.reduceSub,Nat.reduceMul,Nat.reduceBEq,Nat.reduceBNe,Nat.reduceEqDiff,reduceCtorEq,reduceIte,Int.reduceLT,Int.reduceLE,Int.reduceAdd,Int.reduceSub,Int.reduceNeg,Int.reduceEq,Int.reduceBEq,Int.reduceBNe,Int.reduceToNat,Nat.reduceDiv,Nat.reduceMod,rowsF_length,rowsS_length,sd_nil,sd_cons,hm]
    first | exact fin0 (.inr rfl) rfl rfl rfl rfl | trace_state
theorem c7 (h44 : H44) (me ta : List UInt8) (st : Int) (re : List UInt8) (ba : Bool) (l : List Fld) (bo : List UInt8) (name : List UInt8) (h1 : me.length ≤ 9223372036854775807) (h2 : ta.length ≤ 9223372036854775807) (h3 : re.length ≤ 9223372036854775807) (h4 : bo.length ≤ 9223372036854775807) (hl : Small l) (hn : name.length ≤ 9223372036854775807) : Sem prog 7 ⟨[.agg [.v (vS me),.v (vS ta),.v (vI st),.v (vS re),.v (vB ba),.imm 51 (rowsF l),.v (vS bo)],.v (vS name)],[none,none]⟩ ⟨[.dead,.dead,resM me ta st re ba bo (delB me ta st re ba l bo name)],[none,none]⟩ := by
  cases h : msgB me ta st re ba l bo
  · have hz : delB me ta st re ba l bo name = none := by unfold delB; rw [h]; rfl
    rw [hz]; exact c7a h44 me ta st re ba l bo name h1 h2 h3 h4 hl hn h
  cases hm : me == []
  · have hz : delB me ta st re ba l bo name = none := by unfold delB; rw [h,hm]; rfl
    rw [hz]; exact c7b h44 me ta st re ba l bo name h1 h2 h3 h4 hl hn h hm
  cases ha : addB (e2eB l) name with
  | none =>
    have hz : delB me ta st re ba l bo name = none := by unfold delB; rw [h,hm,ha]; rfl
    rw [hz]; exact c7c h44 me ta st re ba l bo name h1 h2 h3 h4 hl hn h hm ha
  | some x =>
    obtain ⟨hx,hx0,_⟩ := addB_some (small_e2e hl) ha
    have hx0 : ((x.length : Int) == 0) = false := by rw [beq_eq_false_iff_ne]; omega
    cases hy : msgB me ta st re ba x bo
    · have hz : delB me ta st re ba l bo name = none := by unfold delB; rw [h,hm,ha]; simp [hy]
      rw [hz]; exact c7d h44 me ta st re ba l bo name h1 h2 h3 h4 hl hn h hm x ha hx hx0 hy
    · have hz : delB me ta st re ba l bo name = some x := by unfold delB; rw [h,hm,ha]; simp [hy]
      rw [hz]; exact c7e h44 me ta st re ba l bo name h1 h2 h3 h4 hl hn h hm x ha hx hx0 hy
end Go.Proofs.YtagfeejofceheaaGreatDoor.Fw

/- Framework, part Bd: code whose operations are computed but for the last one of a region. -/
namespace Go.Proofs.YtagfeejofceheaaGreatDoor.Fw
open Go
set_option linter.unusedVariables false
theorem pOps_app {P : Program} {cfg : Cfg} (hop : OpOk P cfg) {w0 : World} {L : Nat → Nat → Prop} {ops : Array Oper} {Q : Go.Exit → Act → World → Prop} {K : Env → Prop} {rest : List Oper} :
    ∀ (l : List Oper) (C : Ctx),Rel w0 L C → C.P = P → pOps P cfg ops.toList l C.E K → (∀ C',Rel w0 L C' → C'.P = P → (∀ t,t < cfg.np → C'.loc t = C.loc t) → KeepA cfg C C' → K C'.E → wpList P ops Q rest C'.a C'.w) → wpList P ops Q (l ++ rest) C.a C.w
  | [],C,R,hP,h,hQ => hQ C R hP (fun _ _ => rfl) (KeepA.refl cfg C) h
  | o :: os,C,R,hP,h,hQ => by
    subst hP
    simp only [pOps] at h
    rw [List.cons_append]
    unfold wpList
    unfold opG at h
    cases hkp : kept cfg o.dst with
    | true => rw [hkp] at h; exact h.elim
    | false =>
    rw [hkp] at h
    simp only [Bool.false_eq_true,if_false] at h
    have hkd : ∀ t,cfg.keep t = true → o.dst ≠ some t := by
      intro t ht hd
      unfold kept at hkp
      rw [hd] at hkp
      simp only at hkp
      rw [ht] at hkp; cases hkp
    have hn : Nxt w0 L cfg.np C (fun E' => pOps C.P cfg ops.toList os E' K) (fun a' w' => (∃ v,a'.tmps = (C.a.put o.dst v).tmps) → wpList C.P ops Q (os ++ rest) a' w') := by
      intro C' R' hPM hl' hK' hv
      obtain ⟨v,hv⟩ := hv
      injection hPM with hP' hM'
      have hk1 : KeepA cfg C C' := ⟨fun t ht => by rw [hv]; exact put_keep (hkd t ht),hM'⟩
      exact pOps_app hop os C' R' hP' hK' fun C2 R2 hP2 hl2 hk2 hK2 => hQ C2 R2 hP2 (fun t ht => (hl2 t ht).trans (hl' t ht)) (hk1.trans hk2) hK2
    split at h
    · rename_i hg
      rw [if_pos (wanted_none hg)]
      exact .inl (wp_dst (hop w0 L C R rfl _ _ hn Q o h))
    · rename_i j want hg
      split at h
      · rename_i t ht
        simp only [Rdr.wp] at h
        split at h
        · rename_i b hb
          have hy : yielded ops C.a.tmps j = some b := by
            have hsl : C.E.sl[t]? = some (.v (.bool b)) := by
              rw [List.getD_eq_getElem?_getD] at hb
              cases hx : C.E.sl[t]? with
              | none => rw [hx] at hb; simp at hb
              | some y => rw [hx] at hb; simp at hb; rw [hb]
            have hs := R.slot t _ hsl
            have hlt : t < C.a.tmps.size := by rw [R.tmps]; exact (List.getElem?_eq_some_iff.1 hsl).1
            have hv : C.a.tmps.getD t undef = .bool b := by
              generalize C.a.tmps.getD t undef = v at hs
              cases hs with
              | comp _ _ _ hc => cases hc with | leaf _ _ a b c => cases c with | v _ _ => rfl
            have ht' : (ops[j]?).bind (·.dst) = some t := by rw [← ht,Array.getElem?_toList]
            unfold yielded
            rw [ht']
            simp only [Option.bind_some]
            rw [Array.getElem?_eq_getElem hlt]
            have : C.a.tmps[t] = .bool b := by rw [← hv]; simp [Array.getD,hlt]
            rw [this]
          split at h
          · rename_i hw
            rw [if_pos (by simp [Region.wanted,hg,hy,hw])]
            exact .inl (wp_dst (hop w0 L C R rfl _ _ hn Q o h))
          · rename_i hw
            rw [if_neg (by simp [Region.wanted,hg,hy,hw])]
            exact wrS_done R hn (.refl _) h (VRel.undef _) ⟨_,rfl⟩
        · rename_i hb
          have hsl : C.E.sl[t]? = some (.tup []) := by
            rw [List.getD_eq_getElem?_getD] at hb
            cases hx : C.E.sl[t]? with
            | none => rw [hx] at hb; simp at hb
            | some y => rw [hx] at hb; simp at hb; rw [hb]
          have hs := R.slot t _ hsl
          have hlt : t < C.a.tmps.size := by rw [R.tmps]; exact (List.getElem?_eq_some_iff.1 hsl).1
          have hv : ∀ b,C.a.tmps.getD t Go.undef ≠ .bool b := by
            intro b hb
            rw [hb] at hs
            cases hs with
            | comp _ _ ht _ => simp [D.isTup] at ht
          have ht' : (ops[j]?).bind (·.dst) = some t := by rw [← ht,Array.getElem?_toList]
          have hy : yielded ops C.a.tmps j = none := by
            unfold yielded
            rw [ht']
            simp only [Option.bind_some]
            rw [Array.getElem?_eq_getElem hlt]
            have e : C.a.tmps[t] = C.a.tmps.getD t Go.undef := by simp [Array.getD,hlt]
            rw [e]
            split
            · rename_i b he
              injection he with he
              exact absurd he (hv b)
            · rfl
          rw [if_neg (by simp [Region.wanted,hg,hy])]
          exact wrS_done R hn (.refl _) h (VRel.undef _) ⟨_,rfl⟩
        · exact h.elim
      · exact h.elim
theorem pLast_go {P : Program} {cfg : Cfg} (hop : OpOk P cfg) {w0 : World} {L : Nat → Nat → Prop} {ops : Array Oper} {Q : Go.Exit → Act → World → Prop} {K : Env → Prop} {n : Nat} {fs : List (List Nat)} (hok : drawOk ops.toList n fs = true) (hn1 : n + 1 = ops.size) :
    ∀ (fuel : Nat) (l : List Nat) (k : Nat) (listed : Array Bool) (C : Ctx),Rel w0 L C → C.P = P →
      l.Pairwise (· < ·) → (∀ i,i ∈ l → i < n) → n ≤ k → k ≤ ops.size → (l ≠ [] → k = n) → fuel = l.length + (ops.size - k) →
      (∀ i,i < ops.size → (listed.getD i true = false ↔ (i ∈ l ∨ k ≤ i)) ∧ (listed.getD i false = true ↔ ¬ (i ∈ l ∨ k ≤ i))) →
      listed.size = ops.size →
      (∀ j o,ops[j]? = some o → listed.getD j false = true → ∀ h,h ∈ befs o → listed.getD h false = true) →
      SeqH P cfg ops.toList fs l C.E K → k = n →
      (∀ C',Rel w0 L C' → C'.P = P → (∀ t,t < cfg.np → C'.loc t = C.loc t) → KeepA cfg C C' → K C'.E → wpOp P ops Q n (Q .normal) C'.a C'.w) → wpAny P .any ops Q fuel listed C.a C.w := by
  simp only [drawOk,Bool.and_eq_true,decide_eq_true_eq,List.all_eq_true,List.mem_range] at hok
  obtain ⟨⟨⟨⟨⟨k1,k2⟩,k3⟩,k4⟩,k5⟩,k6⟩ := hok
  have hsz : ops.toList.length = ops.size := by simp
  have bef_lt : ∀ i o j,ops[i]? = some o → j ∈ befs o → j < i := by
    intro i o j ho hj
    have hi : i < ops.toList.length := by rw [hsz]; exact (Array.getElem?_eq_some_iff.1 ho).1
    have := k3 i hi
    rw [show ops.toList[i]? = some o by rw [Array.getElem?_toList]; exact ho] at this
    have this : ((befs o).all fun j => decide (j < i)) = true := this
    rw [List.all_eq_true] at this
    simpa using this j hj
  have indep : ∀ i j oi fi t,i < n → j < n → j ≠ i → ops[i]? = some oi → fs[i]? = some fi → j ∉ befs oi → dstAt ops.toList j = some t → fi.contains t = true := by
    intro i j oi fi t hi hj hne ho hf hb hd
    have := k4 i hi
    rw [show ops.toList[i]? = some oi by rw [Array.getElem?_toList]; exact ho,hf] at this
    have this : ((List.range n).all fun j => decide (j = i) || (befs oi).contains j || match dstAt ops.toList j with | some t => fi.contains t | none => false) = true := this
    rw [List.all_eq_true] at this
    have := this j (List.mem_range.2 hj)
    simpa [hne,hb,hd] using this
  intro fuel
  induction fuel with
  | zero =>
    intro l k listed C R hP hsort hln hnk hks hkn hfu hli hlsz hdn hS hkn2 hQ
    exfalso
    omega
  | succ fuel ih =>
    intro l k listed C R hP hsort hln hnk hks hkn hfu hli hlsz hdn hS hkn2 hQ
    have step : ∀ (i : Nat) (o : Oper) (K' : Env → Prop),ops[i]? = some o → i < ops.size → (opG cfg ops.toList o).wp C.E (Done P K' C.E) →
        (∀ C',Rel w0 L C' → C'.P = P → (∀ t,t < cfg.np → C'.loc t = C.loc t) → KeepA cfg C C' → K' C'.E → wpAny P .any ops Q fuel (listed.setIfInBounds i true) C'.a C'.w) → wpOp P ops Q i (wpAny P .any ops Q fuel (listed.setIfInBounds i true)) C.a C.w := by
      intro i o K' ho hi h hnx
      unfold wpOp
      rw [ho]
      exact opG_sound hop R hP h hnx
    have setT : ∀ i j,i < ops.size → (listed.setIfInBounds i true).getD j true = if j = i then true else listed.getD j true := by
      intro i j hi
      rw [Array.getD_eq_getD_getElem?,Array.getD_eq_getD_getElem?]
      by_cases h : j = i
      · subst h; rw [Array.getElem?_setIfInBounds_self_of_lt (by rw [hlsz]; exact hi)]; simp
      · rw [Array.getElem?_setIfInBounds_ne (fun e => h e.symm),if_neg h]
    have setF : ∀ i j,i < ops.size → (listed.setIfInBounds i true).getD j false = if j = i then true else listed.getD j false := by
      intro i j hi
      rw [Array.getD_eq_getD_getElem?,Array.getD_eq_getD_getElem?]
      by_cases h : j = i
      · subst h; rw [Array.getElem?_setIfInBounds_self_of_lt (by rw [hlsz]; exact hi)]; simp
      · rw [Array.getElem?_setIfInBounds_ne (fun e => h e.symm),if_neg h]
    have down : ∀ i o,ops[i]? = some o → i < ops.size → (∀ j,j ∈ befs o → listed.getD j false = true) → ∀ j o',ops[j]? = some o' → (listed.setIfInBounds i true).getD j false = true → ∀ h,h ∈ befs o' → (listed.setIfInBounds i true).getD h false = true := by
      intro i o ho hi hb j o' ho' hj h hh
      rw [setF i j hi] at hj
      rw [setF i h hi]
      by_cases hji : j = i
      · subst hji
        rw [ho] at ho'; injection ho' with ho'; subst ho'
        split
        · rfl
        · exact hb h hh
      · rw [if_neg hji] at hj
        split
        · rfl
        · exact hdn j o' ho' hj h hh
    refine ⟨fun hre => ?_,fun i hi => ?_⟩
    · -- something is ready
      exfalso
      have : ∃ i,i < ops.size ∧ (i ∈ l ∨ k ≤ i) ∧ ∀ j,j < i → ¬ (j ∈ l ∨ k ≤ j) := by
        have hex : ∃ i,i < ops.size ∧ (i ∈ l ∨ k ≤ i) := by
          cases l with
          | nil => exact ⟨k,by simp at hfu; omega,.inr (Nat.le_refl _)⟩
          | cons x xs => exact ⟨x,by have := hln x List.mem_cons_self; omega,.inl List.mem_cons_self⟩
        obtain ⟨i,hi⟩ := hex
        induction i using Nat.strongRecOn with
        | _ i ihi =>
          by_cases h : ∃ j,j < i ∧ (j ∈ l ∨ k ≤ j)
          · obtain ⟨j,h1,h2⟩ := h
            exact ihi j h1 ⟨by omega,h2⟩
          · exact ⟨i,hi.1,hi.2,fun j hj hh => h ⟨j,hj,hh⟩⟩
      obtain ⟨i,hi,hmem,hmin⟩ := this
      have : i ∈ Region.ready .any ops listed := by
        refine ready_spec.2 ⟨ops[i],Array.getElem?_eq_getElem hi,(hli i hi).1.2 hmem,fun j hj => ?_⟩
        have hlt := bef_lt i _ j (Array.getElem?_eq_getElem hi) hj
        exact (hli j (by omega)).2.2 (hmin j hlt)
      rw [hre] at this
      simp at this
    · obtain ⟨o,ho,hu,hb⟩ := ready_spec.1 hi
      have his : i < ops.size := (Array.getElem?_eq_some_iff.1 ho).1
      rcases (hli i his).1.1 hu with hil | hik
      · -- one of the head
        have hin := hln i hil
        have hkn' : k = n := hkn (by intro h; rw [h] at hil; simp at hil)
        subst hkn'
        obtain ⟨l1,l2,rfl⟩ := List.append_of_mem hil
        have hpw := List.pairwise_append.1 hsort
        have hlt1 : ∀ a,a ∈ l1 → a < i := fun a ha => hpw.2.2 a ha i List.mem_cons_self
        have hlt2 : ∀ a,a ∈ l2 → i < a := fun a ha => (List.pairwise_cons.1 hpw.2.1).1 a ha
        obtain ⟨o',fb,t,d,e1,e2,e3,e4⟩ := seqH_front l1 C.E (by
          intro a ha oa oi fa fi ta ti g1 g2 g3 g4 g5 g6
          have hai := hlt1 a ha
          have han : a < k := by omega
          have g1' : ops[a]? = some oa := by rw [← Array.getElem?_toList]; exact g1
          have g2' : ops[i]? = some oi := by rw [← Array.getElem?_toList]; exact g2
          rw [ho] at g2'; injection g2' with g2'; subst g2'
          have hna : a ∉ befs o := by
            intro h
            have := hb a h
            exact (hli a (by omega)).2.1 this (.inl (by simp [ha]))
          have hni : i ∉ befs oa := by
            intro h
            have := bef_lt a oa i g1' h
            omega
          exact ⟨indep i a o fi ta hin han (by omega) ho g4 hna (by simp [dstAt,g1,g5]),indep a i oa fa ti han hin (by omega) g1' g3 hni (by simp [dstAt,g2,g6])⟩) hS
        have e1' : ops[i]? = some o' := by rw [← Array.getElem?_toList]; exact e1
        rw [ho] at e1'; injection e1' with e1'; subst e1'
        have hnd : (l1 ++ i :: l2).Nodup := hsort.imp (fun h => Nat.ne_of_lt h)
        refine step i o (fun E => SeqH P cfg ops.toList fs (l1 ++ l2) E K) ho his (e3.2.2 C.E ⟨rfl,fun _ _ => rfl⟩ _ e4) ?_
        intro C' R' hP' hl' hk' hK'
        refine ih (l1 ++ l2) k _ C' R' hP' ?_ ?_ hnk hks (fun _ => rfl) ?_ ?_ (by simpa using hlsz) (down i o ho his hb) hK' rfl ?_
        · exact hsort.sublist (by simp)
        · intro j hj; exact hln j (by simp at hj ⊢; rcases hj with h | h <;> simp [h])
        · simp at hfu ⊢; omega
        · intro j hj
          rw [setT i j his,setF i j his]
          have hli' := hli j hj
          have hmem : ∀ x,x ≠ i → (x ∈ l1 ++ i :: l2 ↔ x ∈ l1 ++ l2) := by intro x hx; simp [hx]
          by_cases hji : j = i
          · subst hji
            have hnin : j ∉ l1 ++ l2 := by
              intro h
              rcases List.mem_append.1 h with h | h
              · have := hlt1 j h; omega
              · have := hlt2 j h; omega
            rw [if_pos rfl,if_pos rfl]
            refine ⟨⟨fun h => (by cases h),fun h => ?_⟩,⟨fun _ h => ?_,fun _ => rfl⟩⟩
            · rcases h with h | h
              · exact absurd h hnin
              · omega
            · rcases h with h | h
              · exact hnin h
              · omega
          · rw [if_neg hji,if_neg hji]
            rw [hli'.1,hli'.2,hmem j hji]
            exact ⟨Iff.rfl,Iff.rfl⟩
        · intro C2 R2 hP2 hl2 hk2 hK2
          exact hQ C2 R2 hP2 (fun t ht => (hl2 t ht).trans (hl' t ht)) (hk'.trans hk2) hK2
      · -- one of the tail: the first, and the head is done
        have hun : ∀ j,j ∈ befs o → ¬ (j ∈ l ∨ k ≤ j) := fun j hj h => by
          have hlt := bef_lt i o j ho hj
          exact (hli j (by omega)).2.1 (hb j hj) h
        have hik' : i = k := by
          by_cases h : i = k
          · exact h
          · exfalso
            have := k6 i (by rw [hsz]; exact his)
            rw [show ops.toList[i]? = some o by rw [Array.getElem?_toList]; exact ho] at this
            have h2 : i - 1 ∈ befs o := by
              rcases Bool.or_eq_true _ _ ▸ this with h | h
              · have := of_decide_eq_true h; omega
              · simpa using h
            exact hun _ h2 (.inr (by omega))
        subst hik'
        have hl0 : l = [] := by
          cases hl : l with
          | nil => rfl
          | cons x xs =>
            exfalso
            have hkn' := hkn (by rw [hl]; simp)
            subst hkn'
            rcases (by simpa using k5 : i = ops.size ∨ _) with h | h
            · omega
            · -- from each of the head a road leads on
              have road : ∀ m h,i - h = m → h ∈ l → False := by
                intro m
                induction m using Nat.strongRecOn with
                | _ m ihm =>
                  intro h0 hm hh
                  have hlt := hln h0 hh
                  have := h h0 hlt
                  obtain ⟨j,hj,hj2⟩ := this
                  cases hoj : ops[j]? with
                  | none => rw [hoj] at hj2; simp at hj2
                  | some oj =>
                    rw [hoj] at hj2
                    have hj2 : h0 ∈ befs oj := by simpa using hj2
                    have hlt2 := bef_lt j oj h0 hoj hj2
                    by_cases hji : j = i
                    · subst hji
                      rw [ho] at hoj; injection hoj with hoj; subst hoj
                      exact hun h0 hj2 (.inl hh)
                    · have hjs : j < ops.size := (Array.getElem?_eq_some_iff.1 hoj).1
                      have hjl : j ∈ l := by
                        by_cases hlj : listed.getD j false = true
                        · have := hdn j oj hoj hlj h0 hj2
                          exact absurd (.inl hh) ((hli h0 (by omega)).2.1 this)
                        · have : j ∈ l ∨ i ≤ j := by
                            by_cases hc : j ∈ l ∨ i ≤ j
                            · exact hc
                            · exact absurd ((hli j hjs).2.2 hc) hlj
                          rcases this with h | h
                          · exact h
                          · omega
                      exact ihm (i - j) (by omega) j rfl hjl
              exact road _ x rfl (by rw [hl]; simp)
        subst hl0
        subst hkn2
        refine wpOp_mono ?_ (hQ C R hP (fun _ _ => rfl) (KeepA.refl cfg C) hS)
        intro a' w' hq
        have hf0 : fuel = 0 := by simp at hfu; omega
        subst hf0
        refine ⟨?_,hq⟩
        rw [List.eq_nil_iff_forall_not_mem]
        intro j hj
        obtain ⟨oj,h1,h2,_⟩ := ready_spec.1 hj
        have hjs : j < ops.size := (Array.getElem?_eq_some_iff.1 h1).1
        rw [setT i j his] at h2
        by_cases hji : j = i
        · rw [if_pos hji] at h2; cases h2
        · rw [if_neg hji] at h2
          rcases (hli j hjs).1.1 h2 with h | h
          · simp at h
          · omega
theorem region_last {P : Program} {cfg : Cfg} (hop : OpOk P cfg) {w0 : World} {L : Nat → Nat → Prop} {id : Nat} {ops : Array Oper} {Q : Go.Exit → Act → World → Prop} {K : Env → Prop} {C : Ctx} {l : List Oper} {o : Oper} (ho : ops.toList = l ++ [o]) (hg : o.guard = none) (R : Rel w0 L C) (hP : C.P = P)
    (h : pOps P cfg ops.toList l C.E K) (hQ : ∀ C',Rel w0 L C' → C'.P = P → (∀ t,t < cfg.np → C'.loc t = C.loc t) → KeepA cfg C C' → K C'.E → o.wp P C'.a C'.w (Q .normal) Q) : (Code.region id ops false).wp P Q C.a C.w := by
  refine wp_region_list ?_
  rw [ho]
  refine pOps_app hop l C R hP h fun C' R' hP' hl' hk' hK => ?_
  unfold wpList
  rw [if_pos (wanted_none hg)]
  exact .inl (Oper.wp_mono (fun _ _ h => h) (hQ C' R' hP' hl' hk' hK))
theorem draw_last {P : Program} {cfg : Cfg} (hop : OpOk P cfg) {w0 : World} {L : Nat → Nat → Prop} {id : Nat} {ops : Array Oper} {Q : Go.Exit → Act → World → Prop} {K : Env → Prop} {C : Ctx} (hm : P.follows .mixedOrders = true) (n : Nat) (fs : List (List Nat)) (hok : drawOk ops.toList n fs = true) (hn1 : n + 1 = ops.size) {o : Oper} (ho : ops[n]? = some o) (hg : o.guard = none) (R : Rel w0 L C) (hP : C.P = P)
    (h : pHead P cfg ops.toList ((ops.toList.take n).zip fs) C.E K) (hQ : ∀ C',Rel w0 L C' → C'.P = P → (∀ t,t < cfg.np → C'.loc t = C.loc t) → KeepA cfg C C' → K C'.E → o.wp P C'.a C'.w (Q .normal) Q) : (Code.region id ops true).wp P Q C.a C.w := by
  have hok' := hok
  simp only [drawOk,Bool.and_eq_true,decide_eq_true_eq,List.all_eq_true,List.mem_range] at hok'
  obtain ⟨⟨⟨⟨⟨k1,k2⟩,k3⟩,k4⟩,k5⟩,k6⟩ := hok'
  have hsz : ops.toList.length = ops.size := by simp
  have R1 := R.drew (w' := { C.w with drawn := C.w.drawn + 1 }) ⟨rfl,rfl,rfl,Nat.le_refl _,fun _ _ => rfl⟩
  have hzl : ((ops.toList.take n).zip fs).length = n := by simp; omega
  have hseq := seqH_of (fs := fs) ((ops.toList.take n).zip fs) 0 C.E (by
    intro i x hx
    rw [Nat.zero_add]
    obtain ⟨h1,h2⟩ := List.getElem?_zip_eq_some.1 hx
    refine ⟨?_,h2⟩
    have hi : i < n := by
      have := (List.getElem?_eq_some_iff.1 hx).1
      omega
    rw [List.getElem?_take_of_lt hi] at h1
    exact h1) h
  rw [hzl] at hseq
  refine wp_region_any hm ?_
  refine pLast_go hop hok hn1 ops.size (List.range' 0 n) n _ { C with w := { C.w with drawn := C.w.drawn + 1 } } R1 hP ?_ ?_ (Nat.le_refl _) (by omega) (fun _ => rfl) (by simp; omega) ?_ (by simp) ?_ hseq rfl ?_
  · exact List.pairwise_lt_range'
  · intro i hi; rw [List.mem_range'_1] at hi; omega
  · intro i hi
    have e1 : (Array.replicate ops.size false).getD i true = false := by simp [Array.getD,hi]
    have e2 : (Array.replicate ops.size false).getD i false = false := by simp [Array.getD,hi]
    rw [e1,e2,List.mem_range'_1]
    refine ⟨⟨fun _ => by omega,fun _ => rfl⟩,⟨fun h => (by cases h),fun h => absurd (by omega) h⟩⟩
  · intro j o ho hj
    have hjs : j < ops.size := (Array.getElem?_eq_some_iff.1 ho).1
    have e2 : (Array.replicate ops.size false).getD j false = false := by simp [Array.getD,hjs]
    rw [e2] at hj; cases hj
  · intro C' R' hP' hl' hk' hK'
    unfold wpOp
    rw [ho]
    simp only
    rw [if_pos (wanted_none hg)]
    exact .inl (hQ C' R' hP' hl' hk' hK')
end Go.Proofs.YtagfeejofceheaaGreatDoor.Fw

/- Framework, part Be: a strings.Builder of the call's own: the state between its writings, told by values. -/
namespace Go.Proofs.YtagfeejofceheaaGreatDoor.Fw
open Go
set_option linter.unusedVariables false
def noL : Nat → Nat → Prop := fun _ _ => False
structure PV (P : Program) (wb : World) (b : Nat) (d : D) (v : Value) : Prop where
  leafy : d.leafy = true
  one : one v = true
  rel : ∀ C : Ctx,C.P = P → (∀ k,k < b → C.w.heap[k]? = wb.heap[k]?) → (∀ x,x < b → C.Rd x) → ∀ p,LRel C p d v
theorem PV.v {P : Program} {wb : World} {b : Nat} {x : Value} (h : scal x = true) (h1 : Go.Proofs.YtagfeejofceheaaGreatDoor.Fw.one x = true) : PV P wb b (.v x) x := ⟨rfl,h1,fun _ _ _ _ _ => .v _ _ h⟩
theorem PV.nil {P : Program} {wb : World} {b : Nat} : PV P wb b .nil (.slice none 0 0) := ⟨rfl,rfl,fun _ _ _ _ _ => .nil _⟩
theorem PV.imm {P : Program} {wb : World} {b : Nat} {e : TypeId} {xs : List (List T)} {v : Value} (h : RdT P wb (· < b) (.sl e xs) v) : PV P wb b (.imm e xs) v := by
  refine ⟨rfl,by cases h <;> rfl,fun C hP hw hS p => .imm _ _ _ _ ?_⟩
  subst hP
  exact h.mono fun k hk _ => ⟨hS k hk,hw k hk⟩
theorem PV.rptr {P : Program} {wb : World} {b bm om : Nat} {ds : List D} {cs : Array Value} {ce : TypeId} {fr : Nat × Nat} (X : Nat → Value) (h1 : wb.heap[bm]? = some (.cells cs ce fr)) (h2 : bm < b)
    (h3 : ∀ (i : Nat) (d : D),ds[i]? = some d → cs[om + i]? = some (X i) ∧ d.pure = true ∧ PV P wb b d (X i)) : PV P wb b (.rptr ds) (.pointer (some ⟨bm,om,none⟩)) :=
  ⟨rfl,rfl,fun C hP hw hS p => .rptr _ _ _ _ cs ce fr X ((hw bm h2).trans h1) (hS bm h2) (fun i d hd => ⟨(h3 i d hd).1,(h3 i d hd).2.2.one⟩) (fun i d hd => (h3 i d hd).2.1) fun i d hd => (h3 i d hd).2.2.rel C hP hw hS p⟩
def Known (P : Program) (wb : World) (b : Nat) (a : Act) (sl : List D) : Prop := ∀ (t : Nat) (d : D),sl[t]? = some d → d = .dead ∨ PV P wb b d (a.tmps.getD t undef)
structure BSt (T e : TypeId) (wb : World) (b : Nat) (a : Act) (w : World) (n : Nat) (l : List UInt8) : Prop where
  sz : a.tmps.size = n
  df : a.defers = []
  os : w.os = wb.os
  tape : w.tape = wb.tape
  output : w.output = wb.output
  low : ∀ k,k < b → w.heap[k]? = wb.heap[k]?
  hb : b < w.heap.size
  bld : Lib.IsBuilder T e b b (Lib.byteCells l) w
theorem mk_rel {P : Program} {wb : World} {b : Nat} {a : Act} {w : World} {sl : List D} (hsz : a.tmps.size = sl.length) (hdf : a.defers = []) (hlow : ∀ k,k < b → w.heap[k]? = wb.heap[k]?) (hg : Glob P w noL) (hk : Known P wb b a sl) :
    Rel w noL ⟨P,⟨sl,List.replicate sl.length none⟩,a,w,fun _ _ => False,fun _ => (0,0),fun _ => True⟩ := by
  have hlive : ∀ t ds,¬ Ctx.live ⟨P,⟨sl,List.replicate sl.length none⟩,a,w,fun _ _ => False,fun _ => (0,0),fun _ => True⟩ t ds := by
    intro t ds h
    have h : (List.replicate sl.length (none : Option (List D)))[t]? = some (some ds) := h
    rw [List.getElem?_replicate] at h
    split at h <;> simp at h
  have hrd : ∀ x,Ctx.Rd ⟨P,⟨sl,List.replicate sl.length none⟩,a,w,fun _ _ => False,fun _ => (0,0),fun _ => True⟩ x := by
    intro x
    refine ⟨?_,trivial⟩
    rintro (⟨p,h⟩ | ⟨t,ds,h,_⟩)
    · exact h
    · exact hlive t ds h
  refine ⟨hsz,hdf,?_,fun t ds h => absurd h (hlive t ds),fun _ _ _ h => h.elim,fun t ds _ _ h => absurd h (hlive t ds),fun t ds _ h => absurd h (hlive t ds),fun _ _ h => h.elim,fun _ _ h => h.elim,fun t ds h => absurd h (hlive t ds),?_,fun _ _ => trivial,fun _ _ h => h.elim,hg⟩
  · intro t d hd
    rcases hk t d hd with rfl | h
    · exact .comp _ _ rfl (.dead _ _)
    · have hl := h.leafy
      refine .comp _ _ (by cases d <;> first | rfl | simp [D.leafy] at hl) (.leaf _ _ _ h.leafy h.one (h.rel _ rfl hlow (fun x _ => hrd x) _))
  · exact ⟨rfl,rfl,rfl,Nat.le_refl _,fun _ _ _ => rfl,fun bb cs e fr h => ⟨cs,h,rfl,fun _ _ => rfl⟩⟩
theorem isBuilder_same {T e : TypeId} {b : Nat} {bs : List Value} {w w' : World} (h : Lib.IsBuilder T e b b bs w) (hw : ∀ k,k < w.heap.size → w'.heap[k]? = w.heap[k]?) : Lib.IsBuilder T e b b bs w' := by
  have go : ∀ p,Lib.BuilderAt T e b b p bs w → Lib.BuilderAt T e b b p bs w' := by
    rintro p ⟨h1,v,h2,h3,h4⟩
    refine ⟨h1,v,(hw b (Array.getElem?_eq_some_iff.1 h2).1).trans h2,⟨h3.1,?_⟩,h4⟩
    rcases h3.2 with h | ⟨g,cap,cur,a1,a2,a3,a4⟩
    · exact .inl h
    · exact .inr ⟨g,cap,cur,a1,a2,(hw g (Array.getElem?_eq_some_iff.1 a3).1).trans a3,a4⟩
  exact h.elim (fun x => .inl (go _ x)) (fun x => .inr (go _ x))
theorem BSt.after {T e : TypeId} {wb : World} {b : Nat} {a : Act} {w : World} {n : Nat} {l : List UInt8} (S : BSt T e wb b a w n l) {C : Ctx} (R : Rel w noL C) (hn : C.E.sl.length = n) : BSt T e wb b C.a C.w n l := by
  have hk : ∀ k,k < w.heap.size → C.w.heap[k]? = w.heap[k]? := fun k hk => R.frame.kept k hk fun _ h => h
  refine ⟨R.tmps.trans hn,R.defers,R.frame.os.trans S.os,R.frame.tape.trans S.tape,R.frame.output.trans S.output,fun k h => (hk k (Nat.lt_trans h S.hb)).trans (S.low k h),Nat.lt_of_lt_of_le S.hb R.frame.size,isBuilder_same S.bld hk⟩
theorem BSt.rel {P : Program} {T e : TypeId} {wb : World} {b : Nat} {a : Act} {w : World} {n : Nat} {l : List UInt8} (S : BSt T e wb b a w n l) {sl : List D} (hsl : sl.length = n) (hg : Glob P w noL) (hk : Known P wb b a sl) :
    Rel w noL ⟨P,⟨sl,List.replicate n none⟩,a,w,fun _ _ => False,fun _ => (0,0),fun _ => True⟩ := by
  subst hsl
  exact mk_rel S.sz S.df S.low hg hk
theorem slot_v {w0 : World} {L : Nat → Nat → Prop} {C : Ctx} (R : Rel w0 L C) {t : Nat} {x : Value} (h : C.E.sl.getD t .dead = .v x) : C.a.tmps.getD t undef = x := by
  have hs : C.E.sl[t]? = some (.v x) := by
    rw [List.getD_eq_getElem?_getD] at h
    cases hx : C.E.sl[t]? with
    | none => rw [hx] at h; simp at h
    | some y => rw [hx] at h; simp at h; rw [h]
  have := R.slot t _ hs
  generalize C.a.tmps.getD t undef = v at this
  cases this with
  | comp _ _ _ hc => cases hc with | leaf _ _ a b c => cases c with | v _ _ => rfl
theorem glob_low {P : Program} {w0 w : World} {L : Nat → Nat → Prop} (h : Glob P w0 L) (hw : ∀ k,k < w0.heap.size → w.heap[k]? = w0.heap[k]?) (hs : w0.heap.size ≤ w.heap.size) : Glob P w noL := by
  obtain ⟨B,h1,h2,h3⟩ := h
  exact ⟨B,Nat.le_trans h1 hs,fun _ _ h => h.elim,fun w' hw' => h3 w' fun k hk => (hw' k hk).trans (hw k (Nat.lt_of_lt_of_le hk h1))⟩
theorem args_call {a : Act} {w : World} {P : Program} {o : Oper} {c : Call} {f : FuncId} {x y : Operand} {next : Act → World → Prop} {Q : Go.Exit → Act → World → Prop} (ho : o.op = .call c) (hc : c.callee = .value (.func f)) (ha : c.args = #[x,y]) {R : Ending → World → Prop}
    (hent : ∀ args w,(callFunc f args).run P w = .ok (.enter f args) w) (h : Calls P f #[a.eval x,a.eval y] w R) (hR : ∀ e w',R e w' → ∃ v,e = .returned v ∧ next (a.put o.dst v) w') : o.wp P a w next Q := by
  unfold Oper.wp
  rw [call_run ho hc (show a.eval (.func f) = .func (.func f) #[] #[] from rfl),ha]
  have e : (#[x,y] : Array Operand).map a.eval ++ #[] = #[a.eval x,a.eval y] := by simp
  rw [e,hent,Oper.upon_enter]
  refine h.mono fun e w' he => ?_
  obtain ⟨v,rfl,hn⟩ := hR e w' he
  exact hn
theorem args_call1 {a : Act} {w : World} {P : Program} {o : Oper} {c : Call} {f : FuncId} {x : Operand} {next : Act → World → Prop} {Q : Go.Exit → Act → World → Prop} (ho : o.op = .call c) (hc : c.callee = .value (.func f)) (ha : c.args = #[x]) {R : Ending → World → Prop}
    (hent : ∀ args w,(callFunc f args).run P w = .ok (.enter f args) w) (h : Calls P f #[a.eval x] w R) (hR : ∀ e w',R e w' → ∃ v,e = .returned v ∧ next (a.put o.dst v) w') : o.wp P a w next Q := by
  unfold Oper.wp
  rw [call_run ho hc (show a.eval (.func f) = .func (.func f) #[] #[] from rfl),ha]
  have e : (#[x] : Array Operand).map a.eval ++ #[] = #[a.eval x] := by simp
  rw [e,hent,Oper.upon_enter]
  refine h.mono fun e w' he => ?_
  obtain ⟨v,rfl,hn⟩ := hR e w' he
  exact hn
theorem put_size {a : Act} {t : Tmp} {v : Value} : (a.put (some t) v).tmps.size = a.tmps.size := by simp [Act.put]
open Go.Shelf in
theorem bst_write {P : Program} {ρ : Ren} (hL : Go.Proofs.Lays.n166 P ρ) (hX : Go.Proofs.Builder.Extra P ρ) (hent : ∀ args w,(callFunc (ρ.f 166) args).run P w = .ok (.enter (ρ.f 166) args) w) {wb : World} {b : Nat} {a : Act} {w : World} {n : Nat} {l s : List UInt8} (S : BSt (ρ.t 72) (ρ.t 5) wb b a w n l) {o : Oper} {c : Call} {x y : Operand} {t : Tmp} (hd : o.dst = some t)
    (ho : o.op = .call c) (hc : c.callee = .value (.func (ρ.f 166))) (ha : c.args = #[x,y]) (hx : a.eval x = .pointer (some ⟨b,0,none⟩)) (hy : a.eval y = vS s) (hlen : l.length + s.length ≤ 140737488355328) {next : Act → World → Prop} {Q : Go.Exit → Act → World → Prop}
    (h : ∀ v w',BSt (ρ.t 72) (ρ.t 5) wb b (a.put (some t) v) w' n (l ++ s) → next (a.put (some t) v) w') : o.wp P a w next Q := by
  have hw := Go.Proofs.Any.Builder_WriteString hL hX b b (Lib.byteCells l) (ofL s) w S.bld (by rw [Lib.byteCells_length]; exact hlen) (Nat.le_of_lt S.hb)
  refine args_call ho hc ha hent (by rw [hx,hy]; exact hw) ?_
  rintro e w' ⟨rfl,h1,h2⟩
  refine ⟨_,rfl,?_⟩
  rw [hd]
  refine h _ _ ⟨put_size.trans S.sz,S.df,h2.os.trans S.os,h2.tape.trans S.tape,h2.output.trans S.output,fun k hk => (h2.block k hk).trans (S.low k hk),Nat.lt_of_lt_of_le S.hb h2.size,.inr ?_⟩
  have e : Lib.byteCells l ++ Lib.strCells (ofL s) = Lib.byteCells (l ++ s) := by simp [Lib.byteCells,Lib.strCells,ofL]
  rw [e] at h1
  exact h1
open Go.Shelf in
theorem bst_string {P : Program} {ρ : Ren} (hL : Go.Proofs.Lays.n169 P ρ) (hX : Go.Proofs.Builder.Extra P ρ) (hent : ∀ args w,(callFunc (ρ.f 169) args).run P w = .ok (.enter (ρ.f 169) args) w) {wb : World} {b : Nat} {a : Act} {w : World} {n : Nat} {l : List UInt8} (S : BSt (ρ.t 72) (ρ.t 5) wb b a w n l) {o : Oper} {c : Call} {x : Operand} {t : Tmp} (hd : o.dst = some t)
    (ho : o.op = .call c) (hc : c.callee = .value (.func (ρ.f 169))) (ha : c.args = #[x]) (hx : a.eval x = .pointer (some ⟨b,0,none⟩)) {next : Act → World → Prop} {Q : Go.Exit → Act → World → Prop}
    (h : ∀ w',RowKit.Below b w w' → next (a.put (some t) (vS l)) w') : o.wp P a w next Q := by
  have hw := Go.Proofs.Any.Builder_String_any hL hX b b l w S.bld (Nat.le_of_lt S.hb)
  refine args_call1 ho hc ha hent (by rw [hx]; exact hw) ?_
  rintro e w' ⟨rfl,h2⟩
  refine ⟨_,rfl,?_⟩
  rw [hd]
  exact h _ h2
end Go.Proofs.YtagfeejofceheaaGreatDoor.Fw

/- Framework, part Bf: pieces of code between the writings of a builder. -/
namespace Go.Proofs.YtagfeejofceheaaGreatDoor.Fw
open Go
set_option linter.unusedVariables false
theorem alloc_wp {P : Program} {o : Oper} {a : Act} {w : World} {e : TypeId} {z : Value} {next : Act → World → Prop} {Q : Go.Exit → Act → World → Prop} (ho : o.op = .alloc e) (hz : ∀ w,(zeroValue e).run P w = .ok z w)
    (h : next (a.put o.dst (.pointer (some ⟨w.heap.size,0,none⟩))) (w.alloc (.cells z.cells e))) : o.wp P a w next Q := by
  unfold Oper.wp
  have hx : (execOp a.eval o).run P w = .ok (.value (.pointer (some ⟨w.heap.size,0,none⟩))) (w.alloc (.cells z.cells e)) := by
    simp only [execOp,ho,Instr.alloc,bind_pure_comp,Sem.run_bind,Sem.run_map,hz,Result.andThen_ok,newVar,newRow,run_newObj]
    rfl
  rw [hx]
  exact h
theorem wp_of {P : Program} {cfg : Cfg} (hop : OpOk P cfg) {w0 : World} {L : Nat → Nat → Prop} {E : Env} {a : Act} {w : World} {F : Lf → Nat → Prop} {loc : Nat → Nat × Nat} {M : Nat → Prop} (R : Rel w0 L ⟨P,E,a,w,F,loc,M⟩) {c : Code} {Q : Go.Exit → Act → World → Prop} (Qp : Go.Exit → Env → Prop)
    (h : pwp P cfg c E Qp) (hQ : ∀ x C,Rel w0 L C → C.P = P → (∀ t,cfg.keep t = true → C.a.tmps.getD t undef = a.tmps.getD t undef) → Qp x C.E → Q x C.a C.w) : c.wp P Q a w :=
  pwp_sound hop c ⟨P,E,a,w,F,loc,M⟩ Q Qp R rfl h fun x C R' hP _ hk hq => hQ x C R' hP hk.1 hq
theorem pv_cell {w0 : World} {L : Nat → Nat → Prop} {C : Ctx} (R : Rel w0 L C) {t : Nat} {ds : List D} (hl : C.live t ds) (hp : ∀ d,d ∈ ds → (∃ x,d = .v x) ∨ ∃ e xs,d = .imm e xs) :
    ∃ X : Nat → Value,(∀ (i : Nat) (d : D),ds[i]? = some d → PV C.P C.w C.w.heap.size d (X i) ∧ scal (X i) = true) ∧
      ∀ ds' : List D,ds'.length = ds.length → (∀ (i : Nat) (d : D),ds'[i]? = some d → d.pure = true ∧ PV C.P C.w C.w.heap.size d (X i)) → PV C.P C.w C.w.heap.size (.rptr ds') (.pointer (some ⟨(C.loc t).1,(C.loc t).2 + 0,none⟩)) := by
  obtain ⟨cs,e,fr,h1,h2,h3,h4⟩ := (R.cell t ds hl).out
  have hb : (C.loc t).1 < C.w.heap.size := (Array.getElem?_eq_some_iff.1 h1).1
  refine ⟨fun i => cs.getD ((C.loc t).2 + i) undef,?_,?_⟩
  · intro i d hd
    obtain ⟨b1,b2,b3⟩ := h4 i d hd
    show PV C.P C.w C.w.heap.size d (cs.getD ((C.loc t).2 + i) undef) ∧ scal (cs.getD ((C.loc t).2 + i) undef) = true
    generalize cs.getD ((C.loc t).2 + i) undef = v at b2 b3 ⊢
    rcases hp d (List.mem_of_getElem? hd) with ⟨x,rfl⟩ | ⟨e',xs,rfl⟩
    · cases b3 with
      | v _ h => exact ⟨.v h b2,h⟩
    · cases b3 with
      | imm _ _ _ h =>
        refine ⟨.imm (h.mono fun k hk hlt => ⟨hlt,rfl⟩),?_⟩
        cases h <;> rfl
  · intro ds' hlen hds
    refine .rptr (fun i => cs.getD ((C.loc t).2 + i) undef) (cs := cs) (ce := e) (fr := fr) h1 hb fun i d hd => ?_
    have hi : i < ds.length := by rw [← hlen]; exact (List.getElem?_eq_some_iff.1 hd).1
    have hlt : (C.loc t).2 + i < cs.size := by omega
    refine ⟨?_,(hds i d hd).1,(hds i d hd).2⟩
    show cs[(C.loc t).2 + 0 + i]? = some (cs.getD ((C.loc t).2 + i) undef)
    rw [Nat.add_zero,Array.getElem?_eq_getElem hlt]
    simp [Array.getD,hlt]
section
variable {P : Program} {cfg : Cfg} {T e : TypeId} {wb : World} {b : Nat} {n : Nat} {l : List UInt8}
theorem BSt.run (hop : OpOk P cfg) {a : Act} {w : World} (S : BSt T e wb b a w n l) {sl : List D} (hsl : sl.length = n) (hg : Glob P w noL) (hk : Known P wb b a sl) {c : Code} {Q : Go.Exit → Act → World → Prop} (Qp : Go.Exit → Env → Prop)
    (h : pwp P cfg c ⟨sl,List.replicate n none⟩ Qp) (hlen : ∀ e E,Qp e E → E.sl.length = n)
    (hQ : ∀ x C,Rel w noL C → C.P = P → BSt T e wb b C.a C.w n l → (∀ t,cfg.keep t = true → C.a.tmps.getD t undef = a.tmps.getD t undef) → Qp x C.E → Q x C.a C.w) : c.wp P Q a w := by
  refine pwp_sound hop c _ Q Qp (S.rel hsl hg hk) rfl h fun e C R hP _ hka hq => ?_
  exact hQ e C R hP (S.after R (hlen e _ hq)) hka.1 hq
variable {ρ : Go.Shelf.Ren}
theorem BSt.write_in (hop : OpOk P cfg) (hL : Go.Proofs.Lays.n166 P ρ) (hX : Go.Proofs.Builder.Extra P ρ) (hent : ∀ args w,(callFunc (ρ.f 166) args).run P w = .ok (.enter (ρ.f 166) args) w) {a : Act} {w : World} (S : BSt (ρ.t 72) (ρ.t 5) wb b a w n l) {C : Ctx} (R : Rel w noL C) (hP : C.P = P)
    {id : Nat} {ops : Array Oper} {Q : Go.Exit → Act → World → Prop} (m : Nat) (hm : m + 1 = ops.size) {o : Oper} (ho : ops[m]? = some o) (hgd : o.guard = none) {t : Tmp} (hd : o.dst = some t) {c : Call} (hoo : o.op = .call c) (hc : c.callee = .value (.func (ρ.f 166))) {k y : Tmp} (ha : c.args = #[.tmp k,.tmp y])
    (hkk : cfg.keep k = true) (hv : C.a.tmps.getD k undef = .pointer (some ⟨b,0,none⟩)) {s : List UInt8} (hlen : l.length + s.length ≤ 140737488355328)
    (h : pOps P cfg ops.toList (ops.toList.take m) C.E fun E => E.sl.length = n ∧ E.sl.getD y .dead = .v (vS s))
    (hQ : ∀ a' w',BSt (ρ.t 72) (ρ.t 5) wb b a' w' n (l ++ s) → (∀ u,cfg.keep u = true → u ≠ t → a'.tmps.getD u undef = C.a.tmps.getD u undef) → Q .normal a' w') : (Code.region id ops false).wp P Q C.a C.w := by
  have hls : ops.toList = ops.toList.take m ++ [o] := by
    have h1 : ops.toList[m]? = some o := by rw [Array.getElem?_toList]; exact ho
    have h2 := List.take_append_drop m ops.toList
    rw [List.drop_eq_getElem_cons (by simp; omega),List.drop_of_length_le (by simp; omega)] at h2
    rw [List.getElem?_eq_getElem (by simp; omega)] at h1
    injection h1 with h1
    rw [← h1]
    exact h2.symm
  refine region_last hop (l := ops.toList.take m) hls hgd R hP h fun C' R' hP' _ hka hK => ?_
  have S' := S.after R' hK.1
  have hv' : C'.a.tmps.getD k undef = .pointer (some ⟨b,0,none⟩) := (hka.1 k hkk).trans hv
  refine bst_write hL hX hent S' hd hoo hc ha hv' (slot_v R' hK.2) hlen fun v w' S2 => ?_
  exact hQ _ _ S2 fun u hu hne => (put_keep (fun e => hne (by injection e with e; exact e.symm))).trans (hka.1 u hu)
theorem BSt.write (hop : OpOk P cfg) (hL : Go.Proofs.Lays.n166 P ρ) (hX : Go.Proofs.Builder.Extra P ρ) (hent : ∀ args w,(callFunc (ρ.f 166) args).run P w = .ok (.enter (ρ.f 166) args) w) {a : Act} {w : World} (S : BSt (ρ.t 72) (ρ.t 5) wb b a w n l) {sl : List D} (hsl : sl.length = n) (hg : Glob P w noL) (hk : Known P wb b a sl)
    {id : Nat} {ops : Array Oper} {Q : Go.Exit → Act → World → Prop} (m : Nat) (hm : m + 1 = ops.size) {o : Oper} (ho : ops[m]? = some o) (hgd : o.guard = none) {t : Tmp} (hd : o.dst = some t) {c : Call} (hoo : o.op = .call c) (hc : c.callee = .value (.func (ρ.f 166))) {k y : Tmp} (ha : c.args = #[.tmp k,.tmp y])
    (hkk : cfg.keep k = true) (hv : a.tmps.getD k undef = .pointer (some ⟨b,0,none⟩)) {s : List UInt8} (hlen : l.length + s.length ≤ 140737488355328)
    (h : pOps P cfg ops.toList (ops.toList.take m) ⟨sl,List.replicate n none⟩ fun E => E.sl.length = n ∧ E.sl.getD y .dead = .v (vS s))
    (hQ : ∀ a' w',BSt (ρ.t 72) (ρ.t 5) wb b a' w' n (l ++ s) → (∀ u,cfg.keep u = true → u ≠ t → a'.tmps.getD u undef = a.tmps.getD u undef) → Q .normal a' w') : (Code.region id ops false).wp P Q a w :=
  BSt.write_in hop hL hX hent S (S.rel hsl hg hk) rfl m hm ho hgd hd hoo hc ha hkk hv hlen h hQ
theorem BSt.write_draw (hop : OpOk P cfg) (hL : Go.Proofs.Lays.n166 P ρ) (hX : Go.Proofs.Builder.Extra P ρ) (hent : ∀ args w,(callFunc (ρ.f 166) args).run P w = .ok (.enter (ρ.f 166) args) w) {a : Act} {w : World} (S : BSt (ρ.t 72) (ρ.t 5) wb b a w n l) {sl : List D} (hsl : sl.length = n) (hg : Glob P w noL) (hk : Known P wb b a sl)
    {id : Nat} {ops : Array Oper} {Q : Go.Exit → Act → World → Prop} (hmx : P.follows .mixedOrders = true) (m : Nat) (fs : List (List Nat)) (hok : drawOk ops.toList m fs = true) (hm : m + 1 = ops.size) {o : Oper} (ho : ops[m]? = some o) (hgd : o.guard = none) {t : Tmp} (hd : o.dst = some t) {c : Call} (hoo : o.op = .call c) (hc : c.callee = .value (.func (ρ.f 166))) {k y : Tmp} (ha : c.args = #[.tmp k,.tmp y])
    (hkk : cfg.keep k = true) (hv : a.tmps.getD k undef = .pointer (some ⟨b,0,none⟩)) {s : List UInt8} (hlen : l.length + s.length ≤ 140737488355328)
    (h : pHead P cfg ops.toList ((ops.toList.take m).zip fs) ⟨sl,List.replicate n none⟩ fun E => E.sl.length = n ∧ E.sl.getD y .dead = .v (vS s))
    (hQ : ∀ a' w',BSt (ρ.t 72) (ρ.t 5) wb b a' w' n (l ++ s) → (∀ u,cfg.keep u = true → u ≠ t → a'.tmps.getD u undef = a.tmps.getD u undef) → Q .normal a' w') : (Code.region id ops true).wp P Q a w := by
  have R := S.rel hsl hg hk
  refine draw_last hop (C := ⟨P,⟨sl,List.replicate n none⟩,a,w,fun _ _ => False,fun _ => (0,0),fun _ => True⟩) hmx m fs hok hm ho hgd R rfl h fun C' R' hP' _ hka hK => ?_
  have S' := S.after R' hK.1
  have hv' : C'.a.tmps.getD k undef = .pointer (some ⟨b,0,none⟩) := (hka.1 k hkk).trans hv
  refine bst_write hL hX hent S' hd hoo hc ha hv' (slot_v R' hK.2) hlen fun v w' S2 => ?_
  exact hQ _ _ S2 fun u hu hne => (put_keep (fun e => hne (by injection e with e; exact e.symm))).trans (hka.1 u hu)
end
theorem knownF_nil {P : Program} {wb : World} {b : Nat} {a : Act} {k : Nat} : ∀ (i : Nat) (d : D),([] : List D)[i]? = some d → d = .dead ∨ PV P wb b d (a.tmps.getD (k + i) undef) := fun i d h => by simp at h
theorem knownF_rep {P : Program} {wb : World} {b : Nat} {a : Act} {k m : Nat} : ∀ (i : Nat) (d : D),(List.replicate m D.dead)[i]? = some d → d = .dead ∨ PV P wb b d (a.tmps.getD (k + i) undef) := fun i d h => by
  rw [List.getElem?_replicate] at h
  split at h
  · injection h with h; exact .inl h.symm
  · cases h
theorem knownF_cons {P : Program} {wb : World} {b : Nat} {a : Act} {k : Nat} {d : D} {ds : List D} (h : d = .dead ∨ PV P wb b d (a.tmps.getD k undef)) (h2 : ∀ (i : Nat) (x : D),ds[i]? = some x → x = .dead ∨ PV P wb b x (a.tmps.getD (k + 1 + i) undef)) :
    ∀ (i : Nat) (x : D),(d :: ds)[i]? = some x → x = .dead ∨ PV P wb b x (a.tmps.getD (k + i) undef) := by
  intro i x hx
  cases i with
  | zero => injection hx with hx; rw [← hx]; exact h
  | succ i =>
    have := h2 i x hx
    rw [show k + 1 + i = k + (i + 1) by omega] at this
    exact this
theorem known_of {P : Program} {wb : World} {b : Nat} {a : Act} {ds : List D} (h : ∀ (i : Nat) (x : D),ds[i]? = some x → x = .dead ∨ PV P wb b x (a.tmps.getD (0 + i) undef)) : Known P wb b a ds := fun t d hd => by
  have := h t d hd
  rwa [Nat.zero_add] at this
theorem BSt.run2 {P : Program} {cfg cfg2 : Cfg} {T e : TypeId} {wb : World} {b : Nat} {n : Nat} {l : List UInt8} (hop : OpOk P cfg) (hop2 : OpOk P cfg2) {a : Act} {w : World} (S : BSt T e wb b a w n l) {sl1 sl2 : List D} (hsl1 : sl1.length = n) (hsl2 : sl2.length = n) (hg : ∀ {a w},BSt T e wb b a w n l → Glob P w noL) (hk : Known P wb b a sl1)
    {id : Nat} {ops : Array Oper} {Q : Go.Exit → Act → World → Prop} (m : Nat) (K1 K2 : Env → Prop) (h1 : pOps P cfg ops.toList (ops.toList.take m) ⟨sl1,List.replicate n none⟩ K1) (hl1 : ∀ E,K1 E → E.sl.length = n) (hl2 : ∀ E,K2 E → E.sl.length = n)
    (mid : ∀ w0 C,Rel w0 noL C → (∀ t,cfg.keep t = true → C.a.tmps.getD t undef = a.tmps.getD t undef) → K1 C.E → Known P wb b C.a sl2)
    (h2 : pOps P cfg2 ops.toList (ops.toList.drop m) ⟨sl2,List.replicate n none⟩ K2)
    (hQ : ∀ w0 C a1,Rel w0 noL C → BSt T e wb b C.a C.w n l → (∀ t,cfg.keep t = true → cfg2.keep t = true → C.a.tmps.getD t undef = a.tmps.getD t undef) → (∃ w1 C1,Rel w1 noL C1 ∧ C1.a = a1 ∧ K1 C1.E) → (∀ t,cfg2.keep t = true → C.a.tmps.getD t undef = a1.tmps.getD t undef) → K2 C.E → Q .normal C.a C.w) : (Code.region id ops false).wp P Q a w := by
  refine wp_region_list ?_
  have hls : ops.toList = ops.toList.take m ++ ops.toList.drop m := (List.take_append_drop m _).symm
  rw [hls]
  refine pOps_app hop (C := ⟨P,⟨sl1,List.replicate n none⟩,a,w,fun _ _ => False,fun _ => (0,0),fun _ => True⟩) _ (S.rel hsl1 (hg S) hk) rfl h1 fun C R hP _ hka hK => ?_
  have S1 := S.after R (hl1 _ hK)
  refine pOps_sound hop2 (C := ⟨P,⟨sl2,List.replicate n none⟩,C.a,C.w,fun _ _ => False,fun _ => (0,0),fun _ => True⟩) _ (S1.rel hsl2 (hg S1) (mid _ C R hka.1 hK)) rfl h2 fun C2 R2 hP2 _ hka2 hK2 => ?_
  exact hQ _ C2 C.a R2 (S1.after R2 (hl2 _ hK2)) (fun t ht ht2 => (hka2.1 t ht2).trans (hka.1 t ht)) ⟨_,C,R,rfl,hK⟩ hka2.1 hK2
open Go.Shelf in
theorem BSt.string {P : Program} {cfg : Cfg} {ρ : Ren} {wb : World} {b : Nat} {n : Nat} {l : List UInt8} (hop : OpOk P cfg) (hL : Go.Proofs.Lays.n169 P ρ) (hX : Go.Proofs.Builder.Extra P ρ) (hent : ∀ args w,(callFunc (ρ.f 169) args).run P w = .ok (.enter (ρ.f 169) args) w) {a : Act} {w : World} (S : BSt (ρ.t 72) (ρ.t 5) wb b a w n l) (hg : ∀ w2 : World,(∀ k,k < b → w2.heap[k]? = wb.heap[k]?) → b ≤ w2.heap.size → Glob P w2 noL)
    {id : Nat} {ops : Array Oper} {Q : Go.Exit → Act → World → Prop} {o : Oper} (ho : ops[0]? = some o) (hgd : o.guard = none) {t : Tmp} (hd : o.dst = some t) {c : Call} (hoo : o.op = .call c) (hc : c.callee = .value (.func (ρ.f 169))) {k : Tmp} (ha : c.args = #[.tmp k]) (hv : a.tmps.getD k undef = .pointer (some ⟨b,0,none⟩))
    {sl : List D} (hsl : sl.length = n) (hk : ∀ a' : Act,a'.tmps.getD t undef = vS l → Known P wb b a' sl) (ht : t < n) (K : Env → Prop) (h : pOps P cfg ops.toList (ops.toList.drop 1) ⟨sl,List.replicate n none⟩ K)
    (hQ : ∀ w0 C,Rel w0 noL C → C.w.os = wb.os → C.w.tape = wb.tape → C.w.output = wb.output → (∀ k,k < b → C.w.heap[k]? = wb.heap[k]?) → b ≤ C.w.heap.size → K C.E → Q .normal C.a C.w) : (Code.region id ops false).wp P Q a w := by
  refine wp_region_list ?_
  have hls : ops.toList = o :: ops.toList.drop 1 := by
    have h1 : ops.toList[0]? = some o := by rw [Array.getElem?_toList]; exact ho
    cases hx : ops.toList with
    | nil => rw [hx] at h1; simp at h1
    | cons x xs => rw [hx] at h1; simp at h1; rw [h1]; rfl
  rw [hls]
  unfold wpList
  rw [if_pos (wanted_none hgd)]
  refine .inl (bst_string hL hX hent S hd hoo hc ha hv fun w' hb => ?_)
  have hlow : ∀ k,k < b → w'.heap[k]? = wb.heap[k]? := fun k hk => (hb.block k hk).trans (S.low k hk)
  have hbs : b ≤ w'.heap.size := Nat.le_trans (Nat.le_of_lt S.hb) hb.size
  have hget : (a.put (some t) (vS l)).tmps.getD t undef = vS l := by
    have := S.sz
    simp [Act.put,Array.getD,this,ht]
  have R : Rel w' noL ⟨P,⟨sl,List.replicate n none⟩,a.put (some t) (vS l),w',fun _ _ => False,fun _ => (0,0),fun _ => True⟩ := by
    have R := mk_rel (P := P) (a := a.put (some t) (vS l)) (sl := sl) ((put_size.trans S.sz).trans hsl.symm) S.df hlow (hg w' hlow hbs) (hk _ hget)
    rw [hsl] at R
    exact R
  refine pOps_sound hop (C := ⟨P,⟨sl,List.replicate n none⟩,a.put (some t) (vS l),w',fun _ _ => False,fun _ => (0,0),fun _ => True⟩) _ R rfl h fun C R2 hP _ hka hK => ?_
  exact hQ _ C R2 (R2.frame.os.trans (hb.os.trans S.os)) (R2.frame.tape.trans (hb.tape.trans S.tape)) (R2.frame.output.trans (hb.output.trans S.output)) (fun k hk => (R2.frame.kept k (Nat.lt_of_lt_of_le hk hbs) fun _ h => h).trans (hlow k hk)) (Nat.le_trans hbs R2.frame.size) hK
theorem slot_cref {w0 : World} {L : Nat → Nat → Prop} {C : Ctx} (R : Rel w0 L C) {t c k : Nat} (h : C.E.sl.getD t .dead = .cref c k) : C.a.tmps.getD t undef = .pointer (some ⟨(C.loc c).1,(C.loc c).2 + k,none⟩) := by
  have hs : C.E.sl[t]? = some (.cref c k) := by
    rw [List.getD_eq_getElem?_getD] at h
    cases hx : C.E.sl[t]? with
    | none => rw [hx] at h; simp at h
    | some y => rw [hx] at h; simp at h; rw [h]
  have := R.slot t _ hs
  generalize C.a.tmps.getD t undef = v at this
  cases this with
  | comp _ _ _ hc => cases hc with | leaf _ _ a b c => cases c with | cref _ _ _ _ => rfl
theorem region_one {P : Program} {id : Nat} {ops : Array Oper} {Q : Go.Exit → Act → World → Prop} {a : Act} {w : World} {o : Oper} (h1 : ops.toList = [o]) (hg : o.guard = none) (h : o.wp P a w (Q .normal) Q) : (Code.region id ops false).wp P Q a w := by
  refine wp_region_list ?_
  rw [h1]
  unfold wpList
  rw [if_pos (wanted_none hg)]
  exact .inl h
theorem Rel.base {P : Program} {w : World} {L : Nat → Nat → Prop} {sl : List D} {a : Act} {F : Lf → Nat → Prop} {loc : Nat → Nat × Nat} {M : Nat → Prop} {n : Nat} (R : Rel w L ⟨P,⟨sl,List.replicate n none⟩,a,w,F,loc,M⟩) (hno : ∀ t,(sl.getD t .dead).anyOwn = false) :
    Rel w noL ⟨P,⟨sl,List.replicate n none⟩,a,w,fun _ _ => False,loc,M⟩ := by
  have hce : ∀ (t : Nat) (ds : List D),¬ (List.replicate n (none : Option (List D)))[t]? = some (some ds) := by
    intro t ds h
    rw [List.getElem?_replicate] at h
    split at h <;> simp at h
  have hleaf : ∀ p e xs,(⟨sl,List.replicate n none⟩ : Env).leaf p ≠ .own e xs := by
    rintro ⟨c,t,k⟩ e xs h
    cases c with
    | false => exact notOwn_inS (C := ⟨P,⟨sl,List.replicate n none⟩,a,w,F,loc,M⟩) (hno t) ⟨false,t,k⟩ e xs h ⟨rfl,rfl⟩
    | true =>
      have h : (((List.replicate n (none : Option (List D))).getD t none).getD []).getD k .dead = .own e xs := h
      rw [List.getD_eq_getElem?_getD (l := List.replicate n none),List.getElem?_replicate] at h
      split at h <;> simp at h
  have R1 := R.reF (fun _ _ => False) (fun p e xs h => absurd h (hleaf p e xs)) (fun _ _ h => h.elim) (fun _ _ _ h => h.elim)
  obtain ⟨B,g1,g2,g3⟩ := R1.glob
  exact ⟨R1.tmps,R1.defers,R1.slot,R1.cell,R1.disj,R1.cdisj,R1.fcd,R1.fbound,fun _ _ h => h.elim,fun t ds h => absurd h (hce t ds),⟨rfl,rfl,rfl,Nat.le_refl _,fun _ _ _ => rfl,fun bb cs e fr h => ⟨cs,h,rfl,fun _ _ => rfl⟩⟩,R1.mnew,fun _ _ h => h.elim,⟨B,g1,fun _ _ h => h.elim,g3⟩⟩
theorem bst_new {T e : TypeId} {a : Act} {w : World} {n t : Nat} (hsz : a.tmps.size = n) (hdf : a.defers = []) {v : Value} : BSt T e w w.heap.size (a.put (some t) v) (w.alloc (.cells (Value.agg #[.pointer none,.slice none 0 0]).cells T)) n [] := by
  have h1 : (w.alloc (.cells (Value.agg #[.pointer none,.slice none 0 0]).cells T)).heap[w.heap.size]? = some (.cells #[.pointer none,.slice none 0 0] T (0,0)) := heap_alloc_new w _
  exact ⟨put_size.trans hsz,hdf,rfl,rfl,rfl,fun k hk => heap_alloc_old w _ hk,(Array.getElem?_eq_some_iff.1 h1).1,.inl ⟨Nat.le_refl _,.slice none 0 0,h1,⟨rfl,.inl ⟨rfl,rfl⟩⟩,by simp [Value.ownBlock]⟩⟩
theorem Sem.forget {P : Program} {f : FuncId} {Ein Eout : Env} (h : Sem P f Ein Eout) (g : Nat → Bool) : Sem P f Ein (Eout.forget g) := by
  intro w a F loc M R
  have := h w a F loc M R
  rcases this with ⟨h1,h2⟩ | ⟨v,w',h1,F',loc',h2,h3⟩
  · refine .inl ⟨h1,h2.mono fun e w' ⟨v,he,F',loc',h2,h3⟩ => ⟨v,he,F',loc',h2,h3.forget g⟩⟩
  · exact .inr ⟨v,w',h1,F',loc',h2,h3.forget g⟩
end Go.Proofs.YtagfeejofceheaaGreatDoor.Fw

/- Contracts: the head of a message, written with a strings.Builder. -/
namespace Go.Proofs.YtagfeejofceheaaGreatDoor.Fw
open Go
open Go.Proofs.Tryz
set_option maxRecDepth 100000
set_option maxHeartbeats 1000000
set_option linter.unusedSimpArgs false
set_option linter.unusedVariables false
attribute [local congr] c_bnd c_slot c_cell c_all c_len c_chk c_asm c_opdR c_wp c_pwp c_pOps c_Done c_nx c_blk c_fin c_rowsR c_leafR c_opdsR c_coeLeaf c_coeLeaves c_lendLeaf c_lendLeaves c_coeCapt c_argR c_argsR c_boundR c_partsR c_srcR c_mfgo c_ite c_wpF c_OutF c_pHead c_pDraw
def kcfg (ks : List Nat) : Cfg := ⟨1,fun t => ks.contains t,tb,pts,md⟩
theorem lays166 : Go.Proofs.Lays.n166 Go.Proofs.Tryz.prog join_lays156_ren := { join_lays156 with }
theorem lays169 : Go.Proofs.Lays.n169 Go.Proofs.Tryz.prog join_lays156_ren := { join_lays156 with }
theorem ent74 : ∀ args w,(callFunc (join_lays156_ren.f 166) args).run prog w = .ok (.enter (join_lays156_ren.f 166) args) w := enter_of func74 rfl rfl
theorem ent77 : ∀ args w,(callFunc (join_lays156_ren.f 169) args).run prog w = .ok (.enter (join_lays156_ren.f 169) args) w := enter_of func77 rfl rfl
def I3 (b : Nat) (pM : Value) (a : Act) : Prop := a.tmps.getD 1 undef = pM ∧ a.tmps.getD 2 undef = vS [] ∧ a.tmps.getD 3 undef = .pointer (some ⟨b,0,none⟩)
theorem I3.keep {b : Nat} {pM : Value} {a a' : Act} (h : I3 b pM a) (e1 : a'.tmps.getD 1 undef = a.tmps.getD 1 undef) (e2 : a'.tmps.getD 2 undef = a.tmps.getD 2 undef) (e3 : a'.tmps.getD 3 undef = a.tmps.getD 3 undef) : I3 b pM a' := by
  unfold I3
  rw [e1,e2,e3]
  exact h
theorem I3.k1 {w1 : World} {b : Nat} {pM : Value} {d : D} {a : Act} (h : I3 b pM a) (hd : PV prog w1 b d pM) : PV prog w1 b d (a.tmps.getD 1 undef) := by
  rw [h.1]
  exact hd
theorem I3.k2 {w1 : World} {b : Nat} {pM : Value} {a : Act} (h : I3 b pM a) : PV prog w1 b (.v (vS [])) (a.tmps.getD 2 undef) := by
  rw [h.2.1]
  exact .v rfl rfl
theorem I3.k3 {w1 : World} {b : Nat} {pM : Value} {a : Act} (h : I3 b pM a) : PV prog w1 b (.v (.pointer (some ⟨b,0,none⟩))) (a.tmps.getD 3 undef) := by
  rw [h.2.2]
  exact .v rfl rfl
theorem pv_eq {w1 : World} {b : Nat} {v x : Value} (h : v = x) (h1 : scal x = true) (h2 : one x = true) : PV prog w1 b (.v x) v := by
  rw [h]
  exact .v h1 h2
theorem c44 : H44 := by
  intro me ta st re ba l bo hl hf h1 h2 h3 h4 h5
  have hs : l.length ≤ 9223372036854775807 := hl.1
  have h59 : bo.length ≤ 9223372036854775807 := by omega
  have hn20 := fields_len hf
  have d1 := decDigits_len st
  have d2 := decDigits_len bo.length
  have hfst := first_le h1 h2 h3 h4
  have hH := head_len (ba := ba) hf h1 h2 h3 h4 h5
  have hw := Sem.forget (sem_calls (Ein := ⟨[.agg [.v (vS me),.v (vS ta),.v (vI (st : Nat)),.v (vS re),.v (vB ba),.imm 51 (rowsF l),.v (vS bo)]],[none]⟩) (r := vS (headT me ta st re ba l bo)) (enter_of func44 rfl rfl) rfl (by simp only [scal,decide_eq_true_eq]; exact hH) rfl ?_) (fun t => decide (t = 0))
  · exact hw
  intro w a F loc M R
  have hsz : a.tmps.size = 1 := R.tmps
  refine calls_of_wp func44 rfl ?_
  rw [hsz]
  have hR0 : ∀ t,(([.agg [.v (vS me),.v (vS ta),.v (vI (st : Nat)),.v (vS re),.v (vB ba),.imm 51 (rowsF l),.v (vS bo)]] : List D).getD t .dead).anyOwn = false := by
    intro t
    cases t with
    | zero => rfl
    | succ t => simp [D.anyOwn,D.comps,D.leaves1,D.isOwn]
  have Rb := Rel.base (n := 1) R hR0
  have R1 := Rb.pad (f44.ntmps - 1)
  refine wp_seq ?_
  refine wp_of (op_ok (cfg := kcfg []) tbOk) R1 (fun x E => x = .normal ∧ E.sl.length = 67 ∧ E.sl.getD 1 .dead = .cref 1 0 ∧ E.sl.getD 2 .dead = .v (vS []) ∧ E.ce.getD 1 none = some [.v (vS me),.v (vS ta),.v (vI (st : Nat)),.v (vS re),.v (vB ba),.imm 51 (rowsF l),.v (vS bo)]) ?_ ?_
  · simp only [f44,go_sem,kcfg,Nat.reduceLeDiff,Nat.reduceLT,Nat.reduceAdd,Nat.reduceSub,Nat.reduceMul,Nat.reduceBEq,Nat.reduceBNe,Nat.reduceEqDiff,reduceCtorEq,reduceIte,Int.reduceLT,Int.reduceLE,Int.reduceAdd,Int.reduceSub,Int.reduceNeg,Int.reduceEq,Int.reduceBEq,Int.reduceBNe,Int.reduceToNat,Nat.reduceDiv,Nat.reduceMod,rowsF_length,rowsS_length,sd_nil,sd_cons,List.toList_toArray]
  rintro x ⟨P',E,a1,w1,F1,loc1,M1⟩ R2 hP - ⟨rfl,hq1,hq2,hq3,hq4⟩
  have hP : P' = prog := hP
  subst hP
  have hl1 : Ctx.live ⟨prog,E,a1,w1,F1,loc1,M1⟩ 1 [.v (vS me),.v (vS ta),.v (vI (st : Nat)),.v (vS re),.v (vB ba),.imm 51 (rowsF l),.v (vS bo)] := by
    show E.ce[1]? = _
    have hq4 : E.ce.getD 1 none = _ := hq4
    rw [List.getD_eq_getElem?_getD] at hq4
    cases hx : E.ce[1]? with
    | none => rw [hx] at hq4; cases hq4
    | some y => rw [hx] at hq4; exact congrArg some hq4
  obtain ⟨X,hX1,hX2⟩ := pv_cell R2 hl1 (by
    intro d hd
    simp only [List.mem_cons,List.not_mem_nil,or_false] at hd
    rcases hd with rfl | rfl | rfl | rfl | rfl | rfl | rfl
    · exact .inl ⟨_,rfl⟩
    · exact .inl ⟨_,rfl⟩
    · exact .inl ⟨_,rfl⟩
    · exact .inl ⟨_,rfl⟩
    · exact .inl ⟨_,rfl⟩
    · exact .inr ⟨_,_,rfl⟩
    · exact .inl ⟨_,rfl⟩)
  have p1 : a1.tmps.getD 1 undef = .pointer (some ⟨(loc1 1).1,(loc1 1).2 + 0,none⟩) := slot_cref R2 hq2
  have p2 : a1.tmps.getD 2 undef = vS [] := slot_v R2 hq3
  have hsz1 : a1.tmps.size = 67 := R2.tmps.trans hq1
  have hdf1 : a1.defers = [] := R2.defers
  have hfr : ∀ k,k < w.heap.size → w1.heap[k]? = w.heap[k]? := fun k hk => R2.frame.kept k hk fun _ h => h
  have hsw : w.heap.size ≤ w1.heap.size := R2.frame.size
  have hX2 : ∀ ds' : List D,ds'.length = 7 → (∀ (i : Nat) (d : D),ds'[i]? = some d → d.pure = true ∧ PV prog w1 w1.heap.size d (X i)) → PV prog w1 w1.heap.size (.rptr ds') (.pointer (some ⟨(loc1 1).1,(loc1 1).2 + 0,none⟩)) := hX2
  have hX1 : ∀ (i : Nat) (d : D),([.v (vS me),.v (vS ta),.v (vI (st : Nat)),.v (vS re),.v (vB ba),.imm 51 (rowsF l),.v (vS bo)] : List D)[i]? = some d → PV prog w1 w1.heap.size d (X i) ∧ scal (X i) = true := hX1
  generalize (Value.pointer (some ⟨(loc1 1).1,(loc1 1).2 + 0,none⟩)) = pM at p1 hX2
  have gl : ∀ w2 : World,(∀ k,k < w1.heap.size → w2.heap[k]? = w1.heap[k]?) → w1.heap.size ≤ w2.heap.size → Glob prog w2 noL := fun w2 h1 h2 => glob_low Rb.glob (fun k hk => (h1 k (Nat.lt_of_lt_of_le hk hsw)).trans (hfr k hk)) (Nat.le_trans hsw h2)
  have hos : w1.os = w.os ∧ w1.tape = w.tape ∧ w1.output = w.output := ⟨R2.frame.os,R2.frame.tape,R2.frame.output⟩
  clear R2 hl1 hq1 hq2 hq3 hq4 R1 Rb hR0
  refine wp_seq ?_
  refine region_one rfl rfl ?_
  refine alloc_wp rfl zeroValue74 ?_
  have S1 : BSt 74 5 w1 w1.heap.size (a1.put (some 3) (.pointer (some ⟨w1.heap.size,0,none⟩))) (w1.alloc (.cells (Value.agg #[.pointer none,.slice none 0 0]).cells 74)) 67 [] := bst_new hsz1 hdf1
  have q1 : (a1.put (some 3) (.pointer (some ⟨w1.heap.size,0,none⟩))).tmps.getD 1 undef = pM := (put_keep (by decide)).trans p1
  have q2 : (a1.put (some 3) (.pointer (some ⟨w1.heap.size,0,none⟩))).tmps.getD 2 undef = vS [] := (put_keep (by decide)).trans p2
  have q3 : (a1.put (some 3) (.pointer (some ⟨w1.heap.size,0,none⟩))).tmps.getD 3 undef = .pointer (some ⟨w1.heap.size,0,none⟩) := by
    simp [Act.put,Array.getD,hsz1]
  refine (?_ : Code.wp _ _ _ (a1.put (some 3) (.pointer (some ⟨w1.heap.size,0,none⟩))) (w1.alloc (.cells (Value.agg #[.pointer none,.slice none 0 0]).cells 74)))
  generalize (a1.put (some 3) (.pointer (some ⟨w1.heap.size,0,none⟩))) = a2 at S1 q1 q2 q3 ⊢
  generalize (w1.alloc (.cells (Value.agg #[.pointer none,.slice none 0 0]).cells 74)) = w2 at S1 ⊢
  clear p1 p2 hsz1 hdf1
  have gS : ∀ {a' w' l'},BSt 74 5 w1 w1.heap.size a' w' 67 l' → Glob prog w' noL := fun S => gl _ S.low (Nat.le_of_lt S.hb)
  have hds : PV prog w1 w1.heap.size (.rptr [.v (vS me),.v (vS ta),.v (vI (st : Nat)),.v (vS re),.v (vB ba),.imm 51 (rowsF l),.v (vS bo)]) pM := hX2 _ rfl fun i d hd => ⟨by
    have := List.mem_of_getElem? hd
    simp only [List.mem_cons,List.not_mem_nil,or_false] at this
    rcases this with rfl | rfl | rfl | rfl | rfl | rfl | rfl <;> rfl,(hX1 i d hd).1⟩
  have i3 : I3 w1.heap.size pM a2 := ⟨q1,q2,q3⟩
  clear q1 q2 q3
  have hseg := firstT me ta st re
  refine wp_seq (Code.wp_mono (Q := fun x a w => x = .normal ∧ BSt 74 5 w1 w1.heap.size a w 67 (firstT me ta st re) ∧ I3 w1.heap.size pM a) ?_ ?_)
  · rintro x a3 w3 ⟨rfl,S3,i3⟩
    generalize hG : firstT me ta st re = Fx at S3 hfst
    refine wp_seq (Code.wp_mono (Q := fun x a w => x = .normal ∧ BSt 74 5 w1 w1.heap.size a w 67 (Fx ++ fieldsT l) ∧ I3 w1.heap.size pM a) ?_ ?_)
    · rintro x a4 w4 ⟨rfl,S4,i4⟩
      have t1 := fieldsT_take_le hf l.length
      rw [List.take_of_length_le (Nat.le_refl _)] at t1
      have d4 : (Lib.itoa (bo.length : Int)).length ≤ bo.length + 1 := by rw [itoa_nat]; exact d2
      refine wp_seq (Code.wp_mono (Q := fun x a w => x = .normal ∧ BSt 74 5 w1 w1.heap.size a w 67 (Fx ++ fieldsT l ++ lastT me ba bo) ∧ I3 w1.heap.size pM a) ?_ ?_)
      · rintro x a5 w5 ⟨rfl,S5,i5⟩
        have hHe : headT me ta st re ba l bo = Fx ++ fieldsT l ++ lastT me ba bo ++ [13,10] := by unfold headT; rw [hG]; rfl
        rw [hHe] at hH ⊢
        generalize Fx ++ fieldsT l ++ lastT me ba bo = L at S5 hH ⊢
        have hL9 : L.length ≤ 9223372036854775805 := by simp only [List.length_append,List.length_cons,List.length_nil] at hH; omega
        have hL8 : L.length + 2 ≤ 9223372036854775807 := by omega
        refine wp_seq ?_
        refine BSt.string (op_ok (cfg := kcfg []) tbOk) lays169 join_Builder_Extra_156 ent77 S5 gl rfl rfl rfl rfl rfl rfl i5.2.2 (sl := [.dead,.dead,.dead,.dead,.dead,.dead,.dead,.dead,.dead,.dead,.dead,.dead,.dead,.dead,.dead,.dead,.dead,.dead,.dead,.dead,.dead,.dead,.dead,.dead,.dead,.dead,.dead,.dead,.dead,.dead,.dead,.dead,.dead,.dead,.dead,.dead,.dead,.dead,.dead,.dead,.dead,.dead,.dead,.dead,.dead,.dead,.dead,.dead,.dead,.dead,.dead,.dead,.dead,.dead,.dead,.dead,.dead,.dead,.dead,.dead,.dead,.dead,.dead,.dead,.dead,.v (vS L),.dead]) rfl (fun a' ha' => known_of (by
          have k65 : PV prog w1 w1.heap.size (.v (vS L)) (a'.tmps.getD 65 undef) := pv_eq ha' (by simp only [scal,decide_eq_true_eq]; show L.length ≤ _; omega) rfl
          repeat' (first | exact knownF_rep | exact knownF_nil | refine knownF_cons (.inl rfl) ?_ | refine knownF_cons (.inr (by assumption)) ?_))) (by decide) (fun E => E.sl.length = 67 ∧ E.sl.getD 2 .dead = .v (vS (L ++ [13,10]))) ?_ ?_
        · dsimp only [List.drop,List.toList_toArray]
          simp only [f44,go_sem,kcfg,Nat.reduceLeDiff,Nat.reduceLT,Nat.reduceAdd,Nat.reduceSub,Nat.reduceMul,Nat.reduceBEq,Nat.reduceBNe,Nat.reduceEqDiff,reduceCtorEq,reduceIte,Int.reduceLT,Int.reduceLE,Int.reduceAdd,Int.reduceSub,Int.reduceNeg,Int.reduceEq,Int.reduceBEq,Int.reduceBNe,Int.reduceToNat,Nat.reduceDiv,Nat.reduceMod,rowsF_length,rowsS_length,sd_nil,sd_cons,List.toList_toArray,hL8,hL9]
        intro w0 C R5 o1 o2 o3 low hsz5 hK
        have hv2 := slot_v R5 hK.2
        have hdf := R5.defers
        refine wp_ret ?_
        refine ⟨hdf,C.a.tmps.getD 2 undef,?_,?_,?_⟩
        · simp [results,f44]
        · rw [hv2]
        · exact ⟨o1.trans hos.1,o2.trans hos.2.1,o3.trans hos.2.2,Nat.le_trans hsw hsz5,fun k hk => (low k (Nat.lt_of_lt_of_le hk hsw)).trans (hfr k hk)⟩
      refine wp_seq ?_
      refine BSt.run (op_ok (cfg := kcfg [1,2,3]) tbOk) S4 (sl := ([.dead,.rptr [.v (vS me),.v (vS ta),.v (vI (st : Nat)),.v (vS re),.v (vB ba),.imm 51 (rowsF l),.v (vS bo)],.v (vS []),.v (.pointer (some ⟨w1.heap.size,0,none⟩))] ++ List.replicate 63 .dead)) rfl (gS S4) (known_of (by
        have k1 := i4.k1 hds
        have k2 := i4.k2 (w1 := w1)
        have k3 := i4.k3 (w1 := w1)
        repeat' (first | exact knownF_rep | exact knownF_nil | refine knownF_cons (.inl rfl) ?_ | refine knownF_cons (.inr (by assumption)) ?_))) (fun x E => x = .normal ∧ E.sl.length = 67 ∧ E.sl.getD 57 .dead = .v (vB ((!(me == []) && !(bo == [])) || ((me == []) && !ba)))) ?_ (fun _ _ h => h.2.1) ?_
      · cases hm : me == [] <;> cases hb : bo == [] <;> cases ba <;> simp only [f44,go_sem,kcfg,Nat.reduceLeDiff,Nat.reduceLT,Nat.reduceAdd,Nat.reduceSub,Nat.reduceMul,Nat.reduceBEq,Nat.reduceBNe,Nat.reduceEqDiff,reduceCtorEq,reduceIte,Int.reduceLT,Int.reduceLE,Int.reduceAdd,Int.reduceSub,Int.reduceNeg,Int.reduceEq,Int.reduceBEq,Int.reduceBNe,Int.reduceToNat,Nat.reduceDiv,Nat.reduceMod,rowsF_length,rowsS_length,sd_nil,sd_cons,List.toList_toArray,hm,hb]
      rintro x ⟨P',E,a5,w5,F5,loc5,M5⟩ R5 hP S5 hk5 ⟨rfl,hz,hq⟩
      have S5 : BSt 74 5 w1 w1.heap.size a5 w5 67 (Fx ++ fieldsT l) := S5
      have i5 : I3 w1.heap.size pM a5 := i4.keep (hk5 1 rfl) (hk5 2 rfl) (hk5 3 rfl)
      have hv57 : a5.eval (.tmp 57) = .bool ((!(me == []) && !(bo == [])) || ((me == []) && !ba)) := slot_v R5 hq
      clear R5 hk5 hq hz
      refine wp_cond hv57 ?_
      cases hcv : ((!(me == []) && !(bo == [])) || ((me == []) && !ba))
      · have hlt : lastT me ba bo = [] := by unfold lastT; rw [if_neg (by rw [hcv]; simp)]
        rw [hlt,List.append_nil]
        exact wp_skip ⟨rfl,S5,i5⟩
      · have hlt : lastT me ba bo = 67 :: 111 :: 110 :: 116 :: 101 :: 110 :: 116 :: 45 :: 76 :: 101 :: 110 :: 103 :: 116 :: 104 :: 58 :: 32 :: (Lib.itoa bo.length ++ [13,10]) := by unfold lastT; rw [if_pos hcv]; rfl
        rw [hlt]
        refine BSt.write (op_ok (cfg := kcfg [1,2,3]) tbOk) lays166 join_Builder_Extra_156 ent74 S5 (sl := ([.dead,.rptr [.v (vS me),.v (vS ta),.v (vI (st : Nat)),.v (vS re),.v (vB ba),.imm 51 (rowsF l),.v (vS bo)],.v (vS []),.v (.pointer (some ⟨w1.heap.size,0,none⟩))] ++ List.replicate 63 .dead)) rfl (gS S5) (known_of (by
          have k1 := i5.k1 hds
          have k2 := i5.k2 (w1 := w1)
          have k3 := i5.k3 (w1 := w1)
          repeat' (first | exact knownF_rep | exact knownF_nil | refine knownF_cons (.inl rfl) ?_ | refine knownF_cons (.inr (by assumption)) ?_))) 6 rfl rfl rfl rfl rfl rfl rfl rfl i5.2.2 (y := 63) (s := 67 :: 111 :: 110 :: 116 :: 101 :: 110 :: 116 :: 45 :: 76 :: 101 :: 110 :: 103 :: 116 :: 104 :: 58 :: 32 :: (Lib.itoa bo.length ++ [13,10])) (by simp only [List.length_append,List.length_cons,List.length_nil]; omega) ?_ ?_
        · dsimp only [List.take_succ_cons,List.take_zero,List.toList_toArray]
          simp only [f44,go_sem,kcfg,Nat.reduceLeDiff,Nat.reduceLT,Nat.reduceAdd,Nat.reduceSub,Nat.reduceMul,Nat.reduceBEq,Nat.reduceBNe,Nat.reduceEqDiff,reduceCtorEq,reduceIte,Int.reduceLT,Int.reduceLE,Int.reduceAdd,Int.reduceSub,Int.reduceNeg,Int.reduceEq,Int.reduceBEq,Int.reduceBNe,Int.reduceToNat,Nat.reduceDiv,Nat.reduceMod,rowsF_length,rowsS_length,sd_nil,sd_cons,List.toList_toArray,h59]
          refine ev_call (c75 bo.length (by omega) (by omega) (by omega)) (retW0 rfl rfl rfl rfl) ?_
          simp only [f44,go_sem,kcfg,Nat.reduceLeDiff,Nat.reduceLT,Nat.reduceAdd,Nat.reduceSub,Nat.reduceMul,Nat.reduceBEq,Nat.reduceBNe,Nat.reduceEqDiff,reduceCtorEq,reduceIte,Int.reduceLT,Int.reduceLE,Int.reduceAdd,Int.reduceSub,Int.reduceNeg,Int.reduceEq,Int.reduceBEq,Int.reduceBNe,Int.reduceToNat,Nat.reduceDiv,Nat.reduceMod,rowsF_length,rowsS_length,sd_nil,sd_cons,List.toList_toArray,h59]
          repeat' with_reducible refine And.intro (by (try simp only [List.length_append,List.length_cons,List.length_nil]); omega) ?_
          try ((try simp only [List.length_append,List.length_cons,List.length_nil]); omega)
        intro a6 w6 S6 hk6
        exact ⟨rfl,S6,i5.keep (hk6 1 rfl (by decide)) (hk6 2 rfl (by decide)) (hk6 3 rfl (by decide))⟩
    have hX5 := hX1 5 _ rfl
    have hds5 : PV prog w1 w1.heap.size (.rptr [.v (vS me),.v (vS ta),.v (vI (st : Nat)),.v (vS re),.v (vB ba),.v (X 5),.v (vS bo)]) pM := hX2 _ rfl fun i d hd => by
      have hi : i < 7 := (List.getElem?_eq_some_iff.1 hd).1
      by_cases h5 : i = 5
      · subst h5
        injection hd with hd
        rw [← hd]
        exact ⟨rfl,.v hX5.2 hX5.1.one⟩
      · have hd2 : ([.v (vS me),.v (vS ta),.v (vI (st : Nat)),.v (vS re),.v (vB ba),.imm 51 (rowsF l),.v (vS bo)] : List D)[i]? = some d := by
          have : i = 0 ∨ i = 1 ∨ i = 2 ∨ i = 3 ∨ i = 4 ∨ i = 6 := by omega
          rcases this with rfl | rfl | rfl | rfl | rfl | rfl <;> exact hd
        refine ⟨?_,(hX1 i d hd2).1⟩
        have := List.mem_of_getElem? hd
        simp only [List.mem_cons,List.not_mem_nil,or_false] at this
        rcases this with rfl | rfl | rfl | rfl | rfl | rfl | rfl <;> rfl
    refine wp_seq ?_
    refine BSt.run2 (op_ok (cfg := kcfg [1,2,3]) tbOk) (op_ok (cfg := kcfg [1,2,3,29]) tbOk) S3 (sl1 := ([.dead,.rptr [.v (vS me),.v (vS ta),.v (vI (st : Nat)),.v (vS re),.v (vB ba),.v (X 5),.v (vS bo)],.v (vS []),.v (.pointer (some ⟨w1.heap.size,0,none⟩))] ++ List.replicate 63 .dead)) (sl2 := [.dead,.rptr [.v (vS me),.v (vS ta),.v (vI (st : Nat)),.v (vS re),.v (vB ba),.imm 51 (rowsF l),.v (vS bo)],.v (vS []),.v (.pointer (some ⟨w1.heap.size,0,none⟩)),.dead,.dead,.dead,.dead,.dead,.dead,.dead,.dead,.dead,.dead,.dead,.dead,.dead,.dead,.dead,.dead,.dead,.dead,.dead,.dead,.dead,.dead,.dead,.dead,.dead,.imm 51 (rowsF l),.dead,.dead,.dead,.dead,.dead,.dead,.dead,.dead,.dead,.dead,.dead,.dead,.dead,.dead,.dead,.dead,.dead,.dead,.dead,.dead,.dead,.dead,.dead,.dead,.dead,.dead,.dead,.dead,.dead,.dead,.dead,.dead,.dead,.dead,.dead,.dead,.dead]) rfl rfl gS (known_of (by
      have k1 := i3.k1 hds5
      have k2 := i3.k2 (w1 := w1)
      have k3 := i3.k3 (w1 := w1)
      repeat' (first | exact knownF_rep | exact knownF_nil | refine knownF_cons (.inl rfl) ?_ | refine knownF_cons (.inr (by assumption)) ?_))) 2 (fun E => E.sl.length = 67 ∧ E.sl.getD 29 .dead = .v (X 5)) (fun E => E.sl.length = 67 ∧ E.sl.getD 30 .dead = .v (vI l.length) ∧ E.sl.getD 31 .dead = .v (vI 0)) ?_ (fun _ h => h.1) (fun _ h => h.1) ?_ ?_ ?_
    · dsimp only [List.take_succ_cons,List.take_zero,List.toList_toArray]
      simp only [f44,go_sem,kcfg,Nat.reduceLeDiff,Nat.reduceLT,Nat.reduceAdd,Nat.reduceSub,Nat.reduceMul,Nat.reduceBEq,Nat.reduceBNe,Nat.reduceEqDiff,reduceCtorEq,reduceIte,Int.reduceLT,Int.reduceLE,Int.reduceAdd,Int.reduceSub,Int.reduceNeg,Int.reduceEq,Int.reduceBEq,Int.reduceBNe,Int.reduceToNat,Nat.reduceDiv,Nat.reduceMod,rowsF_length,rowsS_length,sd_nil,sd_cons,List.toList_toArray]
    · intro w0 C R5 hk5 hK
      have i5 : I3 w1.heap.size pM C.a := i3.keep (hk5 1 rfl) (hk5 2 rfl) (hk5 3 rfl)
      refine known_of (by
        have k1 := i5.k1 hds
        have k2 := i5.k2 (w1 := w1)
        have k3 := i5.k3 (w1 := w1)
        have k29 : PV prog w1 w1.heap.size (.imm 51 (rowsF l)) (C.a.tmps.getD 29 undef) := by rw [slot_v R5 hK.2]; exact hX5.1
        repeat' (first | exact knownF_rep | exact knownF_nil | refine knownF_cons (.inl rfl) ?_ | refine knownF_cons (.inr (by assumption)) ?_))
    · dsimp only [List.drop,List.toList_toArray]
      simp only [f44,go_sem,kcfg,Nat.reduceLeDiff,Nat.reduceLT,Nat.reduceAdd,Nat.reduceSub,Nat.reduceMul,Nat.reduceBEq,Nat.reduceBNe,Nat.reduceEqDiff,reduceCtorEq,reduceIte,Int.reduceLT,Int.reduceLE,Int.reduceAdd,Int.reduceSub,Int.reduceNeg,Int.reduceEq,Int.reduceBEq,Int.reduceBNe,Int.reduceToNat,Nat.reduceDiv,Nat.reduceMod,rowsF_length,rowsS_length,sd_nil,sd_cons,List.toList_toArray,hs]
    rintro w0 C a5 R5 S5 hk5 ⟨w5,C5,R6,rfl,hK5⟩ hk6 ⟨hz,hq1,hq2⟩
    have i5 : I3 w1.heap.size pM C.a := i3.keep (hk5 1 rfl rfl) (hk5 2 rfl rfl) (hk5 3 rfl rfl)
    have v29 : C.a.tmps.getD 29 undef = X 5 := (hk6 29 rfl).trans (slot_v R6 hK5.2)
    have v30 := slot_v R5 hq1
    have v31 := slot_v R5 hq2
    refine (?_ : Code.wp _ _ _ C.a C.w)
    generalize C.a = aL at S5 i5 v29 v30 v31 ⊢
    generalize C.w = wL at S5 ⊢
    clear R5 hk5 R6 hK5 hk6 hz hq1 hq2
    refine wp_block ?_
    refine wp_loop_rounds (l.length + 1) ?_
    obtain ⟨i,hlt,hi,S6,v31b⟩ : ∃ i : Nat,l.length - i < l.length + 1 ∧ i ≤ l.length ∧ BSt 74 5 w1 w1.heap.size aL wL 67 (Fx ++ fieldsT (l.take i)) ∧ aL.tmps.getD 31 undef = vI i := ⟨0,by omega,by omega,by simpa [fieldsT] using S5,v31⟩
    clear S5 v31
    generalize l.length + 1 = N at hlt ⊢
    induction N generalizing aL wL i with
    | zero => omega
    | succ N ih =>
      have hfl := fieldsT_take_le hf i
      rw [rounds_succ]
      have k29 : PV prog w1 w1.heap.size (.imm 51 (rowsF l)) (aL.tmps.getD 29 undef) := by rw [v29]; exact hX5.1
      have k30 : PV prog w1 w1.heap.size (.v (vI l.length)) (aL.tmps.getD 30 undef) := pv_eq v30 rfl rfl
      have k31 : PV prog w1 w1.heap.size (.v (vI i)) (aL.tmps.getD 31 undef) := pv_eq v31b rfl rfl
      refine wp_seq ?_
      refine BSt.run (op_ok (cfg := kcfg [1,2,3,29,30,31]) tbOk) S6 (sl := [.dead,.rptr [.v (vS me),.v (vS ta),.v (vI (st : Nat)),.v (vS re),.v (vB ba),.imm 51 (rowsF l),.v (vS bo)],.v (vS []),.v (.pointer (some ⟨w1.heap.size,0,none⟩)),.dead,.dead,.dead,.dead,.dead,.dead,.dead,.dead,.dead,.dead,.dead,.dead,.dead,.dead,.dead,.dead,.dead,.dead,.dead,.dead,.dead,.dead,.dead,.dead,.dead,.imm 51 (rowsF l),.v (vI l.length),.v (vI i),.dead,.dead,.dead,.dead,.dead,.dead,.dead,.dead,.dead,.dead,.dead,.dead,.dead,.dead,.dead,.dead,.dead,.dead,.dead,.dead,.dead,.dead,.dead,.dead,.dead,.dead,.dead,.dead,.dead,.dead,.dead,.dead,.dead,.dead,.dead]) rfl (gS S6) (known_of (by
        have k1 := i5.k1 hds
        have k2 := i5.k2 (w1 := w1)
        have k3 := i5.k3 (w1 := w1)
        repeat' (first | exact knownF_rep | exact knownF_nil | refine knownF_cons (.inl rfl) ?_ | refine knownF_cons (.inr (by assumption)) ?_))) (fun x E => x = .normal ∧ E.sl.length = 67 ∧ E.sl.getD 32 .dead = .v (vB (decide (i < l.length)))) ?_ (fun _ _ h => h.2.1) ?_
      · simp only [f44,go_sem,kcfg,Nat.reduceLeDiff,Nat.reduceLT,Nat.reduceAdd,Nat.reduceSub,Nat.reduceMul,Nat.reduceBEq,Nat.reduceBNe,Nat.reduceEqDiff,reduceCtorEq,reduceIte,Int.reduceLT,Int.reduceLE,Int.reduceAdd,Int.reduceSub,Int.reduceNeg,Int.reduceEq,Int.reduceBEq,Int.reduceBNe,Int.reduceToNat,Nat.reduceDiv,Nat.reduceMod,rowsF_length,rowsS_length,sd_nil,sd_cons,List.toList_toArray]
      rintro x ⟨P',E,a6,w6,F6,loc6,M6⟩ R6 hP S7 hk7 ⟨rfl,hz,hq⟩
      have S7 : BSt 74 5 w1 w1.heap.size a6 w6 67 (Fx ++ fieldsT (l.take i)) := S7
      have i7 : I3 w1.heap.size pM a6 := i5.keep (hk7 1 rfl) (hk7 2 rfl) (hk7 3 rfl)
      have u29 : a6.tmps.getD 29 undef = X 5 := (hk7 29 rfl).trans v29
      have u30 : a6.tmps.getD 30 undef = vI l.length := (hk7 30 rfl).trans v30
      have u31 : a6.tmps.getD 31 undef = vI i := (hk7 31 rfl).trans v31b
      have hv32 : a6.eval (.tmp 32) = .bool (decide (i < l.length)) := slot_v R6 hq
      clear R6 hk7 hq hz k29 k30 k31 S6 i5 v29 v30 v31b
      refine wp_seq ?_
      by_cases hc : i < l.length
      · rw [decide_eq_true hc] at hv32
        refine wp_cond hv32 ?_
        refine wp_skip ?_
        have hw := wrapN hc hs
        have g1 := rowsF_getD hc
        have g2 := fieldsB_at hf hc
        have g3 := fieldB_le g2
        have g4 := fieldT_len (l.getD i ([],[]))
        have hci : ((i : Int) < (l.length : Int)) := by omega
        refine wp_seq ?_
        refine wp_block ?_
        refine wp_seq ?_
        have R7 := S7.rel (sl := [.dead,.rptr [.v (vS me),.v (vS ta),.v (vI (st : Nat)),.v (vS re),.v (vB ba),.imm 51 (rowsF l),.v (vS bo)],.v (vS []),.v (.pointer (some ⟨w1.heap.size,0,none⟩)),.dead,.dead,.dead,.dead,.dead,.dead,.dead,.dead,.dead,.dead,.dead,.dead,.dead,.dead,.dead,.dead,.dead,.dead,.dead,.dead,.dead,.dead,.dead,.dead,.dead,.imm 51 (rowsF l),.v (vI l.length),.v (vI i),.dead,.dead,.dead,.dead,.dead,.dead,.dead,.dead,.dead,.dead,.dead,.dead,.dead,.dead,.dead,.dead,.dead,.dead,.dead,.dead,.dead,.dead,.dead,.dead,.dead,.dead,.dead,.dead,.dead,.dead,.dead,.dead,.dead,.dead,.dead]) rfl (gS S7) (known_of (by
          have k1 := i7.k1 hds
          have k2 := i7.k2 (w1 := w1)
          have k3 := i7.k3 (w1 := w1)
          have k29 : PV prog w1 w1.heap.size (.imm 51 (rowsF l)) (a6.tmps.getD 29 undef) := by rw [u29]; exact hX5.1
          have k30 : PV prog w1 w1.heap.size (.v (vI l.length)) (a6.tmps.getD 30 undef) := pv_eq u30 rfl rfl
          have k31 : PV prog w1 w1.heap.size (.v (vI i)) (a6.tmps.getD 31 undef) := pv_eq u31 rfl rfl
          repeat' (first | exact knownF_rep | exact knownF_nil | refine knownF_cons (.inl rfl) ?_ | refine knownF_cons (.inr (by assumption)) ?_)))
        refine wp_of (op_ok (cfg := kcfg [1,2,3,29,30,31]) tbOk) R7 (fun x E => x = .normal ∧ E.sl.length = 67 ∧ E.forget (fun t => !([3,5] : List Nat).contains t) = (⟨[.dead,.dead,.dead,.v (.pointer (some ⟨w1.heap.size,0,none⟩)),.dead,.cref 5 0,.dead,.dead,.dead,.dead,.dead,.dead,.dead,.dead,.dead,.dead,.dead,.dead,.dead,.dead,.dead,.dead,.dead,.dead,.dead,.dead,.dead,.dead,.dead,.dead,.dead,.dead,.dead,.dead,.dead,.dead,.dead,.dead,.dead,.dead,.dead,.dead,.dead,.dead,.dead,.dead,.dead,.dead,.dead,.dead,.dead,.dead,.dead,.dead,.dead,.dead,.dead,.dead,.dead,.dead,.dead,.dead,.dead,.dead,.dead,.dead,.dead],[none,none,none,none,none,some [.v (vS (l.getD i ([],[])).1),.v (vS (l.getD i ([],[])).2)],none,none,none,none,none,none,none,none,none,none,none,none,none,none,none,none,none,none,none,none,none,none,none,none,none,none,none,none,none,none,none,none,none,none,none,none,none,none,none,none,none,none,none,none,none,none,none,none,none,none,none,none,none,none,none,none,none,none,none,none,none]⟩ : Env)) ?_ ?_
        · simp only [f44,go_sem,kcfg,Nat.reduceLeDiff,Nat.reduceLT,Nat.reduceAdd,Nat.reduceSub,Nat.reduceMul,Nat.reduceBEq,Nat.reduceBNe,Nat.reduceEqDiff,reduceCtorEq,reduceIte,Int.reduceLT,Int.reduceLE,Int.reduceAdd,Int.reduceSub,Int.reduceNeg,Int.reduceEq,Int.reduceBEq,Int.reduceBNe,Int.reduceToNat,Nat.reduceDiv,Nat.reduceMod,rowsF_length,rowsS_length,sd_nil,sd_cons,List.toList_toArray,hc,hci,g1]
          first | rfl | exact ⟨rfl,rfl,rfl⟩ | trace_state
        rintro x C R8 hP hk8 ⟨rfl,hz,hE5⟩
        have S8 := S7.after R8 hz
        have i8 : I3 w1.heap.size pM C.a := i7.keep (hk8 1 rfl) (hk8 2 rfl) (hk8 3 rfl)
        have y29 : C.a.tmps.getD 29 undef = X 5 := (hk8 29 rfl).trans u29
        have y30 : C.a.tmps.getD 30 undef = vI l.length := (hk8 30 rfl).trans u30
        have y31 : C.a.tmps.getD 31 undef = vI i := (hk8 31 rfl).trans u31
        have R9 := R8.forget (fun t => !([3,5] : List Nat).contains t)
        rw [hE5] at R9
        refine (?_ : Code.wp _ _ _ ({ C with E := (⟨[.dead,.dead,.dead,.v (.pointer (some ⟨w1.heap.size,0,none⟩)),.dead,.cref 5 0,.dead,.dead,.dead,.dead,.dead,.dead,.dead,.dead,.dead,.dead,.dead,.dead,.dead,.dead,.dead,.dead,.dead,.dead,.dead,.dead,.dead,.dead,.dead,.dead,.dead,.dead,.dead,.dead,.dead,.dead,.dead,.dead,.dead,.dead,.dead,.dead,.dead,.dead,.dead,.dead,.dead,.dead,.dead,.dead,.dead,.dead,.dead,.dead,.dead,.dead,.dead,.dead,.dead,.dead,.dead,.dead,.dead,.dead,.dead,.dead,.dead],[none,none,none,none,none,some [.v (vS (l.getD i ([],[])).1),.v (vS (l.getD i ([],[])).2)],none,none,none,none,none,none,none,none,none,none,none,none,none,none,none,none,none,none,none,none,none,none,none,none,none,none,none,none,none,none,none,none,none,none,none,none,none,none,none,none,none,none,none,none,none,none,none,none,none,none,none,none,none,none,none,none,none,none,none,none,none]⟩ : Env) } : Ctx).a ({ C with E := (⟨[.dead,.dead,.dead,.v (.pointer (some ⟨w1.heap.size,0,none⟩)),.dead,.cref 5 0,.dead,.dead,.dead,.dead,.dead,.dead,.dead,.dead,.dead,.dead,.dead,.dead,.dead,.dead,.dead,.dead,.dead,.dead,.dead,.dead,.dead,.dead,.dead,.dead,.dead,.dead,.dead,.dead,.dead,.dead,.dead,.dead,.dead,.dead,.dead,.dead,.dead,.dead,.dead,.dead,.dead,.dead,.dead,.dead,.dead,.dead,.dead,.dead,.dead,.dead,.dead,.dead,.dead,.dead,.dead,.dead,.dead,.dead,.dead,.dead,.dead],[none,none,none,none,none,some [.v (vS (l.getD i ([],[])).1),.v (vS (l.getD i ([],[])).2)],none,none,none,none,none,none,none,none,none,none,none,none,none,none,none,none,none,none,none,none,none,none,none,none,none,none,none,none,none,none,none,none,none,none,none,none,none,none,none,none,none,none,none,none,none,none,none,none,none,none,none,none,none,none,none,none,none,none,none,none,none]⟩ : Env) } : Ctx).w)
        refine BSt.write_in (op_ok (cfg := kcfg [1,2,3,29,30,31]) tbOk) lays166 join_Builder_Extra_156 ent74 S7 R9 hP 3 rfl rfl rfl rfl rfl rfl rfl rfl i8.2.2 (y := 37) (s := fieldT (l.getD i ([],[])) ++ [13,10]) (by simp only [List.length_append,List.length_cons,List.length_nil,g4]; omega) ?_ ?_
        · dsimp only [List.take_succ_cons,List.take_zero,List.toList_toArray]
          simp only [f44,go_sem,kcfg,Nat.reduceLeDiff,Nat.reduceLT,Nat.reduceAdd,Nat.reduceSub,Nat.reduceMul,Nat.reduceBEq,Nat.reduceBNe,Nat.reduceEqDiff,reduceCtorEq,reduceIte,Int.reduceLT,Int.reduceLE,Int.reduceAdd,Int.reduceSub,Int.reduceNeg,Int.reduceEq,Int.reduceBEq,Int.reduceBNe,Int.reduceToNat,Nat.reduceDiv,Nat.reduceMod,rowsF_length,rowsS_length,sd_nil,sd_cons,List.toList_toArray]
          refine ev_call (c76 _ _ (by omega) (by omega)) (retW0 rfl rfl rfl rfl) ?_
          simp only [f44,go_sem,kcfg,Nat.reduceLeDiff,Nat.reduceLT,Nat.reduceAdd,Nat.reduceSub,Nat.reduceMul,Nat.reduceBEq,Nat.reduceBNe,Nat.reduceEqDiff,reduceCtorEq,reduceIte,Int.reduceLT,Int.reduceLE,Int.reduceAdd,Int.reduceSub,Int.reduceNeg,Int.reduceEq,Int.reduceBEq,Int.reduceBNe,Int.reduceToNat,Nat.reduceDiv,Nat.reduceMod,rowsF_length,rowsS_length,sd_nil,sd_cons,List.toList_toArray]
          repeat' with_reducible refine And.intro (by (try simp only [List.length_append,List.length_cons,List.length_nil,g4]); omega) ?_
          try ((try simp only [List.length_append,List.length_cons,List.length_nil,g4]); omega)
        intro a7 w7 S9 hk9
        have i9 : I3 w1.heap.size pM a7 := i8.keep (hk9 1 rfl (by decide)) (hk9 2 rfl (by decide)) (hk9 3 rfl (by decide))
        have z29 : a7.tmps.getD 29 undef = X 5 := (hk9 29 rfl (by decide)).trans y29
        have z30 : a7.tmps.getD 30 undef = vI l.length := (hk9 30 rfl (by decide)).trans y30
        have z31 : a7.tmps.getD 31 undef = vI i := (hk9 31 rfl (by decide)).trans y31
        have hsn : Fx ++ fieldsT (l.take i) ++ (fieldT (l.getD i ([],[])) ++ [13,10]) = Fx ++ fieldsT (l.take (i + 1)) := by
          rw [fieldsT_snoc hc,List.append_assoc]; rfl
        rw [hsn] at S9
        clear R7 R8 R9 hk8 hk9 S8
        refine BSt.run (op_ok (cfg := kcfg [1,2,3,29,30]) tbOk) S9 (sl := [.dead,.rptr [.v (vS me),.v (vS ta),.v (vI (st : Nat)),.v (vS re),.v (vB ba),.imm 51 (rowsF l),.v (vS bo)],.v (vS []),.v (.pointer (some ⟨w1.heap.size,0,none⟩)),.dead,.dead,.dead,.dead,.dead,.dead,.dead,.dead,.dead,.dead,.dead,.dead,.dead,.dead,.dead,.dead,.dead,.dead,.dead,.dead,.dead,.dead,.dead,.dead,.dead,.imm 51 (rowsF l),.v (vI l.length),.v (vI i),.dead,.dead,.dead,.dead,.dead,.dead,.dead,.dead,.dead,.dead,.dead,.dead,.dead,.dead,.dead,.dead,.dead,.dead,.dead,.dead,.dead,.dead,.dead,.dead,.dead,.dead,.dead,.dead,.dead,.dead,.dead,.dead,.dead,.dead,.dead]) rfl (gS S9) (known_of (by
          have k1 := i9.k1 hds
          have k2 := i9.k2 (w1 := w1)
          have k3 := i9.k3 (w1 := w1)
          have k29 : PV prog w1 w1.heap.size (.imm 51 (rowsF l)) (a7.tmps.getD 29 undef) := by rw [z29]; exact hX5.1
          have k30 : PV prog w1 w1.heap.size (.v (vI l.length)) (a7.tmps.getD 30 undef) := pv_eq z30 rfl rfl
          have k31 : PV prog w1 w1.heap.size (.v (vI i)) (a7.tmps.getD 31 undef) := pv_eq z31 rfl rfl
          repeat' (first | exact knownF_rep | exact knownF_nil | refine knownF_cons (.inl rfl) ?_ | refine knownF_cons (.inr (by assumption)) ?_))) (fun x E => x = .normal ∧ E.sl.length = 67 ∧ E.sl.getD 31 .dead = .v (vI (i + 1 : Nat))) ?_ (fun _ _ h => h.2.1) ?_
        · simp only [f44,go_sem,kcfg,Nat.reduceLeDiff,Nat.reduceLT,Nat.reduceAdd,Nat.reduceSub,Nat.reduceMul,Nat.reduceBEq,Nat.reduceBNe,Nat.reduceEqDiff,reduceCtorEq,reduceIte,Int.reduceLT,Int.reduceLE,Int.reduceAdd,Int.reduceSub,Int.reduceNeg,Int.reduceEq,Int.reduceBEq,Int.reduceBNe,Int.reduceToNat,Nat.reduceDiv,Nat.reduceMod,rowsF_length,rowsS_length,sd_nil,sd_cons,List.toList_toArray,hw]
        rintro x ⟨P',E,a8,w8,F8,loc8,M8⟩ R10 hP S10 hk10 ⟨rfl,hz,hq⟩
        exact ih a8 (i9.keep (hk10 1 rfl) (hk10 2 rfl) (hk10 3 rfl)) ((hk10 29 rfl).trans z29) ((hk10 30 rfl).trans z30) w8 (i + 1) hc S10 (slot_v R10 hq) (by omega)
      · rw [decide_eq_false hc] at hv32
        refine wp_cond hv32 ?_
        refine wp_exit ?_
        have he : i = l.length := by omega
        subst he
        rw [List.take_of_length_le (Nat.le_refl _)] at S7
        exact ⟨rfl,S7,i7⟩
  refine wp_seq ?_
  refine BSt.run (op_ok (cfg := kcfg [1,2,3]) tbOk) S1 (sl := ([.dead,.rptr [.v (vS me),.v (vS ta),.v (vI (st : Nat)),.v (vS re),.v (vB ba),.imm 51 (rowsF l),.v (vS bo)],.v (vS []),.v (.pointer (some ⟨w1.heap.size,0,none⟩))] ++ List.replicate 63 .dead)) rfl (gS S1) (known_of (by
    have k1 := i3.k1 hds
    have k2 := i3.k2 (w1 := w1)
    have k3 := i3.k3 (w1 := w1)
    repeat' (first | exact knownF_rep | exact knownF_nil | refine knownF_cons (.inl rfl) ?_ | refine knownF_cons (.inr (by assumption)) ?_))) (fun x E => x = .normal ∧ E.sl.length = 67 ∧ E.sl.getD 8 .dead = .v (vB (!(me == [])))) ?_ (fun _ _ h => h.2.1) ?_
  · simp only [f44,go_sem,kcfg,Nat.reduceLeDiff,Nat.reduceLT,Nat.reduceAdd,Nat.reduceSub,Nat.reduceMul,Nat.reduceBEq,Nat.reduceBNe,Nat.reduceEqDiff,reduceCtorEq,reduceIte,Int.reduceLT,Int.reduceLE,Int.reduceAdd,Int.reduceSub,Int.reduceNeg,Int.reduceEq,Int.reduceBEq,Int.reduceBNe,Int.reduceToNat,Nat.reduceDiv,Nat.reduceMod,rowsF_length,rowsS_length,sd_nil,sd_cons,List.toList_toArray]
  rintro x ⟨P',E,a3,w3,F3,loc3,M3⟩ R3 hP S3 hk3 ⟨rfl,hz,hq⟩
  have S3 : BSt 74 5 w1 w1.heap.size a3 w3 67 [] := S3
  have i3 : I3 w1.heap.size pM a3 := i3.keep (hk3 1 rfl) (hk3 2 rfl) (hk3 3 rfl)
  have hv8 : a3.eval (.tmp 8) = .bool (!(me == [])) := slot_v R3 hq
  clear R3 hk3 hq hz
  have K3 : Known prog w1 w1.heap.size a3 ([.dead,.rptr [.v (vS me),.v (vS ta),.v (vI (st : Nat)),.v (vS re),.v (vB ba),.imm 51 (rowsF l),.v (vS bo)],.v (vS []),.v (.pointer (some ⟨w1.heap.size,0,none⟩))] ++ List.replicate 63 .dead) := known_of (by
    have k1 := i3.k1 hds
    have k2 := i3.k2 (w1 := w1)
    have k3 := i3.k3 (w1 := w1)
    repeat' (first | exact knownF_rep | exact knownF_nil | refine knownF_cons (.inl rfl) ?_ | refine knownF_cons (.inr (by assumption)) ?_))
  refine wp_cond hv8 ?_
  cases hm : me == []
  · have hF : firstT me ta st re = me ++ [32] ++ ta ++ [32,72,84,84,80,47,49,46,49] ++ [13,10] := by
      unfold firstT; rw [hm]; rfl
    rw [hF]
    refine BSt.write (op_ok (cfg := kcfg [1,2,3]) tbOk) lays166 join_Builder_Extra_156 ent74 S3 (sl := ([.dead,.rptr [.v (vS me),.v (vS ta),.v (vI (st : Nat)),.v (vS re),.v (vB ba),.imm 51 (rowsF l),.v (vS bo)],.v (vS []),.v (.pointer (some ⟨w1.heap.size,0,none⟩))] ++ List.replicate 63 .dead)) rfl (gS S3) K3 8 rfl rfl rfl rfl rfl rfl rfl rfl i3.2.2 (y := 16) (s := me ++ [32] ++ ta ++ [32,72,84,84,80,47,49,46,49] ++ [13,10]) (by simp; omega) ?_ ?_
    · dsimp only [List.take_succ_cons,List.take_zero,List.toList_toArray]
      simp only [f44,go_sem,kcfg,Nat.reduceLeDiff,Nat.reduceLT,Nat.reduceAdd,Nat.reduceSub,Nat.reduceMul,Nat.reduceBEq,Nat.reduceBNe,Nat.reduceEqDiff,reduceCtorEq,reduceIte,Int.reduceLT,Int.reduceLE,Int.reduceAdd,Int.reduceSub,Int.reduceNeg,Int.reduceEq,Int.reduceBEq,Int.reduceBNe,Int.reduceToNat,Nat.reduceDiv,Nat.reduceMod,rowsF_length,rowsS_length,sd_nil,sd_cons,List.toList_toArray]
      repeat' with_reducible refine And.intro (by (try simp only [List.length_append,List.length_cons,List.length_nil]); omega) ?_
      try ((try simp only [List.length_append,List.length_cons,List.length_nil]); omega)
    intro a4 w4 S4 hk4
    exact ⟨rfl,S4,i3.keep (hk4 1 rfl (by decide)) (hk4 2 rfl (by decide)) (hk4 3 rfl (by decide))⟩
  · have hm1 : me = [] := by simpa using hm
    have hF : firstT me ta st re = 72 :: 84 :: 84 :: 80 :: 47 :: 49 :: 46 :: 49 :: 32 :: (Lib.itoa st ++ [32] ++ re ++ [13,10]) := by
      unfold firstT; rw [hm]; simp [httpA,crlf]
    rw [hF]
    have d3 : (Lib.itoa (st : Int)).length ≤ st + 1 := by rw [itoa_nat]; exact d1
    refine BSt.write_draw (op_ok (cfg := kcfg [1,2,3]) tbOk) lays166 join_Builder_Extra_156 ent74 S3 (sl := ([.dead,.rptr [.v (vS me),.v (vS ta),.v (vI (st : Nat)),.v (vS re),.v (vB ba),.imm 51 (rowsF l),.v (vS bo)],.v (vS []),.v (.pointer (some ⟨w1.heap.size,0,none⟩))] ++ List.replicate 63 .dead)) rfl (gS S3) K3 mixedOk 9 [[19,20,21,22,23,24,25,26],[20,21,22,23,24,25,26],[18,21,22,23,24,25,26],[18,19,22,23,24,25,26],[18,19,20,23,24,25,26],[18,19,20,21,22,24,25,26],[18,19,20,21,22,25,26],[18,19,20,21,23,26],[18,19,20,21,22,23,24]] rfl rfl rfl rfl rfl rfl rfl rfl rfl i3.2.2 (y := 26) (s := 72 :: 84 :: 84 :: 80 :: 47 :: 49 :: 46 :: 49 :: 32 :: (Lib.itoa st ++ [32] ++ re ++ [13,10])) (by simp; omega) ?_ ?_
    · simp only [f44,go_sem,kcfg,Nat.reduceLeDiff,Nat.reduceLT,Nat.reduceAdd,Nat.reduceSub,Nat.reduceMul,Nat.reduceBEq,Nat.reduceBNe,Nat.reduceEqDiff,reduceCtorEq,reduceIte,Int.reduceLT,Int.reduceLE,Int.reduceAdd,Int.reduceSub,Int.reduceNeg,Int.reduceEq,Int.reduceBEq,Int.reduceBNe,Int.reduceToNat,Nat.reduceDiv,Nat.reduceMod,rowsF_length,rowsS_length,sd_nil,sd_cons,List.toList_toArray]
      refine of_call (c75 st (by omega) (by omega) (by omega)) (retW0 rfl rfl rfl rfl) rfl rfl rfl ?_
      simp only [f44,go_sem,kcfg,Nat.reduceLeDiff,Nat.reduceLT,Nat.reduceAdd,Nat.reduceSub,Nat.reduceMul,Nat.reduceBEq,Nat.reduceBNe,Nat.reduceEqDiff,reduceCtorEq,reduceIte,Int.reduceLT,Int.reduceLE,Int.reduceAdd,Int.reduceSub,Int.reduceNeg,Int.reduceEq,Int.reduceBEq,Int.reduceBNe,Int.reduceToNat,Nat.reduceDiv,Nat.reduceMod,rowsF_length,rowsS_length,sd_nil,sd_cons,List.toList_toArray]
      repeat' with_reducible refine And.intro (by (try simp only [List.length_append,List.length_cons,List.length_nil]); omega) ?_
      try ((try simp only [List.length_append,List.length_cons,List.length_nil]); omega)
    intro a4 w4 S4 hk4
    exact ⟨rfl,S4,i3.keep (hk4 1 rfl (by decide)) (hk4 2 rfl (by decide)) (hk4 3 rfl (by decide))⟩
end Go.Proofs.YtagfeejofceheaaGreatDoor.Fw

/- Contracts: messages measured, copied, compared, marked. -/
namespace Go.Proofs.YtagfeejofceheaaGreatDoor.Fw
open Go
open Go.Proofs.Tryz
set_option maxRecDepth 100000
set_option maxHeartbeats 600000
set_option linter.unusedSimpArgs false
set_option linter.unusedVariables false
attribute [local congr] c_bnd c_slot c_cell c_all c_len c_chk c_asm c_opdR c_wp c_pwp c_pOps c_Done c_nx c_blk c_fin c_rowsR c_leafR c_opdsR c_coeLeaf c_coeLeaves c_lendLeaf c_lendLeaves c_coeCapt c_argR c_argsR c_boundR c_partsR c_srcR c_mfgo c_ite c_wpF c_OutF c_pHead c_pDraw
def mdead (x : D) : D := .agg [.dead,.dead,.dead,.dead,.dead,x,.dead]
def mcfg (np : Nat) (ks : List Nat) : Cfg := ⟨np,fun t => ks.contains t,tb,pts,md⟩
theorem c9 (me ta : List UInt8) (st : Int) (re : List UInt8) (ba : Bool) (l : List Fld) (bo : List UInt8) (hl : l.length ≤ 1048576) (k : Nat) (h1 : 0 < k) (hk : k ≤ 4) : Sem prog 9 ⟨[.agg [.v (vS me),.v (vS ta),.v (vI st),.v (vS re),.v (vB ba),.own 51 (rowsF l),.v (vS bo)],.v (vI k)],[none,none]⟩ ⟨[mdead (.own 51 (rowsF (marks l.length k))),.dead,.v (vI (k + 2 * l.length : Nat))],[none,none]⟩ := by
  refine sem_fin (cfg := mcfg 2 [0]) (ts := [.tm 4]) tbOk func9 rfl rfl rfl rfl (fun t h => by simp [mcfg] at h; subst h; decide) ?_
  have h21 := c21 l hl k h1 hk
  simp only [f9,go_sem,mcfg,Nat.reduceLeDiff,Nat.reduceLT,Nat.reduceAdd,Nat.reduceSub,Nat.reduceMul,Nat.reduceBEq,Nat.reduceBNe,Nat.reduceEqDiff,reduceCtorEq,reduceIte,Int.reduceLT,Int.reduceLE,Int.reduceAdd,Int.reduceSub,Int.reduceNeg,Int.reduceEq,Int.reduceBEq,Int.reduceBNe,Int.reduceToNat,Nat.reduceDiv,Nat.reduceMod,rowsF_length,rowsS_length,sd_nil,sd_cons]
  refine ev_call h21 (retW1 rfl rfl rfl rfl rfl rfl) ?_
  simp only [f9,go_sem,mcfg,Nat.reduceLeDiff,Nat.reduceLT,Nat.reduceAdd,Nat.reduceSub,Nat.reduceMul,Nat.reduceBEq,Nat.reduceBNe,Nat.reduceEqDiff,reduceCtorEq,reduceIte,Int.reduceLT,Int.reduceLE,Int.reduceAdd,Int.reduceSub,Int.reduceNeg,Int.reduceEq,Int.reduceBEq,Int.reduceBNe,Int.reduceToNat,Nat.reduceDiv,Nat.reduceMod,rowsF_length,rowsS_length,sd_nil,sd_cons]
  exact ⟨.inr rfl,_,.inr (.inr (.inr ⟨false,0,0,7,rfl⟩)),rfl,rfl⟩
theorem c10 (me ta : List UInt8) (st : Int) (re : List UInt8) (ba : Bool) (l : List Fld) (bo : List UInt8) (n : Nat) (hl : n ≤ 1048576) (k : Nat) (h1 : 0 < k) (hk : k ≤ 4) : Sem prog 10 ⟨[.agg [.v (vS me),.v (vS ta),.v (vI st),.v (vS re),.v (vB ba),.imm 51 (rowsF (marks n k)),.v (vS bo)],.v (vI k)],[none,none]⟩ ⟨[.dead,.dead,.v (vI (k + 2 * n : Nat))],[none,none]⟩ := by
  refine sem_fin (cfg := cfg 2) (ts := [.tm 4]) tbOk func10 rfl rfl rfl rfl (fun t h => by cases h) ?_
  have h22 := c22 n hl k h1 hk
  have hq : ¬ ((k + 2 * n : Nat) : Int) < 0 := by omega
  simp only [f10,go_sem,cfg,Nat.reduceLeDiff,Nat.reduceLT,Nat.reduceAdd,Nat.reduceSub,Nat.reduceMul,Nat.reduceBEq,Nat.reduceBNe,Nat.reduceEqDiff,reduceCtorEq,reduceIte,Int.reduceLT,Int.reduceLE,Int.reduceAdd,Int.reduceSub,Int.reduceNeg,Int.reduceEq,Int.reduceBEq,Int.reduceBNe,Int.reduceToNat,Nat.reduceDiv,Nat.reduceMod,rowsF_length,rowsS_length,sd_nil,sd_cons]
  refine ev_call h22 (retW0 rfl rfl rfl rfl) ?_
  simp only [f10,go_sem,cfg,Nat.reduceLeDiff,Nat.reduceLT,Nat.reduceAdd,Nat.reduceSub,Nat.reduceMul,Nat.reduceBEq,Nat.reduceBNe,Nat.reduceEqDiff,reduceCtorEq,reduceIte,Int.reduceLT,Int.reduceLE,Int.reduceAdd,Int.reduceSub,Int.reduceNeg,Int.reduceEq,Int.reduceBEq,Int.reduceBNe,Int.reduceToNat,Nat.reduceDiv,Nat.reduceMod,rowsF_length,rowsS_length,sd_nil,sd_cons,hq]
  first | exact fin0 (.inr rfl) rfl rfl rfl rfl | trace_state
theorem c6 (me ta : List UInt8) (st : Int) (re : List UInt8) (ba : Bool) (l : List Fld) (bo : List UInt8) (hl : Small l) (hm : l.length ≤ 1048576) : Sem prog 6 ⟨[.agg [.v (vS me),.v (vS ta),.v (vI st),.v (vS re),.v (vB ba),.imm 45 (rowsF l),.v (vS bo)]],[none]⟩ ⟨[.dead,.agg [.v (vS me),.v (vS ta),.v (vI st),.v (vS re),.v (vB ba),.own 51 (rowsF l),.v (vS bo)]],[none]⟩ := by
  refine sem_fin (cfg := cfg 1) (ts := [.ce 2 28]) tbOk func6 rfl rfl rfl rfl (fun t h => by cases h) ?_
  have h15 := c15 l hl hm
  simp only [f6,go_sem,cfg,Nat.reduceLeDiff,Nat.reduceLT,Nat.reduceAdd,Nat.reduceSub,Nat.reduceMul,Nat.reduceBEq,Nat.reduceBNe,Nat.reduceEqDiff,reduceCtorEq,reduceIte,Int.reduceLT,Int.reduceLE,Int.reduceAdd,Int.reduceSub,Int.reduceNeg,Int.reduceEq,Int.reduceBEq,Int.reduceBNe,Int.reduceToNat,Nat.reduceDiv,Nat.reduceMod,rowsF_length,rowsS_length,sd_nil,sd_cons]
  refine ev_call h15 (retW0 rfl rfl rfl rfl) ?_
  simp only [f6,go_sem,cfg,Nat.reduceLeDiff,Nat.reduceLT,Nat.reduceAdd,Nat.reduceSub,Nat.reduceMul,Nat.reduceBEq,Nat.reduceBNe,Nat.reduceEqDiff,reduceCtorEq,reduceIte,Int.reduceLT,Int.reduceLE,Int.reduceAdd,Int.reduceSub,Int.reduceNeg,Int.reduceEq,Int.reduceBEq,Int.reduceBNe,Int.reduceToNat,Nat.reduceDiv,Nat.reduceMod,rowsF_length,rowsS_length,sd_nil,sd_cons]
  first | exact fin0 (.inr rfl) rfl rfl rfl rfl | trace_state
theorem c8 (me ta : List UInt8) (st : Int) (re : List UInt8) (ba : Bool) (l : List Fld) (bo : List UInt8) (me2 ta2 : List UInt8) (st2 : Int) (re2 : List UInt8) (ba2 : Bool) (l2 : List Fld) (bo2 : List UInt8) (h1 : l.length ≤ 9223372036854775807) (h2 : l2.length ≤ 9223372036854775807) : Sem prog 8 ⟨[.agg [.v (vS me),.v (vS ta),.v (vI st),.v (vS re),.v (vB ba),.imm 51 (rowsF l),.v (vS bo)],.agg [.v (vS me2),.v (vS ta2),.v (vI st2),.v (vS re2),.v (vB ba2),.imm 51 (rowsF l2),.v (vS bo2)]],[none,none]⟩ ⟨[.dead,.dead,.v (vB ((me == me2) && (ta == ta2) && (st == st2) && (re == re2) && (ba == ba2) && (l == l2) && (bo == bo2)))],[none,none]⟩ := by
  refine sem_fin (cfg := cfg 2) (ts := [.tm 4]) tbOk func8 rfl rfl rfl rfl (fun t h => by cases h) ?_
  have h20 := c20 l l2 h1 h2
  cases e1 : me == me2
  · simp only [f8,go_sem,cfg,Nat.reduceLeDiff,Nat.reduceLT,Nat.reduceAdd,Nat.reduceSub,Nat.reduceMul,Nat.reduceBEq,Nat.reduceBNe,Nat.reduceEqDiff,reduceCtorEq,reduceIte,Int.reduceLT,Int.reduceLE,Int.reduceAdd,Int.reduceSub,Int.reduceNeg,Int.reduceEq,Int.reduceBEq,Int.reduceBNe,Int.reduceToNat,Nat.reduceDiv,Nat.reduceMod,rowsF_length,rowsS_length,sd_nil,sd_cons,e1]
    first | exact fin0 (.inr rfl) rfl rfl rfl rfl | trace_state
  cases e2 : ta == ta2
  · simp only [f8,go_sem,cfg,Nat.reduceLeDiff,Nat.reduceLT,Nat.reduceAdd,Nat.reduceSub,Nat.reduceMul,Nat.reduceBEq,Nat.reduceBNe,Nat.reduceEqDiff,reduceCtorEq,reduceIte,Int.reduceLT,Int.reduceLE,Int.reduceAdd,Int.reduceSub,Int.reduceNeg,Int.reduceEq,Int.reduceBEq,Int.reduceBNe,Int.reduceToNat,Nat.reduceDiv,Nat.reduceMod,rowsF_length,rowsS_length,sd_nil,sd_cons,e1,e2]
    first | exact fin0 (.inr rfl) rfl rfl rfl rfl | trace_state
  cases e3 : st == st2
  · have e3' : (st != st2) = true := by rw [bne,e3]; rfl
    simp only [f8,go_sem,cfg,Nat.reduceLeDiff,Nat.reduceLT,Nat.reduceAdd,Nat.reduceSub,Nat.reduceMul,Nat.reduceBEq,Nat.reduceBNe,Nat.reduceEqDiff,reduceCtorEq,reduceIte,Int.reduceLT,Int.reduceLE,Int.reduceAdd,Int.reduceSub,Int.reduceNeg,Int.reduceEq,Int.reduceBEq,Int.reduceBNe,Int.reduceToNat,Nat.reduceDiv,Nat.reduceMod,rowsF_length,rowsS_length,sd_nil,sd_cons,e1,e2,e3,e3']
    first | exact fin0 (.inr rfl) rfl rfl rfl rfl | trace_state
  have e3' : (st != st2) = false := by rw [bne,e3]; rfl
  cases e4 : re == re2
  · simp only [f8,go_sem,cfg,Nat.reduceLeDiff,Nat.reduceLT,Nat.reduceAdd,Nat.reduceSub,Nat.reduceMul,Nat.reduceBEq,Nat.reduceBNe,Nat.reduceEqDiff,reduceCtorEq,reduceIte,Int.reduceLT,Int.reduceLE,Int.reduceAdd,Int.reduceSub,Int.reduceNeg,Int.reduceEq,Int.reduceBEq,Int.reduceBNe,Int.reduceToNat,Nat.reduceDiv,Nat.reduceMod,rowsF_length,rowsS_length,sd_nil,sd_cons,e1,e2,e3,e3',e4]
    first | exact fin0 (.inr rfl) rfl rfl rfl rfl | trace_state
  cases e5 : ba == ba2
  · simp only [f8,go_sem,cfg,Nat.reduceLeDiff,Nat.reduceLT,Nat.reduceAdd,Nat.reduceSub,Nat.reduceMul,Nat.reduceBEq,Nat.reduceBNe,Nat.reduceEqDiff,reduceCtorEq,reduceIte,Int.reduceLT,Int.reduceLE,Int.reduceAdd,Int.reduceSub,Int.reduceNeg,Int.reduceEq,Int.reduceBEq,Int.reduceBNe,Int.reduceToNat,Nat.reduceDiv,Nat.reduceMod,rowsF_length,rowsS_length,sd_nil,sd_cons,e1,e2,e3,e3',e4,e5]
    first | exact fin0 (.inr rfl) rfl rfl rfl rfl | trace_state
  cases e6 : l == l2
  · simp only [f8,go_sem,cfg,Nat.reduceLeDiff,Nat.reduceLT,Nat.reduceAdd,Nat.reduceSub,Nat.reduceMul,Nat.reduceBEq,Nat.reduceBNe,Nat.reduceEqDiff,reduceCtorEq,reduceIte,Int.reduceLT,Int.reduceLE,Int.reduceAdd,Int.reduceSub,Int.reduceNeg,Int.reduceEq,Int.reduceBEq,Int.reduceBNe,Int.reduceToNat,Nat.reduceDiv,Nat.reduceMod,rowsF_length,rowsS_length,sd_nil,sd_cons,e1,e2,e3,e3',e4,e5]
    rw [e6] at h20
    refine ev_call h20 (retW0 rfl rfl rfl rfl) ?_
    simp only [f8,go_sem,cfg,Nat.reduceLeDiff,Nat.reduceLT,Nat.reduceAdd,Nat.reduceSub,Nat.reduceMul,Nat.reduceBEq,Nat.reduceBNe,Nat.reduceEqDiff,reduceCtorEq,reduceIte,Int.reduceLT,Int.reduceLE,Int.reduceAdd,Int.reduceSub,Int.reduceNeg,Int.reduceEq,Int.reduceBEq,Int.reduceBNe,Int.reduceToNat,Nat.reduceDiv,Nat.reduceMod,rowsF_length,rowsS_length,sd_nil,sd_cons]
    first | exact fin0 (.inr rfl) rfl rfl rfl rfl | trace_state
  rw [e6] at h20
  cases e7 : bo == bo2
  · simp only [f8,go_sem,cfg,Nat.reduceLeDiff,Nat.reduceLT,Nat.reduceAdd,Nat.reduceSub,Nat.reduceMul,Nat.reduceBEq,Nat.reduceBNe,Nat.reduceEqDiff,reduceCtorEq,reduceIte,Int.reduceLT,Int.reduceLE,Int.reduceAdd,Int.reduceSub,Int.reduceNeg,Int.reduceEq,Int.reduceBEq,Int.reduceBNe,Int.reduceToNat,Nat.reduceDiv,Nat.reduceMod,rowsF_length,rowsS_length,sd_nil,sd_cons,e1,e2,e3,e3',e4,e5]
    refine ev_call h20 (retW0 rfl rfl rfl rfl) ?_
    simp only [f8,go_sem,cfg,Nat.reduceLeDiff,Nat.reduceLT,Nat.reduceAdd,Nat.reduceSub,Nat.reduceMul,Nat.reduceBEq,Nat.reduceBNe,Nat.reduceEqDiff,reduceCtorEq,reduceIte,Int.reduceLT,Int.reduceLE,Int.reduceAdd,Int.reduceSub,Int.reduceNeg,Int.reduceEq,Int.reduceBEq,Int.reduceBNe,Int.reduceToNat,Nat.reduceDiv,Nat.reduceMod,rowsF_length,rowsS_length,sd_nil,sd_cons,e7]
    first | exact fin0 (.inr rfl) rfl rfl rfl rfl | trace_state
  · simp only [f8,go_sem,cfg,Nat.reduceLeDiff,Nat.reduceLT,Nat.reduceAdd,Nat.reduceSub,Nat.reduceMul,Nat.reduceBEq,Nat.reduceBNe,Nat.reduceEqDiff,reduceCtorEq,reduceIte,Int.reduceLT,Int.reduceLE,Int.reduceAdd,Int.reduceSub,Int.reduceNeg,Int.reduceEq,Int.reduceBEq,Int.reduceBNe,Int.reduceToNat,Nat.reduceDiv,Nat.reduceMod,rowsF_length,rowsS_length,sd_nil,sd_cons,e1,e2,e3,e3',e4,e5]
    refine ev_call h20 (retW0 rfl rfl rfl rfl) ?_
    simp only [f8,go_sem,cfg,Nat.reduceLeDiff,Nat.reduceLT,Nat.reduceAdd,Nat.reduceSub,Nat.reduceMul,Nat.reduceBEq,Nat.reduceBNe,Nat.reduceEqDiff,reduceCtorEq,reduceIte,Int.reduceLT,Int.reduceLE,Int.reduceAdd,Int.reduceSub,Int.reduceNeg,Int.reduceEq,Int.reduceBEq,Int.reduceBNe,Int.reduceToNat,Nat.reduceDiv,Nat.reduceMod,rowsF_length,rowsS_length,sd_nil,sd_cons,e7]
    first | exact fin0 (.inr rfl) rfl rfl rfl rfl | trace_state
def szM (me ta re bo : List UInt8) (l : List Fld) (k : Int) : Int :=
  if k < me.length then -1 else
  if k - me.length < ta.length then -1 else
  if k - me.length - ta.length < re.length then -1 else
  let z := (if k - me.length - ta.length - re.length < l.length then -1 else szL l (k - me.length - ta.length - re.length - l.length))
  if z < 0 then -1 else
  if z < bo.length then -1 else z - bo.length
theorem szL_le : ∀ (l : List Fld) (k : Int),szL l k ≤ k ∨ szL l k = -1
  | [],k => .inl (Int.le_refl k)
  | p :: l,k => by
    have hup : szF p k ≤ k ∨ szF p k < 0 := by unfold szF; split <;> (try split) <;> omega
    unfold szL
    split
    · exact .inr rfl
    · have := szL_le l (szF p k)
      omega
theorem c4a (me ta : List UInt8) (st : Int) (re : List UInt8) (ba : Bool) (l : List Fld) (bo : List UInt8) (h1 : me.length ≤ 9223372036854775807) (h2 : ta.length ≤ 9223372036854775807) (h3 : re.length ≤ 9223372036854775807) (h4 : bo.length ≤ 9223372036854775807) (hl : Small l) (k : Int) (h0 : 0 ≤ k) (hk : k ≤ 1048576) (w1 : IntKind.i64.wrap (k - me.length) = k - me.length) (c1 : k - (me.length : Int) < 0) : Sem prog 4 ⟨[.agg [.v (vS me),.v (vS ta),.v (vI st),.v (vS re),.v (vB ba),.imm 45 (rowsF l),.v (vS bo)],.v (vI k)],[none,none]⟩ ⟨[.dead,.dead,.v (vI (-1))],[none,none]⟩ := by
  refine sem_fin (cfg := cfg 2) (ts := [.tm 4]) tbOk func4 rfl rfl rfl rfl (fun t h => by cases h) ?_
  simp only [f4,go_sem,cfg,Nat.reduceLeDiff,Nat.reduceLT,Nat.reduceAdd,Nat.reduceSub,Nat.reduceMul,Nat.reduceBEq,Nat.reduceBNe,Nat.reduceEqDiff,reduceCtorEq,reduceIte,Int.reduceLT,Int.reduceLE,Int.reduceAdd,Int.reduceSub,Int.reduceNeg,Int.reduceEq,Int.reduceBEq,Int.reduceBNe,Int.reduceToNat,Nat.reduceDiv,Nat.reduceMod,rowsF_length,rowsS_length,sd_nil,sd_cons,h1,w1,c1]
  first | exact fin0 (.inr rfl) rfl rfl rfl rfl | trace_state
theorem c4b (me ta : List UInt8) (st : Int) (re : List UInt8) (ba : Bool) (l : List Fld) (bo : List UInt8) (h1 : me.length ≤ 9223372036854775807) (h2 : ta.length ≤ 9223372036854775807) (h3 : re.length ≤ 9223372036854775807) (h4 : bo.length ≤ 9223372036854775807) (hl : Small l) (k : Int) (h0 : 0 ≤ k) (hk : k ≤ 1048576) (w1 : IntKind.i64.wrap (k - me.length) = k - me.length) (c1 : ¬ k - (me.length : Int) < 0) (w2 : IntKind.i64.wrap (k - me.length - ta.length) = k - me.length - ta.length) (c2 : k - (me.length : Int) - ta.length < 0) : Sem prog 4 ⟨[.agg [.v (vS me),.v (vS ta),.v (vI st),.v (vS re),.v (vB ba),.imm 45 (rowsF l),.v (vS bo)],.v (vI k)],[none,none]⟩ ⟨[.dead,.dead,.v (vI (-1))],[none,none]⟩ := by
  refine sem_fin (cfg := cfg 2) (ts := [.tm 4]) tbOk func4 rfl rfl rfl rfl (fun t h => by cases h) ?_
  simp only [f4,go_sem,cfg,Nat.reduceLeDiff,Nat.reduceLT,Nat.reduceAdd,Nat.reduceSub,Nat.reduceMul,Nat.reduceBEq,Nat.reduceBNe,Nat.reduceEqDiff,reduceCtorEq,reduceIte,Int.reduceLT,Int.reduceLE,Int.reduceAdd,Int.reduceSub,Int.reduceNeg,Int.reduceEq,Int.reduceBEq,Int.reduceBNe,Int.reduceToNat,Nat.reduceDiv,Nat.reduceMod,rowsF_length,rowsS_length,sd_nil,sd_cons,h1,h2,w1,c1,w2,c2]
  first | exact fin0 (.inr rfl) rfl rfl rfl rfl | trace_state
theorem c4c (me ta : List UInt8) (st : Int) (re : List UInt8) (ba : Bool) (l : List Fld) (bo : List UInt8) (h1 : me.length ≤ 9223372036854775807) (h2 : ta.length ≤ 9223372036854775807) (h3 : re.length ≤ 9223372036854775807) (h4 : bo.length ≤ 9223372036854775807) (hl : Small l) (k : Int) (h0 : 0 ≤ k) (hk : k ≤ 1048576) (w1 : IntKind.i64.wrap (k - me.length) = k - me.length) (c1 : ¬ k - (me.length : Int) < 0) (w2 : IntKind.i64.wrap (k - me.length - ta.length) = k - me.length - ta.length) (c2 : ¬ k - (me.length : Int) - ta.length < 0) (w3 : IntKind.i64.wrap (k - me.length - ta.length - re.length) = k - me.length - ta.length - re.length) (c3 : k - (me.length : Int) - ta.length - re.length < 0) : Sem prog 4 ⟨[.agg [.v (vS me),.v (vS ta),.v (vI st),.v (vS re),.v (vB ba),.imm 45 (rowsF l),.v (vS bo)],.v (vI k)],[none,none]⟩ ⟨[.dead,.dead,.v (vI (-1))],[none,none]⟩ := by
  refine sem_fin (cfg := cfg 2) (ts := [.tm 4]) tbOk func4 rfl rfl rfl rfl (fun t h => by cases h) ?_
  simp only [f4,go_sem,cfg,Nat.reduceLeDiff,Nat.reduceLT,Nat.reduceAdd,Nat.reduceSub,Nat.reduceMul,Nat.reduceBEq,Nat.reduceBNe,Nat.reduceEqDiff,reduceCtorEq,reduceIte,Int.reduceLT,Int.reduceLE,Int.reduceAdd,Int.reduceSub,Int.reduceNeg,Int.reduceEq,Int.reduceBEq,Int.reduceBNe,Int.reduceToNat,Nat.reduceDiv,Nat.reduceMod,rowsF_length,rowsS_length,sd_nil,sd_cons,h1,h2,h3,w1,c1,w2,c2,w3,c3]
  first | exact fin0 (.inr rfl) rfl rfl rfl rfl | trace_state
theorem c4d (me ta : List UInt8) (st : Int) (re : List UInt8) (ba : Bool) (l : List Fld) (bo : List UInt8) (h1 : me.length ≤ 9223372036854775807) (h2 : ta.length ≤ 9223372036854775807) (h3 : re.length ≤ 9223372036854775807) (h4 : bo.length ≤ 9223372036854775807) (hl : Small l) (k : Int) (h0 : 0 ≤ k) (hk : k ≤ 1048576) (w1 : IntKind.i64.wrap (k - me.length) = k - me.length) (c1 : ¬ k - (me.length : Int) < 0) (w2 : IntKind.i64.wrap (k - me.length - ta.length) = k - me.length - ta.length) (c2 : ¬ k - (me.length : Int) - ta.length < 0) (w3 : IntKind.i64.wrap (k - me.length - ta.length - re.length) = k - me.length - ta.length - re.length) (c3 : ¬ k - (me.length : Int) - ta.length - re.length < 0) (z : Int) (h11 : Sem prog 11 ⟨[.imm 45 (rowsF l),.v (vI (k - me.length - ta.length - re.length))],[none,none]⟩ ⟨[.dead,.dead,.v (vI z)],[none,none]⟩) (c4 : z < 0) : Sem prog 4 ⟨[.agg [.v (vS me),.v (vS ta),.v (vI st),.v (vS re),.v (vB ba),.imm 45 (rowsF l),.v (vS bo)],.v (vI k)],[none,none]⟩ ⟨[.dead,.dead,.v (vI (-1))],[none,none]⟩ := by
  refine sem_fin (cfg := cfg 2) (ts := [.tm 4]) tbOk func4 rfl rfl rfl rfl (fun t h => by cases h) ?_
  simp only [f4,go_sem,cfg,Nat.reduceLeDiff,Nat.reduceLT,Nat.reduceAdd,Nat.reduceSub,Nat.reduceMul,Nat.reduceBEq,Nat.reduceBNe,Nat.reduceEqDiff,reduceCtorEq,reduceIte,Int.reduceLT,Int.reduceLE,Int.reduceAdd,Int.reduceSub,Int.reduceNeg,Int.reduceEq,Int.reduceBEq,Int.reduceBNe,Int.reduceToNat,Nat.reduceDiv,Nat.reduceMod,rowsF_length,rowsS_length,sd_nil,sd_cons,h1,h2,h3,w1,c1,w2,c2,w3,c3,c4]
  refine ev_call h11 (retW0 rfl rfl rfl rfl) ?_
  simp only [f4,go_sem,cfg,Nat.reduceLeDiff,Nat.reduceLT,Nat.reduceAdd,Nat.reduceSub,Nat.reduceMul,Nat.reduceBEq,Nat.reduceBNe,Nat.reduceEqDiff,reduceCtorEq,reduceIte,Int.reduceLT,Int.reduceLE,Int.reduceAdd,Int.reduceSub,Int.reduceNeg,Int.reduceEq,Int.reduceBEq,Int.reduceBNe,Int.reduceToNat,Nat.reduceDiv,Nat.reduceMod,rowsF_length,rowsS_length,sd_nil,sd_cons,h1,h2,h3,w1,c1,w2,c2,w3,c3,c4]
  first | exact fin0 (.inr rfl) rfl rfl rfl rfl | trace_state
theorem c4e (me ta : List UInt8) (st : Int) (re : List UInt8) (ba : Bool) (l : List Fld) (bo : List UInt8) (h1 : me.length ≤ 9223372036854775807) (h2 : ta.length ≤ 9223372036854775807) (h3 : re.length ≤ 9223372036854775807) (h4 : bo.length ≤ 9223372036854775807) (hl : Small l) (k : Int) (h0 : 0 ≤ k) (hk : k ≤ 1048576) (w1 : IntKind.i64.wrap (k - me.length) = k - me.length) (c1 : ¬ k - (me.length : Int) < 0) (w2 : IntKind.i64.wrap (k - me.length - ta.length) = k - me.length - ta.length) (c2 : ¬ k - (me.length : Int) - ta.length < 0) (w3 : IntKind.i64.wrap (k - me.length - ta.length - re.length) = k - me.length - ta.length - re.length) (c3 : ¬ k - (me.length : Int) - ta.length - re.length < 0) (z : Int) (h11 : Sem prog 11 ⟨[.imm 45 (rowsF l),.v (vI (k - me.length - ta.length - re.length))],[none,none]⟩ ⟨[.dead,.dead,.v (vI z)],[none,none]⟩) (c4 : ¬ z < 0) (w5 : IntKind.i64.wrap (z - bo.length) = z - bo.length) (c5 : z - (bo.length : Int) < 0) : Sem prog 4 ⟨[.agg [.v (vS me),.v (vS ta),.v (vI st),.v (vS re),.v (vB ba),.imm 45 (rowsF l),.v (vS bo)],.v (vI k)],[none,none]⟩ ⟨[.dead,.dead,.v (vI (-1))],[none,none]⟩ := by
  refine sem_fin (cfg := cfg 2) (ts := [.tm 4]) tbOk func4 rfl rfl rfl rfl (fun t h => by cases h) ?_
  simp only [f4,go_sem,cfg,Nat.reduceLeDiff,Nat.reduceLT,Nat.reduceAdd,Nat.reduceSub,Nat.reduceMul,Nat.reduceBEq,Nat.reduceBNe,Nat.reduceEqDiff,reduceCtorEq,reduceIte,Int.reduceLT,Int.reduceLE,Int.reduceAdd,Int.reduceSub,Int.reduceNeg,Int.reduceEq,Int.reduceBEq,Int.reduceBNe,Int.reduceToNat,Nat.reduceDiv,Nat.reduceMod,rowsF_length,rowsS_length,sd_nil,sd_cons,h1,h2,h3,h4,w1,c1,w2,c2,w3,c3,c4,w5,c5]
  refine ev_call h11 (retW0 rfl rfl rfl rfl) ?_
  simp only [f4,go_sem,cfg,Nat.reduceLeDiff,Nat.reduceLT,Nat.reduceAdd,Nat.reduceSub,Nat.reduceMul,Nat.reduceBEq,Nat.reduceBNe,Nat.reduceEqDiff,reduceCtorEq,reduceIte,Int.reduceLT,Int.reduceLE,Int.reduceAdd,Int.reduceSub,Int.reduceNeg,Int.reduceEq,Int.reduceBEq,Int.reduceBNe,Int.reduceToNat,Nat.reduceDiv,Nat.reduceMod,rowsF_length,rowsS_length,sd_nil,sd_cons,h1,h2,h3,h4,w1,c1,w2,c2,w3,c3,c4,w5,c5]
  first | exact fin0 (.inr rfl) rfl rfl rfl rfl | trace_state
theorem c4f (me ta : List UInt8) (st : Int) (re : List UInt8) (ba : Bool) (l : List Fld) (bo : List UInt8) (h1 : me.length ≤ 9223372036854775807) (h2 : ta.length ≤ 9223372036854775807) (h3 : re.length ≤ 9223372036854775807) (h4 : bo.length ≤ 9223372036854775807) (hl : Small l) (k : Int) (h0 : 0 ≤ k) (hk : k ≤ 1048576) (w1 : IntKind.i64.wrap (k - me.length) = k - me.length) (c1 : ¬ k - (me.length : Int) < 0) (w2 : IntKind.i64.wrap (k - me.length - ta.length) = k - me.length - ta.length) (c2 : ¬ k - (me.length : Int) - ta.length < 0) (w3 : IntKind.i64.wrap (k - me.length - ta.length - re.length) = k - me.length - ta.length - re.length) (c3 : ¬ k - (me.length : Int) - ta.length - re.length < 0) (z : Int) (h11 : Sem prog 11 ⟨[.imm 45 (rowsF l),.v (vI (k - me.length - ta.length - re.length))],[none,none]⟩ ⟨[.dead,.dead,.v (vI z)],[none,none]⟩) (c4 : ¬ z < 0) (w5 : IntKind.i64.wrap (z - bo.length) = z - bo.length) (c5 : ¬ z - (bo.length : Int) < 0) : Sem prog 4 ⟨[.agg [.v (vS me),.v (vS ta),.v (vI st),.v (vS re),.v (vB ba),.imm 45 (rowsF l),.v (vS bo)],.v (vI k)],[none,none]⟩ ⟨[.dead,.dead,.v (vI (z - bo.length))],[none,none]⟩ := by
  refine sem_fin (cfg := cfg 2) (ts := [.tm 4]) tbOk func4 rfl rfl rfl rfl (fun t h => by cases h) ?_
  simp only [f4,go_sem,cfg,Nat.reduceLeDiff,Nat.reduceLT,Nat.reduceAdd,Nat.reduceSub,Nat.reduceMul,Nat.reduceBEq,Nat.reduceBNe,Nat.reduceEqDiff,reduceCtorEq,reduceIte,Int.reduceLT,Int.reduceLE,Int.reduceAdd,Int.reduceSub,Int.reduceNeg,Int.reduceEq,Int.reduceBEq,Int.reduceBNe,Int.reduceToNat,Nat.reduceDiv,Nat.reduceMod,rowsF_length,rowsS_length,sd_nil,sd_cons,h1,h2,h3,h4,w1,c1,w2,c2,w3,c3,c4,w5,c5]
  refine ev_call h11 (retW0 rfl rfl rfl rfl) ?_
  simp only [f4,go_sem,cfg,Nat.reduceLeDiff,Nat.reduceLT,Nat.reduceAdd,Nat.reduceSub,Nat.reduceMul,Nat.reduceBEq,Nat.reduceBNe,Nat.reduceEqDiff,reduceCtorEq,reduceIte,Int.reduceLT,Int.reduceLE,Int.reduceAdd,Int.reduceSub,Int.reduceNeg,Int.reduceEq,Int.reduceBEq,Int.reduceBNe,Int.reduceToNat,Nat.reduceDiv,Nat.reduceMod,rowsF_length,rowsS_length,sd_nil,sd_cons,h1,h2,h3,h4,w1,c1,w2,c2,w3,c3,c4,w5,c5]
  first | exact fin0 (.inr rfl) rfl rfl rfl rfl | trace_state
theorem c4 (me ta : List UInt8) (st : Int) (re : List UInt8) (ba : Bool) (l : List Fld) (bo : List UInt8) (h1 : me.length ≤ 9223372036854775807) (h2 : ta.length ≤ 9223372036854775807) (h3 : re.length ≤ 9223372036854775807) (h4 : bo.length ≤ 9223372036854775807) (hl : Small l) (k : Int) (h0 : 0 ≤ k) (hk : k ≤ 1048576) : Sem prog 4 ⟨[.agg [.v (vS me),.v (vS ta),.v (vI st),.v (vS re),.v (vB ba),.imm 45 (rowsF l),.v (vS bo)],.v (vI k)],[none,none]⟩ ⟨[.dead,.dead,.v (vI (szM me ta re bo l k))],[none,none]⟩ := by
  unfold szM
  have w1 : IntKind.i64.wrap (k - me.length) = k - me.length := by rw [IntKind.wrap_i64]; omega
  by_cases c1 : k < me.length
  · rw [if_pos c1]; exact c4a me ta st re ba l bo h1 h2 h3 h4 hl k h0 hk w1 (by omega)
  rw [if_neg c1]
  have w2 : IntKind.i64.wrap (k - me.length - ta.length) = k - me.length - ta.length := by rw [IntKind.wrap_i64]; omega
  by_cases c2 : k - me.length < ta.length
  · rw [if_pos c2]; exact c4b me ta st re ba l bo h1 h2 h3 h4 hl k h0 hk w1 (by omega) w2 (by omega)
  rw [if_neg c2]
  have w3 : IntKind.i64.wrap (k - me.length - ta.length - re.length) = k - me.length - ta.length - re.length := by rw [IntKind.wrap_i64]; omega
  by_cases c3 : k - me.length - ta.length < re.length
  · rw [if_pos c3]; exact c4c me ta st re ba l bo h1 h2 h3 h4 hl k h0 hk w1 (by omega) w2 (by omega) w3 (by omega)
  rw [if_neg c3]
  have h11 := c11 l hl (k - me.length - ta.length - re.length) (by omega) (by omega)
  have hz : (if k - me.length - ta.length - re.length < l.length then -1 else szL l (k - me.length - ta.length - re.length - l.length)) ≤ 1048576 := by
    split
    · omega
    · have := szL_le l (k - me.length - ta.length - re.length - l.length)
      omega
  simp only
  generalize (if k - (me.length : Int) - ta.length - re.length < l.length then -1 else szL l (k - me.length - ta.length - re.length - l.length)) = z at h11 hz ⊢
  by_cases c4 : z < 0
  · rw [if_pos c4]; exact c4d me ta st re ba l bo h1 h2 h3 h4 hl k h0 hk w1 (by omega) w2 (by omega) w3 (by omega) z h11 c4
  rw [if_neg c4]
  have w5 : IntKind.i64.wrap (z - bo.length) = z - bo.length := by rw [IntKind.wrap_i64]; omega
  by_cases c5 : z < bo.length
  · rw [if_pos c5]; exact c4e me ta st re ba l bo h1 h2 h3 h4 hl k h0 hk w1 (by omega) w2 (by omega) w3 (by omega) z h11 c4 w5 (by omega)
  · rw [if_neg c5]; exact c4f me ta st re ba l bo h1 h2 h3 h4 hl k h0 hk w1 (by omega) w2 (by omega) w3 (by omega) z h11 c4 w5 (by omega)
end Go.Proofs.YtagfeejofceheaaGreatDoor.Fw

/- Contracts: the law FnExactDeliver. -/
namespace Go.Proofs.YtagfeejofceheaaGreatDoor.Fw
open Go
open Go.Proofs.Tryz
set_option maxRecDepth 100000
set_option maxHeartbeats 4000000
set_option linter.unusedSimpArgs false
set_option linter.unusedVariables false
attribute [local congr] c_bnd c_slot c_cell c_all c_len c_chk c_asm c_opdR c_wp c_pwp c_pOps c_Done c_nx c_blk c_fin c_rowsR c_leafR c_opdsR c_coeLeaf c_coeLeaves c_lendLeaf c_lendLeaves c_coeCapt c_argR c_argsR c_boundR c_partsR c_srcR c_mfgo c_ite c_wpF c_OutF c_pHead c_pDraw
theorem c3a (me ta : List UInt8) (st : Int) (re : List UInt8) (ba : Bool) (l : List Fld) (bo name : List UInt8) (h1 : me.length ≤ 9223372036854775807) (h2 : ta.length ≤ 9223372036854775807) (h3 : re.length ≤ 9223372036854775807) (h4 : bo.length ≤ 9223372036854775807) (hl : Small l) (hn : name.length ≤ 9223372036854775807) (hb : (1048576 : Int) < (name.length : Int)) : Sem prog 3 ⟨[.agg [.v (vS me),.v (vS ta),.v (vI st),.v (vS re),.v (vB ba),.imm 45 (rowsF l),.v (vS bo)],.v (vS name)],[none,none]⟩ ⟨[.dead,.dead,.v (vB true)],[none,none]⟩ := by
  refine sem_fin (cfg := cfg 2) (ts := [.tm 4]) tbOk func3 rfl rfl rfl rfl (fun t h => by cases h) ?_
  simp only [f3,go_sem,cfg,Nat.reduceLeDiff,Nat.reduceLT,Nat.reduceAdd,Nat.reduceSub,Nat.reduceMul,Nat.reduceBEq,Nat.reduceBNe,Nat.reduceEqDiff,reduceCtorEq,reduceIte,Int.reduceLT,Int.reduceLE,Int.reduceAdd,Int.reduceSub,Int.reduceNeg,Int.reduceEq,Int.reduceBEq,Int.reduceBNe,Int.reduceToNat,Nat.reduceDiv,Nat.reduceMod,rowsF_length,rowsS_length,sd_nil,sd_cons,hn,hb]
  try (with_reducible intro _)
  try simp only [f3,go_sem,cfg,Nat.reduceLeDiff,Nat.reduceLT,Nat.reduceAdd,Nat.reduceSub,Nat.reduceMul,Nat.reduceBEq,Nat.reduceBNe,Nat.reduceEqDiff,reduceCtorEq,reduceIte,Int.reduceLT,Int.reduceLE,Int.reduceAdd,Int.reduceSub,Int.reduceNeg,Int.reduceEq,Int.reduceBEq,Int.reduceBNe,Int.reduceToNat,Nat.reduceDiv,Nat.reduceMod,rowsF_length,rowsS_length,sd_nil,sd_cons,hn,hb]
  first | exact fin0 (.inr rfl) rfl rfl rfl rfl | trace_state
theorem c3b (me ta : List UInt8) (st : Int) (re : List UInt8) (ba : Bool) (l : List Fld) (bo name : List UInt8) (h1 : me.length ≤ 9223372036854775807) (h2 : ta.length ≤ 9223372036854775807) (h3 : re.length ≤ 9223372036854775807) (h4 : bo.length ≤ 9223372036854775807) (hl : Small l) (hn : name.length ≤ 9223372036854775807) (hb : ¬ (1048576 : Int) < (name.length : Int)) (z : Int) (h4s : Sem prog 4 ⟨[.agg [.v (vS me),.v (vS ta),.v (vI st),.v (vS re),.v (vB ba),.imm 45 (rowsF l),.v (vS bo)],.v (vI 1048576)],[none,none]⟩ ⟨[.dead,.dead,.v (vI z)],[none,none]⟩) (hz : z < 0) : Sem prog 3 ⟨[.agg [.v (vS me),.v (vS ta),.v (vI st),.v (vS re),.v (vB ba),.imm 45 (rowsF l),.v (vS bo)],.v (vS name)],[none,none]⟩ ⟨[.dead,.dead,.v (vB true)],[none,none]⟩ := by
  refine sem_fin (cfg := cfg 2) (ts := [.tm 4]) tbOk func3 rfl rfl rfl rfl (fun t h => by cases h) ?_
  simp only [f3,go_sem,cfg,Nat.reduceLeDiff,Nat.reduceLT,Nat.reduceAdd,Nat.reduceSub,Nat.reduceMul,Nat.reduceBEq,Nat.reduceBNe,Nat.reduceEqDiff,reduceCtorEq,reduceIte,Int.reduceLT,Int.reduceLE,Int.reduceAdd,Int.reduceSub,Int.reduceNeg,Int.reduceEq,Int.reduceBEq,Int.reduceBNe,Int.reduceToNat,Nat.reduceDiv,Nat.reduceMod,rowsF_length,rowsS_length,sd_nil,sd_cons,hn,hb,hz]
  try (with_reducible intro _)
  try simp only [f3,go_sem,cfg,Nat.reduceLeDiff,Nat.reduceLT,Nat.reduceAdd,Nat.reduceSub,Nat.reduceMul,Nat.reduceBEq,Nat.reduceBNe,Nat.reduceEqDiff,reduceCtorEq,reduceIte,Int.reduceLT,Int.reduceLE,Int.reduceAdd,Int.reduceSub,Int.reduceNeg,Int.reduceEq,Int.reduceBEq,Int.reduceBNe,Int.reduceToNat,Nat.reduceDiv,Nat.reduceMod,rowsF_length,rowsS_length,sd_nil,sd_cons,hn,hb,hz]
  refine ev_call h4s (retW0 rfl rfl rfl rfl) ?_
  simp only [f3,go_sem,cfg,Nat.reduceLeDiff,Nat.reduceLT,Nat.reduceAdd,Nat.reduceSub,Nat.reduceMul,Nat.reduceBEq,Nat.reduceBNe,Nat.reduceEqDiff,reduceCtorEq,reduceIte,Int.reduceLT,Int.reduceLE,Int.reduceAdd,Int.reduceSub,Int.reduceNeg,Int.reduceEq,Int.reduceBEq,Int.reduceBNe,Int.reduceToNat,Nat.reduceDiv,Nat.reduceMod,rowsF_length,rowsS_length,sd_nil,sd_cons,hn,hb,hz]
  first | exact fin0 (.inr rfl) rfl rfl rfl rfl | trace_state
theorem c3c (me ta : List UInt8) (st : Int) (re : List UInt8) (ba : Bool) (l : List Fld) (bo name : List UInt8) (h1 : me.length ≤ 9223372036854775807) (h2 : ta.length ≤ 9223372036854775807) (h3 : re.length ≤ 9223372036854775807) (h4 : bo.length ≤ 9223372036854775807) (hl : Small l) (hn : name.length ≤ 9223372036854775807) (hb : ¬ (1048576 : Int) < (name.length : Int)) (z : Int) (h4s : Sem prog 4 ⟨[.agg [.v (vS me),.v (vS ta),.v (vI st),.v (vS re),.v (vB ba),.imm 45 (rowsF l),.v (vS bo)],.v (vI 1048576)],[none,none]⟩ ⟨[.dead,.dead,.v (vI z)],[none,none]⟩) (hz : ¬ z < 0) (hm : l.length ≤ 1048576) (hd : delB me ta st re ba l bo name = none) : Sem prog 3 ⟨[.agg [.v (vS me),.v (vS ta),.v (vI st),.v (vS re),.v (vB ba),.imm 45 (rowsF l),.v (vS bo)],.v (vS name)],[none,none]⟩ ⟨[.dead,.dead,.v (vB true)],[none,none]⟩ := by
  refine sem_fin (cfg := cfg 2) (ts := [.tm 4]) tbOk func3 rfl rfl rfl rfl (fun t h => by cases h) ?_
  have h6 := c6 me ta st re ba l bo hl hm
  have h5 := c5 me ta st re ba l bo name h1 h2 h3 h4 hl hn
  have h7 := c7 c44 me ta st re ba l bo name h1 h2 h3 h4 hl hn
  have hs : l.length ≤ 9223372036854775807 := hl.1
  have h8l := c8 me ta st re ba l bo me ta st re ba l bo hs hs
  have hll : ((me == me) && (ta == ta) && (st == st) && (re == re) && (ba == ba) && (l == l) && (bo == bo)) = true := by simp
  rw [hll] at h8l
  have h9l := c9 me ta st re ba l bo hm 1 (by decide) (by decide)
  have hk : ¬ ((1 + 2 * l.length : Nat) : Int) < 0 := by omega
  rw [hd] at h5 h7
  have h5 : Sem prog 5 ⟨[.agg [.v (vS me),.v (vS ta),.v (vI st),.v (vS re),.v (vB ba),.imm 51 (rowsF l),.v (vS bo)],.v (vS name)],[none,none]⟩ ⟨[.dead,.dead,.tup [.agg [.v (vS []),.v (vS []),.v (vI 0),.v (vS []),.v (vB false),.nil,.v (vS [])],.v (vB false)]],[none,none]⟩ := h5
  have h7 : Sem prog 7 ⟨[.agg [.v (vS me),.v (vS ta),.v (vI st),.v (vS re),.v (vB ba),.imm 51 (rowsF l),.v (vS bo)],.v (vS name)],[none,none]⟩ ⟨[.dead,.dead,.tup [.agg [.v (vS []),.v (vS []),.v (vI 0),.v (vS []),.v (vB false),.nil,.v (vS [])],.v (vB false)]],[none,none]⟩ := h7
  have h8z : Sem prog 8 ⟨[.agg [.v (vS []),.v (vS []),.v (vI 0),.v (vS []),.v (vB false),.imm 51 [],.v (vS [])],.agg [.v (vS []),.v (vS []),.v (vI 0),.v (vS []),.v (vB false),.imm 51 [],.v (vS [])]],[none,none]⟩ ⟨[.dead,.dead,.v (vB true)],[none,none]⟩ := c8 [] [] 0 [] false [] [] [] [] 0 [] false [] [] (by decide) (by decide)
  have h9z : Sem prog 9 ⟨[.agg [.v (vS []),.v (vS []),.v (vI 0),.v (vS []),.v (vB false),.own 51 [],.v (vS [])],.v (vI 1)],[none,none]⟩ ⟨[mdead (.own 51 []),.dead,.v (vI 1)],[none,none]⟩ := c9 [] [] 0 [] false [] [] (by decide) 1 (by decide) (by decide)
  have h10z : Sem prog 10 ⟨[.agg [.v (vS []),.v (vS []),.v (vI 0),.v (vS []),.v (vB false),.imm 51 [],.v (vS [])],.v (vI 1)],[none,none]⟩ ⟨[.dead,.dead,.v (vI 1)],[none,none]⟩ := c10 [] [] 0 [] false [] [] 0 (by decide) 1 (by decide) (by decide)
  simp only [f3,go_sem,cfg,Nat.reduceLeDiff,Nat.reduceLT,Nat.reduceAdd,Nat.reduceSub,Nat.reduceMul,Nat.reduceBEq,Nat.reduceBNe,Nat.reduceEqDiff,reduceCtorEq,reduceIte,Int.reduceLT,Int.reduceLE,Int.reduceAdd,Int.reduceSub,Int.reduceNeg,Int.reduceEq,Int.reduceBEq,Int.reduceBNe,Int.reduceToNat,Nat.reduceDiv,Nat.reduceMod,rowsF_length,rowsS_length,sd_nil,sd_cons,hn,hb,hz,hk]
  try (with_reducible intro _)
  try simp only [f3,go_sem,cfg,Nat.reduceLeDiff,Nat.reduceLT,Nat.reduceAdd,Nat.reduceSub,Nat.reduceMul,Nat.reduceBEq,Nat.reduceBNe,Nat.reduceEqDiff,reduceCtorEq,reduceIte,Int.reduceLT,Int.reduceLE,Int.reduceAdd,Int.reduceSub,Int.reduceNeg,Int.reduceEq,Int.reduceBEq,Int.reduceBNe,Int.reduceToNat,Nat.reduceDiv,Nat.reduceMod,rowsF_length,rowsS_length,sd_nil,sd_cons,hn,hb,hz,hk]
  refine ev_call h4s (retW0 rfl rfl rfl rfl) ?_
  simp only [f3,go_sem,cfg,Nat.reduceLeDiff,Nat.reduceLT,Nat.reduceAdd,Nat.reduceSub,Nat.reduceMul,Nat.reduceBEq,Nat.reduceBNe,Nat.reduceEqDiff,reduceCtorEq,reduceIte,Int.reduceLT,Int.reduceLE,Int.reduceAdd,Int.reduceSub,Int.reduceNeg,Int.reduceEq,Int.reduceBEq,Int.reduceBNe,Int.reduceToNat,Nat.reduceDiv,Nat.reduceMod,rowsF_length,rowsS_length,sd_nil,sd_cons,hn,hb,hz,hk]
  refine ev_call h6 (retW0 rfl rfl rfl rfl) ?_
  simp only [f3,go_sem,cfg,Nat.reduceLeDiff,Nat.reduceLT,Nat.reduceAdd,Nat.reduceSub,Nat.reduceMul,Nat.reduceBEq,Nat.reduceBNe,Nat.reduceEqDiff,reduceCtorEq,reduceIte,Int.reduceLT,Int.reduceLE,Int.reduceAdd,Int.reduceSub,Int.reduceNeg,Int.reduceEq,Int.reduceBEq,Int.reduceBNe,Int.reduceToNat,Nat.reduceDiv,Nat.reduceMod,rowsF_length,rowsS_length,sd_nil,sd_cons,hn,hb,hz,hk]
  refine ev_call h5 (retW0 rfl rfl rfl rfl) ?_
  simp only [f3,go_sem,cfg,Nat.reduceLeDiff,Nat.reduceLT,Nat.reduceAdd,Nat.reduceSub,Nat.reduceMul,Nat.reduceBEq,Nat.reduceBNe,Nat.reduceEqDiff,reduceCtorEq,reduceIte,Int.reduceLT,Int.reduceLE,Int.reduceAdd,Int.reduceSub,Int.reduceNeg,Int.reduceEq,Int.reduceBEq,Int.reduceBNe,Int.reduceToNat,Nat.reduceDiv,Nat.reduceMod,rowsF_length,rowsS_length,sd_nil,sd_cons,hn,hb,hz,hk]
  refine ev_call h6 (retW0 rfl rfl rfl rfl) ?_
  simp only [f3,go_sem,cfg,Nat.reduceLeDiff,Nat.reduceLT,Nat.reduceAdd,Nat.reduceSub,Nat.reduceMul,Nat.reduceBEq,Nat.reduceBNe,Nat.reduceEqDiff,reduceCtorEq,reduceIte,Int.reduceLT,Int.reduceLE,Int.reduceAdd,Int.reduceSub,Int.reduceNeg,Int.reduceEq,Int.reduceBEq,Int.reduceBNe,Int.reduceToNat,Nat.reduceDiv,Nat.reduceMod,rowsF_length,rowsS_length,sd_nil,sd_cons,hn,hb,hz,hk]
  refine ev_call h7 (retW0 rfl rfl rfl rfl) ?_
  simp only [f3,go_sem,cfg,Nat.reduceLeDiff,Nat.reduceLT,Nat.reduceAdd,Nat.reduceSub,Nat.reduceMul,Nat.reduceBEq,Nat.reduceBNe,Nat.reduceEqDiff,reduceCtorEq,reduceIte,Int.reduceLT,Int.reduceLE,Int.reduceAdd,Int.reduceSub,Int.reduceNeg,Int.reduceEq,Int.reduceBEq,Int.reduceBNe,Int.reduceToNat,Nat.reduceDiv,Nat.reduceMod,rowsF_length,rowsS_length,sd_nil,sd_cons,hn,hb,hz,hk]
  refine ev_call h8z (retW0 rfl rfl rfl rfl) ?_
  simp only [f3,go_sem,cfg,Nat.reduceLeDiff,Nat.reduceLT,Nat.reduceAdd,Nat.reduceSub,Nat.reduceMul,Nat.reduceBEq,Nat.reduceBNe,Nat.reduceEqDiff,reduceCtorEq,reduceIte,Int.reduceLT,Int.reduceLE,Int.reduceAdd,Int.reduceSub,Int.reduceNeg,Int.reduceEq,Int.reduceBEq,Int.reduceBNe,Int.reduceToNat,Nat.reduceDiv,Nat.reduceMod,rowsF_length,rowsS_length,sd_nil,sd_cons,hn,hb,hz,hk]
  refine draw_intro 5 [[49,50,51,52],[48,50,51,52],[48,51,52],[49,52],[48,49,50]] mixedOk rfl ?_
  simp only [f3,go_sem,cfg,Nat.reduceLeDiff,Nat.reduceLT,Nat.reduceAdd,Nat.reduceSub,Nat.reduceMul,Nat.reduceBEq,Nat.reduceBNe,Nat.reduceEqDiff,reduceCtorEq,reduceIte,Int.reduceLT,Int.reduceLE,Int.reduceAdd,Int.reduceSub,Int.reduceNeg,Int.reduceEq,Int.reduceBEq,Int.reduceBNe,Int.reduceToNat,Nat.reduceDiv,Nat.reduceMod,rowsF_length,rowsS_length,sd_nil,sd_cons,hn,hb,hz,hk]
  refine of_call h6 (retW0 rfl rfl rfl rfl) rfl rfl rfl ?_
  simp only [f3,go_sem,cfg,Nat.reduceLeDiff,Nat.reduceLT,Nat.reduceAdd,Nat.reduceSub,Nat.reduceMul,Nat.reduceBEq,Nat.reduceBNe,Nat.reduceEqDiff,reduceCtorEq,reduceIte,Int.reduceLT,Int.reduceLE,Int.reduceAdd,Int.reduceSub,Int.reduceNeg,Int.reduceEq,Int.reduceBEq,Int.reduceBNe,Int.reduceToNat,Nat.reduceDiv,Nat.reduceMod,rowsF_length,rowsS_length,sd_nil,sd_cons,hn,hb,hz,hk]
  refine of_call h8l (retW0 rfl rfl rfl rfl) rfl rfl rfl ?_
  simp only [f3,go_sem,cfg,Nat.reduceLeDiff,Nat.reduceLT,Nat.reduceAdd,Nat.reduceSub,Nat.reduceMul,Nat.reduceBEq,Nat.reduceBNe,Nat.reduceEqDiff,reduceCtorEq,reduceIte,Int.reduceLT,Int.reduceLE,Int.reduceAdd,Int.reduceSub,Int.reduceNeg,Int.reduceEq,Int.reduceBEq,Int.reduceBNe,Int.reduceToNat,Nat.reduceDiv,Nat.reduceMod,rowsF_length,rowsS_length,sd_nil,sd_cons,hn,hb,hz,hk]
  refine ev_call h9l (retW1 (i := ⟨false,0,5⟩) (p := ⟨true,8,5⟩) rfl rfl rfl rfl rfl rfl) ?_
  simp only [f3,go_sem,cfg,Nat.reduceLeDiff,Nat.reduceLT,Nat.reduceAdd,Nat.reduceSub,Nat.reduceMul,Nat.reduceBEq,Nat.reduceBNe,Nat.reduceEqDiff,reduceCtorEq,reduceIte,Int.reduceLT,Int.reduceLE,Int.reduceAdd,Int.reduceSub,Int.reduceNeg,Int.reduceEq,Int.reduceBEq,Int.reduceBNe,Int.reduceToNat,Nat.reduceDiv,Nat.reduceMod,rowsF_length,rowsS_length,sd_nil,sd_cons,hn,hb,hz,hk]
  refine ev_call h8z (retW0 rfl rfl rfl rfl) ?_
  simp only [f3,go_sem,cfg,Nat.reduceLeDiff,Nat.reduceLT,Nat.reduceAdd,Nat.reduceSub,Nat.reduceMul,Nat.reduceBEq,Nat.reduceBNe,Nat.reduceEqDiff,reduceCtorEq,reduceIte,Int.reduceLT,Int.reduceLE,Int.reduceAdd,Int.reduceSub,Int.reduceNeg,Int.reduceEq,Int.reduceBEq,Int.reduceBNe,Int.reduceToNat,Nat.reduceDiv,Nat.reduceMod,rowsF_length,rowsS_length,sd_nil,sd_cons,hn,hb,hz,hk]
  refine ev_call h9z (retW0 rfl rfl rfl rfl) ?_
  simp only [f3,go_sem,cfg,Nat.reduceLeDiff,Nat.reduceLT,Nat.reduceAdd,Nat.reduceSub,Nat.reduceMul,Nat.reduceBEq,Nat.reduceBNe,Nat.reduceEqDiff,reduceCtorEq,reduceIte,Int.reduceLT,Int.reduceLE,Int.reduceAdd,Int.reduceSub,Int.reduceNeg,Int.reduceEq,Int.reduceBEq,Int.reduceBNe,Int.reduceToNat,Nat.reduceDiv,Nat.reduceMod,rowsF_length,rowsS_length,sd_nil,sd_cons,hn,hb,hz,hk]
  refine ev_call h10z (retW0 rfl rfl rfl rfl) ?_
  simp only [f3,go_sem,cfg,Nat.reduceLeDiff,Nat.reduceLT,Nat.reduceAdd,Nat.reduceSub,Nat.reduceMul,Nat.reduceBEq,Nat.reduceBNe,Nat.reduceEqDiff,reduceCtorEq,reduceIte,Int.reduceLT,Int.reduceLE,Int.reduceAdd,Int.reduceSub,Int.reduceNeg,Int.reduceEq,Int.reduceBEq,Int.reduceBNe,Int.reduceToNat,Nat.reduceDiv,Nat.reduceMod,rowsF_length,rowsS_length,sd_nil,sd_cons,hn,hb,hz,hk]
  refine ev_call h6 (retW0 rfl rfl rfl rfl) ?_
  simp only [f3,go_sem,cfg,Nat.reduceLeDiff,Nat.reduceLT,Nat.reduceAdd,Nat.reduceSub,Nat.reduceMul,Nat.reduceBEq,Nat.reduceBNe,Nat.reduceEqDiff,reduceCtorEq,reduceIte,Int.reduceLT,Int.reduceLE,Int.reduceAdd,Int.reduceSub,Int.reduceNeg,Int.reduceEq,Int.reduceBEq,Int.reduceBNe,Int.reduceToNat,Nat.reduceDiv,Nat.reduceMod,rowsF_length,rowsS_length,sd_nil,sd_cons,hn,hb,hz,hk]
  refine ev_call h7 (retW0 rfl rfl rfl rfl) ?_
  simp only [f3,go_sem,cfg,Nat.reduceLeDiff,Nat.reduceLT,Nat.reduceAdd,Nat.reduceSub,Nat.reduceMul,Nat.reduceBEq,Nat.reduceBNe,Nat.reduceEqDiff,reduceCtorEq,reduceIte,Int.reduceLT,Int.reduceLE,Int.reduceAdd,Int.reduceSub,Int.reduceNeg,Int.reduceEq,Int.reduceBEq,Int.reduceBNe,Int.reduceToNat,Nat.reduceDiv,Nat.reduceMod,rowsF_length,rowsS_length,sd_nil,sd_cons,hn,hb,hz,hk]
  refine ev_call h8z (retW0 rfl rfl rfl rfl) ?_
  simp only [f3,go_sem,cfg,Nat.reduceLeDiff,Nat.reduceLT,Nat.reduceAdd,Nat.reduceSub,Nat.reduceMul,Nat.reduceBEq,Nat.reduceBNe,Nat.reduceEqDiff,reduceCtorEq,reduceIte,Int.reduceLT,Int.reduceLE,Int.reduceAdd,Int.reduceSub,Int.reduceNeg,Int.reduceEq,Int.reduceBEq,Int.reduceBNe,Int.reduceToNat,Nat.reduceDiv,Nat.reduceMod,rowsF_length,rowsS_length,sd_nil,sd_cons,hn,hb,hz,hk]
  refine ev_call h10z (retW0 rfl rfl rfl rfl) ?_
  simp only [f3,go_sem,cfg,Nat.reduceLeDiff,Nat.reduceLT,Nat.reduceAdd,Nat.reduceSub,Nat.reduceMul,Nat.reduceBEq,Nat.reduceBNe,Nat.reduceEqDiff,reduceCtorEq,reduceIte,Int.reduceLT,Int.reduceLE,Int.reduceAdd,Int.reduceSub,Int.reduceNeg,Int.reduceEq,Int.reduceBEq,Int.reduceBNe,Int.reduceToNat,Nat.reduceDiv,Nat.reduceMod,rowsF_length,rowsS_length,sd_nil,sd_cons,hn,hb,hz,hk]
  first | exact fin0 (.inr rfl) rfl rfl rfl rfl | trace_state
theorem c3d (me ta : List UInt8) (st : Int) (re : List UInt8) (ba : Bool) (l : List Fld) (bo name : List UInt8) (h1 : me.length ≤ 9223372036854775807) (h2 : ta.length ≤ 9223372036854775807) (h3 : re.length ≤ 9223372036854775807) (h4 : bo.length ≤ 9223372036854775807) (hl : Small l) (hn : name.length ≤ 9223372036854775807) (hb : ¬ (1048576 : Int) < (name.length : Int)) (z : Int) (h4s : Sem prog 4 ⟨[.agg [.v (vS me),.v (vS ta),.v (vI st),.v (vS re),.v (vB ba),.imm 45 (rowsF l),.v (vS bo)],.v (vI 1048576)],[none,none]⟩ ⟨[.dead,.dead,.v (vI z)],[none,none]⟩) (hz : ¬ z < 0) (hm : l.length ≤ 1048576) (x : List Fld) (hx : x.length ≤ 1048576) (hd : delB me ta st re ba l bo name = some x) : Sem prog 3 ⟨[.agg [.v (vS me),.v (vS ta),.v (vI st),.v (vS re),.v (vB ba),.imm 45 (rowsF l),.v (vS bo)],.v (vS name)],[none,none]⟩ ⟨[.dead,.dead,.v (vB true)],[none,none]⟩ := by
  refine sem_fin (cfg := cfg 2) (ts := [.tm 4]) tbOk func3 rfl rfl rfl rfl (fun t h => by cases h) ?_
  have h6 := c6 me ta st re ba l bo hl hm
  have h5 := c5 me ta st re ba l bo name h1 h2 h3 h4 hl hn
  have h7 := c7 c44 me ta st re ba l bo name h1 h2 h3 h4 hl hn
  have hs : l.length ≤ 9223372036854775807 := hl.1
  have h8l := c8 me ta st re ba l bo me ta st re ba l bo hs hs
  have hll : ((me == me) && (ta == ta) && (st == st) && (re == re) && (ba == ba) && (l == l) && (bo == bo)) = true := by simp
  rw [hll] at h8l
  have h9l := c9 me ta st re ba l bo hm 1 (by decide) (by decide)
  have hk : ¬ ((1 + 2 * l.length : Nat) : Int) < 0 := by omega
  rw [hd] at h5 h7
  have h5 : Sem prog 5 ⟨[.agg [.v (vS me),.v (vS ta),.v (vI st),.v (vS re),.v (vB ba),.imm 51 (rowsF l),.v (vS bo)],.v (vS name)],[none,none]⟩ ⟨[.dead,.dead,.tup [.agg [.v (vS me),.v (vS ta),.v (vI st),.v (vS re),.v (vB ba),.own 51 (rowsF x),.v (vS bo)],.v (vB true)]],[none,none]⟩ := h5
  have h7 : Sem prog 7 ⟨[.agg [.v (vS me),.v (vS ta),.v (vI st),.v (vS re),.v (vB ba),.imm 51 (rowsF l),.v (vS bo)],.v (vS name)],[none,none]⟩ ⟨[.dead,.dead,.tup [.agg [.v (vS me),.v (vS ta),.v (vI st),.v (vS re),.v (vB ba),.own 51 (rowsF x),.v (vS bo)],.v (vB true)]],[none,none]⟩ := h7
  have h8x := c8 me ta st re ba x bo me ta st re ba x bo (by omega) (by omega)
  have hxx : ((me == me) && (ta == ta) && (st == st) && (re == re) && (ba == ba) && (x == x) && (bo == bo)) = true := by simp
  rw [hxx] at h8x
  have h9x := c9 me ta st re ba x bo hx 1 (by decide) (by decide)
  have h10x := c10 me ta st re ba l bo x.length hx 1 (by decide) (by decide)
  have hq : ¬ ((1 + 2 * x.length : Nat) : Int) < 0 := by omega
  simp only [f3,go_sem,cfg,Nat.reduceLeDiff,Nat.reduceLT,Nat.reduceAdd,Nat.reduceSub,Nat.reduceMul,Nat.reduceBEq,Nat.reduceBNe,Nat.reduceEqDiff,reduceCtorEq,reduceIte,Int.reduceLT,Int.reduceLE,Int.reduceAdd,Int.reduceSub,Int.reduceNeg,Int.reduceEq,Int.reduceBEq,Int.reduceBNe,Int.reduceToNat,Nat.reduceDiv,Nat.reduceMod,rowsF_length,rowsS_length,sd_nil,sd_cons,hn,hb,hz,hk,hq]
  try (with_reducible intro _)
  try simp only [f3,go_sem,cfg,Nat.reduceLeDiff,Nat.reduceLT,Nat.reduceAdd,Nat.reduceSub,Nat.reduceMul,Nat.reduceBEq,Nat.reduceBNe,Nat.reduceEqDiff,reduceCtorEq,reduceIte,Int.reduceLT,Int.reduceLE,Int.reduceAdd,Int.reduceSub,Int.reduceNeg,Int.reduceEq,Int.reduceBEq,Int.reduceBNe,Int.reduceToNat,Nat.reduceDiv,Nat.reduceMod,rowsF_length,rowsS_length,sd_nil,sd_cons,hn,hb,hz,hk,hq]
  refine ev_call h4s (retW0 rfl rfl rfl rfl) ?_
  simp only [f3,go_sem,cfg,Nat.reduceLeDiff,Nat.reduceLT,Nat.reduceAdd,Nat.reduceSub,Nat.reduceMul,Nat.reduceBEq,Nat.reduceBNe,Nat.reduceEqDiff,reduceCtorEq,reduceIte,Int.reduceLT,Int.reduceLE,Int.reduceAdd,Int.reduceSub,Int.reduceNeg,Int.reduceEq,Int.reduceBEq,Int.reduceBNe,Int.reduceToNat,Nat.reduceDiv,Nat.reduceMod,rowsF_length,rowsS_length,sd_nil,sd_cons,hn,hb,hz,hk,hq]
  refine ev_call h6 (retW0 rfl rfl rfl rfl) ?_
  simp only [f3,go_sem,cfg,Nat.reduceLeDiff,Nat.reduceLT,Nat.reduceAdd,Nat.reduceSub,Nat.reduceMul,Nat.reduceBEq,Nat.reduceBNe,Nat.reduceEqDiff,reduceCtorEq,reduceIte,Int.reduceLT,Int.reduceLE,Int.reduceAdd,Int.reduceSub,Int.reduceNeg,Int.reduceEq,Int.reduceBEq,Int.reduceBNe,Int.reduceToNat,Nat.reduceDiv,Nat.reduceMod,rowsF_length,rowsS_length,sd_nil,sd_cons,hn,hb,hz,hk,hq]
  refine ev_call h5 (retW0 rfl rfl rfl rfl) ?_
  simp only [f3,go_sem,cfg,Nat.reduceLeDiff,Nat.reduceLT,Nat.reduceAdd,Nat.reduceSub,Nat.reduceMul,Nat.reduceBEq,Nat.reduceBNe,Nat.reduceEqDiff,reduceCtorEq,reduceIte,Int.reduceLT,Int.reduceLE,Int.reduceAdd,Int.reduceSub,Int.reduceNeg,Int.reduceEq,Int.reduceBEq,Int.reduceBNe,Int.reduceToNat,Nat.reduceDiv,Nat.reduceMod,rowsF_length,rowsS_length,sd_nil,sd_cons,hn,hb,hz,hk,hq]
  refine ev_call h6 (retW0 rfl rfl rfl rfl) ?_
  simp only [f3,go_sem,cfg,Nat.reduceLeDiff,Nat.reduceLT,Nat.reduceAdd,Nat.reduceSub,Nat.reduceMul,Nat.reduceBEq,Nat.reduceBNe,Nat.reduceEqDiff,reduceCtorEq,reduceIte,Int.reduceLT,Int.reduceLE,Int.reduceAdd,Int.reduceSub,Int.reduceNeg,Int.reduceEq,Int.reduceBEq,Int.reduceBNe,Int.reduceToNat,Nat.reduceDiv,Nat.reduceMod,rowsF_length,rowsS_length,sd_nil,sd_cons,hn,hb,hz,hk,hq]
  refine ev_call h7 (retW0 rfl rfl rfl rfl) ?_
  simp only [f3,go_sem,cfg,Nat.reduceLeDiff,Nat.reduceLT,Nat.reduceAdd,Nat.reduceSub,Nat.reduceMul,Nat.reduceBEq,Nat.reduceBNe,Nat.reduceEqDiff,reduceCtorEq,reduceIte,Int.reduceLT,Int.reduceLE,Int.reduceAdd,Int.reduceSub,Int.reduceNeg,Int.reduceEq,Int.reduceBEq,Int.reduceBNe,Int.reduceToNat,Nat.reduceDiv,Nat.reduceMod,rowsF_length,rowsS_length,sd_nil,sd_cons,hn,hb,hz,hk,hq]
  refine ev_call h8x (retW0 rfl rfl rfl rfl) ?_
  simp only [f3,go_sem,cfg,Nat.reduceLeDiff,Nat.reduceLT,Nat.reduceAdd,Nat.reduceSub,Nat.reduceMul,Nat.reduceBEq,Nat.reduceBNe,Nat.reduceEqDiff,reduceCtorEq,reduceIte,Int.reduceLT,Int.reduceLE,Int.reduceAdd,Int.reduceSub,Int.reduceNeg,Int.reduceEq,Int.reduceBEq,Int.reduceBNe,Int.reduceToNat,Nat.reduceDiv,Nat.reduceMod,rowsF_length,rowsS_length,sd_nil,sd_cons,hn,hb,hz,hk,hq]
  refine draw_intro 5 [[49,50,51,52],[48,50,51,52],[48,51,52],[49,52],[48,49,50]] mixedOk rfl ?_
  simp only [f3,go_sem,cfg,Nat.reduceLeDiff,Nat.reduceLT,Nat.reduceAdd,Nat.reduceSub,Nat.reduceMul,Nat.reduceBEq,Nat.reduceBNe,Nat.reduceEqDiff,reduceCtorEq,reduceIte,Int.reduceLT,Int.reduceLE,Int.reduceAdd,Int.reduceSub,Int.reduceNeg,Int.reduceEq,Int.reduceBEq,Int.reduceBNe,Int.reduceToNat,Nat.reduceDiv,Nat.reduceMod,rowsF_length,rowsS_length,sd_nil,sd_cons,hn,hb,hz,hk,hq]
  refine of_call h6 (retW0 rfl rfl rfl rfl) rfl rfl rfl ?_
  simp only [f3,go_sem,cfg,Nat.reduceLeDiff,Nat.reduceLT,Nat.reduceAdd,Nat.reduceSub,Nat.reduceMul,Nat.reduceBEq,Nat.reduceBNe,Nat.reduceEqDiff,reduceCtorEq,reduceIte,Int.reduceLT,Int.reduceLE,Int.reduceAdd,Int.reduceSub,Int.reduceNeg,Int.reduceEq,Int.reduceBEq,Int.reduceBNe,Int.reduceToNat,Nat.reduceDiv,Nat.reduceMod,rowsF_length,rowsS_length,sd_nil,sd_cons,hn,hb,hz,hk,hq]
  refine of_call h8l (retW0 rfl rfl rfl rfl) rfl rfl rfl ?_
  simp only [f3,go_sem,cfg,Nat.reduceLeDiff,Nat.reduceLT,Nat.reduceAdd,Nat.reduceSub,Nat.reduceMul,Nat.reduceBEq,Nat.reduceBNe,Nat.reduceEqDiff,reduceCtorEq,reduceIte,Int.reduceLT,Int.reduceLE,Int.reduceAdd,Int.reduceSub,Int.reduceNeg,Int.reduceEq,Int.reduceBEq,Int.reduceBNe,Int.reduceToNat,Nat.reduceDiv,Nat.reduceMod,rowsF_length,rowsS_length,sd_nil,sd_cons,hn,hb,hz,hk,hq]
  refine ev_call h9l (retW1 (i := ⟨false,0,5⟩) (p := ⟨true,8,5⟩) rfl rfl rfl rfl rfl rfl) ?_
  simp only [f3,go_sem,cfg,Nat.reduceLeDiff,Nat.reduceLT,Nat.reduceAdd,Nat.reduceSub,Nat.reduceMul,Nat.reduceBEq,Nat.reduceBNe,Nat.reduceEqDiff,reduceCtorEq,reduceIte,Int.reduceLT,Int.reduceLE,Int.reduceAdd,Int.reduceSub,Int.reduceNeg,Int.reduceEq,Int.reduceBEq,Int.reduceBNe,Int.reduceToNat,Nat.reduceDiv,Nat.reduceMod,rowsF_length,rowsS_length,sd_nil,sd_cons,hn,hb,hz,hk,hq]
  refine ev_call h8x (retW0 rfl rfl rfl rfl) ?_
  simp only [f3,go_sem,cfg,Nat.reduceLeDiff,Nat.reduceLT,Nat.reduceAdd,Nat.reduceSub,Nat.reduceMul,Nat.reduceBEq,Nat.reduceBNe,Nat.reduceEqDiff,reduceCtorEq,reduceIte,Int.reduceLT,Int.reduceLE,Int.reduceAdd,Int.reduceSub,Int.reduceNeg,Int.reduceEq,Int.reduceBEq,Int.reduceBNe,Int.reduceToNat,Nat.reduceDiv,Nat.reduceMod,rowsF_length,rowsS_length,sd_nil,sd_cons,hn,hb,hz,hk,hq]
  refine ev_call h9x (retW1 (i := ⟨false,0,5⟩) (p := ⟨true,9,5⟩) rfl rfl rfl rfl rfl rfl) ?_
  simp only [f3,go_sem,cfg,Nat.reduceLeDiff,Nat.reduceLT,Nat.reduceAdd,Nat.reduceSub,Nat.reduceMul,Nat.reduceBEq,Nat.reduceBNe,Nat.reduceEqDiff,reduceCtorEq,reduceIte,Int.reduceLT,Int.reduceLE,Int.reduceAdd,Int.reduceSub,Int.reduceNeg,Int.reduceEq,Int.reduceBEq,Int.reduceBNe,Int.reduceToNat,Nat.reduceDiv,Nat.reduceMod,rowsF_length,rowsS_length,sd_nil,sd_cons,hn,hb,hz,hk,hq]
  refine ev_call h10x (retW0 rfl rfl rfl rfl) ?_
  simp only [f3,go_sem,cfg,Nat.reduceLeDiff,Nat.reduceLT,Nat.reduceAdd,Nat.reduceSub,Nat.reduceMul,Nat.reduceBEq,Nat.reduceBNe,Nat.reduceEqDiff,reduceCtorEq,reduceIte,Int.reduceLT,Int.reduceLE,Int.reduceAdd,Int.reduceSub,Int.reduceNeg,Int.reduceEq,Int.reduceBEq,Int.reduceBNe,Int.reduceToNat,Nat.reduceDiv,Nat.reduceMod,rowsF_length,rowsS_length,sd_nil,sd_cons,hn,hb,hz,hk,hq]
  refine ev_call h6 (retW0 rfl rfl rfl rfl) ?_
  simp only [f3,go_sem,cfg,Nat.reduceLeDiff,Nat.reduceLT,Nat.reduceAdd,Nat.reduceSub,Nat.reduceMul,Nat.reduceBEq,Nat.reduceBNe,Nat.reduceEqDiff,reduceCtorEq,reduceIte,Int.reduceLT,Int.reduceLE,Int.reduceAdd,Int.reduceSub,Int.reduceNeg,Int.reduceEq,Int.reduceBEq,Int.reduceBNe,Int.reduceToNat,Nat.reduceDiv,Nat.reduceMod,rowsF_length,rowsS_length,sd_nil,sd_cons,hn,hb,hz,hk,hq]
  refine ev_call h7 (retW0 rfl rfl rfl rfl) ?_
  simp only [f3,go_sem,cfg,Nat.reduceLeDiff,Nat.reduceLT,Nat.reduceAdd,Nat.reduceSub,Nat.reduceMul,Nat.reduceBEq,Nat.reduceBNe,Nat.reduceEqDiff,reduceCtorEq,reduceIte,Int.reduceLT,Int.reduceLE,Int.reduceAdd,Int.reduceSub,Int.reduceNeg,Int.reduceEq,Int.reduceBEq,Int.reduceBNe,Int.reduceToNat,Nat.reduceDiv,Nat.reduceMod,rowsF_length,rowsS_length,sd_nil,sd_cons,hn,hb,hz,hk,hq]
  refine ev_call h8x (retW0 rfl rfl rfl rfl) ?_
  simp only [f3,go_sem,cfg,Nat.reduceLeDiff,Nat.reduceLT,Nat.reduceAdd,Nat.reduceSub,Nat.reduceMul,Nat.reduceBEq,Nat.reduceBNe,Nat.reduceEqDiff,reduceCtorEq,reduceIte,Int.reduceLT,Int.reduceLE,Int.reduceAdd,Int.reduceSub,Int.reduceNeg,Int.reduceEq,Int.reduceBEq,Int.reduceBNe,Int.reduceToNat,Nat.reduceDiv,Nat.reduceMod,rowsF_length,rowsS_length,sd_nil,sd_cons,hn,hb,hz,hk,hq]
  refine ev_call h10x (retW0 rfl rfl rfl rfl) ?_
  simp only [f3,go_sem,cfg,Nat.reduceLeDiff,Nat.reduceLT,Nat.reduceAdd,Nat.reduceSub,Nat.reduceMul,Nat.reduceBEq,Nat.reduceBNe,Nat.reduceEqDiff,reduceCtorEq,reduceIte,Int.reduceLT,Int.reduceLE,Int.reduceAdd,Int.reduceSub,Int.reduceNeg,Int.reduceEq,Int.reduceBEq,Int.reduceBNe,Int.reduceToNat,Nat.reduceDiv,Nat.reduceMod,rowsF_length,rowsS_length,sd_nil,sd_cons,hn,hb,hz,hk,hq]
  first | exact fin0 (.inr rfl) rfl rfl rfl rfl | trace_state
theorem szM_pos {me ta re bo : List UInt8} {l : List Fld} {k : Int} (hk : k ≤ 1048576) (h : ¬ szM me ta re bo l k < 0) : l.length ≤ 1048576 := by
  unfold szM at h
  split at h
  · exact absurd (by decide) h
  split at h
  · exact absurd (by decide) h
  split at h
  · exact absurd (by decide) h
  by_cases hc : k - me.length - ta.length - re.length < l.length
  · rw [if_pos hc] at h
    simp at h
  · omega
theorem delB_some {me ta re bo name : List UInt8} {st : Int} {ba : Bool} {l x : List Fld} (hl : Small l) (h : delB me ta st re ba l bo name = some x) : x.length ≤ 1048576 := by
  unfold delB at h
  split at h
  · cases ha : addB (e2eB l) name with
    | none => rw [ha] at h; cases h
    | some y =>
      rw [ha] at h
      simp only at h
      split at h
      · injection h with h
        subst h
        exact (addB_some (small_e2e hl) ha).2.2
      · cases h
  · cases h
theorem c3 (me ta : List UInt8) (st : Int) (re : List UInt8) (ba : Bool) (l : List Fld) (bo name : List UInt8) (h1 : me.length ≤ 9223372036854775807) (h2 : ta.length ≤ 9223372036854775807) (h3 : re.length ≤ 9223372036854775807) (h4 : bo.length ≤ 9223372036854775807) (hl : Small l) (hn : name.length ≤ 9223372036854775807) : Sem prog 3 ⟨[.agg [.v (vS me),.v (vS ta),.v (vI st),.v (vS re),.v (vB ba),.imm 45 (rowsF l),.v (vS bo)],.v (vS name)],[none,none]⟩ ⟨[.dead,.dead,.v (vB true)],[none,none]⟩ := by
  by_cases hb : (1048576 : Int) < (name.length : Int)
  · exact c3a me ta st re ba l bo name h1 h2 h3 h4 hl hn hb
  have h4s := c4 me ta st re ba l bo h1 h2 h3 h4 hl 1048576 (by decide) (by decide)
  have hp := szM_pos (me := me) (ta := ta) (re := re) (bo := bo) (l := l) (k := 1048576) (by decide)
  generalize szM me ta re bo l 1048576 = z at h4s hp
  by_cases hz : z < 0
  · exact c3b me ta st re ba l bo name h1 h2 h3 h4 hl hn hb z h4s hz
  cases hd : delB me ta st re ba l bo name with
  | none => exact c3c me ta st re ba l bo name h1 h2 h3 h4 hl hn hb z h4s hz (hp hz) hd
  | some x => exact c3d me ta st re ba l bo name h1 h2 h3 h4 hl hn hb z h4s hz (hp hz) x (delB_some hl hd) hd
end Go.Proofs.YtagfeejofceheaaGreatDoor.Fw
