/- Texts of the proof: FcK FcL FcM FdA FdB FdC FdD FdE FeB FeQ FeT FeC FeD. -/
import Derived.Shelf.Strings.OnBuilder
import Derived.Lib.Join
import Derived.Test.YtplagdnnnkdlnaaGreatDoorQ3
set_option linter.unusedSimpArgs false
set_option linter.unusedVariables false
/- The library's strings.Join, off the kit's shelf, and as a contract here. -/
namespace Go.Proofs.YtplagdnnnkdlnaaGreatDoor.Fw
open Go Go.Proofs
open Go.Shelf
def join_lays156_ren : Go.Shelf.Ren := ⟨fun | 156 => 113 | 165 => 147 | 166 => 118 | 169 => 121 | 240 => 152 | 241 => 168 | 276 => 169 | 277 => 191 | n => n,fun | 31 => 62 | 9 => 9 | 3 => 3 | 4 => 4 | 0 => 0 | 20 => 20 | 72 => 100 | 76 => 93 | 70 => 98 | 37 => 80 | 75 => 92 | 127 => 115 | 164 => 126 | 5 => 5 | 80 => 101 | n => n,fun | n => n⟩
theorem join_lays156 : Go.Proofs.Lays.n156 Tryz.prog join_lays156_ren := {
  mixed := by kernel_rfl
  f156 := Tryz.func113.trans (congrArg some (by kernel_rfl))
  f165 := Tryz.func147.trans (congrArg some (by kernel_rfl))
  f166 := Tryz.func118.trans (congrArg some (by kernel_rfl))
  f169 := Tryz.func121.trans (congrArg some (by kernel_rfl))
  f240 := Tryz.func152.trans (congrArg some (by kernel_rfl))
  f241 := Tryz.func168.trans (congrArg some (by kernel_rfl))
  f276 := Tryz.func169.trans (congrArg some (by kernel_rfl))
  f277 := Tryz.func191.trans (congrArg some (by kernel_rfl))
  t0 := Tryz.underlying0
  a0 := Tryz.isAgg0
  z0 := Tryz.sizeOf0
  v0 := Tryz.zeroValue0
  t3 := Tryz.underlying3
  a3 := Tryz.isAgg3
  z3 := Tryz.sizeOf3
  v3 := Tryz.zeroValue3
  t4 := Tryz.underlying4
  a4 := Tryz.isAgg4
  z4 := Tryz.sizeOf4
  v4 := Tryz.zeroValue4
  t9 := Tryz.underlying9
  a9 := Tryz.isAgg9
  z9 := Tryz.sizeOf9
  v9 := Tryz.zeroValue9
  t20 := Tryz.underlying20
  a20 := Tryz.isAgg20
  z20 := Tryz.sizeOf20
  v20 := Tryz.zeroValue20
  t31 := Tryz.underlying62
  a31 := Tryz.isAgg62
  z31 := Tryz.sizeOf62
  v31 := Tryz.zeroValue62
  t37 := Tryz.underlying80
  a37 := Tryz.isAgg80
  z37 := Tryz.sizeOf80
  v37 := Tryz.zeroValue80
  t70 := Tryz.underlying98
  a70 := Tryz.isAgg98
  z70 := Tryz.sizeOf98
  v70 := Tryz.zeroValue98
  t72 := Tryz.underlying100
  a72 := Tryz.isAgg100
  z72 := Tryz.sizeOf100
  v72 := Tryz.zeroValue100
  t75 := Tryz.underlying92
  a75 := Tryz.isAgg92
  z75 := Tryz.sizeOf92
  v75 := Tryz.zeroValue92
  t76 := Tryz.underlying93
  a76 := Tryz.isAgg93
  z76 := Tryz.sizeOf93
  v76 := Tryz.zeroValue93
  t127 := Tryz.underlying115
  a127 := Tryz.isAgg115
  z127 := Tryz.sizeOf115
  v127 := Tryz.zeroValue115
  t164 := Tryz.underlying126
  a164 := Tryz.isAgg126
  z164 := Tryz.sizeOf126
  v164 := Tryz.zeroValue126 }
theorem join_Builder_Extra_156 : Builder.Extra Tryz.prog join_lays156_ren := {
  sizeBuilder := by kernel_rfl
  liesBuilder := by kernel_rfl
  t5 := Tryz.underlying5
  a5 := Tryz.isAgg5
  z5 := Tryz.sizeOf5
  v5 := Tryz.zeroValue5
  infoByte := by kernel_rfl
  cellsByte := by kernel_rfl
  sizeByte := by kernel_rfl
  neB5 := by decide }
open Go.RowKit in
theorem join_strings_Join_none (a : Option Addr) (c : Nat) (sep : ByteArray) (w : World) :
    Calls Tryz.prog 113 #[.slice a 0 c,.string sep] w fun e w' => e = .returned (.string ⟨#[]⟩) ∧ w' = w := Any.strings_Join_none join_lays156 join_Builder_Extra_156 a c sep w
open Go.RowKit in
theorem join_strings_Join (bk o c : Nat) (xs : List ByteArray) (sep : ByteArray) (w : World) (hcells : ∀ (j : Nat) x,xs[j]? = some x → w.cell? ⟨bk,o + j,none⟩ = some (.string x)) (hbk : bk < w.heap.size) (hN : xs.length ≤ 140737488355328) (hcap : xs.length ≤ c) (hlen : (Lib.join (xs.map (·.data.toList)) sep.data.toList).length ≤ 140737488355328) :
    Calls Tryz.prog 113 #[.slice (some ⟨bk,o,none⟩) xs.length c,.string sep] w fun e w' => e = .returned (.string ⟨(Lib.join (xs.map (·.data.toList)) sep.data.toList).toArray⟩) ∧ RowKit.Below w.heap.size w w' := Any.strings_Join join_lays156 join_Builder_Extra_156 bk o c xs sep w hcells hbk hN hcap hlen
theorem c113 (vs : List (List UInt8)) (sep : List UInt8) (hN : vs.length ≤ 1048576) (hlen : (Lib.join vs sep).length ≤ 140737488355328) :
    Sem Tryz.prog 113 ⟨[.imm 9 (rowsS vs),.v (vS sep)],[none,none]⟩ ⟨[.imm 9 (rowsS vs),.v (vS sep),.v (vS (Lib.join vs sep))],[none,none,none]⟩ := by
  refine sem_calls (Ein := ⟨[.imm 9 (rowsS vs),.v (vS sep)],[none,none]⟩) (r := vS (Lib.join vs sep)) (enter_of Tryz.func113 rfl rfl) rfl (by simp only [scal,decide_eq_true_eq]; show (Lib.join vs sep).length ≤ _; omega) rfl ?_
  intro w a F loc M R
  have h0 := slot_of R (i := 0) (d := .imm 9 (rowsS vs)) rfl rfl (by simp)
  have h1 := slot_of R (i := 1) (d := .v (vS sep)) rfl rfl (by simp)
  have hsz : a.tmps.size = 2 := R.tmps
  have ha : a.tmps = #[a.tmps.getD 0 undef,a.tmps.getD 1 undef] := by
    apply Array.ext
    · simpa using hsz
    · intro i hi hi2
      have : i = 0 ∨ i = 1 := by simp at hi2; omega
      rcases this with rfl | rfl <;> simp [Array.getD,hsz]
  rw [ha]
  generalize a.tmps.getD 0 undef = v0 at h0
  generalize a.tmps.getD 1 undef = v1 at h1
  cases h1
  cases h0 with
  | imm _ _ _ h =>
    have hm : (vs.map ofL).map (·.data.toList) = vs := by
      rw [List.map_map]
      exact (List.map_congr_left (fun s _ => rfl)).trans (List.map_id vs)
    have hsd : (ofL sep).data.toList = sep := rfl
    rcases strs_of (by kernel_rfl) h with ⟨rfl,base,cap,rfl⟩ | ⟨b,o,cap,rfl,hb,hc,hcells⟩
    · exact (join_strings_Join_none base cap (ofL sep) w).mono fun e w' ⟨he,hw⟩ => ⟨he,hw ▸ RowKit.Below.refl _ _⟩
    · have := join_strings_Join b o cap (vs.map ofL) (ofL sep) w hcells hb (by simp; omega) hc (by rw [hm,hsd]; exact hlen)
      rw [hm,hsd] at this
      exact this
end Go.Proofs.YtplagdnnnkdlnaaGreatDoor.Fw
/- Contracts: joined values. -/
namespace Go.Proofs.YtplagdnnnkdlnaaGreatDoor.Fw
open Go
open Go.Proofs.Tryz
set_option maxRecDepth 100000
set_option maxHeartbeats 600000
set_option linter.unusedSimpArgs false
set_option linter.unusedVariables false
attribute [local congr] c_bnd c_slot c_cell c_all c_len c_chk c_asm c_opdR c_wp c_pwp c_pOps c_Done c_nx c_blk c_fin c_rowsR c_leafR c_opdsR c_coeLeaf c_coeLeaves c_lendLeaf c_lendLeaves c_coeCapt c_argR c_argsR c_boundR c_partsR c_srcR c_mfgo c_ite c_wpF c_OutF c_pHead c_pDraw
theorem rowsS_length (l : List (List UInt8)) : (rowsS l).length = l.length := by simp [rowsS]
theorem rowsS_getD {l : List (List UInt8)} {i : Nat} (h : i < l.length) : (rowsS l).getD i [] = [.v (vS (l.getD i []))] := by
  simp [rowsS,List.getD_eq_getElem?_getD,h]
theorem sd_ne {e : TypeId} {xs : List (List T)} (h : xs ≠ []) : sd e xs = .own e xs := by
  cases xs with
  | nil => exact absurd rfl h
  | cons => rfl
theorem rowsS_ne {l : List (List UInt8)} (h : l ≠ []) : rowsS l ≠ [] := by
  cases l with
  | nil => exact absurd rfl h
  | cons => simp [rowsS]
def sepB : List UInt8 := [44,32]
def joinB (l : List (List UInt8)) : List UInt8 := Lib.join l sepB
theorem joinTail_snoc (s y : List UInt8) (r : List (List UInt8)) : Lib.joinTail s (r ++ [y]) = Lib.joinTail s r ++ (s ++ y) := by simp [Lib.joinTail]
theorem joinB_snoc {xs : List (List UInt8)} {y : List UInt8} (h : xs ≠ []) : joinB (xs ++ [y]) = joinB xs ++ sepB ++ y := by
  cases xs with
  | nil => exact absurd rfl h
  | cons x r =>
    unfold joinB
    rw [List.cons_append,Lib.join_cons,Lib.join_cons,joinTail_snoc]
    simp
theorem joinB_nil : joinB [] = [] := rfl
theorem joinB_one (y : List UInt8) : joinB [y] = y := Lib.join_one y sepB
theorem joinB_len : ∀ {l : List (List UInt8)},(∀ v,v ∈ l → v.length ≤ 190) → (joinB l).length ≤ 192 * l.length := by
  intro l h
  cases l with
  | nil => simp [joinB_nil]
  | cons x r =>
    have key : ∀ (r : List (List UInt8)),(∀ v,v ∈ r → v.length ≤ 190) → (Lib.joinTail sepB r).length ≤ 192 * r.length := by
      intro r
      induction r with
      | nil => intro _; simp [Lib.joinTail]
      | cons y r ih =>
        intro h
        have h1 := h y List.mem_cons_self
        have h2 := ih fun v hv => h v (List.mem_cons_of_mem _ hv)
        simp only [Lib.joinTail,List.map_cons,List.flatten_cons,List.length_append,List.length_cons] at h2 ⊢
        have : sepB.length = 2 := rfl
        omega
    have h1 := h x List.mem_cons_self
    have h2 := key r fun v hv => h v (List.mem_cons_of_mem _ hv)
    unfold joinB
    rw [Lib.join_cons,List.length_append,List.length_cons]
    omega
theorem vals_190 {l : List Fld} {name : List UInt8} (h : fieldsB l = true) : ∀ v,v ∈ valsB name l → v.length ≤ 190 := by
  intro v hv
  simp only [valsB,List.mem_map,List.mem_filter] at hv
  obtain ⟨p,⟨hp,_⟩,rfl⟩ := hv
  simp only [fieldsB,Bool.and_eq_true,List.all_eq_true] at h
  have := h.2 p hp
  simp only [fieldB,Bool.and_eq_true,decide_eq_true_eq] at this
  exact this.1.1.2
theorem vals_20 {l : List Fld} {name : List UInt8} (h : fieldsB l = true) : (valsB name l).length ≤ 20 := by
  have h1 := fields_len h
  simp only [valsB,List.length_map]
  exact Nat.le_trans (List.length_filter_le _ _) h1
theorem joined_len {l : List Fld} {name : List UInt8} (h : fieldsB l = true) : (joinB (valsB name l)).length ≤ 3840 := by
  have h1 := joinB_len (vals_190 (name := name) h)
  have h2 := vals_20 (name := name) h
  omega
theorem c72 (l : List Fld) (hl : Small l) (name : List UInt8) (hn : name.length ≤ 9223372036854775807) (h : fieldsB l = true) : Sem prog 72 ⟨[.imm 45 (rowsF l),.v (vS name)],[none,none]⟩ ⟨[.dead,.dead,.v (vS (joinB (valsB name l)))],[none,none]⟩ := by
  refine sem_fin (cfg := cfg 2) (ts := [.tm 4]) tbOk func72 rfl rfl rfl rfl (fun t h => by cases h) ?_
  simp only [go_sem,Nat.reduceSub,f72,cfg]
  have h50 := c115 l hl name hn h
  have hj := joined_len (name := name) h
  have h20 := vals_20 (name := name) h
  generalize valsB name l = vs at h50 hj h20 ⊢
  have h49 := c113 vs sepB (by omega) (by show (joinB vs).length ≤ _; omega)
  refine Or.elim (Classical.em (vs = [])) (fun hz => ?_) fun hz => ?_
  · rw [hz] at h50 h49 ⊢
    rw [show sd 9 (rowsS []) = .nil from rfl] at h50
    refine ev_call h50 (retW0 rfl rfl rfl rfl) ?_
    simp only [go_sem,Nat.reduceLeDiff,Nat.reduceAdd,Nat.reduceBEq]
    refine ev_call h49 (retW0 rfl rfl rfl rfl) ?_
    simp only [go_sem,Nat.reduceAdd,Nat.reduceBNe]
    first | exact fin0 (.inr rfl) rfl rfl rfl rfl | trace_state
  · rw [sd_ne (rowsS_ne hz)] at h50
    refine ev_call h50 (retW0 rfl rfl rfl rfl) ?_
    simp only [go_sem,Nat.reduceLeDiff,Nat.reduceAdd,Nat.reduceDiv,Nat.reduceMod]
    refine ev_call h49 (retW0 rfl rfl rfl rfl) ?_
    simp only [go_sem,Nat.reduceAdd,Nat.reduceBNe]
    first | exact fin0 (.inr rfl) rfl rfl rfl rfl | trace_state
theorem c50 (l : List Fld) (hl : Small l) (name : List UInt8) (hn : name.length ≤ 9223372036854775807) (h : fieldsB l = true) : Sem prog 50 ⟨[.imm 45 (rowsF l),.v (vS name)],[none,none]⟩ ⟨[.dead,.dead,.v (vS (joinB (valsB name l)))],[none,none]⟩ := by
  refine sem_fin (cfg := cfg 2) (ts := [.tm 4]) tbOk func50 rfl rfl rfl rfl (fun t h => by cases h) ?_
  simp only [go_sem,Nat.reduceSub,f50,cfg]
  have h45 := c98 l hl name hn h
  have h190 := vals_190 (name := name) h
  have h20 := vals_20 (name := name) h
  generalize valsB name l = vs at h45 h190 h20 ⊢
  refine Or.elim (Classical.em (vs = [])) (fun hz => ?_) fun hz => ?_
  · rw [hz] at h45 ⊢
    rw [show sd 9 (rowsS []) = .nil from rfl] at h45
    rw [joinB_nil]
    refine ev_call h45 (retW0 rfl rfl rfl rfl) ?_
    simp only [go_sem,Nat.reduceAdd,Nat.reduceBNe]
    refine loop_on (fun _ : Unit => ⟨[.imm 45 (rowsF l),.v (vS name),.dead,.dead,.v (vS []),.nil,.v (vS []),.v (vI 0),.dead,.dead,.dead,.dead,.dead,.dead,.dead,.dead,.dead,.dead,.dead,.dead,.dead,.dead,.dead,.dead,.dead,.dead,.dead,.dead],List.replicate 28 none⟩) [0,1,4,5,6,7] (fun _ => True) (fun _ => 0) () rfl trivial ?_
    intro _ _
    simp only [go_sem,Nat.reduceBNe,Int.reduceLT]
    first | exact fin0 (.inr rfl) rfl rfl rfl rfl | trace_state
  · rw [sd_ne (rowsS_ne hz)] at h45
    refine ev_call h45 (retW0 rfl rfl rfl rfl) ?_
    simp only [go_sem,Nat.reduceAdd,Nat.reduceBNe,Nat.reduceEqDiff,reduceCtorEq,Nat.reduceDiv,Nat.reduceMod]
    refine loop_on (fun i : Nat => ⟨[.imm 45 (rowsF l),.v (vS name),.dead,.dead,.v (vS []),.own 9 (rowsS vs),.v (vS (joinB (vs.take i))),.v (vI i),.dead,.dead,.dead,.dead,.dead,.dead,.dead,.dead,.dead,.dead,.dead,.dead,.dead,.dead,.dead,.dead,.dead,.dead,.dead,.dead],List.replicate 28 none⟩) [0,1,4,5,6,7] (fun i => i ≤ vs.length) (fun i => vs.length - i) 0 (by simp only [List.take_zero,joinB_nil]; rfl) (by omega) ?_
    intro i hi
    have hs : vs.length ≤ 9223372036854775807 := by omega
    simp only [go_sem,Nat.reduceDiv,Nat.reduceMod,rowsS_length,hs]
    by_cases hc : i < vs.length
    · have hw := wrapN hc hs
      have h1 := rowsS_getD hc
      have ht := take_at (d := []) hc
      have hjl : (joinB (vs.take i)).length ≤ 192 * (vs.take i).length := joinB_len fun v hv => h190 v (List.mem_of_mem_take hv)
      have hvl : (vs.getD i []).length ≤ 190 := h190 _ (by rw [List.getD_eq_getElem?_getD,List.getElem?_eq_getElem hc]; exact List.getElem_mem hc)
      rw [List.length_take] at hjl
      by_cases h0 : i = 0
      · subst h0
        have hlo : (vs.getD 0 []).length ≤ 9223372036854775807 := by omega
        have hc0 : (0 : Int) < (vs.length : Int) := by omega
        have ht1 : joinB (vs.take 1) = vs.getD 0 [] := by rw [show vs.take 1 = [vs.getD 0 []] from ht,joinB_one]
        simp only [go_sem,Nat.reduceBNe,Int.reduceLT,Int.reduceLE,Int.reduceToNat,Nat.reduceDiv,Nat.reduceMod,rowsS_length,hc,h1,hlo,hc0,joinB_nil]
        first | exact ⟨1,by rw [ht1]; rfl,hc,by omega⟩ | trace_state
      · have hi0 : (0 : Int) < (i : Int) := by omega
        have hne : vs.take i ≠ [] := by
          intro h; have := congrArg List.length h; rw [List.length_take,List.length_nil] at this; omega
        have hlo : (joinB (vs.take i)).length + 2 ≤ 9223372036854775807 := by omega
        have hlo2 : (joinB (vs.take i)).length + 2 + (vs.getD i []).length ≤ 9223372036854775807 := by omega
        simp only [go_sem,Nat.reduceLeDiff,Nat.reduceAdd,Nat.reduceBNe,Nat.reduceDiv,Nat.reduceMod,rowsS_length,List.length_append,hc,h1,hw,hlo,hlo2,hi0]
        first | exact ⟨i + 1,by rw [ht,joinB_snoc hne]; rfl,hc,by omega⟩ | trace_state
    · have he : i = vs.length := by omega
      subst he
      simp only [go_sem,Nat.reduceBNe,hc,List.take_length]
      first | exact fin0 (.inr rfl) rfl rfl rfl rfl | trace_state
set_option maxRecDepth 100000
set_option maxHeartbeats 600000
def viaN : List UInt8 := [118,105,97]
def viaV (old name : List UInt8) : List UInt8 := if old = [] then [49,46,49,32] ++ name else old ++ ([44,32] ++ ([49,46,49,32] ++ name))
def nickB (name : List UInt8) : Bool := tokenI name && decide (name.length ≤ 20)
def addB (l : List Fld) (name : List UInt8) : Option (List Fld) :=
  if fieldsB l && nickB name then withB l ([86,105,97],viaV (joinB (valsB viaN l)) name) else none
theorem c22 (l : List Fld) (hl : Small l) (name : List UInt8) (hn : name.length ≤ 9223372036854775807) : Sem prog 22 ⟨[.imm 45 (rowsF l),.v (vS name)],[none,none]⟩ ⟨[.dead,.dead,optD (addB l name)],[none,none]⟩ := by
  refine sem_fin (cfg := cfg 2) (ts := [.tm 4]) tbOk func22 rfl rfl rfl rfl (fun t h => by cases h) ?_
  simp only [go_sem,Nat.reduceSub,f22,cfg,List.cons_append,List.nil_append]
  refine ev_call (c62 l hl) (retW0 rfl rfl rfl rfl) ?_
  cases hf : fieldsB l
  · have ha : addB l name = none := by unfold addB; rw [hf]; rfl
    rw [ha]
    simp only [go_sem,Nat.reduceAdd,reduceCtorEq]
    first | exact fin0 (.inr rfl) rfl rfl rfl rfl | trace_state
  simp only [go_sem,Nat.reduceAdd,List.nil_append]
  refine Or.elim (Classical.em (nickB name = false)) (fun hk => ?_) fun hk => ?_
  · refine ev_call (c71 name hn) (retW0 rfl rfl rfl rfl) ?_
    have ha : addB l name = none := by unfold addB; rw [hk]; simp
    rw [ha]
    have hk' : (tokenI name && decide (name.length ≤ 20)) = false := by rw [← hk]; rfl
    simp only [go_sem,Nat.reduceAdd,hk']
    first | exact fin0 (.inr rfl) rfl rfl rfl rfl | trace_state
  have hk : nickB name = true := by simpa using hk
  refine ev_call (c71 name hn) (retW0 rfl rfl rfl rfl) ?_
  have hk' : (tokenI name && decide (name.length ≤ 20)) = true := by rw [← hk]; rfl
  have hn20 : name.length ≤ 20 := by
    simp only [nickB,Bool.and_eq_true,decide_eq_true_eq] at hk; exact hk.2
  have hjl := joined_len (name := viaN) hf
  have ha : addB l name = withB l ([86,105,97],viaV (joinB (valsB viaN l)) name) := by unfold addB; rw [hf,hk]; rfl
  rw [ha]
  have hj := c72 l hl viaN (by decide) hf
  generalize joinB (valsB viaN l) = old at hj hjl ⊢
  have hlo1 : 4 + name.length ≤ 9223372036854775807 := by omega
  simp only [go_sem,Nat.reduceLeDiff,Nat.reduceAdd,List.cons_append,List.nil_append,hk']
  try simp only [go_sem]
  refine Or.elim (Classical.em (old = [])) (fun hz => ?_) fun hz => ?_
  · refine ev_call hj (retW0 rfl rfl rfl rfl) ?_
    have hv : viaV old name = [49,46,49,32] ++ name := by unfold viaV; rw [if_pos hz]
    rw [hv]
    have hlv : ([49,46,49,32] ++ name).length ≤ 9223372036854775807 := by simp; omega
    have hw := c23 l hl ([86,105,97],[49,46,49,32] ++ name) (by simp) hlv
    rw [hz]
    generalize withB l ([86,105,97],[49,46,49,32] ++ name) = r at hw ⊢
    simp only [go_sem,Nat.reduceLeDiff,Nat.reduceLT,Nat.reduceAdd,Nat.reduceSub,Nat.reduceBNe,List.cons_append,List.nil_append,hlo1]
    cases r with
    | none =>
      refine ev_call hw (retW0 rfl rfl rfl rfl) ?_
      simp only [go_sem,Nat.reduceAdd]
      first | exact fin0 (.inr rfl) rfl rfl rfl rfl | trace_state
    | some x =>
      refine ev_call hw (retW0 rfl rfl rfl rfl) ?_
      simp only [go_sem,Nat.reduceAdd]
      first | exact fin0 (.inr rfl) rfl rfl rfl rfl | trace_state
  · refine ev_call hj (retW0 rfl rfl rfl rfl) ?_
    have hv : viaV old name = old ++ ([44,32] ++ ([49,46,49,32] ++ name)) := by unfold viaV; rw [if_neg hz]
    rw [hv]
    have hnb := beq_nil_false hz
    have hlv : (old ++ ([44,32] ++ ([49,46,49,32] ++ name))).length ≤ 9223372036854775807 := by simp; omega
    have hw := c23 l hl ([86,105,97],old ++ ([44,32] ++ ([49,46,49,32] ++ name))) (by simp) hlv
    generalize hr : withB l ([86,105,97],old ++ ([44,32] ++ ([49,46,49,32] ++ name))) = r at hw ⊢
    have hs1 : old.length + 2 ≤ 9223372036854775807 := by omega
    have hs2 : old.length + 2 + 4 ≤ 9223372036854775807 := by omega
    have hs3 : old.length + (2 + 4) ≤ 9223372036854775807 := by omega
    have hs4 : old.length + 2 + 4 + name.length ≤ 9223372036854775807 := by omega
    have hs5 : old.length + (2 + 4) + name.length ≤ 9223372036854775807 := by omega
    have hs6 : old.length + 2 + (4 + name.length) ≤ 9223372036854775807 := by omega
    have hs7 : old.length + 2 + (name.length + 1 + 1 + 1 + 1) ≤ 9223372036854775807 := by omega
    have hs8 : name.length + 1 + 1 + 1 + 1 ≤ 9223372036854775807 := by omega
    simp only [go_sem,Nat.reduceLeDiff,Nat.reduceLT,Nat.reduceAdd,Nat.reduceSub,Nat.reduceBNe,List.length_append,List.cons_append,List.nil_append,List.append_assoc,hnb,hs1,hs2,hs4]
    cases r with
    | none =>
      refine ev_call hw (retW0 rfl rfl rfl rfl) ?_
      simp only [go_sem,Nat.reduceAdd]
      first | exact fin0 (.inr rfl) rfl rfl rfl rfl | trace_state
    | some x =>
      refine ev_call hw (retW0 rfl rfl rfl rfl) ?_
      simp only [go_sem,Nat.reduceAdd]
      first | exact fin0 (.inr rfl) rfl rfl rfl rfl | trace_state
theorem c18 (l : List Fld) (hl : Small l) (name : List UInt8) (hn : name.length ≤ 9223372036854775807) : Sem prog 18 ⟨[.imm 45 (rowsF l),.v (vS name)],[none,none]⟩ ⟨[.dead,.dead,optD (addB l name)],[none,none]⟩ := by
  refine sem_fin (cfg := cfg 2) (ts := [.tm 4]) tbOk func18 rfl rfl rfl rfl (fun t h => by cases h) ?_
  simp only [go_sem,Nat.reduceSub,f18,cfg,List.cons_append,List.nil_append]
  refine ev_call (c38 l hl) (retW0 rfl rfl rfl rfl) ?_
  cases hf : fieldsB l
  · have ha : addB l name = none := by unfold addB; rw [hf]; rfl
    rw [ha]
    simp only [go_sem,Nat.reduceAdd,reduceCtorEq]
    first | exact fin0 (.inr rfl) rfl rfl rfl rfl | trace_state
  simp only [go_sem,Nat.reduceAdd,List.nil_append]
  refine Or.elim (Classical.em (nickB name = false)) (fun hk => ?_) fun hk => ?_
  · refine ev_call (c49 name hn) (retW0 rfl rfl rfl rfl) ?_
    have ha : addB l name = none := by unfold addB; rw [hk]; simp
    rw [ha]
    have hk' : (decide (name.length ≤ 20) && tokenS name) = false := by rw [token_eq,Bool.and_comm,← hk]; rfl
    simp only [go_sem,Nat.reduceAdd,hk']
    first | exact fin0 (.inr rfl) rfl rfl rfl rfl | trace_state
  have hk : nickB name = true := by simpa using hk
  refine ev_call (c49 name hn) (retW0 rfl rfl rfl rfl) ?_
  have hk' : (decide (name.length ≤ 20) && tokenS name) = true := by rw [token_eq,Bool.and_comm,← hk]; rfl
  have hn20 : name.length ≤ 20 := by
    simp only [nickB,Bool.and_eq_true,decide_eq_true_eq] at hk; exact hk.2
  have hjl := joined_len (name := viaN) hf
  have ha : addB l name = withB l ([86,105,97],viaV (joinB (valsB viaN l)) name) := by unfold addB; rw [hf,hk]; rfl
  rw [ha]
  have hj := c50 l hl viaN (by decide) hf
  generalize joinB (valsB viaN l) = old at hj hjl ⊢
  have hlo1 : 4 + name.length ≤ 9223372036854775807 := by omega
  simp only [go_sem,Nat.reduceLeDiff,Nat.reduceAdd,Nat.reduceBNe,List.cons_append,List.nil_append,hk',hlo1]
  try simp only [go_sem]
  refine Or.elim (Classical.em (old = [])) (fun hz => ?_) fun hz => ?_
  · refine ev_call hj (retW0 rfl rfl rfl rfl) ?_
    have hv : viaV old name = [49,46,49,32] ++ name := by unfold viaV; rw [if_pos hz]
    rw [hv]
    have hlv : ([49,46,49,32] ++ name).length ≤ 9223372036854775807 := by simp; omega
    have hw := c14 l hl ([86,105,97],[49,46,49,32] ++ name) (by simp) hlv
    rw [hz]
    generalize withB l ([86,105,97],[49,46,49,32] ++ name) = r at hw ⊢
    simp only [go_sem,Nat.reduceLeDiff,Nat.reduceLT,Nat.reduceAdd,Nat.reduceSub,Nat.reduceBNe,List.cons_append,List.nil_append]
    cases r with
    | none =>
      refine ev_call hw (retW0 rfl rfl rfl rfl) ?_
      simp only [go_sem,Nat.reduceAdd]
      first | exact fin0 (.inr rfl) rfl rfl rfl rfl | trace_state
    | some x =>
      refine ev_call hw (retW0 rfl rfl rfl rfl) ?_
      simp only [go_sem,Nat.reduceAdd]
      first | exact fin0 (.inr rfl) rfl rfl rfl rfl | trace_state
  · refine ev_call hj (retW0 rfl rfl rfl rfl) ?_
    have hv : viaV old name = old ++ ([44,32] ++ ([49,46,49,32] ++ name)) := by unfold viaV; rw [if_neg hz]
    rw [hv]
    have hnb := beq_nil_false hz
    have hlv : (old ++ ([44,32] ++ ([49,46,49,32] ++ name))).length ≤ 9223372036854775807 := by simp; omega
    have hw := c14 l hl ([86,105,97],old ++ ([44,32] ++ ([49,46,49,32] ++ name))) (by simp) hlv
    generalize hr : withB l ([86,105,97],old ++ ([44,32] ++ ([49,46,49,32] ++ name))) = r at hw ⊢
    have hs1 : old.length + 2 ≤ 9223372036854775807 := by omega
    have hs2 : old.length + 2 + 4 ≤ 9223372036854775807 := by omega
    have hs3 : old.length + (2 + 4) ≤ 9223372036854775807 := by omega
    have hs4 : old.length + 2 + 4 + name.length ≤ 9223372036854775807 := by omega
    have hs5 : old.length + (2 + 4) + name.length ≤ 9223372036854775807 := by omega
    have hs6 : old.length + 2 + (4 + name.length) ≤ 9223372036854775807 := by omega
    have hs7 : old.length + 2 + (name.length + 1 + 1 + 1 + 1) ≤ 9223372036854775807 := by omega
    have hs8 : name.length + 1 + 1 + 1 + 1 ≤ 9223372036854775807 := by omega
    simp only [go_sem,Nat.reduceLeDiff,Nat.reduceLT,Nat.reduceAdd,Nat.reduceSub,Nat.reduceBNe,List.length_append,List.cons_append,List.nil_append,List.append_assoc,hnb,hs1,hs7]
    cases r with
    | none =>
      refine ev_call hw (retW0 rfl rfl rfl rfl) ?_
      simp only [go_sem,Nat.reduceAdd]
      first | exact fin0 (.inr rfl) rfl rfl rfl rfl | trace_state
    | some x =>
      refine ev_call hw (retW0 rfl rfl rfl rfl) ?_
      simp only [go_sem,Nat.reduceAdd]
      first | exact fin0 (.inr rfl) rfl rfl rfl rfl | trace_state
set_option maxRecDepth 100000
set_option maxHeartbeats 600000
def visB (n : Int) : Bool := decide (33 ≤ n) && decide (n ≤ 126)
def bareB (n : Int) : Bool := (n == 204) || (n == 304)
def targetB (l : List UInt8) : Bool := inB 1 200 l.length && l.all fun b => visB b.toNat
def statusB (n : Int) : Bool := inB 200 599 n
def reasonB (l : List UInt8) : Bool := decide (l.length ≤ 40) && l.all fun b => plainB b.toNat
def clN : List UInt8 := [99,111,110,116,101,110,116,45,108,101,110,103,116,104]
def teN : List UInt8 := [116,114,97,110,115,102,101,114,45,101,110,99,111,100,105,110,103]
def trN : List UInt8 := [116,114,97,105,108,101,114]
def frB (p : Fld) : Bool := (foldB p.1 == clN) || (foldB p.1 == teN) || (foldB p.1 == trN)
def fieldT (p : Fld) : List UInt8 := p.1 ++ [58,32] ++ p.2
theorem c53 (n : Int) : Sem prog 53 ⟨[.v (vC n)],[none]⟩ ⟨[.dead,.v (vB (visB n))],[none]⟩ := by
  refine sem_fin (cfg := cfg 1) (ts := [.tm 2]) tbOk func53 rfl rfl rfl rfl (fun t h => by cases h) ?_
  simp only [go_sem,Nat.reduceSub,f53,cfg, *]
  repeat' ((first | with_reducible intro _ | split) <;> (try simp only [go_sem,Nat.reduceBNe, *]))
  all_goals
    refine fin0 (.inr rfl) rfl rfl rfl ?_
    simp only [shutR,shutD,List.getD_cons_zero,List.getD_cons_succ]
    refine congrArg (fun b => D.v (vB b)) ?_
    grind [visB]
theorem c69 (n : Int) : Sem prog 69 ⟨[.v (vI n)],[none]⟩ ⟨[.dead,.v (vB (bareB n))],[none]⟩ := by
  refine sem_fin (cfg := cfg 1) (ts := [.tm 2]) tbOk func69 rfl rfl rfl rfl (fun t h => by cases h) ?_
  simp only [go_sem,Nat.reduceSub,f69,cfg, *]
  repeat' ((first | with_reducible intro _ | split) <;> (try simp only [go_sem,Nat.reduceBNe,reduceCtorEq, *]))
  all_goals
    refine fin0 (.inr rfl) rfl rfl rfl ?_
    simp only [shutR,shutD,List.getD_cons_zero,List.getD_cons_succ]
    refine congrArg (fun b => D.v (vB b)) ?_
    grind [bareB]
theorem c91 (n : Int) : Sem prog 91 ⟨[.v (vI n)],[none]⟩ ⟨[.dead,.v (vB (bareB n))],[none]⟩ := by
  refine sem_fin (cfg := cfg 1) (ts := [.tm 2]) tbOk func91 rfl rfl rfl rfl (fun t h => by cases h) ?_
  simp only [go_sem,Nat.reduceSub,f91,cfg, *]
  repeat' ((first | with_reducible intro _ | split) <;> (try simp only [go_sem,Nat.reduceBNe,reduceCtorEq, *]))
  all_goals
    refine fin0 (.inr rfl) rfl rfl rfl ?_
    simp only [shutR,shutD,List.getD_cons_zero,List.getD_cons_succ]
    refine congrArg (fun b => D.v (vB b)) ?_
    grind [bareB]
theorem c67 (n : Int) : Sem prog 67 ⟨[.v (vI n)],[none]⟩ ⟨[.dead,.v (vB (statusB n))],[none]⟩ := by
  refine sem_fin (cfg := cfg 1) (ts := [.tm 2]) tbOk func67 rfl rfl rfl rfl (fun t h => by cases h) ?_
  simp only [go_sem,Nat.reduceAdd,Nat.reduceSub,f67,cfg, *]
  repeat' ((first | refine ev_call (c107 _ _ _) (retW0 rfl rfl rfl rfl) ?_ | with_reducible intro _ | split) <;> (try simp only [go_sem,Nat.reduceAdd,Nat.reduceBNe, *]))
  all_goals
    refine fin0 (.inr rfl) rfl rfl rfl ?_
    simp only [shutR,shutD,List.getD_cons_zero,List.getD_cons_succ]
    refine congrArg (fun b => D.v (vB b)) ?_
    grind [statusB]
theorem c65 (l : List UInt8) (hl : l.length ≤ 9223372036854775807) : Sem prog 65 ⟨[.v (vS l)],[none]⟩ ⟨[.dead,.v (vB (tokenI l && decide (l.length ≤ 20)))],[none]⟩ := by
  refine sem_fin (cfg := cfg 1) (ts := [.tm 2]) tbOk func65 rfl rfl rfl rfl (fun t h => by cases h) ?_
  simp only [go_sem,Nat.reduceSub,f65,cfg, *]
  repeat' ((first | refine ev_call (c116 _ hl) (retW0 rfl rfl rfl rfl) ?_ | with_reducible intro _ | split) <;> (try simp only [go_sem,Nat.reduceAdd,Nat.reduceBNe, *]))
  all_goals
    refine fin0 (.inr rfl) rfl rfl rfl ?_
    simp only [shutR,shutD,List.getD_cons_zero,List.getD_cons_succ]
    refine congrArg (fun b => D.v (vB b)) ?_
    grind []
theorem c66 (l : List UInt8) (hl : l.length ≤ 9223372036854775807) : Sem prog 66 ⟨[.v (vS l)],[none]⟩ ⟨[.dead,.v (vB (targetB l))],[none]⟩ := by
  refine sem_fin (cfg := cfg 1) (ts := [.tm 2]) tbOk func66 rfl rfl rfl rfl (fun t h => by cases h) ?_
  simp only [go_sem,Nat.reduceAdd,Nat.reduceSub,f66,cfg, *]
  repeat' ((first | refine ev_call (c107 _ _ _) (retW0 rfl rfl rfl rfl) ?_ | refine ev_call (c52 l 53 visB rfl rfl c53 hl) (retW0 rfl rfl rfl rfl) ?_ | with_reducible intro _ | split) <;> (try simp only [go_sem,Nat.reduceAdd,Nat.reduceBNe, *]))
  all_goals
    refine fin0 (.inr rfl) rfl rfl rfl ?_
    simp only [shutR,shutD,List.getD_cons_zero,List.getD_cons_succ]
    refine congrArg (fun b => D.v (vB b)) ?_
    grind [targetB]
theorem c68 (l : List UInt8) (hl : l.length ≤ 9223372036854775807) : Sem prog 68 ⟨[.v (vS l)],[none]⟩ ⟨[.dead,.v (vB (reasonB l))],[none]⟩ := by
  refine sem_fin (cfg := cfg 1) (ts := [.tm 2]) tbOk func68 rfl rfl rfl rfl (fun t h => by cases h) ?_
  simp only [go_sem,Nat.reduceSub,f68,cfg, *]
  repeat' ((first | refine ev_call (c52 l 117 plainB rfl rfl c117 hl) (retW0 rfl rfl rfl rfl) ?_ | with_reducible intro _ | split) <;> (try simp only [go_sem,Nat.reduceAdd,Nat.reduceBNe, *]))
  all_goals
    refine fin0 (.inr rfl) rfl rfl rfl ?_
    simp only [shutR,shutD,List.getD_cons_zero,List.getD_cons_succ]
    refine congrArg (fun b => D.v (vB b)) ?_
    grind [reasonB]
theorem c32 (l : List UInt8) (hl : l.length ≤ 9223372036854775807) : Sem prog 32 ⟨[.v (vS l)],[none]⟩ ⟨[.dead,.v (vB ((l.all fun b => visB b.toNat) && decide (0 < l.length)))],[none]⟩ := by
  refine sem_fin (cfg := cfg 1) (ts := [.tm 2]) tbOk func32 rfl rfl rfl rfl (fun t h => by cases h) ?_
  simp only [go_sem,Nat.reduceSub,f32,cfg]
  refine loop_on (fun i : Nat => ⟨[.v (vS l),.dead,.v (vB false),.v (vI i),.dead,.dead,.dead,.dead,.dead,.dead,.dead,.dead,.dead,.dead,.dead,.dead,.dead,.dead,.dead,.dead,.dead,.dead,.dead],List.replicate 23 none⟩) [0,2,3] (fun i => i ≤ l.length ∧ (l.take i).all (fun b => visB b.toNat) = true) (fun i => l.length - i) 0 rfl ⟨by omega,by simp⟩ ?_
  intro i ⟨hi,hall⟩
  simp only [go_sem]
  try (with_reducible intro hlen)
  by_cases hc : i < l.length
  · have hw := wrapN hc hl
    simp only [go_sem,hc]
    cases hb : visB (l.getD i 0).toNat
    · have hb1 : (((l.getD i 0).toNat : Int) < 33) ∨ (126 < ((l.getD i 0).toNat : Int)) := by
        unfold visB at hb; simp only [Bool.and_eq_false_iff,decide_eq_false_iff_not] at hb; omega
      repeat' ((first | with_reducible intro _ | split) <;> (try simp only [go_sem,Nat.reduceBNe,reduceCtorEq, *]))
      all_goals first
        | (refine fin0 (.inr rfl) rfl rfl rfl ?_
           simp only [shutR,shutD,List.getD_cons_zero,List.getD_cons_succ]
           rw [all_false_at hc hb]; rfl)
        | (exfalso; omega)
    · have hb1 : ¬ (((l.getD i 0).toNat : Int) < 33) := by
        unfold visB at hb; simp only [Bool.and_eq_true,decide_eq_true_eq] at hb; omega
      have hb2 : ¬ (126 < ((l.getD i 0).toNat : Int)) := by
        unfold visB at hb; simp only [Bool.and_eq_true,decide_eq_true_eq] at hb; omega
      simp only [go_sem,Nat.reduceBNe,hb1,hb2,hw,hc]
      exact ⟨i + 1,rfl,⟨hc,by rw [all_take_succ (d := 0) hc,hall,hb]; rfl⟩,by omega⟩
  · simp only [go_sem,Nat.reduceBNe,hc,hl]
    refine fin0 (.inr rfl) rfl rfl rfl ?_
    simp only [shutR,shutD,List.getD_cons_zero,List.getD_cons_succ]
    rw [List.take_of_length_le (by omega)] at hall
    rw [hall]
    refine congrArg (fun b => D.v (vB b)) ?_
    grind
theorem c39 (l : List Fld) (hl : Small l) : Sem prog 39 ⟨[.imm 45 (rowsF l)],[none]⟩ ⟨[.dead,.v (vB (l.any frB))],[none]⟩ := by
  refine sem_fin (cfg := cfg 1) (ts := [.tm 2]) tbOk func39 rfl rfl rfl rfl (fun t h => by cases h) ?_
  simp only [go_sem,Nat.reduceSub,f39,cfg]
  have hs : l.length ≤ 9223372036854775807 := hl.1
  refine loop_on (fun i : Nat => ⟨[.imm 45 (rowsF l),.dead,.v (vB false),.v (vI i),.dead,.dead,.dead,.dead,.dead,.dead,.dead,.dead,.dead,.dead,.dead,.dead,.dead,.dead,.dead,.dead,.dead,.dead,.dead,.dead,.dead,.dead,.dead],List.replicate 27 none⟩) [0,2,3] (fun i => i ≤ l.length ∧ (l.take i).any frB = false) (fun i => l.length - i) 0 rfl ⟨by omega,by simp⟩ ?_
  intro i ⟨hi,hall⟩
  simp only [go_sem,rowsF_length,hs]
  try (with_reducible intro hlen)
  by_cases hc : i < l.length
  · have hw := wrapN hc hs
    have h1 := rowsF_getD hc
    have hsm := hl.at hc
    simp only [go_sem,Nat.reduceLeDiff,Nat.reduceAdd,rowsF_length,hc,h1]
    refine ev_call (c34 _ hsm.1) (retW0 rfl rfl rfl rfl) ?_
    have hany : l.any frB = ((l.take i).any frB || (frB (l.getD i ([],[])) || (l.drop (i + 1)).any frB)) := by
      conv => lhs; rw [← List.take_append_drop i l,List.any_append,drop_at (d := ([],[])) hc,List.any_cons]
    have hnx : (l.take (i + 1)).any frB = ((l.take i).any frB || frB (l.getD i ([],[]))) := by
      rw [take_at (d := ([],[])) hc,List.any_append]; simp
    rw [hall] at hany hnx
    cases h2 : foldB (l.getD i ([],[])).1 == clN
    · cases h3 : foldB (l.getD i ([],[])).1 == teN
      · cases h4 : foldB (l.getD i ([],[])).1 == trN
        · unfold clN at h2; unfold teN at h3; unfold trN at h4
          simp only [go_sem,Nat.reduceLeDiff,Nat.reduceAdd,Nat.reduceBNe,h2,h3,h4,hw]
          exact ⟨i + 1,rfl,⟨hc,by rw [hnx,frB,clN,teN,trN,h2,h3,h4]; rfl⟩,by omega⟩
        · have : l.any frB = true := by rw [hany,frB,h2,h3,h4]; rfl
          unfold clN at h2; unfold teN at h3; unfold trN at h4
          simp only [go_sem,Nat.reduceLeDiff,Nat.reduceAdd,Nat.reduceBNe,h2,h3,h4]
          refine fin0 (.inr rfl) rfl rfl rfl ?_
          simp only [shutR,shutD,List.getD_cons_zero,List.getD_cons_succ]
          rw [this]
      · have : l.any frB = true := by rw [hany,frB,h2,h3]; rfl
        unfold clN at h2; unfold teN at h3
        simp only [go_sem,Nat.reduceLeDiff,Nat.reduceAdd,Nat.reduceBNe,reduceCtorEq,h2,h3]
        refine fin0 (.inr rfl) rfl rfl rfl ?_
        simp only [shutR,shutD,List.getD_cons_zero,List.getD_cons_succ]
        rw [this]
    · have : l.any frB = true := by rw [hany,frB,h2]; rfl
      unfold clN at h2
      simp only [go_sem,Nat.reduceLeDiff,Nat.reduceAdd,Nat.reduceBNe,reduceCtorEq,h2]
      refine fin0 (.inr rfl) rfl rfl rfl ?_
      simp only [shutR,shutD,List.getD_cons_zero,List.getD_cons_succ]
      rw [this]
  · simp only [go_sem,hc]
    refine fin0 (.inr rfl) rfl rfl rfl ?_
    simp only [shutR,shutD,List.getD_cons_zero,List.getD_cons_succ]
    rw [List.take_of_length_le (by omega)] at hall
    rw [hall]
theorem c46 (l : List (List UInt8)) (s : List UInt8) (hs : l.length ≤ 9223372036854775807) : Sem prog 46 ⟨[.imm 9 (rowsS l),.v (vS s)],[none,none]⟩ ⟨[.dead,.dead,.v (vB (l.contains s))],[none,none]⟩ := by
  refine sem_fin (cfg := cfg 2) (ts := [.tm 4]) tbOk func46 rfl rfl rfl rfl (fun t h => by cases h) ?_
  simp only [go_sem,Nat.reduceSub,f46,cfg]
  refine loop_on (fun i : Nat => ⟨[.imm 9 (rowsS l),.v (vS s),.dead,.dead,.v (vB false),.v (vI i),.dead,.dead,.dead,.dead,.dead,.dead,.dead,.dead,.dead,.dead,.dead,.dead],List.replicate 18 none⟩) [0,1,4,5] (fun i => i ≤ l.length ∧ (l.take i).contains s = false) (fun i => l.length - i) 0 rfl ⟨by omega,by simp⟩ ?_
  intro i ⟨hi,hall⟩
  simp only [go_sem,rowsS_length,hs]
  try (with_reducible intro hlen)
  by_cases hc : i < l.length
  · have hw := wrapN hc hs
    have h1 := rowsS_getD hc
    simp only [go_sem,rowsS_length,hc,h1]
    have hany : l.contains s = ((l.take i).contains s || ((l.getD i [] == s) || (l.drop (i + 1)).contains s)) := by
      conv => lhs; rw [← List.take_append_drop i l,List.contains_append,drop_at (d := []) hc,List.contains_cons]
      rw [show (s == l.getD i []) = (l.getD i [] == s) from Bool.beq_comm ..]
    have hnx : (l.take (i + 1)).contains s = ((l.take i).contains s || (l.getD i [] == s)) := by
      rw [take_at (d := []) hc,List.contains_append,List.contains_cons,show (s == l.getD i []) = (l.getD i [] == s) from Bool.beq_comm ..]
      simp only [List.contains_nil,Bool.or_false]
    rw [hall] at hany hnx
    cases h2 : l.getD i [] == s
    · simp only [go_sem,Nat.reduceBNe,hw]
      exact ⟨i + 1,rfl,⟨hc,by rw [hnx,h2]; rfl⟩,by omega⟩
    · rw [h2] at hany
      simp only [go_sem]
      refine fin0 (.inr rfl) rfl rfl rfl ?_
      simp only [shutR,shutD,List.getD_cons_zero,List.getD_cons_succ]
      rw [hany]; rfl
  · simp only [go_sem,hc]
    refine fin0 (.inr rfl) rfl rfl rfl ?_
    simp only [shutR,shutD,List.getD_cons_zero,List.getD_cons_succ]
    rw [List.take_of_length_le (by omega)] at hall
    rw [hall]
theorem c120 (n v : List UInt8) (hn : n.length ≤ 4611686018427387000) (hv : v.length ≤ 4611686018427387000) : Sem prog 120 ⟨[.agg [.v (vS n),.v (vS v)]],[none]⟩ ⟨[.dead,.v (vS (fieldT (n,v)))],[none]⟩ := by
  have hx : (n ++ [58,32]).length ≤ 9223372036854775807 := by simp; omega
  have hx1 : n.length + 2 ≤ 9223372036854775807 := by omega
  have hx2 : n.length + 2 + v.length ≤ 9223372036854775807 := by omega
  have hx3 : (n ++ [58,32]).length + v.length ≤ 9223372036854775807 := by simp; omega
  refine sem_fin (cfg := cfg 1) (ts := [.tm 2]) tbOk func120 rfl rfl rfl rfl (fun t h => by cases h) ?_
  simp only [go_sem,Nat.reduceLeDiff,Nat.reduceAdd,Nat.reduceSub,Nat.reduceBNe,f120,cfg, *]
  repeat' ((first | with_reducible intro _ | split) <;> (try simp only [go_sem,Nat.reduceLeDiff,Nat.reduceLT,Nat.reduceAdd,Nat.reduceSub,Nat.reduceMul,Nat.reduceBEq,Nat.reduceBNe,Nat.reduceEqDiff,reduceCtorEq,reduceIte,Int.reduceLT,Int.reduceLE,Int.reduceAdd,Int.reduceSub,Int.reduceNeg,Int.reduceEq,Int.reduceBEq,Int.reduceBNe,Int.reduceToNat,Nat.reduceDiv,Nat.reduceMod,f120,cfg, *]))
  all_goals
    first | exact fin0 (.inr rfl) rfl rfl rfl rfl | trace_state
theorem c64 (l : List Fld) (hl : Small l) (name : List UInt8) (hn : name.length ≤ 9223372036854775807) (h : fieldsB l = true) : Sem prog 64 ⟨[.imm 45 (rowsF l),.v (vS name)],[none,none]⟩ ⟨[.dead,.dead,.v (vB (decide (0 < (valsB name l).length)))],[none,none]⟩ := by
  refine sem_fin (cfg := cfg 2) (ts := [.tm 4]) tbOk func64 rfl rfl rfl rfl (fun t h => by cases h) ?_
  simp only [go_sem,Nat.reduceSub,f64,cfg]
  have h68 := c115 l hl name hn h
  generalize valsB name l = vs at h68
  cases vs with
  | nil =>
    refine ev_call h68 (retW0 rfl rfl rfl rfl) ?_
    simp only [go_sem,Nat.reduceAdd,Nat.reduceBNe,Int.reduceLT,rowsS,List.map_nil,sd_nil]
    exact fin0 (.inr rfl) rfl rfl rfl rfl
  | cons v vs =>
    refine ev_call h68 (retW0 rfl rfl rfl rfl) ?_
    simp only [go_sem,Nat.reduceLeDiff,Nat.reduceAdd,Nat.reduceBNe,Nat.reduceDiv,Nat.reduceMod,rowsS,List.map_cons,sd_cons]
    try (with_reducible intro hlen)
    refine fin0 (.inr rfl) rfl rfl rfl ?_
    simp only [shutR,shutD,List.getD_cons_zero,List.getD_cons_succ]
    refine congrArg (fun b => D.v (vB b)) ?_
    rw [decide_eq_true (by omega),decide_eq_true (by simp)]
set_option maxRecDepth 100000
set_option maxHeartbeats 600000
def methodB (l : List UInt8) : Bool := tokenI l && decide (l.length ≤ 20)
def requestB (me ta : List UInt8) (st : Int) (re : List UInt8) (ba : Bool) : Bool := methodB me && targetB ta && (st == 0) && (re == []) && !ba
def answerB (ta : List UInt8) (st : Int) (re : List UInt8) (ba : Bool) (bo : List UInt8) : Bool := (ta == []) && statusB st && reasonB re && !(ba && !(bo == [])) && (ba || !bareB st)
def crlf : List UInt8 := [13,10]
def httpZ : List UInt8 := [32,72,84,84,80,47,49,46,49]
def httpA : List UInt8 := [72,84,84,80,47,49,46,49,32]
def clH : List UInt8 := [67,111,110,116,101,110,116,45,76,101,110,103,116,104,58,32]
def firstT (me ta : List UInt8) (st : Int) (re : List UInt8) : List UInt8 := if me == [] then httpA ++ Lib.itoa st ++ [32] ++ re ++ crlf else me ++ [32] ++ ta ++ httpZ ++ crlf
def fieldsT (l : List Fld) : List UInt8 := l.flatMap fun p => fieldT p ++ crlf
def lastT (me : List UInt8) (ba : Bool) (bo : List UInt8) : List UInt8 := if (!(me == []) && !(bo == [])) || ((me == []) && !ba) then clH ++ Lib.itoa bo.length ++ crlf else []
def headT (me ta : List UInt8) (st : Int) (re : List UInt8) (ba : Bool) (l : List Fld) (bo : List UInt8) : List UInt8 := firstT me ta st re ++ fieldsT l ++ lastT me ba bo ++ crlf
theorem itoa_nat (n : Nat) : Lib.itoa (n : Int) = Lib.decDigits n := by
  unfold Lib.itoa
  rw [if_neg (by omega)]
  rfl
theorem decDigits_small {n : Nat} (h : n < 10) : Lib.decDigits n = [UInt8.ofNat (48 + n)] := by rw [Lib.decDigits,dif_pos h]
theorem decDigits_big {n : Nat} (h : ¬ n < 10) : Lib.decDigits n = Lib.decDigits (n / 10) ++ [UInt8.ofNat (48 + n % 10)] := by rw [Lib.decDigits,dif_neg h]
theorem decDigits_len (n : Nat) : (Lib.decDigits n).length ≤ n + 1 := by
  induction n using Nat.strongRecOn with
  | _ n ih =>
    by_cases h : n < 10
    · rw [decDigits_small h]; simp
    · rw [decDigits_big h,List.length_append]
      have := ih (n / 10) (by omega)
      simp
      omega
theorem rows1' (n : Nat) (h : n < 256) : rowsBytes [[.v (.int .u8 (n : Int))]] = [UInt8.ofNat n] := by
  have : (UInt8.ofNat n).toNat = n := by simp; omega
  have h2 := rows1 (UInt8.ofNat n)
  rw [this] at h2
  exact h2
theorem bytes1' (n : Nat) (h : n < 256) : bytesRows [UInt8.ofNat n] = [[.v (.int .u8 (n : Int))]] := by
  have : (UInt8.ofNat n).toNat = n := by simp; omega
  rw [bytes1,this]
theorem c40 (me ta : List UInt8) (st : Int) (re : List UInt8) (ba : Bool) (l : List Fld) (bo : List UInt8) (h1 : me.length ≤ 9223372036854775807) (h2 : ta.length ≤ 9223372036854775807) (h3 : re.length ≤ 9223372036854775807) (h4 : bo.length ≤ 9223372036854775807) : Sem prog 40 ⟨[.agg [.v (vS me),.v (vS ta),.v (vI st),.v (vS re),.v (vB ba),.imm 45 (rowsF l),.v (vS bo)]],[none]⟩ ⟨[.dead,.v (vB (requestB me ta st re ba))],[none]⟩ := by
  have htk := token_eq me
  refine sem_fin (cfg := cfg 1) (ts := [.tm 2]) tbOk func40 rfl rfl rfl rfl (fun t h => by cases h) ?_
  simp only [go_sem,Nat.reduceLeDiff,Nat.reduceAdd,Nat.reduceSub,f40,cfg, *]
  repeat' ((first | refine ev_call (c89 _ h1) (retW0 rfl rfl rfl rfl) ?_ | refine ev_call (c32 _ h2) (retW0 rfl rfl rfl rfl) ?_ | with_reducible intro _ | split) <;> (try simp only [go_sem,Nat.reduceLeDiff,Nat.reduceAdd,Nat.reduceBNe, *]))
  all_goals
    refine fin0 (.inr rfl) rfl rfl rfl ?_
    simp only [shutR,shutD,List.getD_cons_zero,List.getD_cons_succ]
    refine congrArg (fun b => D.v (vB b)) ?_
    grind [requestB,methodB,targetB,inB]
theorem c41 (me ta : List UInt8) (st : Int) (re : List UInt8) (ba : Bool) (l : List Fld) (bo : List UInt8) (h1 : me.length ≤ 9223372036854775807) (h2 : ta.length ≤ 9223372036854775807) (h3 : re.length ≤ 9223372036854775807) (h4 : bo.length ≤ 9223372036854775807) : Sem prog 41 ⟨[.agg [.v (vS me),.v (vS ta),.v (vI st),.v (vS re),.v (vB ba),.imm 45 (rowsF l),.v (vS bo)]],[none]⟩ ⟨[.dead,.v (vB (answerB ta st re ba bo))],[none]⟩ := by
  refine sem_fin (cfg := cfg 1) (ts := [.tm 2]) tbOk func41 rfl rfl rfl rfl (fun t h => by cases h) ?_
  simp only [go_sem,Nat.reduceLeDiff,Nat.reduceAdd,Nat.reduceSub,f41,cfg, *]
  repeat' ((first | refine ev_call (c90 _ h3) (retW0 rfl rfl rfl rfl) ?_ | refine ev_call (c91 _) (retW0 rfl rfl rfl rfl) ?_ | with_reducible intro _ | split) <;> (try simp only [go_sem,Nat.reduceLeDiff,Nat.reduceAdd,Nat.reduceBNe,reduceCtorEq, *]))
  all_goals
    refine fin0 (.inr rfl) rfl rfl rfl ?_
    simp only [shutR,shutD,List.getD_cons_zero,List.getD_cons_succ]
    refine congrArg (fun b => D.v (vB b)) ?_
    grind [answerB,reasonB,statusB,inB]
theorem c92 (n v : List UInt8) (hn : n.length ≤ 40) (hv : v.length ≤ 190) (h : fieldB (n,v) = true) : Sem prog 92 ⟨[.agg [.v (vS n),.v (vS v)]],[none]⟩ ⟨[.dead,.v (vS (fieldT (n,v)))],[none]⟩ := by
  have hx1 : n.length + 2 ≤ 9223372036854775807 := by omega
  have hx2 : n.length + 2 + v.length ≤ 9223372036854775807 := by omega
  have hx3 : (n ++ [58,32]).length + v.length ≤ 9223372036854775807 := by simp; omega
  refine sem_fin (cfg := cfg 1) (ts := [.tm 2]) tbOk func92 rfl rfl rfl rfl (fun t h => by cases h) ?_
  simp only [go_sem,Nat.reduceLeDiff,Nat.reduceAdd,Nat.reduceSub,f92,cfg, *]
  repeat' ((first | refine ev_call (c43 _ _ (by omega) (by omega)) (retW0 rfl rfl rfl rfl) ?_ | with_reducible intro _ | split) <;> (try simp only [go_sem,Nat.reduceLeDiff,Nat.reduceAdd,Nat.reduceBNe, *]))
  all_goals
    first | exact fin0 (.inr rfl) rfl rfl rfl rfl | trace_state
theorem dec_small (n : Nat) (h : n < 10) : IntKind.u8.wrap (IntKind.i64.wrap (48 + (n : Int))) = ((48 + n : Nat) : Int) := by
  rw [IntKind.wrap_i64,IntKind.wrap_u8]; omega
theorem c85 (n : Nat) (hn : n ≤ 999999999999999) : Sem prog 85 ⟨[.v (vI n)],[none]⟩ ⟨[.dead,.v (vS (Lib.decDigits n))],[none]⟩ := by
  refine sem_fin (cfg := cfg 1) (ts := [.tm 2]) tbOk func85 rfl rfl rfl rfl (fun t h => by cases h) ?_
  simp only [go_sem,Nat.reduceSub,f85,cfg]
  have k1 : ¬ ((n : Int) < 0) := by omega
  have k2 : ¬ ((999999999999999 : Int) < (n : Int)) := by omega
  refine Or.elim (Classical.em (n < 10)) (fun hs => ?_) fun hs => ?_
  · have k3 : ((n : Int) < 10) := by omega
    have k4 := dec_small n hs
    have k5 := rows1' (48 + n) (by omega)
    have k6 := decDigits_small hs
    simp only [go_sem,Nat.reduceLeDiff,Nat.reduceMul,Nat.reduceBNe,Nat.reduceDiv,Nat.reduceMod,k1,k2,k3,k4,k5]
    refine And.intro (bytes1' (48 + n) (by omega)).symm ?_
    refine fin0 (.inr rfl) rfl rfl rfl ?_
    rw [k6]
    first | rfl | trace_state
  · have k3 : ¬ ((n : Int) < 10) := by omega
    have k4 : IntKind.i64.wrap ((n : Int).tdiv 10) = ((n / 10 : Nat) : Int) := by rw [Int.tdiv_eq_ediv_of_nonneg (by omega),IntKind.wrap_i64]; omega
    have k5 : IntKind.u8.wrap (IntKind.i64.wrap (48 + (n : Int).tmod 10)) = ((48 + n % 10 : Nat) : Int) := by rw [Int.tmod_eq_emod_of_nonneg (by omega),IntKind.wrap_i64,IntKind.wrap_u8]; omega
    have k6 := rows1' (48 + n % 10) (by omega)
    have k7 := decDigits_big hs
    have k8 := decDigits_len (n / 10)
    have k9 : (Lib.decDigits (n / 10)).length + 1 ≤ 9223372036854775807 := by omega
    have ih := c85 (n / 10) (by omega)
    simp only [go_sem,k1,k2,k3]
    refine draw_intro 11 [[17,18,19,20,21,22,23,24,25,2],[18,19,20,21,22,23,24,25,2],[16,19,20,21,22,23,24,25,2],[16,17,18,20,21,22,23,24,25,2],[16,17,18,21,22,23,24,25,2],[16,17,18,19,22,23,24,25,2],[16,17,18,19,20,23,24,25,2],[16,17,18,19,20,21,24,25,2],[16,17,18,19,20,21,22,25,2],[16,17,19,20,21,22,23,2],[]] mixedOk rfl ?_
    simp only [go_sem,Nat.reduceLeDiff,Nat.reduceMul,Nat.reduceBEq,k4]
    refine And.intro (by decide) ?_
    refine of_call ih (retW0 rfl rfl rfl rfl) rfl rfl rfl ?_
    simp only [go_sem,Nat.reduceMul,Nat.reduceBEq,Nat.reduceBNe,Nat.reduceDiv,Nat.reduceMod,k5,k6,k9]
    refine And.intro (by decide) ?_
    refine And.intro (bytes1' (48 + n % 10) (by omega)).symm ?_
    refine fin0 (.inr rfl) rfl rfl rfl ?_
    rw [k7]
    first | rfl | trace_state
termination_by n
decreasing_by omega
theorem fieldB_le {p : Fld} (h : fieldB p = true) : p.1.length ≤ 40 ∧ p.2.length ≤ 190 := by
  unfold fieldB at h
  simp only [Bool.and_eq_true,decide_eq_true_eq] at h
  exact ⟨h.1.1.1.2,h.1.1.2⟩
theorem fieldsB_at {l : List Fld} (h : fieldsB l = true) {i : Nat} (hi : i < l.length) : fieldB (l.getD i ([],[])) = true := by
  unfold fieldsB at h
  simp only [Bool.and_eq_true,decide_eq_true_eq,List.all_eq_true] at h
  refine h.2 _ ?_
  rw [List.getD_eq_getElem?_getD,List.getElem?_eq_getElem hi]
  exact List.getElem_mem hi
theorem fieldT_len (p : Fld) : (fieldT p).length = p.1.length + 2 + p.2.length := by unfold fieldT; simp; omega
theorem fieldsT_le : ∀ {l : List Fld},(∀ p,p ∈ l → fieldB p = true) → (fieldsT l).length ≤ 234 * l.length
  | [],_ => by simp [fieldsT]
  | p :: l,h => by
    have h1 := fieldB_le (h p List.mem_cons_self)
    have h2 := fieldsT_le (l := l) (fun q hq => h q (List.mem_cons_of_mem _ hq))
    have h3 : fieldsT (p :: l) = fieldT p ++ crlf ++ fieldsT l := by simp [fieldsT]
    rw [h3]
    simp only [List.length_append,List.length_cons,fieldT_len,crlf,List.length_nil]
    omega
theorem fieldsT_snoc {l : List Fld} {i : Nat} (h : i < l.length) : fieldsT (l.take (i + 1)) = fieldsT (l.take i) ++ (fieldT (l.getD i ([],[])) ++ crlf) := by
  rw [take_at (d := ([],[])) h]
  simp [fieldsT]
theorem fieldsT_take_le {l : List Fld} (h : fieldsB l = true) (i : Nat) : (fieldsT (l.take i)).length ≤ 4680 := by
  have h1 := fields_len h
  have h2 : ∀ p,p ∈ l.take i → fieldB p = true := by
    intro p hp
    unfold fieldsB at h
    simp only [Bool.and_eq_true,decide_eq_true_eq,List.all_eq_true] at h
    exact h.2 p (List.mem_of_mem_take hp)
  have := fieldsT_le h2
  have h3 : (l.take i).length ≤ 20 := by rw [List.length_take]; omega
  omega
theorem first_le {me ta re : List UInt8} {st : Nat} (h1 : me.length ≤ 20) (h2 : ta.length ≤ 200) (h3 : re.length ≤ 40) (h4 : st ≤ 999) : (firstT me ta st re).length ≤ 2000 := by
  unfold firstT
  have := decDigits_len st
  rw [itoa_nat]
  split <;> simp [httpA,httpZ,crlf] <;> omega
theorem c42 (me ta : List UInt8) (st : Nat) (re : List UInt8) (ba : Bool) (l : List Fld) (bo : List UInt8) (hl : Small l) (hf : fieldsB l = true) (h1 : me.length ≤ 20) (h2 : ta.length ≤ 200) (h3 : re.length ≤ 40) (h4 : st ≤ 999) (h5 : bo.length ≤ 600) : Sem prog 42 ⟨[.agg [.v (vS me),.v (vS ta),.v (vI (st : Nat)),.v (vS re),.v (vB ba),.imm 45 (rowsF l),.v (vS bo)]],[none]⟩ ⟨[.dead,.v (vS (headT me ta st re ba l bo))],[none]⟩ := by
  refine sem_fin (cfg := cfg 1) (ts := [.tm 2]) tbOk func42 rfl rfl rfl rfl (fun t h => by cases h) ?_
  simp only [go_sem,Nat.reduceLeDiff,Nat.reduceAdd,Nat.reduceSub,Nat.reduceBNe,f42,cfg]
  have hs : l.length ≤ 9223372036854775807 := hl.1
  have h59 : bo.length ≤ 9223372036854775807 := by omega
  have hn20 := fields_len hf
  have d1 := decDigits_len st
  have d2 := decDigits_len bo.length
  have hfst := first_le h1 h2 h3 h4
  cases hm : me == []
  · have hF : firstT me ta st re = me ++ [32] ++ ta ++ [32,72,84,84,80,47,49,46,49,13,10] := by
      unfold firstT; rw [hm]; simp [httpZ,crlf]
    simp only [go_sem]
    repeat' with_reducible refine And.intro (by (try simp only [List.length_append,List.length_cons,List.length_nil]); omega) ?_
    rw [← hF]
    generalize hG : firstT me ta st re = F at hfst hF
    refine loop_on (fun i : Nat => ⟨[.dead,.cref 1 0,.v (vS []),.v (vS (F ++ fieldsT (l.take i))),.v (vI i),.dead,.dead,.dead,.dead,.dead,.dead,.dead,.dead,.dead,.dead,.dead,.dead,.dead,.dead,.dead,.dead,.dead,.dead,.dead,.dead,.dead,.dead,.dead,.dead,.dead,.dead,.dead,.dead,.dead,.dead,.dead,.dead,.dead,.dead,.dead,.dead,.dead,.dead,.dead,.dead,.dead,.dead,.dead,.dead,.dead,.dead,.dead,.dead,.dead,.dead,.dead,.dead,.dead,.dead,.dead,.dead,.dead,.dead,.dead,.dead,.dead,.dead,.dead],[none,some [.v (vS me),.v (vS ta),.v (vI (st : Nat)),.v (vS re),.v (vB ba),.imm 45 (rowsF l),.v (vS bo)],none,none,none,none,none,none,none,none,none,none,none,none,none,none,none,none,none,none,none,none,none,none,none,none,none,none,none,none,none,none,none,none,none,none,none,none,none,none,none,none,none,none,none,none,none,none,none,none,none,none,none,none,none,none,none,none,none,none,none,none,none,none,none,none,none,none]⟩) [1,2,3,4] (fun i => i ≤ l.length) (fun i => l.length - i) 0 (by rw [show F ++ fieldsT (l.take 0) = F by simp [fieldsT]]; first | rfl | trace_state) (by omega) ?_
    intro i hi
    simp only [go_sem,Nat.reduceLeDiff,Nat.reduceAdd,rowsF_length,hs]
    try (with_reducible intro hlen)
    have hfl := fieldsT_take_le hf i
    by_cases hc : i < l.length
    · have hw := wrapN hc hs
      have g1 := rowsF_getD hc
      have g2 := fieldsB_at hf hc
      have g3 := fieldB_le g2
      have g4 := fieldT_len (l.getD i ([],[]))
      simp only [go_sem,Nat.reduceLeDiff,Nat.reduceAdd,rowsF_length,hc,g1]
      refine ev_call (c92 _ _ g3.1 g3.2 g2) (retW0 rfl rfl rfl rfl) ?_
      simp only [go_sem,Nat.reduceLeDiff,Nat.reduceAdd,Nat.reduceBNe,hw]
      repeat' with_reducible refine And.intro (by (try simp only [List.length_append,g4]); omega) ?_
      refine ⟨i + 1,?_,hc,by omega⟩
      rw [fieldsT_snoc hc]
      simp only [← List.append_assoc]
      first | rfl | trace_state
    · have he : i = l.length := by omega
      subst he
      rw [List.take_of_length_le (Nat.le_refl _)] at hfl ⊢
      simp only [go_sem,Nat.reduceLeDiff,Nat.reduceAdd,hc]
      cases hb : bo == []
      · cases ba
        · simp only [go_sem,Nat.reduceLeDiff,Nat.reduceAdd,reduceCtorEq,hm,hb,h59]
          repeat' with_reducible refine And.intro (by (try simp only [List.length_append]); omega) ?_
          refine ev_call (c85 bo.length (by omega)) (retW0 rfl rfl rfl rfl) ?_
          simp only [go_sem,Nat.reduceLeDiff,Nat.reduceAdd,Nat.reduceBNe]
          repeat' with_reducible refine And.intro (by (try simp only [List.length_append,List.length_cons,List.length_nil]); omega) ?_
          refine fin0 (.inr rfl) rfl rfl rfl ?_
          simp only [shutR,shutD,List.getD_cons_zero,List.getD_cons_succ]
          refine congrArg (fun b => D.v (vS b)) ?_
          simp only [headT,lastT,hG,hm,hb,itoa_nat,clH,crlf,Bool.not_false,Bool.and_true,Bool.or_false,if_true,List.append_assoc,List.nil_append,List.cons_append]
        · simp only [go_sem,Nat.reduceLeDiff,Nat.reduceAdd,reduceCtorEq,hm,hb,h59]
          repeat' with_reducible refine And.intro (by (try simp only [List.length_append]); omega) ?_
          refine ev_call (c85 bo.length (by omega)) (retW0 rfl rfl rfl rfl) ?_
          simp only [go_sem,Nat.reduceLeDiff,Nat.reduceAdd,Nat.reduceBNe]
          repeat' with_reducible refine And.intro (by (try simp only [List.length_append,List.length_cons,List.length_nil]); omega) ?_
          refine fin0 (.inr rfl) rfl rfl rfl ?_
          simp only [shutR,shutD,List.getD_cons_zero,List.getD_cons_succ]
          refine congrArg (fun b => D.v (vS b)) ?_
          simp only [headT,lastT,hG,hm,hb,itoa_nat,clH,crlf,Bool.not_true,Bool.not_false,Bool.and_true,Bool.and_false,Bool.or_false,if_true,List.append_assoc,List.nil_append,List.cons_append]
      · cases ba
        · simp only [go_sem,Nat.reduceLeDiff,Nat.reduceAdd,Nat.reduceBNe,hm,hb]
          repeat' with_reducible refine And.intro (by (try simp only [List.length_append]); omega) ?_
          refine fin0 (.inr rfl) rfl rfl rfl ?_
          simp only [shutR,shutD,List.getD_cons_zero,List.getD_cons_succ]
          refine congrArg (fun b => D.v (vS b)) ?_
          simp only [headT,lastT,hG,hm,hb,crlf,Bool.not_true,Bool.not_false,Bool.and_true,Bool.and_false,Bool.or_false,if_false,List.append_assoc,List.append_nil,Bool.false_eq_true]
        · simp only [go_sem,Nat.reduceLeDiff,Nat.reduceAdd,Nat.reduceBNe,hm,hb]
          repeat' with_reducible refine And.intro (by (try simp only [List.length_append]); omega) ?_
          refine fin0 (.inr rfl) rfl rfl rfl ?_
          simp only [shutR,shutD,List.getD_cons_zero,List.getD_cons_succ]
          refine congrArg (fun b => D.v (vS b)) ?_
          simp only [headT,lastT,hG,hm,hb,crlf,Bool.not_true,Bool.not_false,Bool.and_false,Bool.or_false,if_false,List.append_assoc,List.append_nil,Bool.false_eq_true]
  · have hm1 : me = [] := by simpa using hm
    have hF : firstT me ta st re = 72 :: 84 :: 84 :: 80 :: 47 :: 49 :: 46 :: 49 :: 32 :: (Lib.decDigits st ++ [32] ++ re ++ [13,10]) := by
      unfold firstT; rw [hm,itoa_nat]; simp [httpA,crlf]
    simp only [go_sem]
    repeat' with_reducible refine And.intro (by (try simp only [List.length_append,List.length_cons,List.length_nil]); omega) ?_
    refine draw_intro 10 [[16,17,18,19,20,21,22,23,3],[17,18,19,20,21,22,23,3],[15,18,19,20,21,22,23,3],[15,16,19,20,21,22,23,3],[15,16,17,20,21,22,23,3],[15,16,17,18,19,21,22,23,3],[15,16,17,18,19,22,23,3],[15,16,17,18,20,23,3],[15,16,17,18,19,20,21,3],[]] mixedOk rfl ?_
    simp only [go_sem,Nat.reduceLeDiff,Nat.reduceAdd,Nat.reduceBEq]
    repeat' with_reducible refine And.intro (by (try simp only [List.length_append,List.length_cons,List.length_nil]); omega) ?_
    refine of_call (c85 st (by omega)) (retW0 rfl rfl rfl rfl) rfl rfl rfl ?_
    simp only [go_sem,Nat.reduceLeDiff,Nat.reduceAdd,Nat.reduceBEq,Nat.reduceBNe]
    repeat' with_reducible refine And.intro (by (try simp only [List.length_append,List.length_cons,List.length_nil]); omega) ?_
    rw [← hF]
    generalize hG : firstT me ta st re = F at hfst hF
    refine loop_on (fun i : Nat => ⟨[.dead,.cref 1 0,.v (vS []),.v (vS (F ++ fieldsT (l.take i))),.v (vI i),.dead,.dead,.dead,.dead,.dead,.dead,.dead,.dead,.dead,.dead,.dead,.dead,.dead,.dead,.dead,.dead,.dead,.dead,.dead,.dead,.dead,.dead,.dead,.dead,.dead,.dead,.dead,.dead,.dead,.dead,.dead,.dead,.dead,.dead,.dead,.dead,.dead,.dead,.dead,.dead,.dead,.dead,.dead,.dead,.dead,.dead,.dead,.dead,.dead,.dead,.dead,.dead,.dead,.dead,.dead,.dead,.dead,.dead,.dead,.dead,.dead,.dead,.dead],[none,some [.v (vS me),.v (vS ta),.v (vI (st : Nat)),.v (vS re),.v (vB ba),.imm 45 (rowsF l),.v (vS bo)],none,none,none,none,none,none,none,none,none,none,none,none,none,none,none,none,none,none,none,none,none,none,none,none,none,none,none,none,none,none,none,none,none,none,none,none,none,none,none,none,none,none,none,none,none,none,none,none,none,none,none,none,none,none,none,none,none,none,none,none,none,none,none,none,none,none]⟩) [1,2,3,4] (fun i => i ≤ l.length) (fun i => l.length - i) 0 (by rw [show F ++ fieldsT (l.take 0) = F by simp [fieldsT]]; first | rfl | trace_state) (by omega) ?_
    intro i hi
    simp only [go_sem,Nat.reduceLeDiff,Nat.reduceAdd,rowsF_length,hs]
    try (with_reducible intro hlen)
    have hfl := fieldsT_take_le hf i
    by_cases hc : i < l.length
    · have hw := wrapN hc hs
      have g1 := rowsF_getD hc
      have g2 := fieldsB_at hf hc
      have g3 := fieldB_le g2
      have g4 := fieldT_len (l.getD i ([],[]))
      simp only [go_sem,Nat.reduceLeDiff,Nat.reduceAdd,rowsF_length,hc,g1]
      refine ev_call (c92 _ _ g3.1 g3.2 g2) (retW0 rfl rfl rfl rfl) ?_
      simp only [go_sem,Nat.reduceLeDiff,Nat.reduceAdd,Nat.reduceBNe,hw]
      repeat' with_reducible refine And.intro (by (try simp only [List.length_append,g4]); omega) ?_
      refine ⟨i + 1,?_,hc,by omega⟩
      rw [fieldsT_snoc hc]
      simp only [← List.append_assoc]
      first | rfl | trace_state
    · have he : i = l.length := by omega
      subst he
      rw [List.take_of_length_le (Nat.le_refl _)] at hfl ⊢
      simp only [go_sem,Nat.reduceLeDiff,Nat.reduceAdd,hc]
      cases hb : bo == []
      · cases ba
        · simp only [go_sem,Nat.reduceLeDiff,Nat.reduceAdd,hm,h59]
          repeat' with_reducible refine And.intro (by (try simp only [List.length_append]); omega) ?_
          refine ev_call (c85 bo.length (by omega)) (retW0 rfl rfl rfl rfl) ?_
          simp only [go_sem,Nat.reduceLeDiff,Nat.reduceAdd,Nat.reduceBNe]
          repeat' with_reducible refine And.intro (by (try simp only [List.length_append,List.length_cons,List.length_nil]); omega) ?_
          refine fin0 (.inr rfl) rfl rfl rfl ?_
          simp only [shutR,shutD,List.getD_cons_zero,List.getD_cons_succ]
          refine congrArg (fun b => D.v (vS b)) ?_
          simp only [headT,lastT,hG,hm,hb,itoa_nat,clH,crlf,Bool.not_true,Bool.not_false,Bool.and_true,Bool.or_true,if_true,List.append_assoc,List.nil_append,List.cons_append]
        · simp only [go_sem,Nat.reduceLeDiff,Nat.reduceAdd,Nat.reduceBNe,hm]
          repeat' with_reducible refine And.intro (by (try simp only [List.length_append]); omega) ?_
          refine fin0 (.inr rfl) rfl rfl rfl ?_
          simp only [shutR,shutD,List.getD_cons_zero,List.getD_cons_succ]
          refine congrArg (fun b => D.v (vS b)) ?_
          simp only [headT,lastT,hG,hm,hb,crlf,Bool.not_true,Bool.not_false,Bool.and_true,Bool.and_false,Bool.or_false,if_false,List.append_assoc,List.append_nil,Bool.false_eq_true]
      · cases ba
        · simp only [go_sem,Nat.reduceLeDiff,Nat.reduceAdd,hm,h59]
          repeat' with_reducible refine And.intro (by (try simp only [List.length_append]); omega) ?_
          refine ev_call (c85 bo.length (by omega)) (retW0 rfl rfl rfl rfl) ?_
          simp only [go_sem,Nat.reduceLeDiff,Nat.reduceAdd,Nat.reduceBNe]
          repeat' with_reducible refine And.intro (by (try simp only [List.length_append,List.length_cons,List.length_nil]); omega) ?_
          refine fin0 (.inr rfl) rfl rfl rfl ?_
          simp only [shutR,shutD,List.getD_cons_zero,List.getD_cons_succ]
          refine congrArg (fun b => D.v (vS b)) ?_
          simp only [headT,lastT,hG,hm,hb,itoa_nat,clH,crlf,Bool.not_true,Bool.not_false,Bool.and_true,Bool.and_false,Bool.or_true,if_true,List.append_assoc,List.nil_append,List.cons_append]
        · simp only [go_sem,Nat.reduceLeDiff,Nat.reduceAdd,Nat.reduceBNe,hm]
          repeat' with_reducible refine And.intro (by (try simp only [List.length_append]); omega) ?_
          refine fin0 (.inr rfl) rfl rfl rfl ?_
          simp only [shutR,shutD,List.getD_cons_zero,List.getD_cons_succ]
          refine congrArg (fun b => D.v (vS b)) ?_
          simp only [headT,lastT,hG,hm,hb,crlf,Bool.not_true,Bool.and_false,Bool.or_false,if_false,List.append_assoc,List.append_nil,Bool.false_eq_true]
set_option maxRecDepth 100000
set_option maxHeartbeats 600000
def msgB (me ta : List UInt8) (st : Int) (re : List UInt8) (ba : Bool) (l : List Fld) (bo : List UInt8) : Bool := fieldsB l && !(l.length == 20) && !(l.any frB) && decide (bo.length ≤ 600) && (if me == [] then answerB ta st re ba bo else requestB me ta st re ba) && decide ((headT me ta st re ba l bo).length ≤ 1500)
theorem request_le {me ta re : List UInt8} {st : Int} {ba : Bool} (h : requestB me ta st re ba = true) : me.length ≤ 20 ∧ ta.length ≤ 200 ∧ st = 0 ∧ re = [] := by
  simp only [requestB,methodB,targetB,inB,Bool.and_eq_true,decide_eq_true_eq,beq_iff_eq] at h
  exact ⟨h.1.1.1.1.2,by omega,h.1.1.2,h.1.2⟩
theorem answer_le {ta re bo : List UInt8} {st : Int} {ba : Bool} (h : answerB ta st re ba bo = true) : ta = [] ∧ 200 ≤ st ∧ st ≤ 599 ∧ re.length ≤ 40 := by
  simp only [answerB,reasonB,statusB,inB,Bool.and_eq_true,decide_eq_true_eq,beq_iff_eq] at h
  exact ⟨h.1.1.1.1,h.1.1.1.2.1,h.1.1.1.2.2,h.1.1.2.1⟩
theorem head_le {me ta re bo : List UInt8} {st : Int} {ba : Bool} (h : (if me == [] then answerB ta st re ba bo else requestB me ta st re ba) = true) : me.length ≤ 20 ∧ ta.length ≤ 200 ∧ re.length ≤ 40 ∧ ∃ n : Nat,st = n ∧ n ≤ 999 := by
  split at h
  · rename_i hm
    obtain ⟨h1,h2,h3,h4⟩ := answer_le h
    have hm : me = [] := by simpa using hm
    subst hm; subst h1
    exact ⟨by simp,by simp,h4,st.toNat,by omega,by omega⟩
  · obtain ⟨h1,h2,h3,h4⟩ := request_le h
    subst h3; subst h4
    exact ⟨h1,h2,by simp,0,rfl,by omega⟩
theorem c13a (me ta : List UInt8) (st : Int) (re : List UInt8) (ba : Bool) (l : List Fld) (bo : List UInt8) (h1 : me.length ≤ 9223372036854775807) (h2 : ta.length ≤ 9223372036854775807) (h3 : re.length ≤ 9223372036854775807) (h4 : bo.length ≤ 9223372036854775807) (hl : Small l) (hf : fieldsB l = false) : Sem prog 13 ⟨[.agg [.v (vS me),.v (vS ta),.v (vI st),.v (vS re),.v (vB ba),.imm 45 (rowsF l),.v (vS bo)]],[none]⟩ ⟨[.dead,.v (vB (false))],[none]⟩ := by
  refine sem_fin (cfg := cfg 1) (ts := [.tm 2]) tbOk func13 rfl rfl rfl rfl (fun t h => by cases h) ?_
  have hs : l.length ≤ 9223372036854775807 := hl.1
  simp only [go_sem,Nat.reduceLeDiff,Nat.reduceAdd,Nat.reduceSub,f13,cfg]
  try (with_reducible intro _)
  try simp only [go_sem]
  refine ev_call (c38 l hl) (retW0 rfl rfl rfl rfl) ?_
  simp only [go_sem,Nat.reduceAdd,reduceCtorEq,hf]
  try (with_reducible intro _)
  try simp only [go_sem]
  first | exact fin0 (.inr rfl) rfl rfl rfl rfl | trace_state
theorem c13b (me ta : List UInt8) (st : Int) (re : List UInt8) (ba : Bool) (l : List Fld) (bo : List UInt8) (h1 : me.length ≤ 9223372036854775807) (h2 : ta.length ≤ 9223372036854775807) (h3 : re.length ≤ 9223372036854775807) (h4 : bo.length ≤ 9223372036854775807) (hl : Small l) (hf : fieldsB l = true) (h20 : ((l.length : Int) == 20) = true) : Sem prog 13 ⟨[.agg [.v (vS me),.v (vS ta),.v (vI st),.v (vS re),.v (vB ba),.imm 45 (rowsF l),.v (vS bo)]],[none]⟩ ⟨[.dead,.v (vB (false))],[none]⟩ := by
  refine sem_fin (cfg := cfg 1) (ts := [.tm 2]) tbOk func13 rfl rfl rfl rfl (fun t h => by cases h) ?_
  have hs : l.length ≤ 9223372036854775807 := hl.1
  simp only [go_sem,Nat.reduceLeDiff,Nat.reduceAdd,Nat.reduceSub,f13,cfg]
  try (with_reducible intro _)
  try simp only [go_sem]
  refine ev_call (c38 l hl) (retW0 rfl rfl rfl rfl) ?_
  simp only [go_sem,Nat.reduceLeDiff,Nat.reduceAdd,reduceCtorEq,rowsF_length,hs,hf,h20]
  try (with_reducible intro _)
  try simp only [go_sem]
  first | exact fin0 (.inr rfl) rfl rfl rfl rfl | trace_state
theorem c13c (me ta : List UInt8) (st : Int) (re : List UInt8) (ba : Bool) (l : List Fld) (bo : List UInt8) (h1 : me.length ≤ 9223372036854775807) (h2 : ta.length ≤ 9223372036854775807) (h3 : re.length ≤ 9223372036854775807) (h4 : bo.length ≤ 9223372036854775807) (hl : Small l) (hf : fieldsB l = true) (h20 : ((l.length : Int) == 20) = false) (hfr : l.any frB = true) : Sem prog 13 ⟨[.agg [.v (vS me),.v (vS ta),.v (vI st),.v (vS re),.v (vB ba),.imm 45 (rowsF l),.v (vS bo)]],[none]⟩ ⟨[.dead,.v (vB (false))],[none]⟩ := by
  refine sem_fin (cfg := cfg 1) (ts := [.tm 2]) tbOk func13 rfl rfl rfl rfl (fun t h => by cases h) ?_
  have hs : l.length ≤ 9223372036854775807 := hl.1
  simp only [go_sem,Nat.reduceLeDiff,Nat.reduceAdd,Nat.reduceSub,f13,cfg]
  try (with_reducible intro _)
  try simp only [go_sem]
  refine ev_call (c38 l hl) (retW0 rfl rfl rfl rfl) ?_
  simp only [go_sem,Nat.reduceLeDiff,Nat.reduceAdd,rowsF_length,hs,hf,h20]
  try (with_reducible intro _)
  try simp only [go_sem]
  refine ev_call (c39 l hl) (retW0 rfl rfl rfl rfl) ?_
  simp only [go_sem,Nat.reduceAdd,reduceCtorEq,hfr]
  try (with_reducible intro _)
  try simp only [go_sem]
  first | exact fin0 (.inr rfl) rfl rfl rfl rfl | trace_state
theorem c13d (me ta : List UInt8) (st : Int) (re : List UInt8) (ba : Bool) (l : List Fld) (bo : List UInt8) (h1 : me.length ≤ 9223372036854775807) (h2 : ta.length ≤ 9223372036854775807) (h3 : re.length ≤ 9223372036854775807) (h4 : bo.length ≤ 9223372036854775807) (hl : Small l) (hf : fieldsB l = true) (h20 : ((l.length : Int) == 20) = false) (hfr : l.any frB = false) (hb : (600 : Int) < (bo.length : Int)) : Sem prog 13 ⟨[.agg [.v (vS me),.v (vS ta),.v (vI st),.v (vS re),.v (vB ba),.imm 45 (rowsF l),.v (vS bo)]],[none]⟩ ⟨[.dead,.v (vB (false))],[none]⟩ := by
  refine sem_fin (cfg := cfg 1) (ts := [.tm 2]) tbOk func13 rfl rfl rfl rfl (fun t h => by cases h) ?_
  have hs : l.length ≤ 9223372036854775807 := hl.1
  simp only [go_sem,Nat.reduceLeDiff,Nat.reduceAdd,Nat.reduceSub,f13,cfg]
  try (with_reducible intro _)
  try simp only [go_sem]
  refine ev_call (c38 l hl) (retW0 rfl rfl rfl rfl) ?_
  simp only [go_sem,Nat.reduceLeDiff,Nat.reduceAdd,rowsF_length,hs,hf,h20]
  try (with_reducible intro _)
  try simp only [go_sem]
  refine ev_call (c39 l hl) (retW0 rfl rfl rfl rfl) ?_
  simp only [go_sem,Nat.reduceLeDiff,Nat.reduceAdd,h4,hfr,hb]
  try (with_reducible intro _)
  try simp only [go_sem]
  first | exact fin0 (.inr rfl) rfl rfl rfl rfl | trace_state
theorem c13e (me ta : List UInt8) (st : Int) (re : List UInt8) (ba : Bool) (l : List Fld) (bo : List UInt8) (h1 : me.length ≤ 9223372036854775807) (h2 : ta.length ≤ 9223372036854775807) (h3 : re.length ≤ 9223372036854775807) (h4 : bo.length ≤ 9223372036854775807) (hl : Small l) (hf : fieldsB l = true) (h20 : ((l.length : Int) == 20) = false) (hfr : l.any frB = false) (hb : ¬ (600 : Int) < (bo.length : Int)) (hm : (me == []) = false) (hr : requestB me ta st re ba = false) : Sem prog 13 ⟨[.agg [.v (vS me),.v (vS ta),.v (vI st),.v (vS re),.v (vB ba),.imm 45 (rowsF l),.v (vS bo)]],[none]⟩ ⟨[.dead,.v (vB (false))],[none]⟩ := by
  refine sem_fin (cfg := cfg 1) (ts := [.tm 2]) tbOk func13 rfl rfl rfl rfl (fun t h => by cases h) ?_
  have hs : l.length ≤ 9223372036854775807 := hl.1
  simp only [go_sem,Nat.reduceLeDiff,Nat.reduceAdd,Nat.reduceSub,f13,cfg]
  try (with_reducible intro _)
  try simp only [go_sem]
  refine ev_call (c38 l hl) (retW0 rfl rfl rfl rfl) ?_
  simp only [go_sem,Nat.reduceLeDiff,Nat.reduceAdd,rowsF_length,hs,hf,h20]
  try (with_reducible intro _)
  try simp only [go_sem]
  refine ev_call (c39 l hl) (retW0 rfl rfl rfl rfl) ?_
  simp only [go_sem,Nat.reduceLeDiff,Nat.reduceAdd,h4,hfr,hb,hm]
  try (with_reducible intro _)
  try simp only [go_sem]
  refine ev_call (c40 me ta st re ba l bo h1 h2 h3 h4) (retW0 rfl rfl rfl rfl) ?_
  simp only [go_sem,Nat.reduceAdd,reduceCtorEq,hr]
  try (with_reducible intro _)
  try simp only [go_sem]
  first | exact fin0 (.inr rfl) rfl rfl rfl rfl | trace_state
theorem c13f (me ta : List UInt8) (st : Int) (re : List UInt8) (ba : Bool) (l : List Fld) (bo : List UInt8) (h1 : me.length ≤ 9223372036854775807) (h2 : ta.length ≤ 9223372036854775807) (h3 : re.length ≤ 9223372036854775807) (h4 : bo.length ≤ 9223372036854775807) (hl : Small l) (hf : fieldsB l = true) (h20 : ((l.length : Int) == 20) = false) (hfr : l.any frB = false) (hb : ¬ (600 : Int) < (bo.length : Int)) (hm : (me == []) = true) (hr : answerB ta st re ba bo = false) : Sem prog 13 ⟨[.agg [.v (vS me),.v (vS ta),.v (vI st),.v (vS re),.v (vB ba),.imm 45 (rowsF l),.v (vS bo)]],[none]⟩ ⟨[.dead,.v (vB (false))],[none]⟩ := by
  refine sem_fin (cfg := cfg 1) (ts := [.tm 2]) tbOk func13 rfl rfl rfl rfl (fun t h => by cases h) ?_
  have hs : l.length ≤ 9223372036854775807 := hl.1
  simp only [go_sem,Nat.reduceLeDiff,Nat.reduceAdd,Nat.reduceSub,f13,cfg]
  try (with_reducible intro _)
  try simp only [go_sem]
  refine ev_call (c38 l hl) (retW0 rfl rfl rfl rfl) ?_
  simp only [go_sem,Nat.reduceLeDiff,Nat.reduceAdd,rowsF_length,hs,hf,h20]
  try (with_reducible intro _)
  try simp only [go_sem]
  refine ev_call (c39 l hl) (retW0 rfl rfl rfl rfl) ?_
  simp only [go_sem,Nat.reduceLeDiff,Nat.reduceAdd,h4,hfr,hb,hm]
  try (with_reducible intro _)
  try simp only [go_sem]
  refine ev_call (c41 me ta st re ba l bo h1 h2 h3 h4) (retW0 rfl rfl rfl rfl) ?_
  simp only [go_sem,Nat.reduceAdd,hr]
  try (with_reducible intro _)
  try simp only [go_sem]
  first | exact fin0 (.inr rfl) rfl rfl rfl rfl | trace_state
theorem c13g (me ta : List UInt8) (st : Int) (re : List UInt8) (ba : Bool) (l : List Fld) (bo : List UInt8) (h1 : me.length ≤ 9223372036854775807) (h2 : ta.length ≤ 9223372036854775807) (h3 : re.length ≤ 9223372036854775807) (h4 : bo.length ≤ 9223372036854775807) (hl : Small l) (hf : fieldsB l = true) (h20 : ((l.length : Int) == 20) = false) (hfr : l.any frB = false) (hb : ¬ (600 : Int) < (bo.length : Int)) (hm : (me == []) = false) (hr : requestB me ta st re ba = true) (H : List UInt8) (hH : H.length ≤ 9223372036854775807) (hd : Sem prog 42 ⟨[.agg [.v (vS me),.v (vS ta),.v (vI st),.v (vS re),.v (vB ba),.imm 45 (rowsF l),.v (vS bo)]],[none]⟩ ⟨[.dead,.v (vS H)],[none]⟩) : Sem prog 13 ⟨[.agg [.v (vS me),.v (vS ta),.v (vI st),.v (vS re),.v (vB ba),.imm 45 (rowsF l),.v (vS bo)]],[none]⟩ ⟨[.dead,.v (vB (decide ((H.length : Int) ≤ 1500)))],[none]⟩ := by
  refine sem_fin (cfg := cfg 1) (ts := [.tm 2]) tbOk func13 rfl rfl rfl rfl (fun t h => by cases h) ?_
  have hs : l.length ≤ 9223372036854775807 := hl.1
  simp only [go_sem,Nat.reduceLeDiff,Nat.reduceAdd,Nat.reduceSub,f13,cfg]
  try (with_reducible intro _)
  try simp only [go_sem]
  refine ev_call (c38 l hl) (retW0 rfl rfl rfl rfl) ?_
  simp only [go_sem,Nat.reduceLeDiff,Nat.reduceAdd,rowsF_length,hs,hf,h20]
  try (with_reducible intro _)
  try simp only [go_sem]
  refine ev_call (c39 l hl) (retW0 rfl rfl rfl rfl) ?_
  simp only [go_sem,Nat.reduceLeDiff,Nat.reduceAdd,h4,hfr,hb,hm]
  try (with_reducible intro _)
  try simp only [go_sem]
  refine ev_call (c40 me ta st re ba l bo h1 h2 h3 h4) (retW0 rfl rfl rfl rfl) ?_
  simp only [go_sem,Nat.reduceLeDiff,Nat.reduceAdd,hm,hr]
  try (with_reducible intro _)
  try simp only [go_sem]
  refine ev_call (hd) (retW0 rfl rfl rfl rfl) ?_
  simp only [go_sem,Nat.reduceAdd,Nat.reduceBNe,hH]
  try (with_reducible intro _)
  try simp only [go_sem]
  first | exact fin0 (.inr rfl) rfl rfl rfl rfl | trace_state
theorem c13h (me ta : List UInt8) (st : Int) (re : List UInt8) (ba : Bool) (l : List Fld) (bo : List UInt8) (h1 : me.length ≤ 9223372036854775807) (h2 : ta.length ≤ 9223372036854775807) (h3 : re.length ≤ 9223372036854775807) (h4 : bo.length ≤ 9223372036854775807) (hl : Small l) (hf : fieldsB l = true) (h20 : ((l.length : Int) == 20) = false) (hfr : l.any frB = false) (hb : ¬ (600 : Int) < (bo.length : Int)) (hm : (me == []) = true) (hr : answerB ta st re ba bo = true) (H : List UInt8) (hH : H.length ≤ 9223372036854775807) (hd : Sem prog 42 ⟨[.agg [.v (vS me),.v (vS ta),.v (vI st),.v (vS re),.v (vB ba),.imm 45 (rowsF l),.v (vS bo)]],[none]⟩ ⟨[.dead,.v (vS H)],[none]⟩) : Sem prog 13 ⟨[.agg [.v (vS me),.v (vS ta),.v (vI st),.v (vS re),.v (vB ba),.imm 45 (rowsF l),.v (vS bo)]],[none]⟩ ⟨[.dead,.v (vB (decide ((H.length : Int) ≤ 1500)))],[none]⟩ := by
  refine sem_fin (cfg := cfg 1) (ts := [.tm 2]) tbOk func13 rfl rfl rfl rfl (fun t h => by cases h) ?_
  have hs : l.length ≤ 9223372036854775807 := hl.1
  simp only [go_sem,Nat.reduceLeDiff,Nat.reduceAdd,Nat.reduceSub,f13,cfg]
  try (with_reducible intro _)
  try simp only [go_sem]
  refine ev_call (c38 l hl) (retW0 rfl rfl rfl rfl) ?_
  simp only [go_sem,Nat.reduceLeDiff,Nat.reduceAdd,rowsF_length,hs,hf,h20]
  try (with_reducible intro _)
  try simp only [go_sem]
  refine ev_call (c39 l hl) (retW0 rfl rfl rfl rfl) ?_
  simp only [go_sem,Nat.reduceLeDiff,Nat.reduceAdd,h4,hfr,hb,hm]
  try (with_reducible intro _)
  try simp only [go_sem]
  refine ev_call (c41 me ta st re ba l bo h1 h2 h3 h4) (retW0 rfl rfl rfl rfl) ?_
  simp only [go_sem,Nat.reduceAdd,hr]
  try (with_reducible intro _)
  try simp only [go_sem]
  refine ev_call (hd) (retW0 rfl rfl rfl rfl) ?_
  simp only [go_sem,Nat.reduceAdd,Nat.reduceBNe,hH]
  try (with_reducible intro _)
  try simp only [go_sem]
  first | exact fin0 (.inr rfl) rfl rfl rfl rfl | trace_state
theorem head_len {me ta re bo : List UInt8} {n : Nat} {ba : Bool} {l : List Fld} (hf : fieldsB l = true) (g1 : me.length ≤ 20) (g2 : ta.length ≤ 200) (g3 : re.length ≤ 40) (g5 : n ≤ 999) (hbo : bo.length ≤ 600) : (headT me ta n re ba l bo).length ≤ 9223372036854775807 := by
  have := first_le g1 g2 g3 g5
  have t1 := fieldsT_take_le hf l.length
  rw [List.take_of_length_le (Nat.le_refl _)] at t1
  have t2 := decDigits_len bo.length
  unfold headT lastT
  split <;> simp [itoa_nat,clH,crlf] <;> omega
theorem c13 (me ta : List UInt8) (st : Int) (re : List UInt8) (ba : Bool) (l : List Fld) (bo : List UInt8) (h1 : me.length ≤ 9223372036854775807) (h2 : ta.length ≤ 9223372036854775807) (h3 : re.length ≤ 9223372036854775807) (h4 : bo.length ≤ 9223372036854775807) (hl : Small l) : Sem prog 13 ⟨[.agg [.v (vS me),.v (vS ta),.v (vI st),.v (vS re),.v (vB ba),.imm 45 (rowsF l),.v (vS bo)]],[none]⟩ ⟨[.dead,.v (vB (msgB me ta st re ba l bo))],[none]⟩ := by
  cases hf : fieldsB l
  · have hz : msgB me ta st re ba l bo = false := by simp [msgB,hf]
    rw [hz]; exact c13a me ta st re ba l bo h1 h2 h3 h4 hl hf
  by_cases h20 : l.length = 20
  · have hz : msgB me ta st re ba l bo = false := by simp [msgB,h20]
    rw [hz]; exact c13b me ta st re ba l bo h1 h2 h3 h4 hl hf (by rw [beq_iff_eq]; omega)
  have h20b : ((l.length : Int) == 20) = false := by rw [beq_eq_false_iff_ne]; omega
  have e1 : (l.length == 20) = false := by rw [beq_eq_false_iff_ne]; exact h20
  cases hfr : l.any frB
  · by_cases hb : (600 : Int) < (bo.length : Int)
    · have hz : msgB me ta st re ba l bo = false := by
        have : ¬ bo.length ≤ 600 := by omega
        simp [msgB,this]
      rw [hz]; exact c13d me ta st re ba l bo h1 h2 h3 h4 hl hf h20b hfr hb
    have hbo : bo.length ≤ 600 := by omega
    cases hm : me == []
    · have hz : msgB me ta st re ba l bo = (requestB me ta st re ba && decide ((headT me ta st re ba l bo).length ≤ 1500)) := by simp [msgB,hf,e1,hfr,hbo,hm]
      cases hr : requestB me ta st re ba
      · rw [hz,hr]; exact c13e me ta st re ba l bo h1 h2 h3 h4 hl hf h20b hfr hb hm hr
      · obtain ⟨g1,g2,g3,n,g4,g5⟩ := head_le (ba := ba) (bo := bo) (me := me) (ta := ta) (st := st) (re := re) (by rw [hm]; exact hr)
        subst g4
        have := c13g me ta n re ba l bo h1 h2 h3 h4 hl hf h20b hfr hb hm hr _ (head_len hf g1 g2 g3 g5 hbo) (c42 me ta n re ba l bo hl hf g1 g2 g3 g5 hbo)
        rw [hz,hr,Bool.true_and,show decide ((headT me ta n re ba l bo).length ≤ 1500) = decide (((headT me ta n re ba l bo).length : Int) ≤ 1500) from decide_eq_decide.2 (by omega)]
        exact this
    · have hz : msgB me ta st re ba l bo = (answerB ta st re ba bo && decide ((headT me ta st re ba l bo).length ≤ 1500)) := by simp [msgB,hf,e1,hfr,hbo,hm]
      cases hr : answerB ta st re ba bo
      · rw [hz,hr]; exact c13f me ta st re ba l bo h1 h2 h3 h4 hl hf h20b hfr hb hm hr
      · obtain ⟨g1,g2,g3,n,g4,g5⟩ := head_le (ba := ba) (bo := bo) (me := me) (ta := ta) (st := st) (re := re) (by rw [hm]; exact hr)
        subst g4
        have := c13h me ta n re ba l bo h1 h2 h3 h4 hl hf h20b hfr hb hm hr _ (head_len hf g1 g2 g3 g5 hbo) (c42 me ta n re ba l bo hl hf g1 g2 g3 g5 hbo)
        rw [hz,hr,Bool.true_and,show decide ((headT me ta n re ba l bo).length ≤ 1500) = decide (((headT me ta n re ba l bo).length : Int) ≤ 1500) from decide_eq_decide.2 (by omega)]
        exact this
  · have hz : msgB me ta st re ba l bo = false := by simp [msgB,hfr]
    rw [hz]; exact c13c me ta st re ba l bo h1 h2 h3 h4 hl hf h20b hfr
set_option maxRecDepth 100000
set_option maxHeartbeats 600000
def frN : List (List UInt8) := [clN,teN,trN]
def hasF (name : List UInt8) (l : List Fld) : Bool := decide (0 < (valsB name l).length)
theorem frN_len {i : Nat} (h : i < 3) : (frN.getD i []).length ≤ 9223372036854775807 := by
  have : i = 0 ∨ i = 1 ∨ i = 2 := by omega
  rcases this with rfl | rfl | rfl <;> decide
theorem c63  : Sem prog 63 ⟨[],[]⟩ ⟨[.own 9 (rowsS frN)],[]⟩ := by
  refine sem_fin (cfg := cfg 0) (ts := [.tm 0]) tbOk func63 rfl rfl rfl rfl (fun t h => by cases h) ?_
  simp only [go_sem,Nat.reduceLeDiff,Nat.reduceLT,Nat.reduceAdd,Nat.reduceMul,Nat.reduceBNe,reduceCtorEq,Nat.reduceDiv,Nat.reduceMod,f63,cfg, *]
  repeat' ((first | split) <;> (try simp only [go_sem,Nat.reduceLeDiff,Nat.reduceLT,Nat.reduceAdd,Nat.reduceSub,Nat.reduceMul,Nat.reduceBEq,Nat.reduceBNe,Nat.reduceEqDiff,reduceCtorEq,reduceIte,Int.reduceLT,Int.reduceLE,Int.reduceAdd,Int.reduceSub,Int.reduceNeg,Int.reduceEq,Int.reduceBEq,Int.reduceBNe,Int.reduceToNat,Nat.reduceDiv,Nat.reduceMod,f63,cfg, *]))
  all_goals
    first | exact fin0 (.inr rfl) rfl rfl rfl rfl | trace_state
theorem c21a (me ta : List UInt8) (st : Int) (re : List UInt8) (ba : Bool) (l : List Fld) (bo : List UInt8) (h1 : me.length ≤ 9223372036854775807) (h2 : ta.length ≤ 9223372036854775807) (h3 : re.length ≤ 9223372036854775807) (h4 : bo.length ≤ 9223372036854775807) (hl : Small l) (hf : fieldsB l = false) : Sem prog 21 ⟨[.agg [.v (vS me),.v (vS ta),.v (vI st),.v (vS re),.v (vB ba),.imm 45 (rowsF l),.v (vS bo)]],[none]⟩ ⟨[.dead,.v (vB (false))],[none]⟩ := by
  refine sem_fin (cfg := cfg 1) (ts := [.tm 2]) tbOk func21 rfl rfl rfl rfl (fun t h => by cases h) ?_
  have hs : l.length ≤ 9223372036854775807 := hl.1
  simp only [go_sem,Nat.reduceLeDiff,Nat.reduceAdd,Nat.reduceSub,f21,cfg]
  try (with_reducible intro _)
  try simp only [go_sem]
  refine ev_call (c62 l hl) (retW0 rfl rfl rfl rfl) ?_
  simp only [go_sem,Nat.reduceAdd,reduceCtorEq,hf]
  try (with_reducible intro _)
  try simp only [go_sem]
  first | exact fin0 (.inr rfl) rfl rfl rfl rfl | trace_state
theorem c21b (me ta : List UInt8) (st : Int) (re : List UInt8) (ba : Bool) (l : List Fld) (bo : List UInt8) (h1 : me.length ≤ 9223372036854775807) (h2 : ta.length ≤ 9223372036854775807) (h3 : re.length ≤ 9223372036854775807) (h4 : bo.length ≤ 9223372036854775807) (hl : Small l) (hf : fieldsB l = true) (h20 : (20 : Int) ≤ (l.length : Int)) : Sem prog 21 ⟨[.agg [.v (vS me),.v (vS ta),.v (vI st),.v (vS re),.v (vB ba),.imm 45 (rowsF l),.v (vS bo)]],[none]⟩ ⟨[.dead,.v (vB (false))],[none]⟩ := by
  refine sem_fin (cfg := cfg 1) (ts := [.tm 2]) tbOk func21 rfl rfl rfl rfl (fun t h => by cases h) ?_
  have hs : l.length ≤ 9223372036854775807 := hl.1
  simp only [go_sem,Nat.reduceLeDiff,Nat.reduceAdd,Nat.reduceSub,f21,cfg]
  try (with_reducible intro _)
  try simp only [go_sem]
  refine ev_call (c62 l hl) (retW0 rfl rfl rfl rfl) ?_
  simp only [go_sem,Nat.reduceLeDiff,Nat.reduceAdd,reduceCtorEq,rowsF_length,hs,hf,h20]
  try (with_reducible intro _)
  try simp only [go_sem]
  first | exact fin0 (.inr rfl) rfl rfl rfl rfl | trace_state
theorem c21c (me ta : List UInt8) (st : Int) (re : List UInt8) (ba : Bool) (l : List Fld) (bo : List UInt8) (h1 : me.length ≤ 9223372036854775807) (h2 : ta.length ≤ 9223372036854775807) (h3 : re.length ≤ 9223372036854775807) (h4 : bo.length ≤ 9223372036854775807) (hl : Small l) (hf : fieldsB l = true) (h20 : ¬ (20 : Int) ≤ (l.length : Int)) (hb : (600 : Int) < (bo.length : Int)) : Sem prog 21 ⟨[.agg [.v (vS me),.v (vS ta),.v (vI st),.v (vS re),.v (vB ba),.imm 45 (rowsF l),.v (vS bo)]],[none]⟩ ⟨[.dead,.v (vB (false))],[none]⟩ := by
  refine sem_fin (cfg := cfg 1) (ts := [.tm 2]) tbOk func21 rfl rfl rfl rfl (fun t h => by cases h) ?_
  have hs : l.length ≤ 9223372036854775807 := hl.1
  simp only [go_sem,Nat.reduceLeDiff,Nat.reduceAdd,Nat.reduceSub,f21,cfg]
  try (with_reducible intro _)
  try simp only [go_sem]
  refine ev_call (c62 l hl) (retW0 rfl rfl rfl rfl) ?_
  simp only [go_sem,Nat.reduceLeDiff,Nat.reduceAdd,rowsF_length,hs,h4,hf,h20,hb]
  try (with_reducible intro _)
  try simp only [go_sem]
  first | exact fin0 (.inr rfl) rfl rfl rfl rfl | trace_state
theorem c21d (me ta : List UInt8) (st : Int) (re : List UInt8) (ba : Bool) (l : List Fld) (bo : List UInt8) (h1 : me.length ≤ 9223372036854775807) (h2 : ta.length ≤ 9223372036854775807) (h3 : re.length ≤ 9223372036854775807) (h4 : bo.length ≤ 9223372036854775807) (hl : Small l) (hf : fieldsB l = true) (h20 : ¬ (20 : Int) ≤ (l.length : Int)) (hb : ¬ (600 : Int) < (bo.length : Int)) (k : Nat) (hk : k < 3) (hno : ∀ i,i < k → hasF (frN.getD i []) l = false) (hyes : hasF (frN.getD k []) l = true) : Sem prog 21 ⟨[.agg [.v (vS me),.v (vS ta),.v (vI st),.v (vS re),.v (vB ba),.imm 45 (rowsF l),.v (vS bo)]],[none]⟩ ⟨[.dead,.v (vB (false))],[none]⟩ := by
  refine sem_fin (cfg := cfg 1) (ts := [.tm 2]) tbOk func21 rfl rfl rfl rfl (fun t h => by cases h) ?_
  have hs : l.length ≤ 9223372036854775807 := hl.1
  simp only [go_sem,Nat.reduceLeDiff,Nat.reduceAdd,Nat.reduceSub,f21,cfg]
  try (with_reducible intro _)
  try simp only [go_sem]
  refine ev_call (c62 l hl) (retW0 rfl rfl rfl rfl) ?_
  simp only [go_sem,Nat.reduceLeDiff,Nat.reduceAdd,rowsF_length,hs,h4,hf,h20,hb]
  try (with_reducible intro _)
  try simp only [go_sem]
  refine ev_call (c63) (retW0 rfl rfl rfl rfl) ?_
  simp only [go_sem,Nat.reduceAdd,Nat.reduceDiv,Nat.reduceMod,rowsS_length]
  try (with_reducible intro _)
  try simp only [go_sem]
  refine loop_on (fun i : Nat => ⟨[.dead,.cref 1 0,.v (vB false),.dead,.dead,.dead,.dead,.dead,.dead,.dead,.dead,.dead,.dead,.dead,.dead,.dead,.dead,.dead,.dead,.dead,.dead,.own 9 (rowsS frN),.v (vI 3),.v (vI i),.dead,.dead,.dead,.dead,.dead,.dead,.dead,.dead,.dead,.dead,.dead,.dead,.dead,.dead,.dead,.dead,.dead,.dead,.dead,.dead,.dead,.dead,.dead,.dead,.dead,.dead,.dead,.dead,.dead,.dead,.dead,.dead,.dead,.dead,.dead,.dead,.dead,.dead,.dead,.dead,.dead,.dead,.dead,.dead,.dead,.dead,.dead,.dead,.dead,.dead,.dead,.dead,.dead,.dead,.dead,.dead,.dead,.dead,.dead,.dead,.dead,.dead,.dead,.dead,.dead,.dead,.dead,.dead,.dead,.dead,.dead,.dead,.dead],[none,some [.v (vS me),.v (vS ta),.v (vI st),.v (vS re),.v (vB ba),.imm 45 (rowsF l),.v (vS bo)],none,none,none,none,none,none,none,none,none,none,none,none,none,none,none,none,none,none,none,none,none,none,none,none,none,none,none,none,none,none,none,none,none,none,none,none,none,none,none,none,none,none,none,none,none,none,none,none,none,none,none,none,none,none,none,none,none,none,none,none,none,none,none,none,none,none,none,none,none,none,none,none,none,none,none,none,none,none,none,none,none,none,none,none,none,none,none,none,none,none,none,none,none,none,none]⟩) [1,2,21,22,23] (fun i => i ≤ k) (fun i => k - i) 0 rfl (by omega) ?_
  intro i hi
  simp only [go_sem]
  refine Or.elim (Classical.em (i < k)) (fun hc => ?_) fun hc => ?_
  · have hx := hno i hc
    unfold hasF at hx
    have hw : IntKind.i64.wrap ((i : Int) + 1) = ((i + 1 : Nat) : Int) := by rw [IntKind.wrap_i64]; omega
    have hc1 : (i : Int) < 3 := by omega
    have hc2 : i < frN.length := by show i < 3; omega
    have g1 := rowsS_getD hc2
    simp only [go_sem,Nat.reduceLeDiff,Nat.reduceAdd,Nat.reduceBNe,Nat.reduceDiv,Nat.reduceMod,rowsS_length,hc1,hc2,g1]
    refine ev_call (c64 l hl (frN.getD i []) (frN_len (by omega)) hf) (retW0 rfl rfl rfl rfl) ?_
    simp only [go_sem,Nat.reduceAdd,hx,hw]
    first | exact ⟨i + 1,rfl,hc,by omega⟩ | trace_state
  · have he : i = k := by omega
    subst he
    have hx := hyes
    unfold hasF at hx
    have hw : IntKind.i64.wrap ((i : Int) + 1) = ((i + 1 : Nat) : Int) := by rw [IntKind.wrap_i64]; omega
    have hc1 : (i : Int) < 3 := by omega
    have hc2 : i < frN.length := by show i < 3; omega
    have g1 := rowsS_getD hc2
    simp only [go_sem,Nat.reduceLeDiff,Nat.reduceAdd,Nat.reduceBNe,Nat.reduceDiv,Nat.reduceMod,rowsS_length,hc1,hc2,g1]
    refine ev_call (c64 l hl (frN.getD i []) (frN_len (by omega)) hf) (retW0 rfl rfl rfl rfl) ?_
    simp only [go_sem,Nat.reduceAdd,hx]
    first | exact fin0 (.inr rfl) rfl rfl rfl rfl | trace_state
theorem c21e (me ta : List UInt8) (st : Int) (re : List UInt8) (ba : Bool) (l : List Fld) (bo : List UInt8) (h1 : me.length ≤ 9223372036854775807) (h2 : ta.length ≤ 9223372036854775807) (h3 : re.length ≤ 9223372036854775807) (h4 : bo.length ≤ 9223372036854775807) (hl : Small l) (hf : fieldsB l = true) (h20 : ¬ (20 : Int) ≤ (l.length : Int)) (hb : ¬ (600 : Int) < (bo.length : Int)) (hno : ∀ i,i < 3 → hasF (frN.getD i []) l = false) (hm : (me == []) = false) (hr : (tokenI me && decide (me.length ≤ 20)) = false) : Sem prog 21 ⟨[.agg [.v (vS me),.v (vS ta),.v (vI st),.v (vS re),.v (vB ba),.imm 45 (rowsF l),.v (vS bo)]],[none]⟩ ⟨[.dead,.v (vB (false))],[none]⟩ := by
  refine sem_fin (cfg := cfg 1) (ts := [.tm 2]) tbOk func21 rfl rfl rfl rfl (fun t h => by cases h) ?_
  have hs : l.length ≤ 9223372036854775807 := hl.1
  simp only [go_sem,Nat.reduceLeDiff,Nat.reduceAdd,Nat.reduceSub,f21,cfg]
  try (with_reducible intro _)
  try simp only [go_sem]
  refine ev_call (c62 l hl) (retW0 rfl rfl rfl rfl) ?_
  simp only [go_sem,Nat.reduceLeDiff,Nat.reduceAdd,rowsF_length,hs,h4,hf,h20,hb]
  try (with_reducible intro _)
  try simp only [go_sem]
  refine ev_call (c63) (retW0 rfl rfl rfl rfl) ?_
  simp only [go_sem,Nat.reduceAdd,Nat.reduceDiv,Nat.reduceMod,rowsS_length]
  try (with_reducible intro _)
  try simp only [go_sem]
  refine loop_on (fun i : Nat => ⟨[.dead,.cref 1 0,.v (vB false),.dead,.dead,.dead,.dead,.dead,.dead,.dead,.dead,.dead,.dead,.dead,.dead,.dead,.dead,.dead,.dead,.dead,.dead,.own 9 (rowsS frN),.v (vI 3),.v (vI i),.dead,.dead,.dead,.dead,.dead,.dead,.dead,.dead,.dead,.dead,.dead,.dead,.dead,.dead,.dead,.dead,.dead,.dead,.dead,.dead,.dead,.dead,.dead,.dead,.dead,.dead,.dead,.dead,.dead,.dead,.dead,.dead,.dead,.dead,.dead,.dead,.dead,.dead,.dead,.dead,.dead,.dead,.dead,.dead,.dead,.dead,.dead,.dead,.dead,.dead,.dead,.dead,.dead,.dead,.dead,.dead,.dead,.dead,.dead,.dead,.dead,.dead,.dead,.dead,.dead,.dead,.dead,.dead,.dead,.dead,.dead,.dead,.dead],[none,some [.v (vS me),.v (vS ta),.v (vI st),.v (vS re),.v (vB ba),.imm 45 (rowsF l),.v (vS bo)],none,none,none,none,none,none,none,none,none,none,none,none,none,none,none,none,none,none,none,none,none,none,none,none,none,none,none,none,none,none,none,none,none,none,none,none,none,none,none,none,none,none,none,none,none,none,none,none,none,none,none,none,none,none,none,none,none,none,none,none,none,none,none,none,none,none,none,none,none,none,none,none,none,none,none,none,none,none,none,none,none,none,none,none,none,none,none,none,none,none,none,none,none,none,none]⟩) [1,2,21,22,23] (fun i => i ≤ 3) (fun i => 3 - i) 0 rfl (by omega) ?_
  intro i hi
  simp only [go_sem]
  refine Or.elim (Classical.em (i < 3)) (fun hc => ?_) fun hc => ?_
  · have hx := hno i hc
    unfold hasF at hx
    have hw : IntKind.i64.wrap ((i : Int) + 1) = ((i + 1 : Nat) : Int) := by rw [IntKind.wrap_i64]; omega
    have hc1 : (i : Int) < 3 := by omega
    have hc2 : i < frN.length := by show i < 3; omega
    have g1 := rowsS_getD hc2
    simp only [go_sem,Nat.reduceLeDiff,Nat.reduceAdd,Nat.reduceBNe,Nat.reduceDiv,Nat.reduceMod,rowsS_length,hc1,hc2,g1]
    refine ev_call (c64 l hl (frN.getD i []) (frN_len (by omega)) hf) (retW0 rfl rfl rfl rfl) ?_
    simp only [go_sem,Nat.reduceAdd,hx,hw]
    first | exact ⟨i + 1,rfl,hc,by omega⟩ | trace_state
  · have he : i = 3 := by omega
    subst he
    simp only [go_sem,Nat.reduceLeDiff,Nat.reduceAdd,Int.reduceLT,hm]
    refine ev_call (c65 _ h1) (retW0 rfl rfl rfl rfl) ?_
    simp only [go_sem,Nat.reduceAdd,reduceCtorEq,hr]
    try (with_reducible intro _)
    try simp only [go_sem]
    first | exact fin0 (.inr rfl) rfl rfl rfl rfl | trace_state
theorem c21f (me ta : List UInt8) (st : Int) (re : List UInt8) (ba : Bool) (l : List Fld) (bo : List UInt8) (h1 : me.length ≤ 9223372036854775807) (h2 : ta.length ≤ 9223372036854775807) (h3 : re.length ≤ 9223372036854775807) (h4 : bo.length ≤ 9223372036854775807) (hl : Small l) (hf : fieldsB l = true) (h20 : ¬ (20 : Int) ≤ (l.length : Int)) (hb : ¬ (600 : Int) < (bo.length : Int)) (hno : ∀ i,i < 3 → hasF (frN.getD i []) l = false) (hm : (me == []) = false) (r1 : (tokenI me && decide (me.length ≤ 20)) = true) (r2 : targetB ta = false) : Sem prog 21 ⟨[.agg [.v (vS me),.v (vS ta),.v (vI st),.v (vS re),.v (vB ba),.imm 45 (rowsF l),.v (vS bo)]],[none]⟩ ⟨[.dead,.v (vB (false))],[none]⟩ := by
  refine sem_fin (cfg := cfg 1) (ts := [.tm 2]) tbOk func21 rfl rfl rfl rfl (fun t h => by cases h) ?_
  have hs : l.length ≤ 9223372036854775807 := hl.1
  simp only [go_sem,Nat.reduceLeDiff,Nat.reduceAdd,Nat.reduceSub,f21,cfg]
  try (with_reducible intro _)
  try simp only [go_sem]
  refine ev_call (c62 l hl) (retW0 rfl rfl rfl rfl) ?_
  simp only [go_sem,Nat.reduceLeDiff,Nat.reduceAdd,rowsF_length,hs,h4,hf,h20,hb]
  try (with_reducible intro _)
  try simp only [go_sem]
  refine ev_call (c63) (retW0 rfl rfl rfl rfl) ?_
  simp only [go_sem,Nat.reduceAdd,Nat.reduceDiv,Nat.reduceMod,rowsS_length]
  try (with_reducible intro _)
  try simp only [go_sem]
  refine loop_on (fun i : Nat => ⟨[.dead,.cref 1 0,.v (vB false),.dead,.dead,.dead,.dead,.dead,.dead,.dead,.dead,.dead,.dead,.dead,.dead,.dead,.dead,.dead,.dead,.dead,.dead,.own 9 (rowsS frN),.v (vI 3),.v (vI i),.dead,.dead,.dead,.dead,.dead,.dead,.dead,.dead,.dead,.dead,.dead,.dead,.dead,.dead,.dead,.dead,.dead,.dead,.dead,.dead,.dead,.dead,.dead,.dead,.dead,.dead,.dead,.dead,.dead,.dead,.dead,.dead,.dead,.dead,.dead,.dead,.dead,.dead,.dead,.dead,.dead,.dead,.dead,.dead,.dead,.dead,.dead,.dead,.dead,.dead,.dead,.dead,.dead,.dead,.dead,.dead,.dead,.dead,.dead,.dead,.dead,.dead,.dead,.dead,.dead,.dead,.dead,.dead,.dead,.dead,.dead,.dead,.dead],[none,some [.v (vS me),.v (vS ta),.v (vI st),.v (vS re),.v (vB ba),.imm 45 (rowsF l),.v (vS bo)],none,none,none,none,none,none,none,none,none,none,none,none,none,none,none,none,none,none,none,none,none,none,none,none,none,none,none,none,none,none,none,none,none,none,none,none,none,none,none,none,none,none,none,none,none,none,none,none,none,none,none,none,none,none,none,none,none,none,none,none,none,none,none,none,none,none,none,none,none,none,none,none,none,none,none,none,none,none,none,none,none,none,none,none,none,none,none,none,none,none,none,none,none,none,none]⟩) [1,2,21,22,23] (fun i => i ≤ 3) (fun i => 3 - i) 0 rfl (by omega) ?_
  intro i hi
  simp only [go_sem]
  refine Or.elim (Classical.em (i < 3)) (fun hc => ?_) fun hc => ?_
  · have hx := hno i hc
    unfold hasF at hx
    have hw : IntKind.i64.wrap ((i : Int) + 1) = ((i + 1 : Nat) : Int) := by rw [IntKind.wrap_i64]; omega
    have hc1 : (i : Int) < 3 := by omega
    have hc2 : i < frN.length := by show i < 3; omega
    have g1 := rowsS_getD hc2
    simp only [go_sem,Nat.reduceLeDiff,Nat.reduceAdd,Nat.reduceBNe,Nat.reduceDiv,Nat.reduceMod,rowsS_length,hc1,hc2,g1]
    refine ev_call (c64 l hl (frN.getD i []) (frN_len (by omega)) hf) (retW0 rfl rfl rfl rfl) ?_
    simp only [go_sem,Nat.reduceAdd,hx,hw]
    first | exact ⟨i + 1,rfl,hc,by omega⟩ | trace_state
  · have he : i = 3 := by omega
    subst he
    simp only [go_sem,Nat.reduceLeDiff,Nat.reduceAdd,Int.reduceLT,hm]
    refine ev_call (c65 _ h1) (retW0 rfl rfl rfl rfl) ?_
    simp only [go_sem,Nat.reduceLeDiff,Nat.reduceAdd,r1]
    refine ev_call (c66 _ h2) (retW0 rfl rfl rfl rfl) ?_
    simp only [go_sem,Nat.reduceAdd,reduceCtorEq,r2]
    try (with_reducible intro _)
    try simp only [go_sem]
    first | exact fin0 (.inr rfl) rfl rfl rfl rfl | trace_state
theorem c21g (me ta : List UInt8) (st : Int) (re : List UInt8) (ba : Bool) (l : List Fld) (bo : List UInt8) (h1 : me.length ≤ 9223372036854775807) (h2 : ta.length ≤ 9223372036854775807) (h3 : re.length ≤ 9223372036854775807) (h4 : bo.length ≤ 9223372036854775807) (hl : Small l) (hf : fieldsB l = true) (h20 : ¬ (20 : Int) ≤ (l.length : Int)) (hb : ¬ (600 : Int) < (bo.length : Int)) (hno : ∀ i,i < 3 → hasF (frN.getD i []) l = false) (hm : (me == []) = false) (r1 : (tokenI me && decide (me.length ≤ 20)) = true) (r2 : targetB ta = true) (r3 : (st != 0) = true) : Sem prog 21 ⟨[.agg [.v (vS me),.v (vS ta),.v (vI st),.v (vS re),.v (vB ba),.imm 45 (rowsF l),.v (vS bo)]],[none]⟩ ⟨[.dead,.v (vB (false))],[none]⟩ := by
  refine sem_fin (cfg := cfg 1) (ts := [.tm 2]) tbOk func21 rfl rfl rfl rfl (fun t h => by cases h) ?_
  have hs : l.length ≤ 9223372036854775807 := hl.1
  simp only [go_sem,Nat.reduceLeDiff,Nat.reduceAdd,Nat.reduceSub,f21,cfg]
  try (with_reducible intro _)
  try simp only [go_sem]
  refine ev_call (c62 l hl) (retW0 rfl rfl rfl rfl) ?_
  simp only [go_sem,Nat.reduceLeDiff,Nat.reduceAdd,rowsF_length,hs,h4,hf,h20,hb]
  try (with_reducible intro _)
  try simp only [go_sem]
  refine ev_call (c63) (retW0 rfl rfl rfl rfl) ?_
  simp only [go_sem,Nat.reduceAdd,Nat.reduceDiv,Nat.reduceMod,rowsS_length]
  try (with_reducible intro _)
  try simp only [go_sem]
  refine loop_on (fun i : Nat => ⟨[.dead,.cref 1 0,.v (vB false),.dead,.dead,.dead,.dead,.dead,.dead,.dead,.dead,.dead,.dead,.dead,.dead,.dead,.dead,.dead,.dead,.dead,.dead,.own 9 (rowsS frN),.v (vI 3),.v (vI i),.dead,.dead,.dead,.dead,.dead,.dead,.dead,.dead,.dead,.dead,.dead,.dead,.dead,.dead,.dead,.dead,.dead,.dead,.dead,.dead,.dead,.dead,.dead,.dead,.dead,.dead,.dead,.dead,.dead,.dead,.dead,.dead,.dead,.dead,.dead,.dead,.dead,.dead,.dead,.dead,.dead,.dead,.dead,.dead,.dead,.dead,.dead,.dead,.dead,.dead,.dead,.dead,.dead,.dead,.dead,.dead,.dead,.dead,.dead,.dead,.dead,.dead,.dead,.dead,.dead,.dead,.dead,.dead,.dead,.dead,.dead,.dead,.dead],[none,some [.v (vS me),.v (vS ta),.v (vI st),.v (vS re),.v (vB ba),.imm 45 (rowsF l),.v (vS bo)],none,none,none,none,none,none,none,none,none,none,none,none,none,none,none,none,none,none,none,none,none,none,none,none,none,none,none,none,none,none,none,none,none,none,none,none,none,none,none,none,none,none,none,none,none,none,none,none,none,none,none,none,none,none,none,none,none,none,none,none,none,none,none,none,none,none,none,none,none,none,none,none,none,none,none,none,none,none,none,none,none,none,none,none,none,none,none,none,none,none,none,none,none,none,none]⟩) [1,2,21,22,23] (fun i => i ≤ 3) (fun i => 3 - i) 0 rfl (by omega) ?_
  intro i hi
  simp only [go_sem]
  refine Or.elim (Classical.em (i < 3)) (fun hc => ?_) fun hc => ?_
  · have hx := hno i hc
    unfold hasF at hx
    have hw : IntKind.i64.wrap ((i : Int) + 1) = ((i + 1 : Nat) : Int) := by rw [IntKind.wrap_i64]; omega
    have hc1 : (i : Int) < 3 := by omega
    have hc2 : i < frN.length := by show i < 3; omega
    have g1 := rowsS_getD hc2
    simp only [go_sem,Nat.reduceLeDiff,Nat.reduceAdd,Nat.reduceBNe,Nat.reduceDiv,Nat.reduceMod,rowsS_length,hc1,hc2,g1]
    refine ev_call (c64 l hl (frN.getD i []) (frN_len (by omega)) hf) (retW0 rfl rfl rfl rfl) ?_
    simp only [go_sem,Nat.reduceAdd,hx,hw]
    first | exact ⟨i + 1,rfl,hc,by omega⟩ | trace_state
  · have he : i = 3 := by omega
    subst he
    simp only [go_sem,Nat.reduceLeDiff,Nat.reduceAdd,Int.reduceLT,hm]
    refine ev_call (c65 _ h1) (retW0 rfl rfl rfl rfl) ?_
    simp only [go_sem,Nat.reduceLeDiff,Nat.reduceAdd,r1]
    refine ev_call (c66 _ h2) (retW0 rfl rfl rfl rfl) ?_
    simp only [go_sem,Nat.reduceLeDiff,Nat.reduceAdd,reduceCtorEq,r2,r3]
    try (with_reducible intro _)
    try simp only [go_sem]
    first | exact fin0 (.inr rfl) rfl rfl rfl rfl | trace_state
theorem c21h (me ta : List UInt8) (st : Int) (re : List UInt8) (ba : Bool) (l : List Fld) (bo : List UInt8) (h1 : me.length ≤ 9223372036854775807) (h2 : ta.length ≤ 9223372036854775807) (h3 : re.length ≤ 9223372036854775807) (h4 : bo.length ≤ 9223372036854775807) (hl : Small l) (hf : fieldsB l = true) (h20 : ¬ (20 : Int) ≤ (l.length : Int)) (hb : ¬ (600 : Int) < (bo.length : Int)) (hno : ∀ i,i < 3 → hasF (frN.getD i []) l = false) (hm : (me == []) = false) (r1 : (tokenI me && decide (me.length ≤ 20)) = true) (r2 : targetB ta = true) (r3 : (st != 0) = false) (r4 : (re == []) = false) : Sem prog 21 ⟨[.agg [.v (vS me),.v (vS ta),.v (vI st),.v (vS re),.v (vB ba),.imm 45 (rowsF l),.v (vS bo)]],[none]⟩ ⟨[.dead,.v (vB (false))],[none]⟩ := by
  refine sem_fin (cfg := cfg 1) (ts := [.tm 2]) tbOk func21 rfl rfl rfl rfl (fun t h => by cases h) ?_
  have hs : l.length ≤ 9223372036854775807 := hl.1
  simp only [go_sem,Nat.reduceLeDiff,Nat.reduceAdd,Nat.reduceSub,f21,cfg]
  try (with_reducible intro _)
  try simp only [go_sem]
  refine ev_call (c62 l hl) (retW0 rfl rfl rfl rfl) ?_
  simp only [go_sem,Nat.reduceLeDiff,Nat.reduceAdd,rowsF_length,hs,h4,hf,h20,hb]
  try (with_reducible intro _)
  try simp only [go_sem]
  refine ev_call (c63) (retW0 rfl rfl rfl rfl) ?_
  simp only [go_sem,Nat.reduceAdd,Nat.reduceDiv,Nat.reduceMod,rowsS_length]
  try (with_reducible intro _)
  try simp only [go_sem]
  refine loop_on (fun i : Nat => ⟨[.dead,.cref 1 0,.v (vB false),.dead,.dead,.dead,.dead,.dead,.dead,.dead,.dead,.dead,.dead,.dead,.dead,.dead,.dead,.dead,.dead,.dead,.dead,.own 9 (rowsS frN),.v (vI 3),.v (vI i),.dead,.dead,.dead,.dead,.dead,.dead,.dead,.dead,.dead,.dead,.dead,.dead,.dead,.dead,.dead,.dead,.dead,.dead,.dead,.dead,.dead,.dead,.dead,.dead,.dead,.dead,.dead,.dead,.dead,.dead,.dead,.dead,.dead,.dead,.dead,.dead,.dead,.dead,.dead,.dead,.dead,.dead,.dead,.dead,.dead,.dead,.dead,.dead,.dead,.dead,.dead,.dead,.dead,.dead,.dead,.dead,.dead,.dead,.dead,.dead,.dead,.dead,.dead,.dead,.dead,.dead,.dead,.dead,.dead,.dead,.dead,.dead,.dead],[none,some [.v (vS me),.v (vS ta),.v (vI st),.v (vS re),.v (vB ba),.imm 45 (rowsF l),.v (vS bo)],none,none,none,none,none,none,none,none,none,none,none,none,none,none,none,none,none,none,none,none,none,none,none,none,none,none,none,none,none,none,none,none,none,none,none,none,none,none,none,none,none,none,none,none,none,none,none,none,none,none,none,none,none,none,none,none,none,none,none,none,none,none,none,none,none,none,none,none,none,none,none,none,none,none,none,none,none,none,none,none,none,none,none,none,none,none,none,none,none,none,none,none,none,none,none]⟩) [1,2,21,22,23] (fun i => i ≤ 3) (fun i => 3 - i) 0 rfl (by omega) ?_
  intro i hi
  simp only [go_sem]
  refine Or.elim (Classical.em (i < 3)) (fun hc => ?_) fun hc => ?_
  · have hx := hno i hc
    unfold hasF at hx
    have hw : IntKind.i64.wrap ((i : Int) + 1) = ((i + 1 : Nat) : Int) := by rw [IntKind.wrap_i64]; omega
    have hc1 : (i : Int) < 3 := by omega
    have hc2 : i < frN.length := by show i < 3; omega
    have g1 := rowsS_getD hc2
    simp only [go_sem,Nat.reduceLeDiff,Nat.reduceAdd,Nat.reduceBNe,Nat.reduceDiv,Nat.reduceMod,rowsS_length,hc1,hc2,g1]
    refine ev_call (c64 l hl (frN.getD i []) (frN_len (by omega)) hf) (retW0 rfl rfl rfl rfl) ?_
    simp only [go_sem,Nat.reduceAdd,hx,hw]
    first | exact ⟨i + 1,rfl,hc,by omega⟩ | trace_state
  · have he : i = 3 := by omega
    subst he
    simp only [go_sem,Nat.reduceLeDiff,Nat.reduceAdd,Int.reduceLT,hm]
    refine ev_call (c65 _ h1) (retW0 rfl rfl rfl rfl) ?_
    simp only [go_sem,Nat.reduceLeDiff,Nat.reduceAdd,r1]
    refine ev_call (c66 _ h2) (retW0 rfl rfl rfl rfl) ?_
    simp only [go_sem,Nat.reduceLeDiff,Nat.reduceAdd,reduceCtorEq,r2,r3,r4]
    try (with_reducible intro _)
    try simp only [go_sem]
    first | exact fin0 (.inr rfl) rfl rfl rfl rfl | trace_state
theorem c21i (me ta : List UInt8) (st : Int) (re : List UInt8) (ba : Bool) (l : List Fld) (bo : List UInt8) (h1 : me.length ≤ 9223372036854775807) (h2 : ta.length ≤ 9223372036854775807) (h3 : re.length ≤ 9223372036854775807) (h4 : bo.length ≤ 9223372036854775807) (hl : Small l) (hf : fieldsB l = true) (h20 : ¬ (20 : Int) ≤ (l.length : Int)) (hb : ¬ (600 : Int) < (bo.length : Int)) (hno : ∀ i,i < 3 → hasF (frN.getD i []) l = false) (hm : (me == []) = false) (r1 : (tokenI me && decide (me.length ≤ 20)) = true) (r2 : targetB ta = true) (r3 : (st != 0) = false) (r4 : (re == []) = true) (r5 : ba = true) : Sem prog 21 ⟨[.agg [.v (vS me),.v (vS ta),.v (vI st),.v (vS re),.v (vB ba),.imm 45 (rowsF l),.v (vS bo)]],[none]⟩ ⟨[.dead,.v (vB (false))],[none]⟩ := by
  refine sem_fin (cfg := cfg 1) (ts := [.tm 2]) tbOk func21 rfl rfl rfl rfl (fun t h => by cases h) ?_
  have hs : l.length ≤ 9223372036854775807 := hl.1
  simp only [go_sem,Nat.reduceLeDiff,Nat.reduceAdd,Nat.reduceSub,f21,cfg]
  try (with_reducible intro _)
  try simp only [go_sem]
  refine ev_call (c62 l hl) (retW0 rfl rfl rfl rfl) ?_
  simp only [go_sem,Nat.reduceLeDiff,Nat.reduceAdd,rowsF_length,hs,h4,hf,h20,hb]
  try (with_reducible intro _)
  try simp only [go_sem]
  refine ev_call (c63) (retW0 rfl rfl rfl rfl) ?_
  simp only [go_sem,Nat.reduceAdd,Nat.reduceDiv,Nat.reduceMod,rowsS_length]
  try (with_reducible intro _)
  try simp only [go_sem]
  refine loop_on (fun i : Nat => ⟨[.dead,.cref 1 0,.v (vB false),.dead,.dead,.dead,.dead,.dead,.dead,.dead,.dead,.dead,.dead,.dead,.dead,.dead,.dead,.dead,.dead,.dead,.dead,.own 9 (rowsS frN),.v (vI 3),.v (vI i),.dead,.dead,.dead,.dead,.dead,.dead,.dead,.dead,.dead,.dead,.dead,.dead,.dead,.dead,.dead,.dead,.dead,.dead,.dead,.dead,.dead,.dead,.dead,.dead,.dead,.dead,.dead,.dead,.dead,.dead,.dead,.dead,.dead,.dead,.dead,.dead,.dead,.dead,.dead,.dead,.dead,.dead,.dead,.dead,.dead,.dead,.dead,.dead,.dead,.dead,.dead,.dead,.dead,.dead,.dead,.dead,.dead,.dead,.dead,.dead,.dead,.dead,.dead,.dead,.dead,.dead,.dead,.dead,.dead,.dead,.dead,.dead,.dead],[none,some [.v (vS me),.v (vS ta),.v (vI st),.v (vS re),.v (vB ba),.imm 45 (rowsF l),.v (vS bo)],none,none,none,none,none,none,none,none,none,none,none,none,none,none,none,none,none,none,none,none,none,none,none,none,none,none,none,none,none,none,none,none,none,none,none,none,none,none,none,none,none,none,none,none,none,none,none,none,none,none,none,none,none,none,none,none,none,none,none,none,none,none,none,none,none,none,none,none,none,none,none,none,none,none,none,none,none,none,none,none,none,none,none,none,none,none,none,none,none,none,none,none,none,none,none]⟩) [1,2,21,22,23] (fun i => i ≤ 3) (fun i => 3 - i) 0 rfl (by omega) ?_
  intro i hi
  simp only [go_sem]
  refine Or.elim (Classical.em (i < 3)) (fun hc => ?_) fun hc => ?_
  · have hx := hno i hc
    unfold hasF at hx
    have hw : IntKind.i64.wrap ((i : Int) + 1) = ((i + 1 : Nat) : Int) := by rw [IntKind.wrap_i64]; omega
    have hc1 : (i : Int) < 3 := by omega
    have hc2 : i < frN.length := by show i < 3; omega
    have g1 := rowsS_getD hc2
    simp only [go_sem,Nat.reduceLeDiff,Nat.reduceAdd,Nat.reduceBNe,Nat.reduceDiv,Nat.reduceMod,rowsS_length,hc1,hc2,g1]
    refine ev_call (c64 l hl (frN.getD i []) (frN_len (by omega)) hf) (retW0 rfl rfl rfl rfl) ?_
    simp only [go_sem,Nat.reduceAdd,hx,hw]
    first | exact ⟨i + 1,rfl,hc,by omega⟩ | trace_state
  · have he : i = 3 := by omega
    subst he
    simp only [go_sem,Nat.reduceLeDiff,Nat.reduceAdd,Int.reduceLT,hm,r5]
    refine ev_call (c65 _ h1) (retW0 rfl rfl rfl rfl) ?_
    simp only [go_sem,Nat.reduceLeDiff,Nat.reduceAdd,r1]
    refine ev_call (c66 _ h2) (retW0 rfl rfl rfl rfl) ?_
    simp only [go_sem,Nat.reduceLeDiff,Nat.reduceAdd,r2,r3,r4]
    try (with_reducible intro _)
    try simp only [go_sem]
    first | exact fin0 (.inr rfl) rfl rfl rfl rfl | trace_state
theorem c21j (me ta : List UInt8) (st : Int) (re : List UInt8) (ba : Bool) (l : List Fld) (bo : List UInt8) (h1 : me.length ≤ 9223372036854775807) (h2 : ta.length ≤ 9223372036854775807) (h3 : re.length ≤ 9223372036854775807) (h4 : bo.length ≤ 9223372036854775807) (hl : Small l) (hf : fieldsB l = true) (h20 : ¬ (20 : Int) ≤ (l.length : Int)) (hb : ¬ (600 : Int) < (bo.length : Int)) (hno : ∀ i,i < 3 → hasF (frN.getD i []) l = false) (hm : (me == []) = false) (r1 : (tokenI me && decide (me.length ≤ 20)) = true) (r2 : targetB ta = true) (r3 : (st != 0) = false) (r4 : (re == []) = true) (r5 : ba = false) (H : List UInt8) (hH : H.length ≤ 9223372036854775807) (hd : Sem prog 70 ⟨[.agg [.v (vS me),.v (vS ta),.v (vI st),.v (vS re),.v (vB ba),.imm 45 (rowsF l),.v (vS bo)]],[none]⟩ ⟨[.dead,.v (vS H)],[none,none]⟩) : Sem prog 21 ⟨[.agg [.v (vS me),.v (vS ta),.v (vI st),.v (vS re),.v (vB ba),.imm 45 (rowsF l),.v (vS bo)]],[none]⟩ ⟨[.dead,.v (vB (decide ((H.length : Int) ≤ 1500)))],[none]⟩ := by
  refine sem_fin (cfg := cfg 1) (ts := [.tm 2]) tbOk func21 rfl rfl rfl rfl (fun t h => by cases h) ?_
  have hs : l.length ≤ 9223372036854775807 := hl.1
  simp only [go_sem,Nat.reduceLeDiff,Nat.reduceAdd,Nat.reduceSub,f21,cfg]
  try (with_reducible intro _)
  try simp only [go_sem]
  refine ev_call (c62 l hl) (retW0 rfl rfl rfl rfl) ?_
  simp only [go_sem,Nat.reduceLeDiff,Nat.reduceAdd,rowsF_length,hs,h4,hf,h20,hb]
  try (with_reducible intro _)
  try simp only [go_sem]
  refine ev_call (c63) (retW0 rfl rfl rfl rfl) ?_
  simp only [go_sem,Nat.reduceAdd,Nat.reduceDiv,Nat.reduceMod,rowsS_length]
  try (with_reducible intro _)
  try simp only [go_sem]
  refine loop_on (fun i : Nat => ⟨[.dead,.cref 1 0,.v (vB false),.dead,.dead,.dead,.dead,.dead,.dead,.dead,.dead,.dead,.dead,.dead,.dead,.dead,.dead,.dead,.dead,.dead,.dead,.own 9 (rowsS frN),.v (vI 3),.v (vI i),.dead,.dead,.dead,.dead,.dead,.dead,.dead,.dead,.dead,.dead,.dead,.dead,.dead,.dead,.dead,.dead,.dead,.dead,.dead,.dead,.dead,.dead,.dead,.dead,.dead,.dead,.dead,.dead,.dead,.dead,.dead,.dead,.dead,.dead,.dead,.dead,.dead,.dead,.dead,.dead,.dead,.dead,.dead,.dead,.dead,.dead,.dead,.dead,.dead,.dead,.dead,.dead,.dead,.dead,.dead,.dead,.dead,.dead,.dead,.dead,.dead,.dead,.dead,.dead,.dead,.dead,.dead,.dead,.dead,.dead,.dead,.dead,.dead],[none,some [.v (vS me),.v (vS ta),.v (vI st),.v (vS re),.v (vB ba),.imm 45 (rowsF l),.v (vS bo)],none,none,none,none,none,none,none,none,none,none,none,none,none,none,none,none,none,none,none,none,none,none,none,none,none,none,none,none,none,none,none,none,none,none,none,none,none,none,none,none,none,none,none,none,none,none,none,none,none,none,none,none,none,none,none,none,none,none,none,none,none,none,none,none,none,none,none,none,none,none,none,none,none,none,none,none,none,none,none,none,none,none,none,none,none,none,none,none,none,none,none,none,none,none,none]⟩) [1,2,21,22,23] (fun i => i ≤ 3) (fun i => 3 - i) 0 rfl (by omega) ?_
  intro i hi
  simp only [go_sem]
  refine Or.elim (Classical.em (i < 3)) (fun hc => ?_) fun hc => ?_
  · have hx := hno i hc
    unfold hasF at hx
    have hw : IntKind.i64.wrap ((i : Int) + 1) = ((i + 1 : Nat) : Int) := by rw [IntKind.wrap_i64]; omega
    have hc1 : (i : Int) < 3 := by omega
    have hc2 : i < frN.length := by show i < 3; omega
    have g1 := rowsS_getD hc2
    simp only [go_sem,Nat.reduceLeDiff,Nat.reduceAdd,Nat.reduceBNe,Nat.reduceDiv,Nat.reduceMod,rowsS_length,hc1,hc2,g1]
    refine ev_call (c64 l hl (frN.getD i []) (frN_len (by omega)) hf) (retW0 rfl rfl rfl rfl) ?_
    simp only [go_sem,Nat.reduceAdd,hx,hw]
    first | exact ⟨i + 1,rfl,hc,by omega⟩ | trace_state
  · have he : i = 3 := by omega
    subst he
    simp only [go_sem,Nat.reduceLeDiff,Nat.reduceAdd,Int.reduceLT,hm,r5]
    refine ev_call (c65 _ h1) (retW0 rfl rfl rfl rfl) ?_
    simp only [go_sem,Nat.reduceLeDiff,Nat.reduceAdd,r1]
    refine ev_call (c66 _ h2) (retW0 rfl rfl rfl rfl) ?_
    simp only [go_sem,Nat.reduceLeDiff,Nat.reduceAdd,r2,r3,r4]
    refine ev_call ((by rw [r5] at hd; exact hd : Sem prog 70 ⟨[.agg [.v (vS me),.v (vS ta),.v (vI st),.v (vS re),.v (vB false),.imm 45 (rowsF l),.v (vS bo)]],[none]⟩ ⟨[.dead,.v (vS H)],[none,none]⟩)) (retW0 rfl rfl rfl rfl) ?_
    simp only [go_sem,Nat.reduceAdd,Nat.reduceBNe,hH]
    try (with_reducible intro _)
    try simp only [go_sem]
    first | exact fin0 (.inr rfl) rfl rfl rfl rfl | trace_state
theorem c21k (me ta : List UInt8) (st : Int) (re : List UInt8) (ba : Bool) (l : List Fld) (bo : List UInt8) (h1 : me.length ≤ 9223372036854775807) (h2 : ta.length ≤ 9223372036854775807) (h3 : re.length ≤ 9223372036854775807) (h4 : bo.length ≤ 9223372036854775807) (hl : Small l) (hf : fieldsB l = true) (h20 : ¬ (20 : Int) ≤ (l.length : Int)) (hb : ¬ (600 : Int) < (bo.length : Int)) (hno : ∀ i,i < 3 → hasF (frN.getD i []) l = false) (hm : (me == []) = true) (r1 : (ta == []) = false) : Sem prog 21 ⟨[.agg [.v (vS me),.v (vS ta),.v (vI st),.v (vS re),.v (vB ba),.imm 45 (rowsF l),.v (vS bo)]],[none]⟩ ⟨[.dead,.v (vB (false))],[none]⟩ := by
  refine sem_fin (cfg := cfg 1) (ts := [.tm 2]) tbOk func21 rfl rfl rfl rfl (fun t h => by cases h) ?_
  have hs : l.length ≤ 9223372036854775807 := hl.1
  simp only [go_sem,Nat.reduceLeDiff,Nat.reduceAdd,Nat.reduceSub,f21,cfg]
  try (with_reducible intro _)
  try simp only [go_sem]
  refine ev_call (c62 l hl) (retW0 rfl rfl rfl rfl) ?_
  simp only [go_sem,Nat.reduceLeDiff,Nat.reduceAdd,rowsF_length,hs,h4,hf,h20,hb]
  try (with_reducible intro _)
  try simp only [go_sem]
  refine ev_call (c63) (retW0 rfl rfl rfl rfl) ?_
  simp only [go_sem,Nat.reduceAdd,Nat.reduceDiv,Nat.reduceMod,rowsS_length]
  try (with_reducible intro _)
  try simp only [go_sem]
  refine loop_on (fun i : Nat => ⟨[.dead,.cref 1 0,.v (vB false),.dead,.dead,.dead,.dead,.dead,.dead,.dead,.dead,.dead,.dead,.dead,.dead,.dead,.dead,.dead,.dead,.dead,.dead,.own 9 (rowsS frN),.v (vI 3),.v (vI i),.dead,.dead,.dead,.dead,.dead,.dead,.dead,.dead,.dead,.dead,.dead,.dead,.dead,.dead,.dead,.dead,.dead,.dead,.dead,.dead,.dead,.dead,.dead,.dead,.dead,.dead,.dead,.dead,.dead,.dead,.dead,.dead,.dead,.dead,.dead,.dead,.dead,.dead,.dead,.dead,.dead,.dead,.dead,.dead,.dead,.dead,.dead,.dead,.dead,.dead,.dead,.dead,.dead,.dead,.dead,.dead,.dead,.dead,.dead,.dead,.dead,.dead,.dead,.dead,.dead,.dead,.dead,.dead,.dead,.dead,.dead,.dead,.dead],[none,some [.v (vS me),.v (vS ta),.v (vI st),.v (vS re),.v (vB ba),.imm 45 (rowsF l),.v (vS bo)],none,none,none,none,none,none,none,none,none,none,none,none,none,none,none,none,none,none,none,none,none,none,none,none,none,none,none,none,none,none,none,none,none,none,none,none,none,none,none,none,none,none,none,none,none,none,none,none,none,none,none,none,none,none,none,none,none,none,none,none,none,none,none,none,none,none,none,none,none,none,none,none,none,none,none,none,none,none,none,none,none,none,none,none,none,none,none,none,none,none,none,none,none,none,none]⟩) [1,2,21,22,23] (fun i => i ≤ 3) (fun i => 3 - i) 0 rfl (by omega) ?_
  intro i hi
  simp only [go_sem]
  refine Or.elim (Classical.em (i < 3)) (fun hc => ?_) fun hc => ?_
  · have hx := hno i hc
    unfold hasF at hx
    have hw : IntKind.i64.wrap ((i : Int) + 1) = ((i + 1 : Nat) : Int) := by rw [IntKind.wrap_i64]; omega
    have hc1 : (i : Int) < 3 := by omega
    have hc2 : i < frN.length := by show i < 3; omega
    have g1 := rowsS_getD hc2
    simp only [go_sem,Nat.reduceLeDiff,Nat.reduceAdd,Nat.reduceBNe,Nat.reduceDiv,Nat.reduceMod,rowsS_length,hc1,hc2,g1]
    refine ev_call (c64 l hl (frN.getD i []) (frN_len (by omega)) hf) (retW0 rfl rfl rfl rfl) ?_
    simp only [go_sem,Nat.reduceAdd,hx,hw]
    first | exact ⟨i + 1,rfl,hc,by omega⟩ | trace_state
  · have he : i = 3 := by omega
    subst he
    simp only [go_sem,Nat.reduceLeDiff,Nat.reduceAdd,reduceCtorEq,Int.reduceLT,hm,r1]
    try (with_reducible intro _)
    try simp only [go_sem]
    first | exact fin0 (.inr rfl) rfl rfl rfl rfl | trace_state
theorem c21l (me ta : List UInt8) (st : Int) (re : List UInt8) (ba : Bool) (l : List Fld) (bo : List UInt8) (h1 : me.length ≤ 9223372036854775807) (h2 : ta.length ≤ 9223372036854775807) (h3 : re.length ≤ 9223372036854775807) (h4 : bo.length ≤ 9223372036854775807) (hl : Small l) (hf : fieldsB l = true) (h20 : ¬ (20 : Int) ≤ (l.length : Int)) (hb : ¬ (600 : Int) < (bo.length : Int)) (hno : ∀ i,i < 3 → hasF (frN.getD i []) l = false) (hm : (me == []) = true) (r1 : (ta == []) = true) (r2 : statusB st = false) : Sem prog 21 ⟨[.agg [.v (vS me),.v (vS ta),.v (vI st),.v (vS re),.v (vB ba),.imm 45 (rowsF l),.v (vS bo)]],[none]⟩ ⟨[.dead,.v (vB (false))],[none]⟩ := by
  refine sem_fin (cfg := cfg 1) (ts := [.tm 2]) tbOk func21 rfl rfl rfl rfl (fun t h => by cases h) ?_
  have hs : l.length ≤ 9223372036854775807 := hl.1
  simp only [go_sem,Nat.reduceLeDiff,Nat.reduceAdd,Nat.reduceSub,f21,cfg]
  try (with_reducible intro _)
  try simp only [go_sem]
  refine ev_call (c62 l hl) (retW0 rfl rfl rfl rfl) ?_
  simp only [go_sem,Nat.reduceLeDiff,Nat.reduceAdd,rowsF_length,hs,h4,hf,h20,hb]
  try (with_reducible intro _)
  try simp only [go_sem]
  refine ev_call (c63) (retW0 rfl rfl rfl rfl) ?_
  simp only [go_sem,Nat.reduceAdd,Nat.reduceDiv,Nat.reduceMod,rowsS_length]
  try (with_reducible intro _)
  try simp only [go_sem]
  refine loop_on (fun i : Nat => ⟨[.dead,.cref 1 0,.v (vB false),.dead,.dead,.dead,.dead,.dead,.dead,.dead,.dead,.dead,.dead,.dead,.dead,.dead,.dead,.dead,.dead,.dead,.dead,.own 9 (rowsS frN),.v (vI 3),.v (vI i),.dead,.dead,.dead,.dead,.dead,.dead,.dead,.dead,.dead,.dead,.dead,.dead,.dead,.dead,.dead,.dead,.dead,.dead,.dead,.dead,.dead,.dead,.dead,.dead,.dead,.dead,.dead,.dead,.dead,.dead,.dead,.dead,.dead,.dead,.dead,.dead,.dead,.dead,.dead,.dead,.dead,.dead,.dead,.dead,.dead,.dead,.dead,.dead,.dead,.dead,.dead,.dead,.dead,.dead,.dead,.dead,.dead,.dead,.dead,.dead,.dead,.dead,.dead,.dead,.dead,.dead,.dead,.dead,.dead,.dead,.dead,.dead,.dead],[none,some [.v (vS me),.v (vS ta),.v (vI st),.v (vS re),.v (vB ba),.imm 45 (rowsF l),.v (vS bo)],none,none,none,none,none,none,none,none,none,none,none,none,none,none,none,none,none,none,none,none,none,none,none,none,none,none,none,none,none,none,none,none,none,none,none,none,none,none,none,none,none,none,none,none,none,none,none,none,none,none,none,none,none,none,none,none,none,none,none,none,none,none,none,none,none,none,none,none,none,none,none,none,none,none,none,none,none,none,none,none,none,none,none,none,none,none,none,none,none,none,none,none,none,none,none]⟩) [1,2,21,22,23] (fun i => i ≤ 3) (fun i => 3 - i) 0 rfl (by omega) ?_
  intro i hi
  simp only [go_sem]
  refine Or.elim (Classical.em (i < 3)) (fun hc => ?_) fun hc => ?_
  · have hx := hno i hc
    unfold hasF at hx
    have hw : IntKind.i64.wrap ((i : Int) + 1) = ((i + 1 : Nat) : Int) := by rw [IntKind.wrap_i64]; omega
    have hc1 : (i : Int) < 3 := by omega
    have hc2 : i < frN.length := by show i < 3; omega
    have g1 := rowsS_getD hc2
    simp only [go_sem,Nat.reduceLeDiff,Nat.reduceAdd,Nat.reduceBNe,Nat.reduceDiv,Nat.reduceMod,rowsS_length,hc1,hc2,g1]
    refine ev_call (c64 l hl (frN.getD i []) (frN_len (by omega)) hf) (retW0 rfl rfl rfl rfl) ?_
    simp only [go_sem,Nat.reduceAdd,hx,hw]
    first | exact ⟨i + 1,rfl,hc,by omega⟩ | trace_state
  · have he : i = 3 := by omega
    subst he
    simp only [go_sem,Nat.reduceLeDiff,Nat.reduceAdd,Int.reduceLT,hm,r1]
    refine ev_call (c67 _) (retW0 rfl rfl rfl rfl) ?_
    simp only [go_sem,Nat.reduceAdd,reduceCtorEq,r2]
    try (with_reducible intro _)
    try simp only [go_sem]
    first | exact fin0 (.inr rfl) rfl rfl rfl rfl | trace_state
theorem c21m (me ta : List UInt8) (st : Int) (re : List UInt8) (ba : Bool) (l : List Fld) (bo : List UInt8) (h1 : me.length ≤ 9223372036854775807) (h2 : ta.length ≤ 9223372036854775807) (h3 : re.length ≤ 9223372036854775807) (h4 : bo.length ≤ 9223372036854775807) (hl : Small l) (hf : fieldsB l = true) (h20 : ¬ (20 : Int) ≤ (l.length : Int)) (hb : ¬ (600 : Int) < (bo.length : Int)) (hno : ∀ i,i < 3 → hasF (frN.getD i []) l = false) (hm : (me == []) = true) (r1 : (ta == []) = true) (r2 : statusB st = true) (r3 : reasonB re = false) : Sem prog 21 ⟨[.agg [.v (vS me),.v (vS ta),.v (vI st),.v (vS re),.v (vB ba),.imm 45 (rowsF l),.v (vS bo)]],[none]⟩ ⟨[.dead,.v (vB (false))],[none]⟩ := by
  refine sem_fin (cfg := cfg 1) (ts := [.tm 2]) tbOk func21 rfl rfl rfl rfl (fun t h => by cases h) ?_
  have hs : l.length ≤ 9223372036854775807 := hl.1
  simp only [go_sem,Nat.reduceLeDiff,Nat.reduceAdd,Nat.reduceSub,f21,cfg]
  try (with_reducible intro _)
  try simp only [go_sem]
  refine ev_call (c62 l hl) (retW0 rfl rfl rfl rfl) ?_
  simp only [go_sem,Nat.reduceLeDiff,Nat.reduceAdd,rowsF_length,hs,h4,hf,h20,hb]
  try (with_reducible intro _)
  try simp only [go_sem]
  refine ev_call (c63) (retW0 rfl rfl rfl rfl) ?_
  simp only [go_sem,Nat.reduceAdd,Nat.reduceDiv,Nat.reduceMod,rowsS_length]
  try (with_reducible intro _)
  try simp only [go_sem]
  refine loop_on (fun i : Nat => ⟨[.dead,.cref 1 0,.v (vB false),.dead,.dead,.dead,.dead,.dead,.dead,.dead,.dead,.dead,.dead,.dead,.dead,.dead,.dead,.dead,.dead,.dead,.dead,.own 9 (rowsS frN),.v (vI 3),.v (vI i),.dead,.dead,.dead,.dead,.dead,.dead,.dead,.dead,.dead,.dead,.dead,.dead,.dead,.dead,.dead,.dead,.dead,.dead,.dead,.dead,.dead,.dead,.dead,.dead,.dead,.dead,.dead,.dead,.dead,.dead,.dead,.dead,.dead,.dead,.dead,.dead,.dead,.dead,.dead,.dead,.dead,.dead,.dead,.dead,.dead,.dead,.dead,.dead,.dead,.dead,.dead,.dead,.dead,.dead,.dead,.dead,.dead,.dead,.dead,.dead,.dead,.dead,.dead,.dead,.dead,.dead,.dead,.dead,.dead,.dead,.dead,.dead,.dead],[none,some [.v (vS me),.v (vS ta),.v (vI st),.v (vS re),.v (vB ba),.imm 45 (rowsF l),.v (vS bo)],none,none,none,none,none,none,none,none,none,none,none,none,none,none,none,none,none,none,none,none,none,none,none,none,none,none,none,none,none,none,none,none,none,none,none,none,none,none,none,none,none,none,none,none,none,none,none,none,none,none,none,none,none,none,none,none,none,none,none,none,none,none,none,none,none,none,none,none,none,none,none,none,none,none,none,none,none,none,none,none,none,none,none,none,none,none,none,none,none,none,none,none,none,none,none]⟩) [1,2,21,22,23] (fun i => i ≤ 3) (fun i => 3 - i) 0 rfl (by omega) ?_
  intro i hi
  simp only [go_sem]
  refine Or.elim (Classical.em (i < 3)) (fun hc => ?_) fun hc => ?_
  · have hx := hno i hc
    unfold hasF at hx
    have hw : IntKind.i64.wrap ((i : Int) + 1) = ((i + 1 : Nat) : Int) := by rw [IntKind.wrap_i64]; omega
    have hc1 : (i : Int) < 3 := by omega
    have hc2 : i < frN.length := by show i < 3; omega
    have g1 := rowsS_getD hc2
    simp only [go_sem,Nat.reduceLeDiff,Nat.reduceAdd,Nat.reduceBNe,Nat.reduceDiv,Nat.reduceMod,rowsS_length,hc1,hc2,g1]
    refine ev_call (c64 l hl (frN.getD i []) (frN_len (by omega)) hf) (retW0 rfl rfl rfl rfl) ?_
    simp only [go_sem,Nat.reduceAdd,hx,hw]
    first | exact ⟨i + 1,rfl,hc,by omega⟩ | trace_state
  · have he : i = 3 := by omega
    subst he
    simp only [go_sem,Nat.reduceLeDiff,Nat.reduceAdd,Int.reduceLT,hm,r1]
    refine ev_call (c67 _) (retW0 rfl rfl rfl rfl) ?_
    simp only [go_sem,Nat.reduceLeDiff,Nat.reduceAdd,r2]
    refine ev_call (c68 _ h3) (retW0 rfl rfl rfl rfl) ?_
    simp only [go_sem,Nat.reduceAdd,reduceCtorEq,r3]
    try (with_reducible intro _)
    try simp only [go_sem]
    first | exact fin0 (.inr rfl) rfl rfl rfl rfl | trace_state
theorem c21n (me ta : List UInt8) (st : Int) (re : List UInt8) (ba : Bool) (l : List Fld) (bo : List UInt8) (h1 : me.length ≤ 9223372036854775807) (h2 : ta.length ≤ 9223372036854775807) (h3 : re.length ≤ 9223372036854775807) (h4 : bo.length ≤ 9223372036854775807) (hl : Small l) (hf : fieldsB l = true) (h20 : ¬ (20 : Int) ≤ (l.length : Int)) (hb : ¬ (600 : Int) < (bo.length : Int)) (hno : ∀ i,i < 3 → hasF (frN.getD i []) l = false) (hm : (me == []) = true) (r1 : (ta == []) = true) (r2 : statusB st = true) (r3 : reasonB re = true) (r4 : ba = true) (r5 : (bo == []) = false) : Sem prog 21 ⟨[.agg [.v (vS me),.v (vS ta),.v (vI st),.v (vS re),.v (vB ba),.imm 45 (rowsF l),.v (vS bo)]],[none]⟩ ⟨[.dead,.v (vB (false))],[none]⟩ := by
  refine sem_fin (cfg := cfg 1) (ts := [.tm 2]) tbOk func21 rfl rfl rfl rfl (fun t h => by cases h) ?_
  have hs : l.length ≤ 9223372036854775807 := hl.1
  simp only [go_sem,Nat.reduceLeDiff,Nat.reduceAdd,Nat.reduceSub,f21,cfg]
  try (with_reducible intro _)
  try simp only [go_sem]
  refine ev_call (c62 l hl) (retW0 rfl rfl rfl rfl) ?_
  simp only [go_sem,Nat.reduceLeDiff,Nat.reduceAdd,rowsF_length,hs,h4,hf,h20,hb]
  try (with_reducible intro _)
  try simp only [go_sem]
  refine ev_call (c63) (retW0 rfl rfl rfl rfl) ?_
  simp only [go_sem,Nat.reduceAdd,Nat.reduceDiv,Nat.reduceMod,rowsS_length]
  try (with_reducible intro _)
  try simp only [go_sem]
  refine loop_on (fun i : Nat => ⟨[.dead,.cref 1 0,.v (vB false),.dead,.dead,.dead,.dead,.dead,.dead,.dead,.dead,.dead,.dead,.dead,.dead,.dead,.dead,.dead,.dead,.dead,.dead,.own 9 (rowsS frN),.v (vI 3),.v (vI i),.dead,.dead,.dead,.dead,.dead,.dead,.dead,.dead,.dead,.dead,.dead,.dead,.dead,.dead,.dead,.dead,.dead,.dead,.dead,.dead,.dead,.dead,.dead,.dead,.dead,.dead,.dead,.dead,.dead,.dead,.dead,.dead,.dead,.dead,.dead,.dead,.dead,.dead,.dead,.dead,.dead,.dead,.dead,.dead,.dead,.dead,.dead,.dead,.dead,.dead,.dead,.dead,.dead,.dead,.dead,.dead,.dead,.dead,.dead,.dead,.dead,.dead,.dead,.dead,.dead,.dead,.dead,.dead,.dead,.dead,.dead,.dead,.dead],[none,some [.v (vS me),.v (vS ta),.v (vI st),.v (vS re),.v (vB ba),.imm 45 (rowsF l),.v (vS bo)],none,none,none,none,none,none,none,none,none,none,none,none,none,none,none,none,none,none,none,none,none,none,none,none,none,none,none,none,none,none,none,none,none,none,none,none,none,none,none,none,none,none,none,none,none,none,none,none,none,none,none,none,none,none,none,none,none,none,none,none,none,none,none,none,none,none,none,none,none,none,none,none,none,none,none,none,none,none,none,none,none,none,none,none,none,none,none,none,none,none,none,none,none,none,none]⟩) [1,2,21,22,23] (fun i => i ≤ 3) (fun i => 3 - i) 0 rfl (by omega) ?_
  intro i hi
  simp only [go_sem]
  refine Or.elim (Classical.em (i < 3)) (fun hc => ?_) fun hc => ?_
  · have hx := hno i hc
    unfold hasF at hx
    have hw : IntKind.i64.wrap ((i : Int) + 1) = ((i + 1 : Nat) : Int) := by rw [IntKind.wrap_i64]; omega
    have hc1 : (i : Int) < 3 := by omega
    have hc2 : i < frN.length := by show i < 3; omega
    have g1 := rowsS_getD hc2
    simp only [go_sem,Nat.reduceLeDiff,Nat.reduceAdd,Nat.reduceBNe,Nat.reduceDiv,Nat.reduceMod,rowsS_length,hc1,hc2,g1]
    refine ev_call (c64 l hl (frN.getD i []) (frN_len (by omega)) hf) (retW0 rfl rfl rfl rfl) ?_
    simp only [go_sem,Nat.reduceAdd,hx,hw]
    first | exact ⟨i + 1,rfl,hc,by omega⟩ | trace_state
  · have he : i = 3 := by omega
    subst he
    simp only [go_sem,Nat.reduceLeDiff,Nat.reduceAdd,Int.reduceLT,hm,r1,r4]
    refine ev_call (c67 _) (retW0 rfl rfl rfl rfl) ?_
    simp only [go_sem,Nat.reduceLeDiff,Nat.reduceAdd,r2]
    refine ev_call (c68 _ h3) (retW0 rfl rfl rfl rfl) ?_
    simp only [go_sem,Nat.reduceLeDiff,Nat.reduceAdd,reduceCtorEq,r3,r5]
    try (with_reducible intro _)
    try simp only [go_sem]
    first | exact fin0 (.inr rfl) rfl rfl rfl rfl | trace_state
theorem c21o (me ta : List UInt8) (st : Int) (re : List UInt8) (ba : Bool) (l : List Fld) (bo : List UInt8) (h1 : me.length ≤ 9223372036854775807) (h2 : ta.length ≤ 9223372036854775807) (h3 : re.length ≤ 9223372036854775807) (h4 : bo.length ≤ 9223372036854775807) (hl : Small l) (hf : fieldsB l = true) (h20 : ¬ (20 : Int) ≤ (l.length : Int)) (hb : ¬ (600 : Int) < (bo.length : Int)) (hno : ∀ i,i < 3 → hasF (frN.getD i []) l = false) (hm : (me == []) = true) (r1 : (ta == []) = true) (r2 : statusB st = true) (r3 : reasonB re = true) (r4 : ba = true) (r5 : (bo == []) = true) (r6 : bareB st = true) (H : List UInt8) (hH : H.length ≤ 9223372036854775807) (hd : Sem prog 70 ⟨[.agg [.v (vS me),.v (vS ta),.v (vI st),.v (vS re),.v (vB ba),.imm 45 (rowsF l),.v (vS bo)]],[none]⟩ ⟨[.dead,.v (vS H)],[none,none]⟩) : Sem prog 21 ⟨[.agg [.v (vS me),.v (vS ta),.v (vI st),.v (vS re),.v (vB ba),.imm 45 (rowsF l),.v (vS bo)]],[none]⟩ ⟨[.dead,.v (vB (decide ((H.length : Int) ≤ 1500)))],[none]⟩ := by
  refine sem_fin (cfg := cfg 1) (ts := [.tm 2]) tbOk func21 rfl rfl rfl rfl (fun t h => by cases h) ?_
  have hs : l.length ≤ 9223372036854775807 := hl.1
  simp only [go_sem,Nat.reduceLeDiff,Nat.reduceAdd,Nat.reduceSub,f21,cfg]
  try (with_reducible intro _)
  try simp only [go_sem]
  refine ev_call (c62 l hl) (retW0 rfl rfl rfl rfl) ?_
  simp only [go_sem,Nat.reduceLeDiff,Nat.reduceAdd,rowsF_length,hs,h4,hf,h20,hb]
  try (with_reducible intro _)
  try simp only [go_sem]
  refine ev_call (c63) (retW0 rfl rfl rfl rfl) ?_
  simp only [go_sem,Nat.reduceAdd,Nat.reduceDiv,Nat.reduceMod,rowsS_length]
  try (with_reducible intro _)
  try simp only [go_sem]
  refine loop_on (fun i : Nat => ⟨[.dead,.cref 1 0,.v (vB false),.dead,.dead,.dead,.dead,.dead,.dead,.dead,.dead,.dead,.dead,.dead,.dead,.dead,.dead,.dead,.dead,.dead,.dead,.own 9 (rowsS frN),.v (vI 3),.v (vI i),.dead,.dead,.dead,.dead,.dead,.dead,.dead,.dead,.dead,.dead,.dead,.dead,.dead,.dead,.dead,.dead,.dead,.dead,.dead,.dead,.dead,.dead,.dead,.dead,.dead,.dead,.dead,.dead,.dead,.dead,.dead,.dead,.dead,.dead,.dead,.dead,.dead,.dead,.dead,.dead,.dead,.dead,.dead,.dead,.dead,.dead,.dead,.dead,.dead,.dead,.dead,.dead,.dead,.dead,.dead,.dead,.dead,.dead,.dead,.dead,.dead,.dead,.dead,.dead,.dead,.dead,.dead,.dead,.dead,.dead,.dead,.dead,.dead],[none,some [.v (vS me),.v (vS ta),.v (vI st),.v (vS re),.v (vB ba),.imm 45 (rowsF l),.v (vS bo)],none,none,none,none,none,none,none,none,none,none,none,none,none,none,none,none,none,none,none,none,none,none,none,none,none,none,none,none,none,none,none,none,none,none,none,none,none,none,none,none,none,none,none,none,none,none,none,none,none,none,none,none,none,none,none,none,none,none,none,none,none,none,none,none,none,none,none,none,none,none,none,none,none,none,none,none,none,none,none,none,none,none,none,none,none,none,none,none,none,none,none,none,none,none,none]⟩) [1,2,21,22,23] (fun i => i ≤ 3) (fun i => 3 - i) 0 rfl (by omega) ?_
  intro i hi
  simp only [go_sem]
  refine Or.elim (Classical.em (i < 3)) (fun hc => ?_) fun hc => ?_
  · have hx := hno i hc
    unfold hasF at hx
    have hw : IntKind.i64.wrap ((i : Int) + 1) = ((i + 1 : Nat) : Int) := by rw [IntKind.wrap_i64]; omega
    have hc1 : (i : Int) < 3 := by omega
    have hc2 : i < frN.length := by show i < 3; omega
    have g1 := rowsS_getD hc2
    simp only [go_sem,Nat.reduceLeDiff,Nat.reduceAdd,Nat.reduceBNe,Nat.reduceDiv,Nat.reduceMod,rowsS_length,hc1,hc2,g1]
    refine ev_call (c64 l hl (frN.getD i []) (frN_len (by omega)) hf) (retW0 rfl rfl rfl rfl) ?_
    simp only [go_sem,Nat.reduceAdd,hx,hw]
    first | exact ⟨i + 1,rfl,hc,by omega⟩ | trace_state
  · have he : i = 3 := by omega
    subst he
    simp only [go_sem,Nat.reduceLeDiff,Nat.reduceAdd,Int.reduceLT,hm,r1,r4]
    refine ev_call (c67 _) (retW0 rfl rfl rfl rfl) ?_
    simp only [go_sem,Nat.reduceLeDiff,Nat.reduceAdd,r2]
    refine ev_call (c68 _ h3) (retW0 rfl rfl rfl rfl) ?_
    simp only [go_sem,Nat.reduceLeDiff,Nat.reduceAdd,r3,r5]
    refine ev_call (c69 _) (retW0 rfl rfl rfl rfl) ?_
    simp only [go_sem,Nat.reduceLeDiff,Nat.reduceAdd,r6]
    refine ev_call ((by rw [r4] at hd; exact hd : Sem prog 70 ⟨[.agg [.v (vS me),.v (vS ta),.v (vI st),.v (vS re),.v (vB true),.imm 45 (rowsF l),.v (vS bo)]],[none]⟩ ⟨[.dead,.v (vS H)],[none,none]⟩)) (retW0 rfl rfl rfl rfl) ?_
    simp only [go_sem,Nat.reduceAdd,Nat.reduceBNe,hH]
    try (with_reducible intro _)
    try simp only [go_sem]
    first | exact fin0 (.inr rfl) rfl rfl rfl rfl | trace_state
theorem c21r (me ta : List UInt8) (st : Int) (re : List UInt8) (ba : Bool) (l : List Fld) (bo : List UInt8) (h1 : me.length ≤ 9223372036854775807) (h2 : ta.length ≤ 9223372036854775807) (h3 : re.length ≤ 9223372036854775807) (h4 : bo.length ≤ 9223372036854775807) (hl : Small l) (hf : fieldsB l = true) (h20 : ¬ (20 : Int) ≤ (l.length : Int)) (hb : ¬ (600 : Int) < (bo.length : Int)) (hno : ∀ i,i < 3 → hasF (frN.getD i []) l = false) (hm : (me == []) = true) (r1 : (ta == []) = true) (r2 : statusB st = true) (r3 : reasonB re = true) (r4 : ba = true) (r5 : (bo == []) = true) (r6 : bareB st = false) (H : List UInt8) (hH : H.length ≤ 9223372036854775807) (hd : Sem prog 70 ⟨[.agg [.v (vS me),.v (vS ta),.v (vI st),.v (vS re),.v (vB ba),.imm 45 (rowsF l),.v (vS bo)]],[none]⟩ ⟨[.dead,.v (vS H)],[none,none]⟩) : Sem prog 21 ⟨[.agg [.v (vS me),.v (vS ta),.v (vI st),.v (vS re),.v (vB ba),.imm 45 (rowsF l),.v (vS bo)]],[none]⟩ ⟨[.dead,.v (vB (decide ((H.length : Int) ≤ 1500)))],[none]⟩ := by
  refine sem_fin (cfg := cfg 1) (ts := [.tm 2]) tbOk func21 rfl rfl rfl rfl (fun t h => by cases h) ?_
  have hs : l.length ≤ 9223372036854775807 := hl.1
  simp only [go_sem,Nat.reduceLeDiff,Nat.reduceAdd,Nat.reduceSub,f21,cfg]
  try (with_reducible intro _)
  try simp only [go_sem]
  refine ev_call (c62 l hl) (retW0 rfl rfl rfl rfl) ?_
  simp only [go_sem,Nat.reduceLeDiff,Nat.reduceAdd,rowsF_length,hs,h4,hf,h20,hb]
  try (with_reducible intro _)
  try simp only [go_sem]
  refine ev_call (c63) (retW0 rfl rfl rfl rfl) ?_
  simp only [go_sem,Nat.reduceAdd,Nat.reduceDiv,Nat.reduceMod,rowsS_length]
  try (with_reducible intro _)
  try simp only [go_sem]
  refine loop_on (fun i : Nat => ⟨[.dead,.cref 1 0,.v (vB false),.dead,.dead,.dead,.dead,.dead,.dead,.dead,.dead,.dead,.dead,.dead,.dead,.dead,.dead,.dead,.dead,.dead,.dead,.own 9 (rowsS frN),.v (vI 3),.v (vI i),.dead,.dead,.dead,.dead,.dead,.dead,.dead,.dead,.dead,.dead,.dead,.dead,.dead,.dead,.dead,.dead,.dead,.dead,.dead,.dead,.dead,.dead,.dead,.dead,.dead,.dead,.dead,.dead,.dead,.dead,.dead,.dead,.dead,.dead,.dead,.dead,.dead,.dead,.dead,.dead,.dead,.dead,.dead,.dead,.dead,.dead,.dead,.dead,.dead,.dead,.dead,.dead,.dead,.dead,.dead,.dead,.dead,.dead,.dead,.dead,.dead,.dead,.dead,.dead,.dead,.dead,.dead,.dead,.dead,.dead,.dead,.dead,.dead],[none,some [.v (vS me),.v (vS ta),.v (vI st),.v (vS re),.v (vB ba),.imm 45 (rowsF l),.v (vS bo)],none,none,none,none,none,none,none,none,none,none,none,none,none,none,none,none,none,none,none,none,none,none,none,none,none,none,none,none,none,none,none,none,none,none,none,none,none,none,none,none,none,none,none,none,none,none,none,none,none,none,none,none,none,none,none,none,none,none,none,none,none,none,none,none,none,none,none,none,none,none,none,none,none,none,none,none,none,none,none,none,none,none,none,none,none,none,none,none,none,none,none,none,none,none,none]⟩) [1,2,21,22,23] (fun i => i ≤ 3) (fun i => 3 - i) 0 rfl (by omega) ?_
  intro i hi
  simp only [go_sem]
  refine Or.elim (Classical.em (i < 3)) (fun hc => ?_) fun hc => ?_
  · have hx := hno i hc
    unfold hasF at hx
    have hw : IntKind.i64.wrap ((i : Int) + 1) = ((i + 1 : Nat) : Int) := by rw [IntKind.wrap_i64]; omega
    have hc1 : (i : Int) < 3 := by omega
    have hc2 : i < frN.length := by show i < 3; omega
    have g1 := rowsS_getD hc2
    simp only [go_sem,Nat.reduceLeDiff,Nat.reduceAdd,Nat.reduceBNe,Nat.reduceDiv,Nat.reduceMod,rowsS_length,hc1,hc2,g1]
    refine ev_call (c64 l hl (frN.getD i []) (frN_len (by omega)) hf) (retW0 rfl rfl rfl rfl) ?_
    simp only [go_sem,Nat.reduceAdd,hx,hw]
    first | exact ⟨i + 1,rfl,hc,by omega⟩ | trace_state
  · have he : i = 3 := by omega
    subst he
    simp only [go_sem,Nat.reduceLeDiff,Nat.reduceAdd,Int.reduceLT,hm,r1,r4]
    refine ev_call (c67 _) (retW0 rfl rfl rfl rfl) ?_
    simp only [go_sem,Nat.reduceLeDiff,Nat.reduceAdd,r2]
    refine ev_call (c68 _ h3) (retW0 rfl rfl rfl rfl) ?_
    simp only [go_sem,Nat.reduceLeDiff,Nat.reduceAdd,r3,r5]
    refine ev_call (c69 _) (retW0 rfl rfl rfl rfl) ?_
    simp only [go_sem,Nat.reduceAdd,r6]
    refine ev_call ((by rw [r4] at hd; exact hd : Sem prog 70 ⟨[.agg [.v (vS me),.v (vS ta),.v (vI st),.v (vS re),.v (vB true),.imm 45 (rowsF l),.v (vS bo)]],[none]⟩ ⟨[.dead,.v (vS H)],[none,none]⟩)) (retW0 rfl rfl rfl rfl) ?_
    simp only [go_sem,Nat.reduceAdd,Nat.reduceBNe,hH]
    try (with_reducible intro _)
    try simp only [go_sem]
    first | exact fin0 (.inr rfl) rfl rfl rfl rfl | trace_state
theorem c21p (me ta : List UInt8) (st : Int) (re : List UInt8) (ba : Bool) (l : List Fld) (bo : List UInt8) (h1 : me.length ≤ 9223372036854775807) (h2 : ta.length ≤ 9223372036854775807) (h3 : re.length ≤ 9223372036854775807) (h4 : bo.length ≤ 9223372036854775807) (hl : Small l) (hf : fieldsB l = true) (h20 : ¬ (20 : Int) ≤ (l.length : Int)) (hb : ¬ (600 : Int) < (bo.length : Int)) (hno : ∀ i,i < 3 → hasF (frN.getD i []) l = false) (hm : (me == []) = true) (r1 : (ta == []) = true) (r2 : statusB st = true) (r3 : reasonB re = true) (r4 : ba = false) (r5 : bareB st = true) : Sem prog 21 ⟨[.agg [.v (vS me),.v (vS ta),.v (vI st),.v (vS re),.v (vB ba),.imm 45 (rowsF l),.v (vS bo)]],[none]⟩ ⟨[.dead,.v (vB (false))],[none]⟩ := by
  refine sem_fin (cfg := cfg 1) (ts := [.tm 2]) tbOk func21 rfl rfl rfl rfl (fun t h => by cases h) ?_
  have hs : l.length ≤ 9223372036854775807 := hl.1
  simp only [go_sem,Nat.reduceLeDiff,Nat.reduceAdd,Nat.reduceSub,f21,cfg]
  try (with_reducible intro _)
  try simp only [go_sem]
  refine ev_call (c62 l hl) (retW0 rfl rfl rfl rfl) ?_
  simp only [go_sem,Nat.reduceLeDiff,Nat.reduceAdd,rowsF_length,hs,h4,hf,h20,hb]
  try (with_reducible intro _)
  try simp only [go_sem]
  refine ev_call (c63) (retW0 rfl rfl rfl rfl) ?_
  simp only [go_sem,Nat.reduceAdd,Nat.reduceDiv,Nat.reduceMod,rowsS_length]
  try (with_reducible intro _)
  try simp only [go_sem]
  refine loop_on (fun i : Nat => ⟨[.dead,.cref 1 0,.v (vB false),.dead,.dead,.dead,.dead,.dead,.dead,.dead,.dead,.dead,.dead,.dead,.dead,.dead,.dead,.dead,.dead,.dead,.dead,.own 9 (rowsS frN),.v (vI 3),.v (vI i),.dead,.dead,.dead,.dead,.dead,.dead,.dead,.dead,.dead,.dead,.dead,.dead,.dead,.dead,.dead,.dead,.dead,.dead,.dead,.dead,.dead,.dead,.dead,.dead,.dead,.dead,.dead,.dead,.dead,.dead,.dead,.dead,.dead,.dead,.dead,.dead,.dead,.dead,.dead,.dead,.dead,.dead,.dead,.dead,.dead,.dead,.dead,.dead,.dead,.dead,.dead,.dead,.dead,.dead,.dead,.dead,.dead,.dead,.dead,.dead,.dead,.dead,.dead,.dead,.dead,.dead,.dead,.dead,.dead,.dead,.dead,.dead,.dead],[none,some [.v (vS me),.v (vS ta),.v (vI st),.v (vS re),.v (vB ba),.imm 45 (rowsF l),.v (vS bo)],none,none,none,none,none,none,none,none,none,none,none,none,none,none,none,none,none,none,none,none,none,none,none,none,none,none,none,none,none,none,none,none,none,none,none,none,none,none,none,none,none,none,none,none,none,none,none,none,none,none,none,none,none,none,none,none,none,none,none,none,none,none,none,none,none,none,none,none,none,none,none,none,none,none,none,none,none,none,none,none,none,none,none,none,none,none,none,none,none,none,none,none,none,none,none]⟩) [1,2,21,22,23] (fun i => i ≤ 3) (fun i => 3 - i) 0 rfl (by omega) ?_
  intro i hi
  simp only [go_sem]
  refine Or.elim (Classical.em (i < 3)) (fun hc => ?_) fun hc => ?_
  · have hx := hno i hc
    unfold hasF at hx
    have hw : IntKind.i64.wrap ((i : Int) + 1) = ((i + 1 : Nat) : Int) := by rw [IntKind.wrap_i64]; omega
    have hc1 : (i : Int) < 3 := by omega
    have hc2 : i < frN.length := by show i < 3; omega
    have g1 := rowsS_getD hc2
    simp only [go_sem,Nat.reduceLeDiff,Nat.reduceAdd,Nat.reduceBNe,Nat.reduceDiv,Nat.reduceMod,rowsS_length,hc1,hc2,g1]
    refine ev_call (c64 l hl (frN.getD i []) (frN_len (by omega)) hf) (retW0 rfl rfl rfl rfl) ?_
    simp only [go_sem,Nat.reduceAdd,hx,hw]
    first | exact ⟨i + 1,rfl,hc,by omega⟩ | trace_state
  · have he : i = 3 := by omega
    subst he
    simp only [go_sem,Nat.reduceLeDiff,Nat.reduceAdd,Int.reduceLT,hm,r1,r4]
    refine ev_call (c67 _) (retW0 rfl rfl rfl rfl) ?_
    simp only [go_sem,Nat.reduceLeDiff,Nat.reduceAdd,r2]
    refine ev_call (c68 _ h3) (retW0 rfl rfl rfl rfl) ?_
    simp only [go_sem,Nat.reduceLeDiff,Nat.reduceAdd,r3]
    refine ev_call (c69 _) (retW0 rfl rfl rfl rfl) ?_
    simp only [go_sem,Nat.reduceLeDiff,Nat.reduceAdd,r5]
    try (with_reducible intro _)
    try simp only [go_sem]
    first | exact fin0 (.inr rfl) rfl rfl rfl rfl | trace_state
theorem c21q (me ta : List UInt8) (st : Int) (re : List UInt8) (ba : Bool) (l : List Fld) (bo : List UInt8) (h1 : me.length ≤ 9223372036854775807) (h2 : ta.length ≤ 9223372036854775807) (h3 : re.length ≤ 9223372036854775807) (h4 : bo.length ≤ 9223372036854775807) (hl : Small l) (hf : fieldsB l = true) (h20 : ¬ (20 : Int) ≤ (l.length : Int)) (hb : ¬ (600 : Int) < (bo.length : Int)) (hno : ∀ i,i < 3 → hasF (frN.getD i []) l = false) (hm : (me == []) = true) (r1 : (ta == []) = true) (r2 : statusB st = true) (r3 : reasonB re = true) (r4 : ba = false) (r5 : bareB st = false) (H : List UInt8) (hH : H.length ≤ 9223372036854775807) (hd : Sem prog 70 ⟨[.agg [.v (vS me),.v (vS ta),.v (vI st),.v (vS re),.v (vB ba),.imm 45 (rowsF l),.v (vS bo)]],[none]⟩ ⟨[.dead,.v (vS H)],[none,none]⟩) : Sem prog 21 ⟨[.agg [.v (vS me),.v (vS ta),.v (vI st),.v (vS re),.v (vB ba),.imm 45 (rowsF l),.v (vS bo)]],[none]⟩ ⟨[.dead,.v (vB (decide ((H.length : Int) ≤ 1500)))],[none]⟩ := by
  refine sem_fin (cfg := cfg 1) (ts := [.tm 2]) tbOk func21 rfl rfl rfl rfl (fun t h => by cases h) ?_
  have hs : l.length ≤ 9223372036854775807 := hl.1
  simp only [go_sem,Nat.reduceLeDiff,Nat.reduceAdd,Nat.reduceSub,f21,cfg]
  try (with_reducible intro _)
  try simp only [go_sem]
  refine ev_call (c62 l hl) (retW0 rfl rfl rfl rfl) ?_
  simp only [go_sem,Nat.reduceLeDiff,Nat.reduceAdd,rowsF_length,hs,h4,hf,h20,hb]
  try (with_reducible intro _)
  try simp only [go_sem]
  refine ev_call (c63) (retW0 rfl rfl rfl rfl) ?_
  simp only [go_sem,Nat.reduceAdd,Nat.reduceDiv,Nat.reduceMod,rowsS_length]
  try (with_reducible intro _)
  try simp only [go_sem]
  refine loop_on (fun i : Nat => ⟨[.dead,.cref 1 0,.v (vB false),.dead,.dead,.dead,.dead,.dead,.dead,.dead,.dead,.dead,.dead,.dead,.dead,.dead,.dead,.dead,.dead,.dead,.dead,.own 9 (rowsS frN),.v (vI 3),.v (vI i),.dead,.dead,.dead,.dead,.dead,.dead,.dead,.dead,.dead,.dead,.dead,.dead,.dead,.dead,.dead,.dead,.dead,.dead,.dead,.dead,.dead,.dead,.dead,.dead,.dead,.dead,.dead,.dead,.dead,.dead,.dead,.dead,.dead,.dead,.dead,.dead,.dead,.dead,.dead,.dead,.dead,.dead,.dead,.dead,.dead,.dead,.dead,.dead,.dead,.dead,.dead,.dead,.dead,.dead,.dead,.dead,.dead,.dead,.dead,.dead,.dead,.dead,.dead,.dead,.dead,.dead,.dead,.dead,.dead,.dead,.dead,.dead,.dead],[none,some [.v (vS me),.v (vS ta),.v (vI st),.v (vS re),.v (vB ba),.imm 45 (rowsF l),.v (vS bo)],none,none,none,none,none,none,none,none,none,none,none,none,none,none,none,none,none,none,none,none,none,none,none,none,none,none,none,none,none,none,none,none,none,none,none,none,none,none,none,none,none,none,none,none,none,none,none,none,none,none,none,none,none,none,none,none,none,none,none,none,none,none,none,none,none,none,none,none,none,none,none,none,none,none,none,none,none,none,none,none,none,none,none,none,none,none,none,none,none,none,none,none,none,none,none]⟩) [1,2,21,22,23] (fun i => i ≤ 3) (fun i => 3 - i) 0 rfl (by omega) ?_
  intro i hi
  simp only [go_sem]
  refine Or.elim (Classical.em (i < 3)) (fun hc => ?_) fun hc => ?_
  · have hx := hno i hc
    unfold hasF at hx
    have hw : IntKind.i64.wrap ((i : Int) + 1) = ((i + 1 : Nat) : Int) := by rw [IntKind.wrap_i64]; omega
    have hc1 : (i : Int) < 3 := by omega
    have hc2 : i < frN.length := by show i < 3; omega
    have g1 := rowsS_getD hc2
    simp only [go_sem,Nat.reduceLeDiff,Nat.reduceAdd,Nat.reduceBNe,Nat.reduceDiv,Nat.reduceMod,rowsS_length,hc1,hc2,g1]
    refine ev_call (c64 l hl (frN.getD i []) (frN_len (by omega)) hf) (retW0 rfl rfl rfl rfl) ?_
    simp only [go_sem,Nat.reduceAdd,hx,hw]
    first | exact ⟨i + 1,rfl,hc,by omega⟩ | trace_state
  · have he : i = 3 := by omega
    subst he
    simp only [go_sem,Nat.reduceLeDiff,Nat.reduceAdd,Int.reduceLT,hm,r1,r4]
    refine ev_call (c67 _) (retW0 rfl rfl rfl rfl) ?_
    simp only [go_sem,Nat.reduceLeDiff,Nat.reduceAdd,r2]
    refine ev_call (c68 _ h3) (retW0 rfl rfl rfl rfl) ?_
    simp only [go_sem,Nat.reduceLeDiff,Nat.reduceAdd,r3]
    refine ev_call (c69 _) (retW0 rfl rfl rfl rfl) ?_
    simp only [go_sem,Nat.reduceAdd,r5]
    refine ev_call ((by rw [r4] at hd; exact hd : Sem prog 70 ⟨[.agg [.v (vS me),.v (vS ta),.v (vI st),.v (vS re),.v (vB false),.imm 45 (rowsF l),.v (vS bo)]],[none]⟩ ⟨[.dead,.v (vS H)],[none,none]⟩)) (retW0 rfl rfl rfl rfl) ?_
    simp only [go_sem,Nat.reduceAdd,Nat.reduceBNe,hH]
    try (with_reducible intro _)
    try simp only [go_sem]
    first | exact fin0 (.inr rfl) rfl rfl rfl rfl | trace_state
theorem hasF_any (name : List UInt8) (l : List Fld) : hasF name l = l.any (hitB name) := by
  unfold hasF valsB
  rw [List.length_map]
  cases h : l.any (hitB name)
  · rw [List.any_eq_false] at h
    rw [List.filter_eq_nil_iff.2 (fun p hp => h p hp)]
    rfl
  · rw [List.any_eq_true] at h
    obtain ⟨p,h1,h2⟩ := h
    exact decide_eq_true (List.length_pos_iff.2 (List.ne_nil_of_mem (List.mem_filter.2 ⟨h1,h2⟩)))
theorem frB_eq (p : Fld) : frB p = (hitB clN p || hitB teN p || hitB trN p) := by
  have e1 : foldB clN = clN := by decide
  have e2 : foldB teN = teN := by decide
  have e3 : foldB trN = trN := by decide
  unfold frB hitB
  rw [e1,e2,e3]
theorem any_frB (l : List Fld) : l.any frB = (hasF clN l || hasF teN l || hasF trN l) := by
  simp only [hasF_any]
  induction l with
  | nil => rfl
  | cons p l ih =>
    simp only [List.any_cons,frB_eq,ih]
    grind
theorem fr_none {l : List Fld} (h : l.any frB = false) : ∀ i,i < 3 → hasF (frN.getD i []) l = false := by
  rw [any_frB] at h
  simp only [Bool.or_eq_false_iff] at h
  intro i hi
  have : i = 0 ∨ i = 1 ∨ i = 2 := by omega
  rcases this with rfl | rfl | rfl
  · exact h.1.1
  · exact h.1.2
  · exact h.2
theorem fr_some {l : List Fld} (h : l.any frB = true) : ∃ k,k < 3 ∧ (∀ i,i < k → hasF (frN.getD i []) l = false) ∧ hasF (frN.getD k []) l = true := by
  rw [any_frB] at h
  cases h1 : hasF clN l
  · cases h2 : hasF teN l
    · rw [h1,h2] at h
      refine ⟨2,by decide,fun i hi => ?_,h⟩
      have : i = 0 ∨ i = 1 := by omega
      rcases this with rfl | rfl
      · exact h1
      · exact h2
    · refine ⟨1,by decide,fun i hi => ?_,h2⟩
      have : i = 0 := by omega
      subst this
      exact h1
  · exact ⟨0,by decide,fun i hi => absurd hi (by omega),h1⟩
def H44 : Prop := ∀ (me ta : List UInt8) (st : Nat) (re : List UInt8) (ba : Bool) (l : List Fld) (bo : List UInt8),Small l → fieldsB l = true → me.length ≤ 20 → ta.length ≤ 200 → re.length ≤ 40 → st ≤ 999 → bo.length ≤ 600 →
  Sem prog 70 ⟨[.agg [.v (vS me),.v (vS ta),.v (vI (st : Nat)),.v (vS re),.v (vB ba),.imm 45 (rowsF l),.v (vS bo)]],[none]⟩ ⟨[.dead,.v (vS (headT me ta st re ba l bo))],[none,none]⟩
theorem c21 (h44 : H44) (me ta : List UInt8) (st : Int) (re : List UInt8) (ba : Bool) (l : List Fld) (bo : List UInt8) (h1 : me.length ≤ 9223372036854775807) (h2 : ta.length ≤ 9223372036854775807) (h3 : re.length ≤ 9223372036854775807) (h4 : bo.length ≤ 9223372036854775807) (hl : Small l) : Sem prog 21 ⟨[.agg [.v (vS me),.v (vS ta),.v (vI st),.v (vS re),.v (vB ba),.imm 45 (rowsF l),.v (vS bo)]],[none]⟩ ⟨[.dead,.v (vB (msgB me ta st re ba l bo))],[none]⟩ := by
  cases hf : fieldsB l
  · have hz : msgB me ta st re ba l bo = false := by simp [msgB,hf]
    rw [hz]; exact c21a me ta st re ba l bo h1 h2 h3 h4 hl hf
  have hn20 := fields_len hf
  by_cases h20 : (20 : Int) ≤ (l.length : Int)
  · have hz : msgB me ta st re ba l bo = false := by
      have : l.length = 20 := by omega
      simp [msgB,this]
    rw [hz]; exact c21b me ta st re ba l bo h1 h2 h3 h4 hl hf h20
  have e1 : (l.length == 20) = false := by rw [beq_eq_false_iff_ne]; omega
  by_cases hb : (600 : Int) < (bo.length : Int)
  · have hz : msgB me ta st re ba l bo = false := by
      have : ¬ bo.length ≤ 600 := by omega
      simp [msgB,this]
    rw [hz]; exact c21c me ta st re ba l bo h1 h2 h3 h4 hl hf h20 hb
  have hbo : bo.length ≤ 600 := by omega
  cases hfr : l.any frB
  case true =>
    have hz : msgB me ta st re ba l bo = false := by simp [msgB,hfr]
    obtain ⟨k,k1,k2,k3⟩ := fr_some hfr
    rw [hz]; exact c21d me ta st re ba l bo h1 h2 h3 h4 hl hf h20 hb k k1 k2 k3
  have hno := fr_none hfr
  have hdec : ∀ H : List UInt8,decide (H.length ≤ 1500) = decide ((H.length : Int) ≤ 1500) := fun H => decide_eq_decide.2 (by omega)
  cases hm : me == []
  · have hz : msgB me ta st re ba l bo = (requestB me ta st re ba && decide ((headT me ta st re ba l bo).length ≤ 1500)) := by simp [msgB,hf,e1,hfr,hbo,hm]
    cases r1 : (tokenI me && decide (me.length ≤ 20))
    · rw [hz,show requestB me ta st re ba = false by unfold requestB methodB; rw [r1]; rfl]; exact c21e me ta st re ba l bo h1 h2 h3 h4 hl hf h20 hb hno hm r1
    cases r2 : targetB ta
    · rw [hz,show requestB me ta st re ba = false by unfold requestB methodB; rw [r1,r2]; rfl]; exact c21f me ta st re ba l bo h1 h2 h3 h4 hl hf h20 hb hno hm r1 r2
    cases r3 : (st != 0)
    case true =>
      rw [hz,show requestB me ta st re ba = false by unfold requestB methodB; rw [r1,r2,show (st == 0) = false by simpa using r3]; rfl]; exact c21g me ta st re ba l bo h1 h2 h3 h4 hl hf h20 hb hno hm r1 r2 r3
    cases r4 : re == []
    · rw [hz,show requestB me ta st re ba = false by unfold requestB methodB; rw [r4]; simp]; exact c21h me ta st re ba l bo h1 h2 h3 h4 hl hf h20 hb hno hm r1 r2 r3 r4
    have r3' : (st == 0) = true := by simpa using r3
    by_cases r5 : ba = true
    · rw [hz,show requestB me ta st re ba = false by unfold requestB methodB; rw [r5]; simp]; exact c21i me ta st re ba l bo h1 h2 h3 h4 hl hf h20 hb hno hm r1 r2 r3 r4 r5
    · have r5 : ba = false := by simpa using r5
      have hr : requestB me ta st re ba = true := by unfold requestB methodB; rw [r1,r2,r3',r4,r5]; rfl
      obtain ⟨g1,g2,g3,n,g4,g5⟩ := head_le (ba := ba) (bo := bo) (me := me) (ta := ta) (st := st) (re := re) (by rw [hm]; exact hr)
      subst g4
      have := c21j me ta n re ba l bo h1 h2 h3 h4 hl hf h20 hb hno hm r1 r2 r3 r4 r5 _ (head_len hf g1 g2 g3 g5 hbo) (h44 me ta n re ba l bo hl hf g1 g2 g3 g5 hbo)
      rw [hz,hr,Bool.true_and,hdec]
      exact this
  · have hz : msgB me ta st re ba l bo = (answerB ta st re ba bo && decide ((headT me ta st re ba l bo).length ≤ 1500)) := by simp [msgB,hf,e1,hfr,hbo,hm]
    cases r1 : ta == []
    · rw [hz,show answerB ta st re ba bo = false by unfold answerB; rw [r1]; simp]; exact c21k me ta st re ba l bo h1 h2 h3 h4 hl hf h20 hb hno hm r1
    cases r2 : statusB st
    · rw [hz,show answerB ta st re ba bo = false by unfold answerB; rw [r2]; simp]; exact c21l me ta st re ba l bo h1 h2 h3 h4 hl hf h20 hb hno hm r1 r2
    cases r3 : reasonB re
    · rw [hz,show answerB ta st re ba bo = false by unfold answerB; rw [r3]; simp]; exact c21m me ta st re ba l bo h1 h2 h3 h4 hl hf h20 hb hno hm r1 r2 r3
    have fin : answerB ta st re ba bo = true → ∃ n : Nat,st = n ∧ (headT me ta n re ba l bo).length ≤ 9223372036854775807 ∧ Sem prog 70 ⟨[.agg [.v (vS me),.v (vS ta),.v (vI (n : Nat)),.v (vS re),.v (vB ba),.imm 45 (rowsF l),.v (vS bo)]],[none]⟩ ⟨[.dead,.v (vS (headT me ta n re ba l bo))],[none,none]⟩ := by
      intro hr
      obtain ⟨g1,g2,g3,n,g4,g5⟩ := head_le (ba := ba) (bo := bo) (me := me) (ta := ta) (st := st) (re := re) (by rw [hm]; exact hr)
      exact ⟨n,g4,head_len hf g1 g2 g3 g5 hbo,h44 me ta n re ba l bo hl hf g1 g2 g3 g5 hbo⟩
    by_cases r4 : ba = true
    · cases r5 : bo == []
      · rw [hz,show answerB ta st re ba bo = false by unfold answerB; rw [r4,r5]; simp]; exact c21n me ta st re ba l bo h1 h2 h3 h4 hl hf h20 hb hno hm r1 r2 r3 r4 r5
      · have hr : answerB ta st re ba bo = true := by unfold answerB; rw [r1,r2,r3,r4,r5]; rfl
        obtain ⟨n,g4,hlen,hsem⟩ := fin hr
        subst g4
        rw [hz,hr,Bool.true_and,hdec]
        cases r6 : bareB (n : Int)
        · exact c21r me ta n re ba l bo h1 h2 h3 h4 hl hf h20 hb hno hm r1 r2 r3 r4 r5 r6 _ hlen hsem
        · exact c21o me ta n re ba l bo h1 h2 h3 h4 hl hf h20 hb hno hm r1 r2 r3 r4 r5 r6 _ hlen hsem
    · have r4 : ba = false := by simpa using r4
      cases r5 : bareB st
      · have hr : answerB ta st re ba bo = true := by unfold answerB; rw [r1,r2,r3,r4,r5]; rfl
        obtain ⟨n,g4,hlen,hsem⟩ := fin hr
        subst g4
        rw [hz,hr,Bool.true_and,hdec]
        exact c21q me ta n re ba l bo h1 h2 h3 h4 hl hf h20 hb hno hm r1 r2 r3 r4 r5 _ hlen hsem
      · rw [hz,show answerB ta st re ba bo = false by unfold answerB; rw [r4,r5]; simp]; exact c21p me ta st re ba l bo h1 h2 h3 h4 hl hf h20 hb hno hm r1 r2 r3 r4 r5
set_option maxRecDepth 100000
set_option maxHeartbeats 600000
def addE (out : List (List UInt8)) (e : List UInt8) : List (List UInt8) := if e == [] then out else out ++ [e]
def elGo (s : List UInt8) (fr : Nat) (q : Bool) (i : Nat) (out : List (List UInt8)) : List (List UInt8) :=
  if h : i < s.length then
    if s.getD i 0 = 34 then elGo s fr (!q) (i + 1) out
    else if q = true ∧ s.getD i 0 = 92 then elGo s fr q (i + 2) out
    else if q = false ∧ s.getD i 0 = 44 then elGo s (i + 1) q (i + 1) (addE out (trimB ((s.drop fr).take (i - fr))))
    else elGo s fr q (i + 1) out
  else addE out (trimB (s.drop fr))
termination_by s.length - i
decreasing_by all_goals omega
def elB (s : List UInt8) : List (List UInt8) := elGo s 0 false 0 []
theorem elGo_end {s : List UInt8} {fr : Nat} {q : Bool} {i : Nat} {out : List (List UInt8)} (h : ¬ i < s.length) : elGo s fr q i out = addE out (trimB (s.drop fr)) := by
  rw [elGo,dif_neg h]
theorem elGo_q {s : List UInt8} {fr : Nat} {q : Bool} {i : Nat} {out : List (List UInt8)} (h : i < s.length) (hc : s.getD i 0 = 34) : elGo s fr q i out = elGo s fr (!q) (i + 1) out := by
  rw [elGo,dif_pos h,if_pos hc]
theorem elGo_b {s : List UInt8} {fr : Nat} {i : Nat} {out : List (List UInt8)} (h : i < s.length) (hc : s.getD i 0 ≠ 34) (hb : s.getD i 0 = 92) : elGo s fr true i out = elGo s fr true (i + 2) out := by
  rw [elGo,dif_pos h,if_neg hc,if_pos ⟨rfl,hb⟩]
theorem elGo_c {s : List UInt8} {fr : Nat} {i : Nat} {out : List (List UInt8)} (h : i < s.length) (hc : s.getD i 0 ≠ 34) (hb : s.getD i 0 = 44) : elGo s fr false i out = elGo s (i + 1) false (i + 1) (addE out (trimB ((s.drop fr).take (i - fr)))) := by
  rw [elGo,dif_pos h,if_neg hc,if_neg (by simp),if_pos ⟨rfl,hb⟩]
theorem elGo_n {s : List UInt8} {fr : Nat} {q : Bool} {i : Nat} {out : List (List UInt8)} (h : i < s.length) (hc : s.getD i 0 ≠ 34) (h1 : ¬ (q = true ∧ s.getD i 0 = 92)) (h2 : ¬ (q = false ∧ s.getD i 0 = 44)) : elGo s fr q i out = elGo s fr q (i + 1) out := by
  rw [elGo,dif_pos h,if_neg hc,if_neg h1,if_neg h2]
theorem addE_len (out : List (List UInt8)) (e : List UInt8) : (addE out e).length ≤ out.length + 1 := by
  unfold addE
  split <;> simp
theorem trimB_len (l : List UInt8) : (trimB l).length ≤ l.length := by
  unfold trimB trimR
  rw [List.length_reverse]
  have h1 := (List.dropWhile_sublist spc (l := (l.dropWhile spc).reverse)).length_le
  have h2 := (List.dropWhile_sublist spc (l := l)).length_le
  rw [List.length_reverse] at h1
  omega
theorem sd_addE {out : List (List UInt8)} {e : List UInt8} (h : (e == []) = false) : sd 9 (rowsS (addE out e)) = .own 9 (rowsS out ++ [[.v (vS e)]]) := by
  unfold addE
  rw [h,if_neg (by simp),rowsS_snoc,sd_snoc]
theorem addE_nil {out : List (List UInt8)} {e : List UInt8} (h : (e == []) = true) : addE out e = out := by
  unfold addE
  rw [if_pos h]
theorem byte_is (b : UInt8) (k : Nat) (hk : k < 256) : ((b.toNat : Int) == (k : Int)) = decide (b = UInt8.ofNat k) := by
  rw [Bool.eq_iff_iff,beq_iff_eq,decide_eq_true_eq]
  constructor
  · intro h
    have h : b.toNat = k := by omega
    rw [← h]; simp
  · intro h
    rw [h]
    simp
    omega
theorem c171 (e : List UInt8) (he : e.length ≤ 9223372036854775807) (out : List (List UInt8)) (ho : out.length ≤ 1048576) : Sem prog 171 ⟨[.v (vS e),.cref 1 0],[none,some [sd 9 (rowsS out)]]⟩ ⟨[.dead,.dead,.tup []],[none,some [sd 9 (rowsS (addE out (trimB e)))]]⟩ := by
  have hlen : out.length ≤ 9223372036854775806 := by omega
  have hlen2 : (rowsS out).length + 1 ≤ 9223372036854775807 := by rw [rowsS_length]; omega
  cases hz : trimB e == []
  · rw [sd_addE hz]
    cases ho : rowsS out with
    | nil =>
      rw [sd_nil]
      refine sem_fin (cfg := cfg 2) (ts := []) tbOk func171 rfl rfl rfl rfl (fun t h => by cases h) ?_
      simp only [go_sem,Nat.reduceSub,f171,cfg]
      refine ev_call (c122 e he) (retW0 rfl rfl rfl rfl) ?_
      simp only [go_sem,Nat.reduceLeDiff,Nat.reduceLT,Nat.reduceAdd,Nat.reduceMul,Nat.reduceBNe,Nat.reduceEqDiff,reduceCtorEq,Nat.reduceDiv,Nat.reduceMod,hz]
      first | exact ⟨.inr rfl,_,.inl rfl,rfl,rfl⟩ | exact ⟨.inl rfl,_,.inl rfl,rfl,rfl⟩ | trace_state
    | cons x xs =>
      rw [sd_cons]
      have hlx : xs.length + 1 = out.length := by rw [← rowsS_length out,ho]; rfl
      rw [ho] at hlen2
      refine sem_fin (cfg := cfg 2) (ts := []) tbOk func171 rfl rfl rfl rfl (fun t h => by cases h) ?_
      simp only [go_sem,Nat.reduceSub,f171,cfg]
      refine ev_call (c122 e he) (retW0 rfl rfl rfl rfl) ?_
      simp only [go_sem,Nat.reduceLeDiff,Nat.reduceLT,Nat.reduceAdd,Nat.reduceMul,Nat.reduceBNe,Nat.reduceEqDiff,reduceCtorEq,Nat.reduceDiv,Nat.reduceMod,hz]
      try (with_reducible intro hlen3)
      with_reducible refine And.intro (by omega) ?_
      first | exact ⟨.inr rfl,_,.inl rfl,rfl,rfl⟩ | exact ⟨.inl rfl,_,.inl rfl,rfl,rfl⟩ | trace_state
  · rw [addE_nil hz]
    cases ho : rowsS out with
    | nil =>
      rw [sd_nil]
      refine sem_fin (cfg := cfg 2) (ts := []) tbOk func171 rfl rfl rfl rfl (fun t h => by cases h) ?_
      simp only [go_sem,Nat.reduceSub,f171,cfg]
      refine ev_call (c122 e he) (retW0 rfl rfl rfl rfl) ?_
      simp only [go_sem,Nat.reduceAdd,Nat.reduceBNe,hz]
      first | exact ⟨.inr rfl,_,.inl rfl,rfl,rfl⟩ | exact ⟨.inl rfl,_,.inl rfl,rfl,rfl⟩ | trace_state
    | cons x xs =>
      rw [sd_cons]
      refine sem_fin (cfg := cfg 2) (ts := []) tbOk func171 rfl rfl rfl rfl (fun t h => by cases h) ?_
      simp only [go_sem,Nat.reduceSub,f171,cfg]
      refine ev_call (c122 e he) (retW0 rfl rfl rfl rfl) ?_
      simp only [go_sem,Nat.reduceAdd,Nat.reduceBNe,hz]
      first | exact ⟨.inr rfl,_,.inl rfl,rfl,rfl⟩ | exact ⟨.inl rfl,_,.inl rfl,rfl,rfl⟩ | trace_state
theorem c155 (s : List UInt8) (hs : s.length ≤ 4000) : Sem prog 155 ⟨[.v (vS s)],[none]⟩ ⟨[.dead,sd 9 (rowsS (elB s))],[none]⟩ := by
  refine sem_fin (cfg := cfg 1) (ts := [.tm 2]) tbOk func155 rfl rfl rfl rfl (fun t h => by cases h) ?_
  have hs9 : s.length ≤ 9223372036854775807 := by omega
  have hs4 : ¬ (4000 : Int) < (s.length : Int) := by omega
  simp only [go_sem,Nat.reduceLeDiff,Nat.reduceLT,Nat.reduceAdd,Nat.reduceSub,Nat.reduceBNe,f155,cfg,hs9,hs4]
  try (with_reducible intro hlen)
  try simp only [go_sem]
  refine loop_on (fun st : Nat × Nat × Bool × List (List UInt8) => ⟨[.v (vS s),.dead,.nil,.cref 3 0,.clo 171 [.cref 3 0],.v (vI st.2.1),.v (vB st.2.2.1),.v (vI st.1),.dead,.dead,.dead,.dead,.dead,.dead,.dead,.dead,.dead,.dead,.dead,.dead,.dead,.dead,.dead,.dead,.dead,.dead,.dead,.dead,.dead,.dead,.dead,.dead,.dead,.dead,.dead,.dead,.dead,.dead,.dead,.dead,.dead,.dead,.dead,.dead,.dead,.dead,.dead,.dead,.dead,.dead,.dead,.dead,.dead,.dead,.dead,.dead,.dead,.dead],[none,none,none,some [sd 9 (rowsS st.2.2.2)],none,none,none,none,none,none,none,none,none,none,none,none,none,none,none,none,none,none,none,none,none,none,none,none,none,none,none,none,none,none,none,none,none,none,none,none,none,none,none,none,none,none,none,none,none,none,none,none,none,none,none,none,none,none]⟩) [0,2,3,4,5,6,7] (fun st => st.2.1 ≤ st.1 ∧ st.2.1 ≤ s.length ∧ st.2.2.2.length ≤ st.1 ∧ st.2.2.2.length ≤ 4001 ∧ elGo s st.2.1 st.2.2.1 st.1 st.2.2.2 = elB s) (fun st => s.length + 2 - st.1) (0,0,false,[]) rfl ⟨by decide,Nat.zero_le _,by simp,by simp,rfl⟩ ?_
  rintro ⟨i,fr,q,out⟩ ⟨g1,g2,g3,g5,g4⟩
  have g1 : fr ≤ i := g1
  have g2 : fr ≤ s.length := g2
  have g3 : out.length ≤ i := g3
  have g5 : out.length ≤ 4001 := g5
  have g4 : elGo s fr q i out = elB s := g4
  simp only [go_sem,hs9]
  try (with_reducible intro hlen2)
  refine Or.elim (Classical.em (i < s.length)) (fun hc => ?_) fun hc => ?_
  · have hw := wrapN hc hs9
    have hw2 : IntKind.i64.wrap (((i + 1 : Nat) : Int) + 1) = ((i + 2 : Nat) : Int) := by rw [IntKind.wrap_i64]; omega
    have k34 := byte_is (s.getD i 0) 34 (by decide)
    have k92 := byte_is (s.getD i 0) 92 (by decide)
    have k44 := byte_is (s.getD i 0) 44 (by decide)
    have k34 : (((s.getD i 0).toNat : Int) == 34) = decide (s.getD i 0 = 34) := k34
    have k92 : (((s.getD i 0).toNat : Int) == 92) = decide (s.getD i 0 = 92) := k92
    have k44 : (((s.getD i 0).toNat : Int) == 44) = decide (s.getD i 0 = 44) := k44
    simp only [go_sem,Nat.reduceBNe,hc]
    by_cases hq : s.getD i 0 = 34
    · rw [decide_eq_true hq] at k34
      simp only [go_sem,Nat.reduceBNe,k34,hw]
      refine ⟨(i + 1,fr,!q,out),?_,⟨by show fr ≤ i + 1; omega,g2,by show out.length ≤ i + 1; omega,g5,(elGo_q hc hq).symm.trans g4⟩,by show s.length + 2 - (i + 1) < s.length + 2 - i; omega⟩
      dsimp only
      generalize rowsS out = R
      cases R <;> rfl
    rw [decide_eq_false hq] at k34
    cases q with
    | true =>
      by_cases hb : s.getD i 0 = 92
      · rw [decide_eq_true hb] at k92
        simp only [go_sem,Nat.reduceBNe,hc,k34,k92,hw,hw2]
        refine ⟨(i + 2,fr,true,out),?_,⟨by show fr ≤ i + 2; omega,g2,by show out.length ≤ i + 2; omega,g5,(elGo_b hc hq hb).symm.trans g4⟩,by show s.length + 2 - (i + 2) < s.length + 2 - i; omega⟩
        dsimp only
        generalize rowsS out = R
        cases R <;> rfl
      · rw [decide_eq_false hb] at k92
        simp only [go_sem,Nat.reduceBNe,hc,k34,k92,hw]
        refine ⟨(i + 1,fr,true,out),?_,⟨by show fr ≤ i + 1; omega,g2,by show out.length ≤ i + 1; omega,g5,(elGo_n hc hq (fun h => hb h.2) (by simp)).symm.trans g4⟩,by show s.length + 2 - (i + 1) < s.length + 2 - i; omega⟩
        dsimp only
        generalize rowsS out = R
        cases R <;> rfl
    | false =>
      by_cases hb : s.getD i 0 = 44
      · rw [decide_eq_true hb] at k44
        have hln : ((s.drop fr).take (i - fr)).length ≤ 4000 := by rw [List.length_take,List.length_drop]; omega
        have h110 := c171 ((s.drop fr).take (i - fr)) (by omega) out (by omega)
        have gz := (elGo_c (fr := fr) (out := out) hc hq hb).symm.trans g4
        have gl := addE_len out (trimB ((s.drop fr).take (i - fr)))
        have gf : ((fr : Int) ≤ (i : Int)) := by omega
        have gi : ((i : Int) ≤ (s.length : Int)) := by omega
        have gi' : i ≤ s.length := by omega
        generalize hA : addE out (trimB ((s.drop fr).take (i - fr))) = A at h110 gz gl
        generalize hR : rowsS A = R at h110
        cases ho : rowsS out with
        | nil =>
          rw [ho,sd_nil] at h110
          cases R with
          | nil => 
            rw [sd_nil] at h110
            simp only [go_sem,Nat.reduceLT,Nat.reduceBNe,hc,k34,k44,sd_nil,gi',g1]
            refine ev_call h110 (retWc rfl rfl rfl rfl rfl rfl rfl rfl) ?_
            simp only [go_sem,Nat.reduceLT,Nat.reduceAdd,Nat.reduceBEq,Nat.reduceBNe,hw]
            refine ⟨(i + 1,i + 1,false,A),?_,⟨by show i + 1 ≤ i + 1; omega,by show i + 1 ≤ s.length; omega,by show A.length ≤ i + 1; omega,by show A.length ≤ 4001; omega,gz⟩,by show s.length + 2 - (i + 1) < s.length + 2 - i; omega⟩
            dsimp only
            rw [hR]
            rfl
          | cons y ys => 
            rw [sd_cons] at h110
            simp only [go_sem,Nat.reduceLT,Nat.reduceBNe,hc,k34,k44,sd_nil,gi',g1]
            refine ev_call h110 (retWc rfl rfl rfl rfl rfl rfl rfl rfl) ?_
            simp only [go_sem,Nat.reduceLT,Nat.reduceAdd,Nat.reduceBEq,Nat.reduceBNe,hw]
            refine ⟨(i + 1,i + 1,false,A),?_,⟨by show i + 1 ≤ i + 1; omega,by show i + 1 ≤ s.length; omega,by show A.length ≤ i + 1; omega,by show A.length ≤ 4001; omega,gz⟩,by show s.length + 2 - (i + 1) < s.length + 2 - i; omega⟩
            dsimp only
            rw [hR]
            rfl
        | cons x xs =>
          rw [ho,sd_cons] at h110
          cases R with
          | nil => 
            rw [sd_nil] at h110
            simp only [go_sem,Nat.reduceLT,Nat.reduceBNe,hc,k34,k44,sd_cons,gi',g1]
            refine ev_call h110 (retWc rfl rfl rfl rfl rfl rfl rfl rfl) ?_
            simp only [go_sem,Nat.reduceLT,Nat.reduceAdd,Nat.reduceBEq,Nat.reduceBNe,hw]
            refine ⟨(i + 1,i + 1,false,A),?_,⟨by show i + 1 ≤ i + 1; omega,by show i + 1 ≤ s.length; omega,by show A.length ≤ i + 1; omega,by show A.length ≤ 4001; omega,gz⟩,by show s.length + 2 - (i + 1) < s.length + 2 - i; omega⟩
            dsimp only
            rw [hR]
            rfl
          | cons y ys => 
            rw [sd_cons] at h110
            simp only [go_sem,Nat.reduceLT,Nat.reduceBNe,hc,k34,k44,sd_cons,gi',g1]
            refine ev_call h110 (retWc rfl rfl rfl rfl rfl rfl rfl rfl) ?_
            simp only [go_sem,Nat.reduceLT,Nat.reduceAdd,Nat.reduceBEq,Nat.reduceBNe,hw]
            refine ⟨(i + 1,i + 1,false,A),?_,⟨by show i + 1 ≤ i + 1; omega,by show i + 1 ≤ s.length; omega,by show A.length ≤ i + 1; omega,by show A.length ≤ 4001; omega,gz⟩,by show s.length + 2 - (i + 1) < s.length + 2 - i; omega⟩
            dsimp only
            rw [hR]
            rfl
      · rw [decide_eq_false hb] at k44
        simp only [go_sem,Nat.reduceBNe,hc,k34,k44,hw]
        refine ⟨(i + 1,fr,false,out),?_,⟨by show fr ≤ i + 1; omega,g2,by show out.length ≤ i + 1; omega,g5,(elGo_n hc hq (by simp) (fun h => hb h.2)).symm.trans g4⟩,by show s.length + 2 - (i + 1) < s.length + 2 - i; omega⟩
        dsimp only
        generalize rowsS out = R
        cases R <;> rfl
  · have gz : elB s = addE out (trimB (s.drop fr)) := g4.symm.trans (elGo_end hc)
    rw [gz]
    have gf : ((fr : Int) ≤ (s.length : Int)) := by omega
    have hln : (s.drop fr).length ≤ 4000 := by rw [List.length_drop]; omega
    have h110 := c171 (s.drop fr) (by omega) out (by omega)
    have htk : (s.drop fr).take (s.length - fr) = s.drop fr := List.take_of_length_le (by rw [List.length_drop]; omega)
    generalize rowsS (addE out (trimB (s.drop fr))) = R at h110
    cases ho : rowsS out with
    | nil =>
      rw [ho,sd_nil] at h110
      cases R with
      | nil => 
        rw [sd_nil] at h110
        rw [sd_nil]
        simp only [go_sem,Nat.reduceLT,hc,g2,htk]
        refine ev_call h110 (retWc rfl rfl rfl rfl rfl rfl rfl rfl) ?_
        simp only [go_sem,Nat.reduceLT,Nat.reduceAdd,Nat.reduceBEq,Nat.reduceBNe]
        first | exact fin0 (.inr rfl) rfl rfl rfl rfl | trace_state
      | cons y ys => 
        rw [sd_cons] at h110
        rw [sd_cons]
        simp only [go_sem,Nat.reduceLT,hc,sd_nil,g2,htk]
        refine ev_call h110 (retWc rfl rfl rfl rfl rfl rfl rfl rfl) ?_
        simp only [go_sem,Nat.reduceLT,Nat.reduceAdd,Nat.reduceBEq,Nat.reduceBNe,Nat.reduceEqDiff,reduceCtorEq,Nat.reduceDiv,Nat.reduceMod]
        first | exact fin0 (.inr rfl) rfl rfl rfl rfl | trace_state
    | cons x xs =>
      rw [ho,sd_cons] at h110
      cases R with
      | nil => 
        rw [sd_nil] at h110
        rw [sd_nil]
        simp only [go_sem,Nat.reduceLT,hc,sd_cons,g2,htk]
        refine ev_call h110 (retWc rfl rfl rfl rfl rfl rfl rfl rfl) ?_
        simp only [go_sem,Nat.reduceLT,Nat.reduceAdd,Nat.reduceBEq,Nat.reduceBNe]
        first | exact fin0 (.inr rfl) rfl rfl rfl rfl | trace_state
      | cons y ys => 
        rw [sd_cons] at h110
        rw [sd_cons]
        simp only [go_sem,Nat.reduceLT,hc,g2,htk]
        refine ev_call h110 (retWc rfl rfl rfl rfl rfl rfl rfl rfl) ?_
        simp only [go_sem,Nat.reduceLT,Nat.reduceAdd,Nat.reduceBEq,Nat.reduceBNe,Nat.reduceEqDiff,reduceCtorEq,Nat.reduceDiv,Nat.reduceMod]
        first | exact fin0 (.inr rfl) rfl rfl rfl rfl | trace_state
theorem c135 (s : List UInt8) (hs : s.length ≤ 4000) : Sem prog 135 ⟨[.v (vS s)],[none]⟩ ⟨[.dead,sd 9 (rowsS (elB s))],[none]⟩ := by
  refine sem_fin (cfg := cfg 1) (ts := [.tm 2]) tbOk func135 rfl rfl rfl rfl (fun t h => by cases h) ?_
  have hs9 : s.length ≤ 9223372036854775807 := by omega
  have hs4 : ¬ (4000 : Int) < (s.length : Int) := by omega
  simp only [go_sem,Nat.reduceSub,f135,cfg,hs9,hs4]
  try (with_reducible intro hlen)
  try simp only [go_sem]
  refine loop_on (fun st : Nat × Nat × Bool × List (List UInt8) × Bool => ⟨[.v (vS s),.dead,.nil,sd 9 (rowsS st.2.2.2.1),.v (vI st.2.1),.v (vB st.2.2.1),.v (vI st.1),.dead,.dead,.dead,.dead,.dead,.dead,.dead,.dead,.dead,.dead,.dead,.dead,.dead,.dead,.dead,.dead,.dead,.dead,.dead,.dead,.dead,.dead,.dead,.dead,.dead,.dead,.dead,.dead,.dead,.dead,.dead,.dead,.dead,.dead,.dead,.dead,.dead,.dead,.dead,.dead,.dead,.dead,.dead,.dead,.dead,.dead,.dead,.dead,.dead,.dead,.dead,.dead,.dead,.dead,.dead,.dead,.dead,.dead,.dead,.dead,.dead,.dead,.dead],List.replicate 70 none⟩) [0,2,3,4,5,6] (fun st => st.2.1 ≤ s.length + 1 ∧ (st.1 ≤ s.length → st.2.1 ≤ st.1) ∧ st.2.2.2.1.length ≤ st.1 ∧ st.2.2.2.1.length ≤ 4001 ∧ st.1 ≤ s.length + 1 ∧ (st.2.2.2.2 = (decide (st.1 ≤ s.length))) ∧ (if st.2.2.2.2 then elGo s st.2.1 st.2.2.1 st.1 st.2.2.2.1 else st.2.2.2.1) = elB s) (fun st => s.length + 2 - st.1) (0,0,false,[],true) rfl ⟨Nat.zero_le _,fun _ => Nat.le_refl _,by simp,by simp,Nat.zero_le _,by simp,rfl⟩ ?_
  rintro ⟨i,fr,q,out,live⟩ ⟨g1,g2,g3,g5,g6,g7,g4⟩
  have g1 : fr ≤ s.length + 1 := g1
  have g2 : i ≤ s.length → fr ≤ i := g2
  have g3 : out.length ≤ i := g3
  have g5 : out.length ≤ 4001 := g5
  have g6 : i ≤ s.length + 1 := g6
  have g7 : live = decide (i ≤ s.length) := g7
  have g4 : (if live then elGo s fr q i out else out) = elB s := g4
  simp only [go_sem,hs9]
  try (with_reducible intro hlen2)
  refine Or.elim (Classical.em (i ≤ s.length)) (fun hle => ?_) fun hle => ?_
  · have g2 := g2 hle
    rw [decide_eq_true hle] at g7
    rw [g7,if_pos rfl] at g4
    have hlei : ((i : Int) ≤ (s.length : Int)) := by omega
    have hw : IntKind.i64.wrap ((i : Int) + 1) = ((i + 1 : Nat) : Int) := by rw [IntKind.wrap_i64]; omega
    have hw2 : IntKind.i64.wrap (((i + 1 : Nat) : Int) + 1) = ((i + 2 : Nat) : Int) := by rw [IntKind.wrap_i64]; omega
    have gf : ((fr : Int) ≤ (i : Int)) := by omega
    have hln : ((s.drop fr).take (i - fr)).length ≤ 4000 := by rw [List.length_take,List.length_drop]; omega
    have hln9 : ((s.drop fr).take (i - fr)).length ≤ 9223372036854775807 := by omega
    have h85 := c93 ((s.drop fr).take (i - fr)) hln9
    have hso : (rowsS out).length + 1 ≤ 9223372036854775807 := by rw [rowsS_length]; omega
    have htl := trimB_len ((s.drop fr).take (i - fr))
    have htl9 : (trimB ((s.drop fr).take (i - fr))).length ≤ 9223372036854775807 := by omega
    simp only [go_sem,hs9,hle]
    by_cases hend : i = s.length
    · have heq : ((i : Int) == (s.length : Int)) = true := by rw [beq_iff_eq]; omega
      have hdt : (s.drop fr).take (i - fr) = s.drop fr := List.take_of_length_le (by rw [List.length_drop]; omega)
      have gz : addE out (trimB ((s.drop fr).take (i - fr))) = elB s := by rw [hdt]; exact (elGo_end (by omega)).symm.trans g4
      generalize hE : (s.drop fr).take (i - fr) = el at h85 htl htl9 gz hln hln9
      cases hz : trimB el == []
      · have hlp : (0 : Int) < ((trimB el).length : Int) := by
          have : trimB el ≠ [] := by rw [beq_eq_false_iff_ne] at hz; exact hz
          have := List.length_pos_iff.2 this
          omega
        have hA := sd_addE (out := out) hz
        cases ho : rowsS out with
        | nil =>
          rw [ho] at hA hso
          simp only [go_sem,reduceCtorEq,hE,sd_nil,g2,hle,heq]
          refine ev_call h85 (retW0 rfl rfl rfl rfl) ?_
          simp only [go_sem,Nat.reduceLeDiff,Nat.reduceLT,Nat.reduceAdd,Nat.reduceMul,Nat.reduceBNe,Nat.reduceEqDiff,reduceCtorEq,Nat.reduceDiv,Nat.reduceMod,hlp,htl9,hw]
          try (with_reducible intro hlen3)
          try simp only [go_sem]
          refine ⟨(i + 1,i + 1,q,addE out (trimB el),false),?_,⟨by show i + 1 ≤ s.length + 1; omega,fun h => absurd h (by show ¬ i + 1 ≤ s.length; omega),by show (addE out (trimB el)).length ≤ i + 1; have := addE_len out (trimB el); omega,by show (addE out (trimB el)).length ≤ 4001; have := addE_len out (trimB el); omega,by show i + 1 ≤ s.length + 1; omega,(decide_eq_false (by show ¬ i + 1 ≤ s.length; omega)).symm,by rw [if_neg (by simp)]; exact gz⟩,by show s.length + 2 - (i + 1) < s.length + 2 - i; omega⟩
          dsimp only
          rw [hA]
          rfl
        | cons x xs =>
          have hlx : xs.length + 1 = out.length := by rw [← rowsS_length out,ho]; rfl
          rw [ho] at hA hso
          simp only [go_sem,reduceCtorEq,hE,sd_cons,g2,hle,heq]
          refine ev_call h85 (retW0 rfl rfl rfl rfl) ?_
          simp only [go_sem,Nat.reduceLeDiff,Nat.reduceLT,Nat.reduceAdd,Nat.reduceMul,Nat.reduceBNe,Nat.reduceEqDiff,reduceCtorEq,Nat.reduceDiv,Nat.reduceMod,hlp,htl9,hw]
          try (with_reducible intro hlen3)
          try simp only [go_sem]
          with_reducible refine And.intro (by omega) ?_
          refine ⟨(i + 1,i + 1,q,addE out (trimB el),false),?_,⟨by show i + 1 ≤ s.length + 1; omega,fun h => absurd h (by show ¬ i + 1 ≤ s.length; omega),by show (addE out (trimB el)).length ≤ i + 1; have := addE_len out (trimB el); omega,by show (addE out (trimB el)).length ≤ 4001; have := addE_len out (trimB el); omega,by show i + 1 ≤ s.length + 1; omega,(decide_eq_false (by show ¬ i + 1 ≤ s.length; omega)).symm,by rw [if_neg (by simp)]; exact gz⟩,by show s.length + 2 - (i + 1) < s.length + 2 - i; omega⟩
          dsimp only
          rw [hA]
          rfl
      · have hlp : ¬ (0 : Int) < ((trimB el).length : Int) := by
          have : trimB el = [] := by simpa using hz
          rw [this]; simp
        have hA := addE_nil (out := out) hz
        cases ho : rowsS out with
        | nil =>
          simp only [go_sem,reduceCtorEq,hE,sd_nil,g2,hle,heq]
          refine ev_call h85 (retW0 rfl rfl rfl rfl) ?_
          simp only [go_sem,Nat.reduceAdd,Nat.reduceBNe,hlp,htl9,hw]
          refine ⟨(i + 1,i + 1,q,addE out (trimB el),false),?_,⟨by show i + 1 ≤ s.length + 1; omega,fun h => absurd h (by show ¬ i + 1 ≤ s.length; omega),by show (addE out (trimB el)).length ≤ i + 1; have := addE_len out (trimB el); omega,by show (addE out (trimB el)).length ≤ 4001; have := addE_len out (trimB el); omega,by show i + 1 ≤ s.length + 1; omega,(decide_eq_false (by show ¬ i + 1 ≤ s.length; omega)).symm,by rw [if_neg (by simp)]; exact gz⟩,by show s.length + 2 - (i + 1) < s.length + 2 - i; omega⟩
          dsimp only
          rw [hA,ho]
          rfl
        | cons x xs =>
          simp only [go_sem,reduceCtorEq,hE,sd_cons,g2,hle,heq]
          refine ev_call h85 (retW0 rfl rfl rfl rfl) ?_
          simp only [go_sem,Nat.reduceAdd,Nat.reduceBNe,hlp,htl9,hw]
          refine ⟨(i + 1,i + 1,q,addE out (trimB el),false),?_,⟨by show i + 1 ≤ s.length + 1; omega,fun h => absurd h (by show ¬ i + 1 ≤ s.length; omega),by show (addE out (trimB el)).length ≤ i + 1; have := addE_len out (trimB el); omega,by show (addE out (trimB el)).length ≤ 4001; have := addE_len out (trimB el); omega,by show i + 1 ≤ s.length + 1; omega,(decide_eq_false (by show ¬ i + 1 ≤ s.length; omega)).symm,by rw [if_neg (by simp)]; exact gz⟩,by show s.length + 2 - (i + 1) < s.length + 2 - i; omega⟩
          dsimp only
          rw [hA,ho]
          rfl
    have hi : i < s.length := by omega
    have heq : ((i : Int) == (s.length : Int)) = false := by rw [beq_eq_false_iff_ne]; omega
    have k34 : (((s.getD i 0).toNat : Int) == 34) = decide (s.getD i 0 = 34) := byte_is (s.getD i 0) 34 (by decide)
    have k92 : (((s.getD i 0).toNat : Int) == 92) = decide (s.getD i 0 = 92) := byte_is (s.getD i 0) 92 (by decide)
    have k44 : (((s.getD i 0).toNat : Int) == 44) = decide (s.getD i 0 = 44) := byte_is (s.getD i 0) 44 (by decide)
    by_cases hq : s.getD i 0 = 34
    · rw [decide_eq_true hq] at k34
      have e44 : ¬ s.getD i 0 = 44 := by rw [hq]; decide
      rw [decide_eq_false e44] at k44
      cases q with
      | true =>
        simp only [go_sem,Nat.reduceBNe,heq,hi,k34,hw]
        refine ⟨(i + 1,fr,false,out,true),?_,⟨g1,fun _ => by show fr ≤ i + 1; omega,by show out.length ≤ i + 1; omega,g5,by show i + 1 ≤ s.length + 1; omega,(decide_eq_true (by show i + 1 ≤ s.length; omega)).symm,by rw [if_pos rfl]; exact (elGo_q hi hq).symm.trans g4⟩,by show s.length + 2 - (i + 1) < s.length + 2 - i; omega⟩
        dsimp only
        generalize rowsS out = R
        cases R <;> rfl
      | false =>
        simp only [go_sem,Nat.reduceBNe,heq,hi,k34,k44,hw]
        refine ⟨(i + 1,fr,true,out,true),?_,⟨g1,fun _ => by show fr ≤ i + 1; omega,by show out.length ≤ i + 1; omega,g5,by show i + 1 ≤ s.length + 1; omega,(decide_eq_true (by show i + 1 ≤ s.length; omega)).symm,by rw [if_pos rfl]; exact (elGo_q hi hq).symm.trans g4⟩,by show s.length + 2 - (i + 1) < s.length + 2 - i; omega⟩
        dsimp only
        generalize rowsS out = R
        cases R <;> rfl
    rw [decide_eq_false hq] at k34
    cases q with
    | true =>
      by_cases hb : s.getD i 0 = 92
      · rw [decide_eq_true hb] at k92
        by_cases hl : i + 1 < s.length
        · have hl1 : ((i + 1 : Nat) : Int) < (s.length : Int) := by omega
          simp only [go_sem,Nat.reduceBNe,hs9,heq,hi,k34,k92,hw,hw2,hl1]
          refine ⟨(i + 2,fr,true,out,true),?_,⟨g1,fun _ => by show fr ≤ i + 2; omega,by show out.length ≤ i + 2; omega,g5,by show i + 2 ≤ s.length + 1; omega,(decide_eq_true (by show i + 2 ≤ s.length; omega)).symm,by rw [if_pos rfl]; exact (elGo_b hi hq hb).symm.trans g4⟩,by show s.length + 2 - (i + 2) < s.length + 2 - i; omega⟩
          dsimp only
          generalize rowsS out = R
          cases R <;> rfl
        · have hl1 : ¬ ((i + 1 : Nat) : Int) < (s.length : Int) := by omega
          simp only [go_sem,Nat.reduceBNe,hs9,heq,hi,k34,k92,hw,hl1]
          refine ⟨(i + 1,fr,true,out,true),?_,⟨g1,fun _ => by show fr ≤ i + 1; omega,by show out.length ≤ i + 1; omega,g5,by show i + 1 ≤ s.length + 1; omega,(decide_eq_true (by show i + 1 ≤ s.length; omega)).symm,by rw [if_pos rfl]; exact (elGo_end (by omega)).trans ((elGo_end (by omega)).symm.trans ((elGo_b hi hq hb).symm.trans g4))⟩,by show s.length + 2 - (i + 1) < s.length + 2 - i; omega⟩
          dsimp only
          generalize rowsS out = R
          cases R <;> rfl
      · rw [decide_eq_false hb] at k92
        simp only [go_sem,Nat.reduceBNe,heq,hi,k34,k92,hw]
        refine ⟨(i + 1,fr,true,out,true),?_,⟨g1,fun _ => by show fr ≤ i + 1; omega,by show out.length ≤ i + 1; omega,g5,by show i + 1 ≤ s.length + 1; omega,(decide_eq_true (by show i + 1 ≤ s.length; omega)).symm,by rw [if_pos rfl]; exact (elGo_n hi hq (fun h => hb h.2) (by simp)).symm.trans g4⟩,by show s.length + 2 - (i + 1) < s.length + 2 - i; omega⟩
        dsimp only
        generalize rowsS out = R
        cases R <;> rfl
    | false =>
      by_cases hb : s.getD i 0 = 44
      · rw [decide_eq_true hb] at k44
        have gz := (elGo_c (fr := fr) (out := out) hi hq hb).symm.trans g4
        generalize hE : (s.drop fr).take (i - fr) = el at h85 htl htl9 gz hln hln9
        cases hz : trimB el == []
        · have hlp : (0 : Int) < ((trimB el).length : Int) := by
            have : trimB el ≠ [] := by rw [beq_eq_false_iff_ne] at hz; exact hz
            have := List.length_pos_iff.2 this
            omega
          have hA := sd_addE (out := out) hz
          cases ho : rowsS out with
          | nil =>
            rw [ho] at hA hso
            simp only [go_sem,hE,sd_nil,g2,hle,heq,hi,k44]
            refine ev_call h85 (retW0 rfl rfl rfl rfl) ?_
            simp only [go_sem,Nat.reduceLeDiff,Nat.reduceLT,Nat.reduceAdd,Nat.reduceMul,Nat.reduceBNe,Nat.reduceEqDiff,reduceCtorEq,Nat.reduceDiv,Nat.reduceMod,hlp,htl9,hw]
            try (with_reducible intro hlen3)
            try simp only [go_sem]
            refine ⟨(i + 1,i + 1,false,addE out (trimB el),true),?_,⟨by show i + 1 ≤ s.length + 1; omega,fun _ => Nat.le_refl _,by show (addE out (trimB el)).length ≤ i + 1; have := addE_len out (trimB el); omega,by show (addE out (trimB el)).length ≤ 4001; have := addE_len out (trimB el); omega,by show i + 1 ≤ s.length + 1; omega,(decide_eq_true (by show i + 1 ≤ s.length; omega)).symm,by rw [if_pos rfl]; exact gz⟩,by show s.length + 2 - (i + 1) < s.length + 2 - i; omega⟩
            dsimp only
            rw [hA]
            rfl
          | cons x xs =>
            have hlx : xs.length + 1 = out.length := by rw [← rowsS_length out,ho]; rfl
            rw [ho] at hA hso
            simp only [go_sem,hE,sd_cons,g2,hle,heq,hi,k44]
            refine ev_call h85 (retW0 rfl rfl rfl rfl) ?_
            simp only [go_sem,Nat.reduceLeDiff,Nat.reduceLT,Nat.reduceAdd,Nat.reduceMul,Nat.reduceBNe,Nat.reduceEqDiff,reduceCtorEq,Nat.reduceDiv,Nat.reduceMod,hlp,htl9,hw]
            try (with_reducible intro hlen3)
            try simp only [go_sem]
            with_reducible refine And.intro (by omega) ?_
            refine ⟨(i + 1,i + 1,false,addE out (trimB el),true),?_,⟨by show i + 1 ≤ s.length + 1; omega,fun _ => Nat.le_refl _,by show (addE out (trimB el)).length ≤ i + 1; have := addE_len out (trimB el); omega,by show (addE out (trimB el)).length ≤ 4001; have := addE_len out (trimB el); omega,by show i + 1 ≤ s.length + 1; omega,(decide_eq_true (by show i + 1 ≤ s.length; omega)).symm,by rw [if_pos rfl]; exact gz⟩,by show s.length + 2 - (i + 1) < s.length + 2 - i; omega⟩
            dsimp only
            rw [hA]
            rfl
        · have hlp : ¬ (0 : Int) < ((trimB el).length : Int) := by
            have : trimB el = [] := by simpa using hz
            rw [this]; simp
          have hA := addE_nil (out := out) hz
          cases ho : rowsS out with
          | nil =>
            simp only [go_sem,hE,sd_nil,g2,hle,heq,hi,k44]
            refine ev_call h85 (retW0 rfl rfl rfl rfl) ?_
            simp only [go_sem,Nat.reduceAdd,Nat.reduceBNe,hlp,htl9,hw]
            refine ⟨(i + 1,i + 1,false,addE out (trimB el),true),?_,⟨by show i + 1 ≤ s.length + 1; omega,fun _ => Nat.le_refl _,by show (addE out (trimB el)).length ≤ i + 1; have := addE_len out (trimB el); omega,by show (addE out (trimB el)).length ≤ 4001; have := addE_len out (trimB el); omega,by show i + 1 ≤ s.length + 1; omega,(decide_eq_true (by show i + 1 ≤ s.length; omega)).symm,by rw [if_pos rfl]; exact gz⟩,by show s.length + 2 - (i + 1) < s.length + 2 - i; omega⟩
            dsimp only
            rw [hA,ho]
            rfl
          | cons x xs =>
            simp only [go_sem,hE,sd_cons,g2,hle,heq,hi,k44]
            refine ev_call h85 (retW0 rfl rfl rfl rfl) ?_
            simp only [go_sem,Nat.reduceAdd,Nat.reduceBNe,hlp,htl9,hw]
            refine ⟨(i + 1,i + 1,false,addE out (trimB el),true),?_,⟨by show i + 1 ≤ s.length + 1; omega,fun _ => Nat.le_refl _,by show (addE out (trimB el)).length ≤ i + 1; have := addE_len out (trimB el); omega,by show (addE out (trimB el)).length ≤ 4001; have := addE_len out (trimB el); omega,by show i + 1 ≤ s.length + 1; omega,(decide_eq_true (by show i + 1 ≤ s.length; omega)).symm,by rw [if_pos rfl]; exact gz⟩,by show s.length + 2 - (i + 1) < s.length + 2 - i; omega⟩
            dsimp only
            rw [hA,ho]
            rfl
      · rw [decide_eq_false hb] at k44
        simp only [go_sem,Nat.reduceBNe,heq,hi,k34,k44,hw]
        refine ⟨(i + 1,fr,false,out,true),?_,⟨g1,fun _ => by show fr ≤ i + 1; omega,by show out.length ≤ i + 1; omega,g5,by show i + 1 ≤ s.length + 1; omega,(decide_eq_true (by show i + 1 ≤ s.length; omega)).symm,by rw [if_pos rfl]; exact (elGo_n hi hq (by simp) (fun h => hb h.2)).symm.trans g4⟩,by show s.length + 2 - (i + 1) < s.length + 2 - i; omega⟩
        dsimp only
        generalize rowsS out = R
        cases R <;> rfl
  · have hlei : ¬ ((i : Int) ≤ (s.length : Int)) := by omega
    rw [decide_eq_false hle] at g7
    rw [g7,if_neg (by simp)] at g4
    rw [← g4]
    simp only [go_sem,hle]
    generalize rowsS out = R
    cases R with
    | nil =>
      rw [sd_nil]
      simp only [go_sem,Nat.reduceBNe]
      first | exact fin0 (.inr rfl) rfl rfl rfl rfl | trace_state
    | cons y ys =>
      rw [sd_cons]
      simp only [go_sem,Nat.reduceAdd,Nat.reduceBNe,Nat.reduceEqDiff,reduceCtorEq,Nat.reduceDiv,Nat.reduceMod]
      first | exact fin0 (.inr rfl) rfl rfl rfl rfl | trace_state
set_option maxRecDepth 100000
set_option maxHeartbeats 600000
theorem w8 {n : Int} (h : 0 ≤ n ∧ n ≤ 255) : IntKind.u8.wrap n = n := by
  unfold IntKind.wrap
  simp [IntKind.signed,IntKind.bits]
  omega
def hexI (n : Int) : Int := if 48 ≤ n ∧ n ≤ 57 then n - 48 else if 97 ≤ n ∧ n ≤ 102 then n - 87 else if 65 ≤ n ∧ n ≤ 70 then n - 55 else -1
def freeI (n : Int) : Bool := isLowerB n || isUpperB n || isDigitB n || (n == 45) || (n == 46) || (n == 95) || (n == 126)
def hostI (n : Int) : Bool := isLowerB n || isDigitB n || (n == 45) || (n == 46)
def upI (n : Int) : Int := if 97 ≤ n ∧ n ≤ 122 then n - 32 else n
def freeSet : List UInt8 := [45,46,95,126]
theorem lowI_w (n : Int) (h0 : 0 ≤ n) (h1 : n ≤ 255) : lowI n = if 65 ≤ n ∧ n ≤ 90 then n + 32 else n := by
  unfold lowI
  split
  · rw [w8 (by omega)]
  · rfl
theorem c146 (n : Int) : Sem prog 146 ⟨[.v (vC n)],[none]⟩ ⟨[.dead,.v (vB (freeI n))],[none]⟩ := by
  refine sem_fin (cfg := cfg 1) (ts := [.tm 2]) tbOk func146 rfl rfl rfl rfl (fun t h => by cases h) ?_
  simp only [go_sem,Nat.reduceSub,f146,cfg, *]
  repeat' ((first | refine ev_call (c149 _) (retW0 rfl rfl rfl rfl) ?_ | refine ev_call (c100 _) (retW0 rfl rfl rfl rfl) ?_ | refine ev_call (c150 _) (retW0 rfl rfl rfl rfl) ?_ | with_reducible intro _ | split) <;> (try simp only [go_sem,Nat.reduceAdd,Nat.reduceBNe,reduceCtorEq, *]))
  all_goals
    refine fin0 (.inr rfl) rfl rfl rfl ?_
    simp only [shutR,shutD,List.getD_cons_zero,List.getD_cons_succ]
    refine congrArg (fun b => D.v (vB b)) ?_
    grind [freeI,isLowerB,isUpperB,isDigitB]
theorem c148 (n : Int) : Sem prog 148 ⟨[.v (vC n)],[none]⟩ ⟨[.dead,.v (vB (hostI n))],[none]⟩ := by
  refine sem_fin (cfg := cfg 1) (ts := [.tm 2]) tbOk func148 rfl rfl rfl rfl (fun t h => by cases h) ?_
  simp only [go_sem,Nat.reduceSub,f148,cfg, *]
  repeat' ((first | refine ev_call (c149 _) (retW0 rfl rfl rfl rfl) ?_ | refine ev_call (c150 _) (retW0 rfl rfl rfl rfl) ?_ | with_reducible intro _ | split) <;> (try simp only [go_sem,Nat.reduceAdd,Nat.reduceBNe,reduceCtorEq, *]))
  all_goals
    refine fin0 (.inr rfl) rfl rfl rfl ?_
    simp only [shutR,shutD,List.getD_cons_zero,List.getD_cons_succ]
    refine congrArg (fun b => D.v (vB b)) ?_
    grind [hostI,isLowerB,isDigitB]
theorem free_law (n : Int) (h0 : 0 ≤ n) (h1 : n ≤ 255) : (((decide (97 ≤ lowI n) && decide (lowI n ≤ 122)) || isDigitB n) || hasB freeSet n) = freeI n := by
  have h : ∀ k : Nat,k < 256 → (((decide (97 ≤ lowI k) && decide (lowI k ≤ 122)) || isDigitB k) || hasB freeSet k) = freeI k := by decide +kernel
  obtain ⟨k,rfl⟩ : ∃ k : Nat,n = k := ⟨n.toNat,by omega⟩
  exact h k (by omega)
theorem digit_iff (n : Int) : isDigitB n = true ↔ 48 ≤ n ∧ n ≤ 57 := by unfold isDigitB; simp
theorem digit_no (n : Int) : isDigitB n = false ↔ ¬ (48 ≤ n ∧ n ≤ 57) := by rw [← digit_iff]; simp
theorem c130 (n : Int) (h0 : 0 ≤ n) (h1 : n ≤ 255) : Sem prog 130 ⟨[.v (vC n)],[none]⟩ ⟨[.dead,.v (vB (freeI n))],[none]⟩ := by
  have hfl := free_law n h0 h1
  refine sem_fin (cfg := cfg 1) (ts := [.tm 2]) tbOk func130 rfl rfl rfl rfl (fun t h => by cases h) ?_
  simp only [go_sem,Nat.reduceSub,f130,cfg, *]
  repeat' ((first | refine ev_call (c83 _) (retW0 rfl rfl rfl rfl) ?_ | refine ev_call (c84 _) (retW0 rfl rfl rfl rfl) ?_ | refine ev_call (c158 freeSet _ (by decide)) (retW0 rfl rfl rfl rfl) ?_ | with_reducible intro _ | split) <;> (try simp only [go_sem,Nat.reduceLeDiff,Nat.reduceAdd,Nat.reduceBNe,reduceCtorEq, *]))
  all_goals
    refine fin0 (.inr rfl) rfl rfl rfl ?_
    simp only [shutR,shutD,List.getD_cons_zero,List.getD_cons_succ]
    refine congrArg (fun b => D.v (vB b)) ?_
    rw [← hfl]
    grind
theorem c131 (n : Int) (h0 : 0 ≤ n) (h1 : n ≤ 255) : Sem prog 131 ⟨[.v (vC n)],[none]⟩ ⟨[.dead,.v (vC (upI n))],[none]⟩ := by
  refine sem_fin (cfg := cfg 1) (ts := [.tm 2]) tbOk func131 rfl rfl rfl rfl (fun t h => by cases h) ?_
  have hw : 97 ≤ n → IntKind.u8.wrap (n - 32) = n - 32 := fun h => w8 (by omega)
  simp only [go_sem,Nat.reduceSub,f131,cfg]
  repeat' ((first | with_reducible intro _ | split) <;> (try simp only [go_sem,Nat.reduceBNe, *]))
  all_goals
    refine fin0 (.inr rfl) rfl rfl rfl ?_
    simp only [shutR,shutD,List.getD_cons_zero,List.getD_cons_succ]
    refine congrArg (fun b => D.v (vC b)) ?_
    first | (unfold upI; repeat' split <;> omega) | trace_state
theorem c145 (n : Int) (h0 : 0 ≤ n) (h1 : n ≤ 255) : Sem prog 145 ⟨[.v (vC n)],[none]⟩ ⟨[.dead,.v (vI (hexI n))],[none]⟩ := by
  refine sem_fin (cfg := cfg 1) (ts := [.tm 2]) tbOk func145 rfl rfl rfl rfl (fun t h => by cases h) ?_
  have a1 : 48 ≤ n → IntKind.u8.wrap (n - 48) = n - 48 := fun h => w8 (by omega)
  have a2 : 97 ≤ n → IntKind.u8.wrap (n - 97) = n - 97 := fun h => w8 (by omega)
  have a3 : 65 ≤ n → IntKind.u8.wrap (n - 65) = n - 65 := fun h => w8 (by omega)
  have b1 : IntKind.i64.wrap (n - 48) = n - 48 := wrapI (by omega)
  have b2 : IntKind.i64.wrap (n - 97) = n - 97 := wrapI (by omega)
  have b3 : IntKind.i64.wrap (n - 65) = n - 65 := wrapI (by omega)
  have d2 : IntKind.i64.wrap (n - 97 + 10) = n - 87 := by rw [wrapI (by omega)]; omega
  have d3 : IntKind.i64.wrap (n - 65 + 10) = n - 55 := by rw [wrapI (by omega)]; omega
  simp only [go_sem,Nat.reduceSub,Int.reduceNeg,f145,cfg]
  cases hd : isDigitB n
  · have hd' := (digit_no n).1 hd
    refine ev_call (c150 _) (retW0 rfl rfl rfl rfl) ?_
    simp only [go_sem,Nat.reduceAdd,Nat.reduceBNe,hd]
    repeat' ((first | with_reducible intro _ | split) <;> (try simp only [go_sem,Nat.reduceBNe,Int.reduceNeg, *]))
    all_goals
      refine fin0 (.inr rfl) rfl rfl rfl ?_
      simp only [shutR,shutD,List.getD_cons_zero,List.getD_cons_succ]
      refine congrArg (fun b => D.v (vI b)) ?_
      first | (unfold hexI; repeat' split <;> omega) | trace_state
  · have hd' := (digit_iff n).1 hd
    have hd2 := hd'.1
    refine ev_call (c150 _) (retW0 rfl rfl rfl rfl) ?_
    simp only [go_sem,Nat.reduceAdd,Nat.reduceBNe,hd,a1,b1,hd2]
    all_goals
      refine fin0 (.inr rfl) rfl rfl rfl ?_
      simp only [shutR,shutD,List.getD_cons_zero,List.getD_cons_succ]
      refine congrArg (fun b => D.v (vI b)) ?_
      first | (unfold hexI; repeat' split <;> omega) | trace_state
end Go.Proofs.YtplagdnnnkdlnaaGreatDoor.Fw
/- Plain lists: percent signs, hexadecimal digits, pieces. -/
namespace Go.Proofs.YtplagdnnnkdlnaaGreatDoor.Fw
open Go
set_option linter.unusedVariables false
set_option linter.unusedSimpArgs false
def upU (b : UInt8) : UInt8 := if 97 ≤ b.toNat ∧ b.toNat ≤ 122 then UInt8.ofNat (b.toNat - 32) else b
def hv (b c : UInt8) : Int := 16 * hexI b.toNat + hexI c.toNat
def pctP (b c : UInt8) : List UInt8 := if freeI (hv b c) = true then [UInt8.ofNat (hv b c).toNat] else [37,upU b,upU c]
def pct : List UInt8 → List UInt8
  | a :: b :: c :: l => if a = 37 ∧ 0 ≤ hexI b.toNat ∧ 0 ≤ hexI c.toNat then pctP b c ++ pct l else a :: pct (b :: c :: l)
  | l => l
theorem getD_drop {l : List UInt8} {i k : Nat} : (l.drop i).getD k 0 = l.getD (i + k) 0 := by
  rw [List.getD_eq_getElem?_getD,List.getElem?_drop,← List.getD_eq_getElem?_getD]
theorem dropAt {l : List UInt8} {i : Nat} (h : i < l.length) : l.drop i = l.getD i 0 :: l.drop (i + 1) := by
  rw [List.drop_eq_getElem_cons h]; simp [List.getD_eq_getElem?_getD,h]
theorem pct_short {l : List UInt8} (h : l.length < 3) : pct l = l := by
  match l,h with
  | [],_ => rfl
  | [_],_ => rfl
  | [_,_],_ => rfl
  | _ :: _ :: _ :: _,h => simp at h; omega
theorem pct_step1 {l : List UInt8} {i : Nat} (h : i < l.length) (hn : ¬ (l.getD i 0 = 37 ∧ i + 2 < l.length ∧ 0 ≤ hexI (l.getD (i + 1) 0).toNat ∧ 0 ≤ hexI (l.getD (i + 2) 0).toNat)) :
    pct (l.drop i) = l.getD i 0 :: pct (l.drop (i + 1)) := by
  by_cases h2 : i + 2 < l.length
  · rw [dropAt h,dropAt (i := i + 1) (by omega),dropAt (i := i + 1 + 1) (by omega)]
    rw [pct,if_neg]
    rintro ⟨a,b,c⟩
    exact hn ⟨a,h2,b,c⟩
  · rw [pct_short (by simp; omega),pct_short (by simp; omega),← dropAt h]
theorem pct_step3 {l : List UInt8} {i : Nat} (h2 : i + 2 < l.length) (h0 : l.getD i 0 = 37) (hb : 0 ≤ hexI (l.getD (i + 1) 0).toNat) (hc : 0 ≤ hexI (l.getD (i + 2) 0).toNat) :
    pct (l.drop i) = pctP (l.getD (i + 1) 0) (l.getD (i + 2) 0) ++ pct (l.drop (i + 3)) := by
  rw [dropAt (i := i) (by omega),dropAt (i := i + 1) (by omega),dropAt (i := i + 1 + 1) (by omega),pct,if_pos ⟨h0,hb,hc⟩]
theorem pctP_len (b c : UInt8) : (pctP b c).length ≤ 3 := by unfold pctP; split <;> simp
theorem pct_len : ∀ l : List UInt8,(pct l).length ≤ l.length
  | a :: b :: c :: l => by
    have h1 := pct_len l
    have h2 := pct_len (b :: c :: l)
    have h3 := pctP_len b c
    unfold pct
    split
    · simp only [List.length_append,List.length_cons] at *; omega
    · simp only [List.length_cons] at *; omega
  | [] => by simp [pct]
  | [_] => by simp [pct]
  | [_,_] => by simp [pct]
theorem hexI_lt {n : Int} (h0 : 0 ≤ n) (h1 : n ≤ 255) : -1 ≤ hexI n ∧ hexI n ≤ 15 := by
  unfold hexI; repeat' split <;> omega
theorem hexU (b : UInt8) : -1 ≤ hexI b.toNat ∧ hexI b.toNat ≤ 15 := hexI_lt (by omega) (by have := b.toNat_lt; omega)
theorem u255 (b : UInt8) : (b.toNat : Int) ≤ 255 := by have := b.toNat_lt; omega
theorem u0 (b : UInt8) : (0 : Int) ≤ b.toNat := by omega
def hexS : List UInt8 := [48,49,50,51,52,53,54,55,56,57,65,66,67,68,69,70]
theorem upU_nat (b : UInt8) : ((upU b).toNat : Int) = upI b.toNat := by
  have h256 : ∀ n,n < 256 → ((if 97 ≤ n ∧ n ≤ 122 then UInt8.ofNat (n - 32) else UInt8.ofNat n).toNat : Int) = upI (n : Nat) := by decide +kernel
  have h := h256 b.toNat b.toNat_lt
  rw [← h]
  unfold upU
  split
  · rfl
  · simp
theorem hexS_up (b : UInt8) (h : 0 ≤ hexI b.toNat) : hexS.getD (hexI b.toNat).toNat 0 = upU b := by
  have h256 : ∀ n,n < 256 → 0 ≤ hexI (n : Nat) → hexS.getD (hexI (n : Nat)).toNat 0 = (if 97 ≤ n ∧ n ≤ 122 then UInt8.ofNat (n - 32) else UInt8.ofNat n) := by decide +kernel
  rw [h256 b.toNat b.toNat_lt h]
  unfold upU
  split
  · rfl
  · simp
theorem hv_le (b c : UInt8) (hb : 0 ≤ hexI b.toNat) (hc : 0 ≤ hexI c.toNat) : 0 ≤ hv b c ∧ hv b c ≤ 255 := by
  have h1 := hexU b; have h2 := hexU c; unfold hv; omega
theorem hv_hi (b c : UInt8) (hb : 0 ≤ hexI b.toNat) (hc : 0 ≤ hexI c.toNat) : (hv b c).fdiv 16 = hexI b.toNat := by
  have h1 := hexU b; have h2 := hexU c
  unfold hv
  rw [Int.fdiv_eq_ediv_of_nonneg _ (by omega)]
  omega
theorem and15 (n : Nat) (h : n < 256) : IntKind.u8.wrap ((BitVec.ofInt 8 (n : Int) &&& BitVec.ofInt 8 15).toNat : Int) = ((n % 16 : Nat) : Int) := by
  have : ∀ n,n < 256 → IntKind.u8.wrap ((BitVec.ofInt 8 ((n : Nat) : Int) &&& BitVec.ofInt 8 15).toNat : Int) = ((n % 16 : Nat) : Int) := by decide +kernel
  exact this n h
theorem hv_lo (b c : UInt8) (hb : 0 ≤ hexI b.toNat) (hc : 0 ≤ hexI c.toNat) : IntKind.u8.wrap ((BitVec.ofInt 8 (hv b c) &&& BitVec.ofInt 8 15).toNat : Int) = hexI c.toNat := by
  have h1 := hexU b; have h2 := hexU c
  obtain ⟨h3,h4⟩ := hv_le b c hb hc
  have h := and15 (hv b c).toNat (by omega)
  rw [Int.toNat_of_nonneg h3] at h
  rw [h]
  have h5 : hv b c = 16 * hexI b.toNat + hexI c.toNat := rfl
  omega
theorem bytesRows_append {a b : List UInt8} : bytesRows (a ++ b) = bytesRows a ++ bytesRows b := by simp [bytesRows]
theorem sd_app {e : TypeId} {x : List T} {l m : List (List T)} : sd e (m ++ x :: l) = .own e (m ++ x :: l) := by cases m <;> rfl
def valH : List UInt8 → Int → Int
  | [],n => n
  | b :: l,n => valH l (16 * n + hexI b.toNat)
theorem valH_snoc (l : List UInt8) (b : UInt8) : ∀ n,valH (l ++ [b]) n = 16 * valH l n + hexI b.toNat := by
  induction l with
  | nil => intro n; rfl
  | cons a l ih => intro n; exact ih _
theorem hexI_low (n : Int) (h0 : 0 ≤ n) (h1 : n ≤ 255) : hexI n = if isDigitB (lowI n) = true then lowI n - 48 else if 97 ≤ lowI n ∧ lowI n ≤ 102 then lowI n - 87 else -1 := by
  have h : ∀ k : Nat,k < 256 → hexI (k : Nat) = if isDigitB (lowI k) = true then lowI k - 48 else if 97 ≤ lowI k ∧ lowI k ≤ 102 then lowI k - 87 else -1 := by decide +kernel
  obtain ⟨k,rfl⟩ : ∃ k : Nat,n = k := ⟨n.toNat,by omega⟩
  exact h k (by omega)
theorem lowI_le (n : Int) (h0 : 0 ≤ n) (h1 : n ≤ 255) : 0 ≤ lowI n ∧ lowI n ≤ 255 := by
  rw [lowI_w n h0 h1]; split <;> omega
theorem spl_at (c : UInt8) : ∀ (u v : List UInt8),(∀ b,b ∈ u → b ≠ c) → spl c (u ++ c :: v) = u :: spl c v
  | [],v,_ => by simp [spl]
  | b :: u,v,h => by
    have hb := h b List.mem_cons_self
    have ih := spl_at c u v fun x hx => h x (List.mem_cons_of_mem _ hx)
    show spl c (b :: (u ++ c :: v)) = _
    rw [spl,if_neg hb,ih]
theorem spl_none (c : UInt8) : ∀ (u : List UInt8),(∀ b,b ∈ u → b ≠ c) → spl c u = [u]
  | [],_ => by simp [spl]
  | b :: u,h => by
    have hb := h b List.mem_cons_self
    have ih := spl_none c u fun x hx => h x (List.mem_cons_of_mem _ hx)
    rw [spl,if_neg hb,ih]
theorem spl_all (c : UInt8) (q : UInt8 → Bool) : ∀ l : List UInt8,(spl c l).all (fun p => p.all q) = l.all fun b => (b == c) || q b
  | [] => by simp [spl]
  | b :: l => by
    have ih := spl_all c q l
    unfold spl
    by_cases h : b = c
    · subst h
      rw [if_pos rfl]
      simp [ih]
    · rw [if_neg h]
      have hb : (b == c) = false := by simpa using h
      cases hs : spl c l with
      | nil => exact absurd hs (spl_ne c l)
      | cons x xs =>
        rw [hs] at ih
        simp only [List.all_cons,hb,Bool.false_or] at ih ⊢
        rw [← ih,Bool.and_assoc]
theorem upto_hit (c : UInt8) (u v : List UInt8) (h : ∀ b,b ∈ u → b ≠ c) : upto c (u ++ c :: v) = u := by
  unfold upto
  induction u with
  | nil => simp
  | cons b u ih =>
    have hb := h b List.mem_cons_self
    have ih := ih fun x hx => h x (List.mem_cons_of_mem _ hx)
    simp [List.takeWhile_cons,hb,ih]
theorem upto_none (c : UInt8) (u : List UInt8) (h : ∀ b,b ∈ u → b ≠ c) : upto c u = u := by
  unfold upto
  induction u with
  | nil => rfl
  | cons b u ih =>
    have hb := h b List.mem_cons_self
    have ih := ih fun x hx => h x (List.mem_cons_of_mem _ hx)
    simp [List.takeWhile_cons,hb,ih]
theorem split_at' {l : List UInt8} {i : Nat} (h : i < l.length) : l = l.take i ++ l.getD i 0 :: l.drop (i + 1) := by
  rw [← dropAt h,List.take_append_drop]
theorem take_snoc {l : List UInt8} {i : Nat} (h : i < l.length) : l.take (i + 1) = l.take i ++ [l.getD i 0] := by
  rw [List.take_succ_eq_append_getElem h]; simp [List.getD_eq_getElem?_getD,h]
theorem cut_at {l : List UInt8} {f i : Nat} (hf : f ≤ i) (h : i < l.length) : l.drop f = (l.take i).drop f ++ l.getD i 0 :: l.drop (i + 1) := by
  conv => lhs; rw [split_at' h]
  rw [List.drop_append_of_le_length (by simp; omega)]
theorem cut_snoc {l : List UInt8} {f i : Nat} (hf : f ≤ i) (h : i < l.length) : (l.take (i + 1)).drop f = (l.take i).drop f ++ [l.getD i 0] := by
  rw [take_snoc h,List.drop_append_of_le_length (by simp; omega)]
def dotsB (s : List UInt8) : Bool := s == [46] || s == [46,46]
def stepC (o : List (List UInt8)) (s : List UInt8) : List (List UInt8) := if s == [46] then o else if s == [46,46] then o.take (o.length - 1) else o ++ [s]
def normC (g : List (List UInt8)) : List (List UInt8) := if dotsB (g.getD (g.length - 1) []) = true then g.foldl stepC [] ++ [[]] else g.foldl stepC []
def catC (o : List (List UInt8)) : List UInt8 := o.flatMap fun x => 47 :: x
def clean0 (l : List UInt8) : Bool := [47].isPrefixOf l && decide (l.length ≤ 200) && (l.all fun b => visB b.toNat) && !(l.any fun b => [35,63].contains b)
def cleanB (l : List UInt8) : List UInt8 := if clean0 l = true then 47 :: Lib.join (normC (spl 47 ((pct l).drop 1))) [47] else []
theorem step_snoc {g : List (List UInt8)} {i : Nat} (h : i < g.length) : (g.take (i + 1)).foldl stepC [] = stepC ((g.take i).foldl stepC []) (g.getD i []) := by
  rw [List.take_succ_eq_append_getElem h,List.foldl_append]
  simp [List.getD_eq_getElem?_getD,h]
theorem step_len (o : List (List UInt8)) (s : List UInt8) : (stepC o s).length ≤ o.length + 1 := by
  unfold stepC
  split
  · omega
  split
  · rw [List.length_take]; omega
  · simp
theorem foldC_len : ∀ (g o : List (List UInt8)),(g.foldl stepC o).length ≤ o.length + g.length
  | [],o => by simp
  | s :: g,o => by
    have h1 := foldC_len g (stepC o s)
    have h2 := step_len o s
    simp only [List.foldl_cons,List.length_cons]
    omega
theorem step_mem {o : List (List UInt8)} {s x : List UInt8} (h : x ∈ stepC o s) : x ∈ o ∨ x = s := by
  unfold stepC at h
  split at h
  · exact .inl h
  split at h
  · exact .inl (List.mem_of_mem_take h)
  · rcases List.mem_append.1 h with h | h
    · exact .inl h
    · exact .inr (List.mem_singleton.1 h)
theorem foldC_mem : ∀ (g o : List (List UInt8)) (x : List UInt8),x ∈ g.foldl stepC o → x ∈ o ∨ x ∈ g
  | [],o,x,h => .inl h
  | s :: g,o,x,h => by
    rcases foldC_mem g (stepC o s) x h with h | h
    · rcases step_mem h with h | h
      · exact .inl h
      · exact .inr (h ▸ List.mem_cons_self)
    · exact .inr (List.mem_cons_of_mem _ h)
theorem cat_len : ∀ (o : List (List UInt8)) (n : Nat),(∀ x,x ∈ o → x.length ≤ n) → (catC o).length ≤ o.length * (n + 1)
  | [],n,h => by simp [catC]
  | x :: o,n,h => by
    have h1 := cat_len o n fun y hy => h y (List.mem_cons_of_mem _ hy)
    have h2 := h x List.mem_cons_self
    simp only [catC,List.flatMap_cons,List.length_append,List.length_cons,Nat.add_mul] at h1 ⊢
    omega
theorem cat_join (x : List UInt8) (o : List (List UInt8)) : 47 :: Lib.join (x :: o) [47] = catC (x :: o) := by
  have h : ∀ o : List (List UInt8),Lib.joinTail [47] o = catC o := by
    intro o
    induction o with
    | nil => rfl
    | cons y o ih =>
      simp only [Lib.joinTail,List.map_cons,List.flatten_cons,catC,List.flatMap_cons] at ih ⊢
      rw [ih]; rfl
  rw [Lib.join_cons,h]; rfl
theorem norm_len (g : List (List UInt8)) : (normC g).length ≤ g.length + 1 := by
  have := foldC_len g []
  unfold normC
  split <;> simp at this ⊢ <;> omega
theorem norm_mem {g : List (List UInt8)} {x : List UInt8} (h : x ∈ normC g) : x = [] ∨ x ∈ g := by
  unfold normC at h
  split at h
  · rcases List.mem_append.1 h with h | h
    · rcases foldC_mem g [] x h with h | h
      · cases h
      · exact .inr h
    · exact .inl (List.mem_singleton.1 h)
  · rcases foldC_mem g [] x h with h | h
    · cases h
    · exact .inr h
theorem cat_le {l : List UInt8} (h : l.length ≤ 200) : (catC (normC (spl 47 ((pct l).drop 1)))).length ≤ 100000 ∧ (normC (spl 47 ((pct l).drop 1))).length ≤ 202 ∧ (spl 47 ((pct l).drop 1)).length ≤ 201 ∧ ∀ x,x ∈ spl 47 ((pct l).drop 1) → x.length ≤ 200 := by
  have h1 := pct_len l
  have h2 : ((pct l).drop 1).length ≤ 200 := by rw [List.length_drop]; omega
  generalize (pct l).drop 1 = m at h2
  have h3 := spl_len 47 m
  have h4 := List.count_le_length (a := 47) (l := m)
  have h5 := norm_len (spl 47 m)
  have h6 : ∀ x,x ∈ spl 47 m → x.length ≤ 200 := fun x hx => Nat.le_trans (spl_mem 47 m x hx) h2
  refine ⟨?_,by omega,by omega,h6⟩
  have h7 := cat_len (normC (spl 47 m)) 200 fun x hx => by
    rcases norm_mem hx with rfl | hx
    · simp
    · exact h6 x hx
  have h8 : (normC (spl 47 m)).length * (200 + 1) ≤ 202 * 201 := Nat.mul_le_mul_right 201 (by omega)
  omega
theorem join_le {l : List UInt8} (h : l.length ≤ 200) : (Lib.join (normC (spl 47 ((pct l).drop 1))) [47]).length ≤ 100000 := by
  have h1 := (cat_le h).1
  generalize normC (spl 47 ((pct l).drop 1)) = o at h1 ⊢
  cases o with
  | nil => simp [Lib.join]
  | cons x o =>
    rw [← cat_join] at h1
    simp only [List.length_cons] at h1
    omega
theorem clean_len (l : List UInt8) : (cleanB l).length ≤ 100001 := by
  unfold cleanB
  split
  · rename_i h
    unfold clean0 at h
    simp only [Bool.and_eq_true,decide_eq_true_eq] at h
    have := join_le h.1.1.2
    simp only [List.length_cons]; omega
  · simp
end Go.Proofs.YtplagdnnnkdlnaaGreatDoor.Fw
/- Contracts: pieces of a text. -/
namespace Go.Proofs.YtplagdnnnkdlnaaGreatDoor.Fw
open Go
open Go.Proofs.Tryz
set_option maxRecDepth 100000
set_option maxHeartbeats 600000
set_option linter.unusedSimpArgs false
set_option linter.unusedVariables false
attribute [local congr] c_bnd c_slot c_cell c_all c_len c_chk c_asm c_opdR c_wp c_pwp c_pOps c_Done c_nx c_blk c_fin c_rowsR c_leafR c_opdsR c_coeLeaf c_coeLeaves c_lendLeaf c_lendLeaves c_coeCapt c_argR c_argsR c_boundR c_partsR c_srcR c_mfgo c_ite c_wpF c_OutF c_pHead c_pDraw
theorem c33 (l : List UInt8) (c : UInt8) (hl : l.length ≤ 1048576) : Sem prog 33 ⟨[.v (vS l),.v (vC c.toNat)],[none,none]⟩ ⟨[.dead,.dead,.v (vS (upto c l))],[none,none]⟩ := by
  refine sem_fin (cfg := cfg 2) (ts := [.tm 4]) tbOk func33 rfl rfl rfl rfl (fun t h => by cases h) ?_
  have hL : l.length ≤ 9223372036854775807 := by omega
  simp only [go_sem,Nat.reduceSub,f33,cfg]
  refine loop_on (fun i : Nat => ⟨[.v (vS l),.v (vC c.toNat),.dead,.dead,.v (vS []),.v (vI i),.dead,.dead,.dead,.dead,.dead,.dead,.dead,.dead,.dead,.dead,.dead,.dead,.dead,.dead,.dead],List.replicate 21 none⟩) [0,1,4,5] (fun i => i ≤ l.length ∧ ∀ b,b ∈ l.take i → b ≠ c) (fun i => l.length - i) 0 rfl ⟨by omega,by simp⟩ ?_
  intro i ⟨hi,hall⟩
  simp only [go_sem]
  try (with_reducible intro hlen)
  by_cases hc : i < l.length
  · have hw := wrapN hc hL
    by_cases hb : l.getD i 0 = c
    · have e2 : (((l.getD i 0).toNat : Int) == c.toNat) = true := by rw [hb]; simp
      have hu : upto c l = l.take i := by
        conv => lhs; rw [split_at' hc,hb]
        exact upto_hit c _ _ hall
      simp only [go_sem,Nat.reduceBNe,hc,hi,e2]
      first | (refine fin0 (.inr rfl) rfl rfl rfl ?_; rw [hu]; rfl) | trace_state
    · have e2 : (((l.getD i 0).toNat : Int) == c.toNat) = false := by
        rw [beq_eq_false_iff_ne]; intro e; exact hb (UInt8.toNat_inj.1 (by omega))
      simp only [go_sem,Nat.reduceBNe,hc,e2,hw]
      exact ⟨i + 1,rfl,⟨hc,by rw [take_snoc hc]; intro b h; rcases List.mem_append.1 h with h | h; exact hall b h; rw [List.mem_singleton] at h; rw [h]; exact hb⟩,by omega⟩
  · simp only [go_sem,Nat.reduceBNe,hc]
    have hu : upto c l = l := upto_none c l (by rw [List.take_of_length_le (by omega)] at hall; exact hall)
    first | (refine fin0 (.inr rfl) rfl rfl rfl ?_; rw [hu]; rfl) | trace_state
theorem c86 (l : List UInt8) (c : UInt8) (hl : l.length ≤ 1048576) : Sem prog 86 ⟨[.v (vS l),.v (vC c.toNat)],[none,none]⟩ ⟨[.dead,.dead,sd 9 (rowsS (spl c l))],[none,none]⟩ := by
  refine sem_fin (cfg := cfg 2) (ts := [.tm 4]) tbOk func86 rfl rfl rfl rfl (fun t h => by cases h) ?_
  have hL : l.length ≤ 9223372036854775807 := by omega
  have hlen := spl_len c l
  have hcn := List.count_le_length (a := c) (l := l)
  simp only [go_sem,Nat.reduceSub,f86,cfg]
  refine loop_on (fun s : Nat × Nat × List (List UInt8) => ⟨[.v (vS l),.v (vC c.toNat),.dead,.dead,.nil,sd 9 (rowsS s.2.2),.v (vI s.2.1),.v (vI s.1),.dead,.dead,.dead,.dead,.dead,.dead,.dead,.dead,.dead,.dead,.dead,.dead,.dead,.dead,.dead,.dead,.dead,.dead,.dead,.dead,.dead,.dead,.dead,.dead,.dead,.dead,.dead],List.replicate 35 none⟩) [0,1,4,5,6,7] (fun s => (s.1 ≤ l.length ∧ s.2.1 ≤ s.1 ∧ s.2.2 ++ spl c (l.drop s.2.1) = spl c l ∧ ∀ b,b ∈ (l.take s.1).drop s.2.1 → b ≠ c) ∨ (s.1 = l.length + 1 ∧ s.2.2 = spl c l)) (fun s => l.length + 1 - s.1) (0,0,[]) rfl (.inl ⟨by simp,by simp,by simp,by simp⟩) ?_
  rintro ⟨i,f,out⟩ hinv
  simp only at hinv
  generalize hacc : rowsS out = acc
  rcases hinv with ⟨hi,hfi,hsp,hno⟩ | ⟨hi,hsp⟩
  · have hol : out.length ≤ l.length + 1 := by
      have := congrArg List.length hsp
      rw [List.length_append] at this
      omega
    cases acc with
    | nil =>
      simp only [go_sem,sd_nil]
      try (with_reducible intro hlen)
      have hlo : (1 : Nat) * 16 ≤ 140737488355328 := by omega
      by_cases hc : i < l.length
      · have hw := wrapN hc hL
        have hne : ¬ ((i : Int) = (l.length : Int)) := by omega
        have hneb : ((i : Int) == (l.length : Int)) = false := by rw [beq_eq_false_iff_ne]; exact hne
        by_cases hb : l.getD i 0 = c
        · have e2 : (((l.getD i 0).toNat : Int) == c.toNat) = true := by rw [hb]; simp
          simp only [go_sem,Nat.reduceLeDiff,Nat.reduceLT,Nat.reduceAdd,Nat.reduceMul,Nat.reduceBNe,Nat.reduceEqDiff,reduceCtorEq,Nat.reduceDiv,Nat.reduceMod,hc,hi,hL,e2,hw,hneb,hfi,hlo]
          refine ⟨(i + 1,i + 1,out ++ [(l.take i).drop f]),?_,.inl ⟨hc,Nat.le_refl _,?_,by simp⟩,by simp only; omega⟩
          · first | (rw [rowsS_snoc,hacc,List.drop_take]; rfl) | (rw [rowsS_snoc,hacc,List.take_length]; rfl)
          · rw [← hsp,cut_at hfi hc,hb,spl_at c _ _ hno]; simp
        · have e2 : (((l.getD i 0).toNat : Int) == c.toNat) = false := by
            rw [beq_eq_false_iff_ne]; intro e; exact hb (UInt8.toNat_inj.1 (by omega))
          simp only [go_sem,Nat.reduceBNe,hc,hi,hL,e2,hw,hneb]
          refine ⟨(i + 1,f,out),by rw [hacc]; rfl,.inl ⟨hc,by simp only; omega,hsp,?_⟩,by simp only; omega⟩
          intro b h
          rw [cut_snoc hfi hc] at h
          rcases List.mem_append.1 h with h | h
          · exact hno b h
          · rw [List.mem_singleton] at h; rw [h]; exact hb
      · have he : i = l.length := by omega
        subst he
        have hw : IntKind.i64.wrap ((l.length : Int) + 1) = ((l.length + 1 : Nat) : Int) := by rw [wrapI (by omega)]; omega
        simp only [go_sem,Nat.reduceLeDiff,Nat.reduceLT,Nat.reduceAdd,Nat.reduceMul,Nat.reduceBNe,Nat.reduceEqDiff,reduceCtorEq,Nat.reduceDiv,Nat.reduceMod,hL,hw,hfi,hlo]
        refine ⟨(l.length + 1,l.length + 1,out ++ [(l.take l.length).drop f]),?_,.inr ⟨rfl,?_⟩,by simp only; omega⟩
        · first | (rw [rowsS_snoc,hacc,List.drop_take]; rfl) | (rw [rowsS_snoc,hacc,List.take_length]; rfl)
        · rw [← hsp]
          rw [List.take_length] at hno ⊢
          rw [spl_none c _ hno]
    | cons x xs =>
      simp only [go_sem,sd_cons]
      try (with_reducible intro hlen)
      have hlo : (xs.length + 1 + 1) * 16 ≤ 140737488355328 := by have h9 := congrArg List.length hacc; rw [rowsS_length] at h9; simp only [List.length_cons] at h9; omega
      by_cases hc : i < l.length
      · have hw := wrapN hc hL
        have hne : ¬ ((i : Int) = (l.length : Int)) := by omega
        have hneb : ((i : Int) == (l.length : Int)) = false := by rw [beq_eq_false_iff_ne]; exact hne
        by_cases hb : l.getD i 0 = c
        · have e2 : (((l.getD i 0).toNat : Int) == c.toNat) = true := by rw [hb]; simp
          simp only [go_sem,Nat.reduceLeDiff,Nat.reduceLT,Nat.reduceAdd,Nat.reduceMul,Nat.reduceBNe,Nat.reduceEqDiff,reduceCtorEq,Nat.reduceDiv,Nat.reduceMod,hc,hi,hL,e2,hw,hneb,hfi,hlo]
          refine ⟨(i + 1,i + 1,out ++ [(l.take i).drop f]),?_,.inl ⟨hc,Nat.le_refl _,?_,by simp⟩,by simp only; omega⟩
          · first | (rw [rowsS_snoc,hacc,List.drop_take]; rfl) | (rw [rowsS_snoc,hacc,List.take_length]; rfl)
          · rw [← hsp,cut_at hfi hc,hb,spl_at c _ _ hno]; simp
        · have e2 : (((l.getD i 0).toNat : Int) == c.toNat) = false := by
            rw [beq_eq_false_iff_ne]; intro e; exact hb (UInt8.toNat_inj.1 (by omega))
          simp only [go_sem,Nat.reduceBNe,hc,hi,hL,e2,hw,hneb]
          refine ⟨(i + 1,f,out),by rw [hacc]; rfl,.inl ⟨hc,by simp only; omega,hsp,?_⟩,by simp only; omega⟩
          intro b h
          rw [cut_snoc hfi hc] at h
          rcases List.mem_append.1 h with h | h
          · exact hno b h
          · rw [List.mem_singleton] at h; rw [h]; exact hb
      · have he : i = l.length := by omega
        subst he
        have hw : IntKind.i64.wrap ((l.length : Int) + 1) = ((l.length + 1 : Nat) : Int) := by rw [wrapI (by omega)]; omega
        simp only [go_sem,Nat.reduceLeDiff,Nat.reduceLT,Nat.reduceAdd,Nat.reduceMul,Nat.reduceBNe,Nat.reduceEqDiff,reduceCtorEq,Nat.reduceDiv,Nat.reduceMod,hL,hw,hfi,hlo]
        refine ⟨(l.length + 1,l.length + 1,out ++ [(l.take l.length).drop f]),?_,.inr ⟨rfl,?_⟩,by simp only; omega⟩
        · first | (rw [rowsS_snoc,hacc,List.drop_take]; rfl) | (rw [rowsS_snoc,hacc,List.take_length]; rfl)
        · rw [← hsp]
          rw [List.take_length] at hno ⊢
          rw [spl_none c _ hno]
  · have hni : ¬ (i ≤ l.length) := by omega
    cases acc with
    | nil =>
      simp only [go_sem,Nat.reduceBNe,sd_nil,hni,hL]
      first | (refine fin0 (.inr rfl) rfl rfl rfl ?_; rw [← hsp,hacc]; rfl) | trace_state
    | cons x xs =>
      simp only [go_sem,Nat.reduceAdd,Nat.reduceBNe,Nat.reduceEqDiff,reduceCtorEq,Nat.reduceDiv,Nat.reduceMod,sd_cons,hni,hL]
      first | (refine fin0 (.inr rfl) rfl rfl rfl ?_; rw [← hsp,hacc]; rfl) | trace_state
theorem c129 (l : List UInt8) (hl : 1 ≤ l.length ∧ l.length ≤ 7) : Sem prog 129 ⟨[.v (vS l)],[none]⟩ ⟨[.dead,.tup [.v (vI (if l.all (fun b => decide (0 ≤ hexI b.toNat)) = true then valH l 0 else 0)),.v (vB (l.all fun b => decide (0 ≤ hexI b.toNat)))]],[none]⟩ := by
  refine sem_fin (cfg := cfg 1) (ts := [.tm 2,.tm 3]) tbOk func129 rfl rfl rfl rfl (fun t h => by cases h) ?_
  have hL : l.length ≤ 9223372036854775807 := by omega
  have z1 : ¬ ((l.length : Int) = 0) := by omega
  have z1b : ((l.length : Int) == 0) = false := by rw [beq_eq_false_iff_ne]; exact z1
  have z2 : ¬ ((7 : Int) < (l.length : Int)) := by omega
  have z3 : ¬ (7 < l.length) := by omega
  simp only [go_sem,Nat.reduceSub,f129,cfg,z1b,z2,hL]
  refine loop_on (fun i : Nat => ⟨[.v (vS l),.dead,.v (vI 0),.v (vB false),.v (vI (valH (l.take i) 0)),.v (vI i),.dead,.dead,.dead,.dead,.dead,.dead,.dead,.dead,.dead,.dead,.dead,.dead,.dead,.dead,.dead,.dead,.dead,.dead,.dead,.dead,.dead,.dead,.dead,.dead,.dead,.dead,.dead,.dead,.dead,.dead,.dead,.dead,.dead,.dead,.dead,.dead,.dead,.dead,.dead,.dead,.dead,.dead,.dead],List.replicate 49 none⟩) [0,2,3,4,5] (fun i => i ≤ l.length ∧ (l.take i).all (fun b => decide (0 ≤ hexI b.toNat)) = true ∧ 0 ≤ valH (l.take i) 0 ∧ valH (l.take i) 0 < 16 ^ i) (fun i => l.length - i) 0 rfl ⟨by omega,by simp,by simp [valH],by simp [valH]⟩ ?_
  intro i ⟨hi,hall,hv0,hv1⟩
  generalize hvv : valH (l.take i) 0 = v at hv0 hv1 ⊢
  have hv2 : v < 268435456 := Int.lt_of_lt_of_le hv1 (by
    have : (16 : Int) ^ i ≤ 16 ^ 7 := by exact_mod_cast Nat.pow_le_pow_right (by decide) (by omega)
    exact this)
  simp only [go_sem]
  try (with_reducible intro hlen)
  by_cases hc : i < l.length
  · have hw := wrapN hc hL
    have hb0 := u0 (l.getD i 0)
    have hb1 := u255 (l.getD i 0)
    have hlo := lowI_le _ hb0 hb1
    have hlw := hexI_low _ hb0 hb1
    have hsn : valH (l.take (i + 1)) 0 = 16 * v + hexI (l.getD i 0).toNat := by rw [take_snoc hc,valH_snoc,hvv]
    have hx16 := hexU (l.getD i 0)
    have hpow : (16 : Int) ^ (i + 1) = 16 ^ i * 16 := rfl
    have m1 : IntKind.i64.wrap (v * 16) = v * 16 := wrapI (by omega)
    simp only [go_sem,hc]
    refine ev_call (c83 _) (retW0 rfl rfl rfl rfl) ?_
    generalize lowI (l.getD i 0).toNat = m at hlo hlw ⊢
    simp only [go_sem,Nat.reduceAdd,Nat.reduceBNe]
    refine ev_call (c84 _) (retW0 rfl rfl rfl rfl) ?_
    cases hd : isDigitB m
    · simp only [go_sem,Nat.reduceAdd,Nat.reduceBNe]
      rw [hd] at hlw
      by_cases hx : 97 ≤ m ∧ m ≤ 102
      · have m2 : IntKind.u8.wrap (m - 97) = m - 97 := w8 (by omega)
        have m3 : IntKind.i64.wrap (m - 97) = m - 97 := wrapI (by omega)
        have m4 : IntKind.i64.wrap (v * 16 + (m - 97)) = v * 16 + (m - 97) := wrapI (by omega)
        have m5 : IntKind.i64.wrap (v * 16 + (m - 97) + 10) = valH (l.take (i + 1)) 0 := by
          rw [wrapI (by omega),hsn,hlw,if_neg (by simp),if_pos hx]; omega
        have hx1 := hx.1
        have hx2 := hx.2
        simp only [go_sem,Nat.reduceBNe,hx1,hx2,m1,m2,m3,m4,m5,hw]
        refine ⟨i + 1,by first | rfl | trace_state,⟨hc,?_,?_,?_⟩,by omega⟩
        · rw [all_take_succ (d := 0) hc,hall]
          rw [if_neg (by simp),if_pos hx] at hlw
          simp only [Bool.true_and,decide_eq_true_eq]; omega
        · rw [hsn]; rw [if_neg (by simp),if_pos hx] at hlw; omega
        · rw [hsn,hpow]; omega
      · have hneg : decide (0 ≤ hexI (l.getD i 0).toNat) = false := by
          rw [hlw,if_neg (by simp),if_neg hx]; rfl
        have hf : (l.all fun b => decide (0 ≤ hexI b.toNat)) = false := all_false_at hc hneg
        rw [hf,if_neg (show ¬ (false = true) from Bool.false_ne_true)]
        repeat' ((first | with_reducible intro _ | split) <;> (try simp only [go_sem,Nat.reduceBNe, *]))
        all_goals first
          | (exfalso; omega)
          | exact fin0 (.inr rfl) rfl rfl rfl rfl
    · have hd' := (digit_iff m).1 hd
      rw [hd,if_pos rfl] at hlw
      have m2 : IntKind.u8.wrap (m - 48) = m - 48 := w8 (by omega)
      have m3 : IntKind.i64.wrap (m - 48) = m - 48 := wrapI (by omega)
      have m4 : IntKind.i64.wrap (v * 16 + (m - 48)) = valH (l.take (i + 1)) 0 := by
        rw [wrapI (by omega),hsn,hlw]; omega
      simp only [go_sem,Nat.reduceAdd,Nat.reduceBNe,m1,m2,m3,m4,hw]
      refine ⟨i + 1,by first | rfl | trace_state,⟨hc,?_,?_,?_⟩,by omega⟩
      · rw [all_take_succ (d := 0) hc,hall]
        simp only [Bool.true_and,decide_eq_true_eq]; omega
      · rw [hsn]; omega
      · rw [hsn,hpow]; omega
  · simp only [go_sem,Nat.reduceBNe,hc]
    rw [List.take_of_length_le (by omega)] at hall hvv
    first | (refine fin0 (.inr rfl) rfl rfl rfl ?_; rw [hall,if_pos rfl,hvv]; rfl) | trace_state
set_option maxRecDepth 100000
set_option maxHeartbeats 600000
theorem hv_hi' (b c : UInt8) (hb : 0 ≤ hexI b.toNat) (hc : 0 ≤ hexI c.toNat) : (hv b c).fdiv (2 ^ min 4 8) = hexI b.toNat := hv_hi b c hb hc
theorem hv_lo' (b c : UInt8) (hb : 0 ≤ hexI b.toNat) (hc : 0 ≤ hexI c.toNat) : IntKind.u8.wrap ((@HAnd.hAnd (BitVec 8) (BitVec 8) (BitVec 8) (@instHAndOfAndOp (BitVec IntKind.u8.bits) (@BitVec.instAndOp IntKind.u8.bits)) (BitVec.ofInt 8 (hv b c)) (BitVec.ofInt 8 15)).toNat : Int) = hexI c.toNat := hv_lo b c hb hc
theorem hvn (b c : UInt8) (hb : 0 ≤ hexI b.toNat) (hc : 0 ≤ hexI c.toNat) : ((UInt8.ofNat (hv b c).toNat).toNat : Int) = hv b c := by
  obtain ⟨h1,h2⟩ := hv_le b c hb hc
  rw [UInt8.toNat_ofNat',Nat.mod_eq_of_lt (by omega)]
  omega
theorem snoc_own {acc : List (List T)} {out : List UInt8} (b : UInt8) (h : bytesRows out = acc) : sd 5 (bytesRows (out ++ [b])) = .own 5 (acc ++ [[.v (vC b.toNat)]]) := by
  rw [bytesRows_append,h]; exact sd_app
theorem pctP_own1 {acc : List (List T)} {out : List UInt8} (b c : UInt8) (h : bytesRows out = acc) (hb : 0 ≤ hexI b.toNat) (hc : 0 ≤ hexI c.toNat) (hf : freeI (hv b c) = true) : sd 5 (bytesRows (out ++ pctP b c)) = .own 5 (acc ++ [[.v (vC (hv b c))]]) := by
  have e : bytesRows (pctP b c) = [[.v (vC (hv b c))]] := by rw [pctP,if_pos hf]; show [[T.v (vC ((UInt8.ofNat (hv b c).toNat).toNat : Int))]] = _; rw [hvn b c hb hc]
  rw [bytesRows_append,h,e]; exact sd_app
theorem pctP_own3 {acc : List (List T)} {out : List UInt8} (b c : UInt8) (h : bytesRows out = acc) (hf : freeI (hv b c) = false) : sd 5 (bytesRows (out ++ pctP b c)) = .own 5 (acc ++ [[.v (vC 37)],[.v (vC (upU b).toNat)],[.v (vC (upU c).toNat)]]) := by
  rw [bytesRows_append,h,pctP,if_neg (by rw [hf]; simp)]; exact sd_app
theorem c112 (l : List UInt8) (hl : l.length ≤ 1048576) : Sem prog 112 ⟨[.v (vS l)],[none]⟩ ⟨[.dead,.v (vS (pct l))],[none]⟩ := by
  refine sem_fin (cfg := cfg 1) (ts := [.tm 2]) tbOk func112 rfl rfl rfl rfl (fun t h => by cases h) ?_
  have hL : l.length ≤ 9223372036854775807 := by omega
  have hpl := pct_len l
  simp only [go_sem,Nat.reduceSub,f112,cfg]
  refine loop_on (fun s : Nat × List UInt8 => ⟨[.v (vS l),.dead,.v (vS []),sd 5 (bytesRows s.2),.v (vI s.1),.dead,.dead,.dead,.dead,.dead,.dead,.dead,.dead,.dead,.dead,.dead,.dead,.dead,.dead,.dead,.dead,.dead,.dead,.dead,.dead,.dead,.dead,.dead,.dead,.dead,.dead,.dead,.dead,.dead,.dead,.dead,.dead,.dead,.dead,.dead,.dead,.dead,.dead,.dead,.dead,.dead,.dead,.dead,.dead,.dead,.dead,.dead,.dead,.dead,.dead,.dead,.dead,.dead,.dead,.dead,.dead,.dead,.dead,.dead,.dead,.dead,.dead,.dead,.dead,.dead,.dead,.dead,.dead,.dead,.dead,.dead,.dead],List.replicate 77 none⟩) [0,2,3,4] (fun s => s.1 ≤ l.length ∧ s.2 ++ pct (l.drop s.1) = pct l) (fun s => l.length - s.1) (0,[]) rfl ⟨by simp,by simp⟩ ?_
  rintro ⟨i,out⟩ ⟨hi,hsp⟩
  simp only at hi hsp
  have hol : out.length ≤ l.length := by
    have := congrArg List.length hsp
    rw [List.length_append] at this
    omega
  simp only
  generalize hacc : bytesRows out = acc
  cases acc with
  | nil =>
    have hlo : (1 : Nat) * 1 ≤ 140737488355328 := by omega
    have hlo3 : (3 : Nat) * 1 ≤ 140737488355328 := by omega
    have hla : (1 : Nat) ≤ 140737488355328 := by omega
    have hla3 : (3 : Nat) ≤ 140737488355328 := by omega
    simp only [go_sem,sd_nil]
    try (with_reducible intro hlen)
    by_cases hc : i < l.length
    · have hw := wrapN hc hL
      have w2 : IntKind.i64.wrap ((i : Int) + 2) = ((i + 2 : Nat) : Int) := by rw [wrapI (by omega)]; omega
      by_cases h37 : l.getD i 0 = 37
      · have e37 : (((l.getD i 0).toNat : Int) != 37) = false := by rw [h37]; decide
        by_cases hg : i + 2 < l.length
        · have hg1 : i + 1 < l.length := by omega
          have hg2 : ¬ (l.length ≤ i + 2) := by omega
          have x1 := hexU (l.getD (i + 1) 0)
          have x2 := hexU (l.getD (i + 2) 0)
          by_cases hx1 : 0 ≤ hexI (l.getD (i + 1) 0).toNat
          · have hx1' : ¬ (hexI (l.getD (i + 1) 0).toNat < 0) := by omega
            by_cases hx2 : 0 ≤ hexI (l.getD (i + 2) 0).toNat
            · have hx2' : ¬ (hexI (l.getD (i + 2) 0).toNat < 0) := by omega
              have hle := hv_le _ _ hx1 hx2
              have m1 : IntKind.i64.wrap (16 * hexI (l.getD (i + 1) 0).toNat) = 16 * hexI (l.getD (i + 1) 0).toNat := wrapI (by omega)
              have m2 : IntKind.i64.wrap (16 * hexI (l.getD (i + 1) 0).toNat + hexI (l.getD (i + 2) 0).toNat) = hv (l.getD (i + 1) 0) (l.getD (i + 2) 0) := wrapI (by omega)
              have m3 : IntKind.u8.wrap (hv (l.getD (i + 1) 0) (l.getD (i + 2) 0)) = hv (l.getD (i + 1) 0) (l.getD (i + 2) 0) := w8 hle
              have w3 : IntKind.i64.wrap (((i + 2 : Nat) : Int) + 1) = ((i + 3 : Nat) : Int) := by rw [wrapI (by omega)]; omega
              cases hf : freeI (hv (l.getD (i + 1) 0) (l.getD (i + 2) 0))
              · have hhi := hv_hi' _ _ hx1 hx2
                have hlw := hv_lo' _ _ hx1 hx2
                have n1 : ¬ (16 ≤ hexI (l.getD (i + 1) 0).toNat) := by omega
                have n2 : hexI (l.getD (i + 1) 0).toNat < 16 := by omega
                have n3 : hexI (l.getD (i + 2) 0).toNat < 16 := by omega
                have s1 : [48,49,50,51,52,53,54,55,56,57,65,66,67,68,69,70].getD (hexI (l.getD (i + 1) 0).toNat).toNat 0 = upU (l.getD (i + 1) 0) := hexS_up _ hx1
                have s2 : [48,49,50,51,52,53,54,55,56,57,65,66,67,68,69,70].getD (hexI (l.getD (i + 2) 0).toNat).toNat 0 = upU (l.getD (i + 2) 0) := hexS_up _ hx2
                simp only [go_sem,hc,hL,hw,w2,e37,hg1,hg2]
                refine ev_call (c145 _ (u0 _) (u255 _)) (retW0 rfl rfl rfl rfl) ?_
                simp only [go_sem,Nat.reduceAdd,w2,hg,hx1']
                refine ev_call (c145 _ (u0 _) (u255 _)) (retW0 rfl rfl rfl rfl) ?_
                simp only [go_sem,Nat.reduceAdd,hx2']
                refine draw_intro 14 [[46,47,48,49,50,51,52,53,54,55,56,57,5],[45,47,48,49,50,51,52,53,54,55,56,57,5],[45,48,49,50,51,52,53,54,55,56,57,5],[46,49,50,51,52,53,54,55,56,57,5],[45,46,47,50,51,52,53,54,55,56,57,5],[45,46,47,48,51,52,53,54,55,56,57,5],[45,46,47,48,49,50,52,53,54,55,56,57,5],[45,46,47,48,49,50,51,53,54,55,56,57,5],[45,46,47,48,49,50,51,54,55,56,57,5],[45,46,47,48,49,50,52,55,56,57,5],[45,46,47,48,50,51,52,53,56,57,5],[45,46,47,48,49,51,52,53,54,57,5],[45,46,47,48,49,50,51,52,53,54,55,5],[]] mixedOk rfl ?_
                simp only [go_sem,Nat.reduceBEq,hw,hg1]
                refine of_call (c145 _ (u0 _) (u255 _)) (retW0 rfl rfl rfl rfl) rfl rfl rfl ?_
                simp only [go_sem,Nat.reduceBEq,w2,hg]
                refine of_call (c145 _ (u0 _) (u255 _)) (retW0 rfl rfl rfl rfl) rfl rfl rfl ?_
                simp only [go_sem,Nat.reduceBEq,Nat.reduceBNe,m1,m2,m3]
                refine ev_call (c146 _) (retW0 rfl rfl rfl rfl) ?_
                simp only [go_sem,Nat.reduceAdd,hf]
                refine draw_intro 8 [[65,66,67,68,69,70,71],[64,66,67,68,69,70,71],[64,67,68,69,70,71],[64,65,68,69,70,71],[64,65,66,67,69,70,71],[64,65,66,67,70,71],[64,65,66,67,68,71],[64,65,66,68,69]] mixedOk rfl ?_
                simp only [go_sem,Nat.reduceLeDiff,Nat.reduceLT,Nat.reduceAdd,Nat.reduceMul,Nat.reduceBEq,Nat.reduceBNe,Nat.reduceEqDiff,reduceCtorEq,Int.reduceLE,Int.reduceToNat,Nat.reduceDiv,Nat.reduceMod,hhi,hlw,hx1,hx2,n2,n3,s1,s2,hlo3,w2,w3]
                first
                  | (refine ⟨(i + 3,out ++ pctP (l.getD (i + 1) 0) (l.getD (i + 2) 0)),?_,⟨by simp only; omega,?_⟩,by simp only; omega⟩
                     · rw [pctP_own3 _ _ hacc hf]; rfl
                     · rw [← hsp,pct_step3 hg h37 hx1 hx2]; simp)
                  | trace_state
              · simp only [go_sem,hc,hL,hw,w2,e37,hg1,hg2]
                refine ev_call (c145 _ (u0 _) (u255 _)) (retW0 rfl rfl rfl rfl) ?_
                simp only [go_sem,Nat.reduceAdd,w2,hg,hx1']
                refine ev_call (c145 _ (u0 _) (u255 _)) (retW0 rfl rfl rfl rfl) ?_
                simp only [go_sem,Nat.reduceAdd,hx2']
                refine draw_intro 14 [[46,47,48,49,50,51,52,53,54,55,56,57,5],[45,47,48,49,50,51,52,53,54,55,56,57,5],[45,48,49,50,51,52,53,54,55,56,57,5],[46,49,50,51,52,53,54,55,56,57,5],[45,46,47,50,51,52,53,54,55,56,57,5],[45,46,47,48,51,52,53,54,55,56,57,5],[45,46,47,48,49,50,52,53,54,55,56,57,5],[45,46,47,48,49,50,51,53,54,55,56,57,5],[45,46,47,48,49,50,51,54,55,56,57,5],[45,46,47,48,49,50,52,55,56,57,5],[45,46,47,48,50,51,52,53,56,57,5],[45,46,47,48,49,51,52,53,54,57,5],[45,46,47,48,49,50,51,52,53,54,55,5],[]] mixedOk rfl ?_
                simp only [go_sem,Nat.reduceBEq,hw,hg1]
                refine of_call (c145 _ (u0 _) (u255 _)) (retW0 rfl rfl rfl rfl) rfl rfl rfl ?_
                simp only [go_sem,Nat.reduceBEq,w2,hg]
                refine of_call (c145 _ (u0 _) (u255 _)) (retW0 rfl rfl rfl rfl) rfl rfl rfl ?_
                simp only [go_sem,Nat.reduceBEq,Nat.reduceBNe,m1,m2,m3]
                refine ev_call (c146 _) (retW0 rfl rfl rfl rfl) ?_
                simp only [go_sem,Nat.reduceLeDiff,Nat.reduceLT,Nat.reduceAdd,Nat.reduceMul,Nat.reduceBNe,Nat.reduceEqDiff,reduceCtorEq,Nat.reduceDiv,Nat.reduceMod,hf,hlo,w2,w3]
                first
                  | (refine ⟨(i + 3,out ++ pctP (l.getD (i + 1) 0) (l.getD (i + 2) 0)),?_,⟨by simp only; omega,?_⟩,by simp only; omega⟩
                     · rw [pctP_own1 _ _ hacc hx1 hx2 hf]; rfl
                     · rw [← hsp,pct_step3 hg h37 hx1 hx2]; simp)
                  | trace_state
            · have hx2' : hexI (l.getD (i + 2) 0).toNat < 0 := by omega
              simp only [go_sem,hc,hL,hw,w2,e37,hg1,hg2]
              refine ev_call (c145 _ (u0 _) (u255 _)) (retW0 rfl rfl rfl rfl) ?_
              simp only [go_sem,Nat.reduceAdd,w2,hg,hx1']
              refine ev_call (c145 _ (u0 _) (u255 _)) (retW0 rfl rfl rfl rfl) ?_
              simp only [go_sem,Nat.reduceLeDiff,Nat.reduceLT,Nat.reduceAdd,Nat.reduceMul,Nat.reduceBNe,Nat.reduceEqDiff,reduceCtorEq,Nat.reduceDiv,Nat.reduceMod,hlo,hc,hw,hx2']
              first
                | (refine ⟨(i + 1,out ++ [l.getD i 0]),?_,⟨hc,?_⟩,by simp only; omega⟩
                   · rw [snoc_own _ hacc]; rfl
                   · rw [← hsp,pct_step1 hc (fun h => hx2 h.2.2.2)]; simp)
                | trace_state
          · have hx1' : hexI (l.getD (i + 1) 0).toNat < 0 := by omega
            simp only [go_sem,hc,hL,hw,w2,e37,hg1,hg2]
            refine ev_call (c145 _ (u0 _) (u255 _)) (retW0 rfl rfl rfl rfl) ?_
            simp only [go_sem,Nat.reduceLeDiff,Nat.reduceLT,Nat.reduceAdd,Nat.reduceMul,Nat.reduceBNe,Nat.reduceEqDiff,reduceCtorEq,Nat.reduceDiv,Nat.reduceMod,hlo,hc,hw,hx1']
            first
              | (refine ⟨(i + 1,out ++ [l.getD i 0]),?_,⟨hc,?_⟩,by simp only; omega⟩
                 · rw [snoc_own _ hacc]; rfl
                 · rw [← hsp,pct_step1 hc (fun h => hx1 h.2.2.1)]; simp)
              | trace_state
        · have hg2 : l.length ≤ i + 2 := by omega
          simp only [go_sem,Nat.reduceLeDiff,Nat.reduceLT,Nat.reduceAdd,Nat.reduceMul,Nat.reduceBNe,Nat.reduceEqDiff,reduceCtorEq,Nat.reduceDiv,Nat.reduceMod,hlo,hc,hL,hw,e37,w2,hg2]
          first
            | (refine ⟨(i + 1,out ++ [l.getD i 0]),?_,⟨hc,?_⟩,by simp only; omega⟩
               · rw [snoc_own _ hacc]; rfl
               · rw [← hsp,pct_step1 hc (fun h => hg h.2.1)]; simp)
            | trace_state
      · have e37 : (((l.getD i 0).toNat : Int) != 37) = true := by
          rw [bne_iff_ne]; intro e; exact h37 (UInt8.toNat_inj.1 (by rw [show (37 : UInt8).toNat = 37 from rfl]; omega))
        simp only [go_sem,Nat.reduceLeDiff,Nat.reduceLT,Nat.reduceAdd,Nat.reduceMul,Nat.reduceBNe,Nat.reduceEqDiff,reduceCtorEq,Nat.reduceDiv,Nat.reduceMod,hlo,hc,hw,e37]
        first
          | (refine ⟨(i + 1,out ++ [l.getD i 0]),?_,⟨hc,?_⟩,by simp only; omega⟩
             · rw [snoc_own _ hacc]; rfl
             · rw [← hsp,pct_step1 hc (fun h => h37 h.1)]; simp)
          | trace_state
    · have he : i = l.length := by omega
      subst he
      have hsp2 : out = pct l := by rw [← hsp]; simp [pct]
      simp only [go_sem,Nat.reduceBNe,hc]
      first | (refine fin0 (.inr rfl) rfl rfl rfl ?_; rw [show pct l = [] by rw [← hsp2,← rowsBytes_bytesRows out,hacc]; rfl]; rfl) | trace_state
  | cons x xs =>
    have hlo : (xs.length + 1 + 1) * 1 ≤ 140737488355328 := by have h9 := congrArg List.length hacc; rw [bytesRows_length] at h9; simp only [List.length_cons] at h9; omega
    have hlo3 : (xs.length + 1 + 1 + 1 + 1) * 1 ≤ 140737488355328 := by have h9 := congrArg List.length hacc; rw [bytesRows_length] at h9; simp only [List.length_cons] at h9; omega
    have hla : (xs.length + 1 + 1) ≤ 140737488355328 := by have h9 := congrArg List.length hacc; rw [bytesRows_length] at h9; simp only [List.length_cons] at h9; omega
    have hla3 : (xs.length + 1 + 1 + 1 + 1) ≤ 140737488355328 := by have h9 := congrArg List.length hacc; rw [bytesRows_length] at h9; simp only [List.length_cons] at h9; omega
    simp only [go_sem,sd_cons]
    try (with_reducible intro hlen)
    by_cases hc : i < l.length
    · have hw := wrapN hc hL
      have w2 : IntKind.i64.wrap ((i : Int) + 2) = ((i + 2 : Nat) : Int) := by rw [wrapI (by omega)]; omega
      by_cases h37 : l.getD i 0 = 37
      · have e37 : (((l.getD i 0).toNat : Int) != 37) = false := by rw [h37]; decide
        by_cases hg : i + 2 < l.length
        · have hg1 : i + 1 < l.length := by omega
          have hg2 : ¬ (l.length ≤ i + 2) := by omega
          have x1 := hexU (l.getD (i + 1) 0)
          have x2 := hexU (l.getD (i + 2) 0)
          by_cases hx1 : 0 ≤ hexI (l.getD (i + 1) 0).toNat
          · have hx1' : ¬ (hexI (l.getD (i + 1) 0).toNat < 0) := by omega
            by_cases hx2 : 0 ≤ hexI (l.getD (i + 2) 0).toNat
            · have hx2' : ¬ (hexI (l.getD (i + 2) 0).toNat < 0) := by omega
              have hle := hv_le _ _ hx1 hx2
              have m1 : IntKind.i64.wrap (16 * hexI (l.getD (i + 1) 0).toNat) = 16 * hexI (l.getD (i + 1) 0).toNat := wrapI (by omega)
              have m2 : IntKind.i64.wrap (16 * hexI (l.getD (i + 1) 0).toNat + hexI (l.getD (i + 2) 0).toNat) = hv (l.getD (i + 1) 0) (l.getD (i + 2) 0) := wrapI (by omega)
              have m3 : IntKind.u8.wrap (hv (l.getD (i + 1) 0) (l.getD (i + 2) 0)) = hv (l.getD (i + 1) 0) (l.getD (i + 2) 0) := w8 hle
              have w3 : IntKind.i64.wrap (((i + 2 : Nat) : Int) + 1) = ((i + 3 : Nat) : Int) := by rw [wrapI (by omega)]; omega
              cases hf : freeI (hv (l.getD (i + 1) 0) (l.getD (i + 2) 0))
              · have hhi := hv_hi' _ _ hx1 hx2
                have hlw := hv_lo' _ _ hx1 hx2
                have n1 : ¬ (16 ≤ hexI (l.getD (i + 1) 0).toNat) := by omega
                have n2 : hexI (l.getD (i + 1) 0).toNat < 16 := by omega
                have n3 : hexI (l.getD (i + 2) 0).toNat < 16 := by omega
                have s1 : [48,49,50,51,52,53,54,55,56,57,65,66,67,68,69,70].getD (hexI (l.getD (i + 1) 0).toNat).toNat 0 = upU (l.getD (i + 1) 0) := hexS_up _ hx1
                have s2 : [48,49,50,51,52,53,54,55,56,57,65,66,67,68,69,70].getD (hexI (l.getD (i + 2) 0).toNat).toNat 0 = upU (l.getD (i + 2) 0) := hexS_up _ hx2
                simp only [go_sem,hc,hL,hw,w2,e37,hg1,hg2]
                refine ev_call (c145 _ (u0 _) (u255 _)) (retW0 rfl rfl rfl rfl) ?_
                simp only [go_sem,Nat.reduceAdd,w2,hg,hx1']
                refine ev_call (c145 _ (u0 _) (u255 _)) (retW0 rfl rfl rfl rfl) ?_
                simp only [go_sem,Nat.reduceAdd,hx2']
                refine draw_intro 14 [[46,47,48,49,50,51,52,53,54,55,56,57,5],[45,47,48,49,50,51,52,53,54,55,56,57,5],[45,48,49,50,51,52,53,54,55,56,57,5],[46,49,50,51,52,53,54,55,56,57,5],[45,46,47,50,51,52,53,54,55,56,57,5],[45,46,47,48,51,52,53,54,55,56,57,5],[45,46,47,48,49,50,52,53,54,55,56,57,5],[45,46,47,48,49,50,51,53,54,55,56,57,5],[45,46,47,48,49,50,51,54,55,56,57,5],[45,46,47,48,49,50,52,55,56,57,5],[45,46,47,48,50,51,52,53,56,57,5],[45,46,47,48,49,51,52,53,54,57,5],[45,46,47,48,49,50,51,52,53,54,55,5],[]] mixedOk rfl ?_
                simp only [go_sem,Nat.reduceBEq,hw,hg1]
                refine of_call (c145 _ (u0 _) (u255 _)) (retW0 rfl rfl rfl rfl) rfl rfl rfl ?_
                simp only [go_sem,Nat.reduceBEq,w2,hg]
                refine of_call (c145 _ (u0 _) (u255 _)) (retW0 rfl rfl rfl rfl) rfl rfl rfl ?_
                simp only [go_sem,Nat.reduceBEq,Nat.reduceBNe,m1,m2,m3]
                refine ev_call (c146 _) (retW0 rfl rfl rfl rfl) ?_
                simp only [go_sem,Nat.reduceAdd,hf]
                refine draw_intro 8 [[65,66,67,68,69,70,71],[64,66,67,68,69,70,71],[64,67,68,69,70,71],[64,65,68,69,70,71],[64,65,66,67,69,70,71],[64,65,66,67,70,71],[64,65,66,67,68,71],[64,65,66,68,69]] mixedOk rfl ?_
                simp only [go_sem,Nat.reduceLeDiff,Nat.reduceLT,Nat.reduceAdd,Nat.reduceMul,Nat.reduceBEq,Nat.reduceBNe,Nat.reduceEqDiff,reduceCtorEq,Int.reduceLE,Int.reduceToNat,Nat.reduceDiv,Nat.reduceMod,hhi,hlw,hx1,hx2,n2,n3,s1,s2,hlo3,w2,w3]
                first
                  | (refine ⟨(i + 3,out ++ pctP (l.getD (i + 1) 0) (l.getD (i + 2) 0)),?_,⟨by simp only; omega,?_⟩,by simp only; omega⟩
                     · rw [pctP_own3 _ _ hacc hf]; rfl
                     · rw [← hsp,pct_step3 hg h37 hx1 hx2]; simp)
                  | trace_state
              · simp only [go_sem,hc,hL,hw,w2,e37,hg1,hg2]
                refine ev_call (c145 _ (u0 _) (u255 _)) (retW0 rfl rfl rfl rfl) ?_
                simp only [go_sem,Nat.reduceAdd,w2,hg,hx1']
                refine ev_call (c145 _ (u0 _) (u255 _)) (retW0 rfl rfl rfl rfl) ?_
                simp only [go_sem,Nat.reduceAdd,hx2']
                refine draw_intro 14 [[46,47,48,49,50,51,52,53,54,55,56,57,5],[45,47,48,49,50,51,52,53,54,55,56,57,5],[45,48,49,50,51,52,53,54,55,56,57,5],[46,49,50,51,52,53,54,55,56,57,5],[45,46,47,50,51,52,53,54,55,56,57,5],[45,46,47,48,51,52,53,54,55,56,57,5],[45,46,47,48,49,50,52,53,54,55,56,57,5],[45,46,47,48,49,50,51,53,54,55,56,57,5],[45,46,47,48,49,50,51,54,55,56,57,5],[45,46,47,48,49,50,52,55,56,57,5],[45,46,47,48,50,51,52,53,56,57,5],[45,46,47,48,49,51,52,53,54,57,5],[45,46,47,48,49,50,51,52,53,54,55,5],[]] mixedOk rfl ?_
                simp only [go_sem,Nat.reduceBEq,hw,hg1]
                refine of_call (c145 _ (u0 _) (u255 _)) (retW0 rfl rfl rfl rfl) rfl rfl rfl ?_
                simp only [go_sem,Nat.reduceBEq,w2,hg]
                refine of_call (c145 _ (u0 _) (u255 _)) (retW0 rfl rfl rfl rfl) rfl rfl rfl ?_
                simp only [go_sem,Nat.reduceBEq,Nat.reduceBNe,m1,m2,m3]
                refine ev_call (c146 _) (retW0 rfl rfl rfl rfl) ?_
                simp only [go_sem,Nat.reduceLeDiff,Nat.reduceLT,Nat.reduceAdd,Nat.reduceMul,Nat.reduceBNe,Nat.reduceEqDiff,reduceCtorEq,Nat.reduceDiv,Nat.reduceMod,hf,hlo,w2,w3]
                first
                  | (refine ⟨(i + 3,out ++ pctP (l.getD (i + 1) 0) (l.getD (i + 2) 0)),?_,⟨by simp only; omega,?_⟩,by simp only; omega⟩
                     · rw [pctP_own1 _ _ hacc hx1 hx2 hf]; rfl
                     · rw [← hsp,pct_step3 hg h37 hx1 hx2]; simp)
                  | trace_state
            · have hx2' : hexI (l.getD (i + 2) 0).toNat < 0 := by omega
              simp only [go_sem,hc,hL,hw,w2,e37,hg1,hg2]
              refine ev_call (c145 _ (u0 _) (u255 _)) (retW0 rfl rfl rfl rfl) ?_
              simp only [go_sem,Nat.reduceAdd,w2,hg,hx1']
              refine ev_call (c145 _ (u0 _) (u255 _)) (retW0 rfl rfl rfl rfl) ?_
              simp only [go_sem,Nat.reduceLeDiff,Nat.reduceLT,Nat.reduceAdd,Nat.reduceMul,Nat.reduceBNe,Nat.reduceEqDiff,reduceCtorEq,Nat.reduceDiv,Nat.reduceMod,hlo,hc,hw,hx2']
              first
                | (refine ⟨(i + 1,out ++ [l.getD i 0]),?_,⟨hc,?_⟩,by simp only; omega⟩
                   · rw [snoc_own _ hacc]; rfl
                   · rw [← hsp,pct_step1 hc (fun h => hx2 h.2.2.2)]; simp)
                | trace_state
          · have hx1' : hexI (l.getD (i + 1) 0).toNat < 0 := by omega
            simp only [go_sem,hc,hL,hw,w2,e37,hg1,hg2]
            refine ev_call (c145 _ (u0 _) (u255 _)) (retW0 rfl rfl rfl rfl) ?_
            simp only [go_sem,Nat.reduceLeDiff,Nat.reduceLT,Nat.reduceAdd,Nat.reduceMul,Nat.reduceBNe,Nat.reduceEqDiff,reduceCtorEq,Nat.reduceDiv,Nat.reduceMod,hlo,hc,hw,hx1']
            first
              | (refine ⟨(i + 1,out ++ [l.getD i 0]),?_,⟨hc,?_⟩,by simp only; omega⟩
                 · rw [snoc_own _ hacc]; rfl
                 · rw [← hsp,pct_step1 hc (fun h => hx1 h.2.2.1)]; simp)
              | trace_state
        · have hg2 : l.length ≤ i + 2 := by omega
          simp only [go_sem,Nat.reduceLeDiff,Nat.reduceLT,Nat.reduceAdd,Nat.reduceMul,Nat.reduceBNe,Nat.reduceEqDiff,reduceCtorEq,Nat.reduceDiv,Nat.reduceMod,hlo,hc,hL,hw,e37,w2,hg2]
          first
            | (refine ⟨(i + 1,out ++ [l.getD i 0]),?_,⟨hc,?_⟩,by simp only; omega⟩
               · rw [snoc_own _ hacc]; rfl
               · rw [← hsp,pct_step1 hc (fun h => hg h.2.1)]; simp)
            | trace_state
      · have e37 : (((l.getD i 0).toNat : Int) != 37) = true := by
          rw [bne_iff_ne]; intro e; exact h37 (UInt8.toNat_inj.1 (by rw [show (37 : UInt8).toNat = 37 from rfl]; omega))
        simp only [go_sem,Nat.reduceLeDiff,Nat.reduceLT,Nat.reduceAdd,Nat.reduceMul,Nat.reduceBNe,Nat.reduceEqDiff,reduceCtorEq,Nat.reduceDiv,Nat.reduceMod,hlo,hc,hw,e37]
        first
          | (refine ⟨(i + 1,out ++ [l.getD i 0]),?_,⟨hc,?_⟩,by simp only; omega⟩
             · rw [snoc_own _ hacc]; rfl
             · rw [← hsp,pct_step1 hc (fun h => h37 h.1)]; simp)
          | trace_state
    · have he : i = l.length := by omega
      subst he
      have hsp2 : out = pct l := by rw [← hsp]; simp [pct]
      simp only [go_sem,Nat.reduceBNe,Nat.reduceDiv,Nat.reduceMod,hc,← hacc,rowsBytes_bytesRows]
      first | (refine fin0 (.inr rfl) rfl rfl rfl ?_; rw [← hsp2]; rfl) | trace_state
end Go.Proofs.YtplagdnnnkdlnaaGreatDoor.Fw
