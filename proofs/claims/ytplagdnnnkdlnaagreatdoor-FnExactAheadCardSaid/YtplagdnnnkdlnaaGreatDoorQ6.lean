/- Texts of the proof: FwBe FwBf FdK FdL FeY FeM. -/
import Derived.Shelf.Strings.Builder1
import Derived.Test.YtplagdnnnkdlnaaGreatDoorQ5
set_option linter.unusedSimpArgs false
set_option linter.unusedVariables false
/- Framework, part Be: a strings.Builder of the call's own: the state between its writings, told by values. -/
namespace Go.Proofs.YtplagdnnnkdlnaaGreatDoor.Fw
open Go
set_option linter.unusedVariables false
def noL : Nat → Nat → Prop := fun _ _ => False
structure PV (P : Program) (wb : World) (b : Nat) (d : D) (v : Value) : Prop where
  leafy : d.leafy = true
  one : one v = true
  rel : ∀ C : Ctx,C.P = P → (∀ k,k < b → C.w.heap[k]? = wb.heap[k]?) → (∀ x,x < b → C.Rd x) → ∀ p,LRel C p d v
theorem PV.v {P : Program} {wb : World} {b : Nat} {x : Value} (h : scal x = true) (h1 : Go.Proofs.YtplagdnnnkdlnaaGreatDoor.Fw.one x = true) : PV P wb b (.v x) x := ⟨rfl,h1,fun _ _ _ _ _ => .v _ _ h⟩
theorem PV.nil {P : Program} {wb : World} {b : Nat} : PV P wb b .nil (.slice none 0 0) := ⟨rfl,rfl,fun _ _ _ _ _ => .nil _⟩
theorem PV.imm {P : Program} {wb : World} {b : Nat} {e : TypeId} {xs : List (List T)} {v : Value} (h : RdT P wb (· < b) (.sl e xs) v) : PV P wb b (.imm e xs) v := by
  refine ⟨rfl,by cases h <;> rfl,fun C hP hw hS p => .imm _ _ _ _ ?_⟩
  subst hP
  exact h.mono fun k hk _ => ⟨hS k hk,hw k hk⟩
theorem PV.rptr {P : Program} {wb : World} {b bm om : Nat} {ds : List D} {cs : Array Value} {ce : TypeId} {fr : Nat × Nat} (X : Nat → Value) (h1 : wb.heap[bm]? = some (.cells cs ce fr)) (h2 : bm < b)
    (h3 : ∀ (i : Nat) (d : D),ds[i]? = some d → cs[om + i]? = some (X i) ∧ d.pure = true ∧ PV P wb b d (X i)) : PV P wb b (.rptr ds) (.pointer (some ⟨bm,om,none⟩)) :=
  ⟨rfl,rfl,fun C hP hw hS p => .rptr _ _ _ _ cs ce fr X ((hw bm h2).trans h1) (hS bm h2) (fun i d hd => ⟨(h3 i d hd).1,(h3 i d hd).2.2.one⟩) (fun i d hd => (h3 i d hd).2.1) fun i d hd => (h3 i d hd).2.2.rel C hP hw hS p⟩
def Known (P : Program) (wb : World) (b : Nat) (a : Act) (sl : List D) : Prop := ∀ (t : Nat) (d : D),sl[t]? = some d → d = .dead ∨ PV P wb b d (a.tmps.getD t undef)
structure BSt (T e : TypeId) (wb : World) (b : Nat) (a : Act) (w : World) (n : Nat) (l : List UInt8) : Prop where
  sz : a.tmps.size = n
  df : a.defers = []
  os : w.os = wb.os
  tape : w.tape = wb.tape
  output : w.output = wb.output
  low : ∀ k,k < b → w.heap[k]? = wb.heap[k]?
  hb : b < w.heap.size
  bld : Lib.IsBuilder T e b b (Lib.byteCells l) w
theorem mk_rel {P : Program} {wb : World} {b : Nat} {a : Act} {w : World} {sl : List D} (hsz : a.tmps.size = sl.length) (hdf : a.defers = []) (hlow : ∀ k,k < b → w.heap[k]? = wb.heap[k]?) (hg : Glob P w noL) (hk : Known P wb b a sl) :
    Rel w noL ⟨P,⟨sl,List.replicate sl.length none⟩,a,w,fun _ _ => False,fun _ => (0,0),fun _ => True⟩ := by
  have hlive : ∀ t ds,¬ Ctx.live ⟨P,⟨sl,List.replicate sl.length none⟩,a,w,fun _ _ => False,fun _ => (0,0),fun _ => True⟩ t ds := by
    intro t ds h
    have h : (List.replicate sl.length (none : Option (List D)))[t]? = some (some ds) := h
    rw [List.getElem?_replicate] at h
    split at h <;> simp at h
  have hrd : ∀ x,Ctx.Rd ⟨P,⟨sl,List.replicate sl.length none⟩,a,w,fun _ _ => False,fun _ => (0,0),fun _ => True⟩ x := by
    intro x
    refine ⟨?_,trivial⟩
    rintro (⟨p,h⟩ | ⟨t,ds,h,_⟩)
    · exact h
    · exact hlive t ds h
  refine ⟨hsz,hdf,?_,fun t ds h => absurd h (hlive t ds),fun _ _ _ h => h.elim,fun t ds _ _ h => absurd h (hlive t ds),fun t ds _ h => absurd h (hlive t ds),fun _ _ h => h.elim,fun _ _ h => h.elim,fun t ds h => absurd h (hlive t ds),?_,fun _ _ => trivial,fun _ _ h => h.elim,hg⟩
  · intro t d hd
    rcases hk t d hd with rfl | h
    · exact .comp _ _ rfl (.dead _ _)
    · have hl := h.leafy
      refine .comp _ _ (by cases d <;> first | rfl | simp [D.leafy] at hl) (.leaf _ _ _ h.leafy h.one (h.rel _ rfl hlow (fun x _ => hrd x) _))
  · exact ⟨rfl,rfl,rfl,Nat.le_refl _,fun _ _ _ => rfl,fun bb cs e fr h => ⟨cs,h,rfl,fun _ _ => rfl⟩⟩
theorem isBuilder_same {T e : TypeId} {b : Nat} {bs : List Value} {w w' : World} (h : Lib.IsBuilder T e b b bs w) (hw : ∀ k,k < w.heap.size → w'.heap[k]? = w.heap[k]?) : Lib.IsBuilder T e b b bs w' := by
  have go : ∀ p,Lib.BuilderAt T e b b p bs w → Lib.BuilderAt T e b b p bs w' := by
    rintro p ⟨h1,v,h2,h3,h4⟩
    refine ⟨h1,v,(hw b (Array.getElem?_eq_some_iff.1 h2).1).trans h2,⟨h3.1,?_⟩,h4⟩
    rcases h3.2 with h | ⟨g,cap,cur,a1,a2,a3,a4⟩
    · exact .inl h
    · exact .inr ⟨g,cap,cur,a1,a2,(hw g (Array.getElem?_eq_some_iff.1 a3).1).trans a3,a4⟩
  exact h.elim (fun x => .inl (go _ x)) (fun x => .inr (go _ x))
theorem BSt.after {T e : TypeId} {wb : World} {b : Nat} {a : Act} {w : World} {n : Nat} {l : List UInt8} (S : BSt T e wb b a w n l) {C : Ctx} (R : Rel w noL C) (hn : C.E.sl.length = n) : BSt T e wb b C.a C.w n l := by
  have hk : ∀ k,k < w.heap.size → C.w.heap[k]? = w.heap[k]? := fun k hk => R.frame.kept k hk fun _ h => h
  refine ⟨R.tmps.trans hn,R.defers,R.frame.os.trans S.os,R.frame.tape.trans S.tape,R.frame.output.trans S.output,fun k h => (hk k (Nat.lt_trans h S.hb)).trans (S.low k h),Nat.lt_of_lt_of_le S.hb R.frame.size,isBuilder_same S.bld hk⟩
theorem BSt.rel {P : Program} {T e : TypeId} {wb : World} {b : Nat} {a : Act} {w : World} {n : Nat} {l : List UInt8} (S : BSt T e wb b a w n l) {sl : List D} (hsl : sl.length = n) (hg : Glob P w noL) (hk : Known P wb b a sl) :
    Rel w noL ⟨P,⟨sl,List.replicate n none⟩,a,w,fun _ _ => False,fun _ => (0,0),fun _ => True⟩ := by
  subst hsl
  exact mk_rel S.sz S.df S.low hg hk
theorem slot_v {w0 : World} {L : Nat → Nat → Prop} {C : Ctx} (R : Rel w0 L C) {t : Nat} {x : Value} (h : C.E.sl.getD t .dead = .v x) : C.a.tmps.getD t undef = x := by
  have hs : C.E.sl[t]? = some (.v x) := by
    rw [List.getD_eq_getElem?_getD] at h
    cases hx : C.E.sl[t]? with
    | none => rw [hx] at h; simp at h
    | some y => rw [hx] at h; simp at h; rw [h]
  have := R.slot t _ hs
  generalize C.a.tmps.getD t undef = v at this
  cases this with
  | comp _ _ _ hc => cases hc with | leaf _ _ a b c => cases c with | v _ _ => rfl
theorem glob_low {P : Program} {w0 w : World} {L : Nat → Nat → Prop} (h : Glob P w0 L) (hw : ∀ k,k < w0.heap.size → w.heap[k]? = w0.heap[k]?) (hs : w0.heap.size ≤ w.heap.size) : Glob P w noL := by
  obtain ⟨B,h1,h2,h3⟩ := h
  exact ⟨B,Nat.le_trans h1 hs,fun _ _ h => h.elim,fun w' hw' => h3 w' fun k hk => (hw' k hk).trans (hw k (Nat.lt_of_lt_of_le hk h1))⟩
theorem args_call {a : Act} {w : World} {P : Program} {o : Oper} {c : Call} {f : FuncId} {x y : Operand} {next : Act → World → Prop} {Q : Go.Exit → Act → World → Prop} (ho : o.op = .call c) (hc : c.callee = .value (.func f)) (ha : c.args = #[x,y]) {R : Ending → World → Prop}
    (hent : ∀ args w,(callFunc f args).run P w = .ok (.enter f args) w) (h : Calls P f #[a.eval x,a.eval y] w R) (hR : ∀ e w',R e w' → ∃ v,e = .returned v ∧ next (a.put o.dst v) w') : o.wp P a w next Q := by
  unfold Oper.wp
  rw [call_run ho hc (show a.eval (.func f) = .func (.func f) #[] #[] from rfl),ha]
  have e : (#[x,y] : Array Operand).map a.eval ++ #[] = #[a.eval x,a.eval y] := by simp
  rw [e,hent,Oper.upon_enter]
  refine h.mono fun e w' he => ?_
  obtain ⟨v,rfl,hn⟩ := hR e w' he
  exact hn
theorem args_call1 {a : Act} {w : World} {P : Program} {o : Oper} {c : Call} {f : FuncId} {x : Operand} {next : Act → World → Prop} {Q : Go.Exit → Act → World → Prop} (ho : o.op = .call c) (hc : c.callee = .value (.func f)) (ha : c.args = #[x]) {R : Ending → World → Prop}
    (hent : ∀ args w,(callFunc f args).run P w = .ok (.enter f args) w) (h : Calls P f #[a.eval x] w R) (hR : ∀ e w',R e w' → ∃ v,e = .returned v ∧ next (a.put o.dst v) w') : o.wp P a w next Q := by
  unfold Oper.wp
  rw [call_run ho hc (show a.eval (.func f) = .func (.func f) #[] #[] from rfl),ha]
  have e : (#[x] : Array Operand).map a.eval ++ #[] = #[a.eval x] := by simp
  rw [e,hent,Oper.upon_enter]
  refine h.mono fun e w' he => ?_
  obtain ⟨v,rfl,hn⟩ := hR e w' he
  exact hn
theorem put_size {a : Act} {t : Tmp} {v : Value} : (a.put (some t) v).tmps.size = a.tmps.size := by simp [Act.put]
open Go.Shelf in
theorem bst_write {P : Program} {ρ : Ren} (hL : Go.Proofs.Lays.n166 P ρ) (hX : Go.Proofs.Builder.Extra P ρ) (hent : ∀ args w,(callFunc (ρ.f 166) args).run P w = .ok (.enter (ρ.f 166) args) w) {wb : World} {b : Nat} {a : Act} {w : World} {n : Nat} {l s : List UInt8} (S : BSt (ρ.t 72) (ρ.t 5) wb b a w n l) {o : Oper} {c : Call} {x y : Operand} {t : Tmp} (hd : o.dst = some t)
    (ho : o.op = .call c) (hc : c.callee = .value (.func (ρ.f 166))) (ha : c.args = #[x,y]) (hx : a.eval x = .pointer (some ⟨b,0,none⟩)) (hy : a.eval y = vS s) (hlen : l.length + s.length ≤ 140737488355328) {next : Act → World → Prop} {Q : Go.Exit → Act → World → Prop}
    (h : ∀ v w',BSt (ρ.t 72) (ρ.t 5) wb b (a.put (some t) v) w' n (l ++ s) → next (a.put (some t) v) w') : o.wp P a w next Q := by
  have hw := Go.Proofs.Any.Builder_WriteString hL hX b b (Lib.byteCells l) (ofL s) w S.bld (by rw [Lib.byteCells_length]; exact hlen) (Nat.le_of_lt S.hb)
  refine args_call ho hc ha hent (by rw [hx,hy]; exact hw) ?_
  rintro e w' ⟨rfl,h1,h2⟩
  refine ⟨_,rfl,?_⟩
  rw [hd]
  refine h _ _ ⟨put_size.trans S.sz,S.df,h2.os.trans S.os,h2.tape.trans S.tape,h2.output.trans S.output,fun k hk => (h2.block k hk).trans (S.low k hk),Nat.lt_of_lt_of_le S.hb h2.size,.inr ?_⟩
  have e : Lib.byteCells l ++ Lib.strCells (ofL s) = Lib.byteCells (l ++ s) := by simp [Lib.byteCells,Lib.strCells,ofL]
  rw [e] at h1
  exact h1
open Go.Shelf in
theorem bst_string {P : Program} {ρ : Ren} (hL : Go.Proofs.Lays.n169 P ρ) (hX : Go.Proofs.Builder.Extra P ρ) (hent : ∀ args w,(callFunc (ρ.f 169) args).run P w = .ok (.enter (ρ.f 169) args) w) {wb : World} {b : Nat} {a : Act} {w : World} {n : Nat} {l : List UInt8} (S : BSt (ρ.t 72) (ρ.t 5) wb b a w n l) {o : Oper} {c : Call} {x : Operand} {t : Tmp} (hd : o.dst = some t)
    (ho : o.op = .call c) (hc : c.callee = .value (.func (ρ.f 169))) (ha : c.args = #[x]) (hx : a.eval x = .pointer (some ⟨b,0,none⟩)) {next : Act → World → Prop} {Q : Go.Exit → Act → World → Prop}
    (h : ∀ w',RowKit.Below b w w' → next (a.put (some t) (vS l)) w') : o.wp P a w next Q := by
  have hw := Go.Proofs.Any.Builder_String_any hL hX b b l w S.bld (Nat.le_of_lt S.hb)
  refine args_call1 ho hc ha hent (by rw [hx]; exact hw) ?_
  rintro e w' ⟨rfl,h2⟩
  refine ⟨_,rfl,?_⟩
  rw [hd]
  exact h _ h2
theorem alloc_wp {P : Program} {o : Oper} {a : Act} {w : World} {e : TypeId} {z : Value} {next : Act → World → Prop} {Q : Go.Exit → Act → World → Prop} (ho : o.op = .alloc e) (hz : ∀ w,(zeroValue e).run P w = .ok z w)
    (h : next (a.put o.dst (.pointer (some ⟨w.heap.size,0,none⟩))) (w.alloc (.cells z.cells e))) : o.wp P a w next Q := by
  unfold Oper.wp
  have hx : (execOp a.eval o).run P w = .ok (.value (.pointer (some ⟨w.heap.size,0,none⟩))) (w.alloc (.cells z.cells e)) := by
    simp only [execOp,ho,Instr.alloc,bind_pure_comp,Sem.run_bind,Sem.run_map,hz,Result.andThen_ok,newVar,newRow,run_newObj]
    rfl
  rw [hx]
  exact h
theorem wp_of {P : Program} {cfg : Cfg} (hop : OpOk P cfg) {w0 : World} {L : Nat → Nat → Prop} {E : Env} {a : Act} {w : World} {F : Lf → Nat → Prop} {loc : Nat → Nat × Nat} {M : Nat → Prop} (R : Rel w0 L ⟨P,E,a,w,F,loc,M⟩) {c : Code} {Q : Go.Exit → Act → World → Prop} (Qp : Go.Exit → Env → Prop)
    (h : pwp P cfg c E Qp) (hQ : ∀ x C,Rel w0 L C → C.P = P → (∀ t,cfg.keep t = true → C.a.tmps.getD t undef = a.tmps.getD t undef) → Qp x C.E → Q x C.a C.w) : c.wp P Q a w :=
  pwp_sound hop c ⟨P,E,a,w,F,loc,M⟩ Q Qp R rfl h fun x C R' hP _ hk hq => hQ x C R' hP hk.1 hq
theorem pv_cell {w0 : World} {L : Nat → Nat → Prop} {C : Ctx} (R : Rel w0 L C) {t : Nat} {ds : List D} (hl : C.live t ds) (hp : ∀ d,d ∈ ds → (∃ x,d = .v x) ∨ ∃ e xs,d = .imm e xs) :
    ∃ X : Nat → Value,(∀ (i : Nat) (d : D),ds[i]? = some d → PV C.P C.w C.w.heap.size d (X i) ∧ scal (X i) = true) ∧
      ∀ ds' : List D,ds'.length = ds.length → (∀ (i : Nat) (d : D),ds'[i]? = some d → d.pure = true ∧ PV C.P C.w C.w.heap.size d (X i)) → PV C.P C.w C.w.heap.size (.rptr ds') (.pointer (some ⟨(C.loc t).1,(C.loc t).2 + 0,none⟩)) := by
  obtain ⟨cs,e,fr,h1,h2,h3,h4⟩ := (R.cell t ds hl).out
  have hb : (C.loc t).1 < C.w.heap.size := (Array.getElem?_eq_some_iff.1 h1).1
  refine ⟨fun i => cs.getD ((C.loc t).2 + i) undef,?_,?_⟩
  · intro i d hd
    obtain ⟨b1,b2,b3⟩ := h4 i d hd
    show PV C.P C.w C.w.heap.size d (cs.getD ((C.loc t).2 + i) undef) ∧ scal (cs.getD ((C.loc t).2 + i) undef) = true
    generalize cs.getD ((C.loc t).2 + i) undef = v at b2 b3 ⊢
    rcases hp d (List.mem_of_getElem? hd) with ⟨x,rfl⟩ | ⟨e',xs,rfl⟩
    · cases b3 with
      | v _ h => exact ⟨.v h b2,h⟩
    · cases b3 with
      | imm _ _ _ h =>
        refine ⟨.imm (h.mono fun k hk hlt => ⟨hlt,rfl⟩),?_⟩
        cases h <;> rfl
  · intro ds' hlen hds
    refine .rptr (fun i => cs.getD ((C.loc t).2 + i) undef) (cs := cs) (ce := e) (fr := fr) h1 hb fun i d hd => ?_
    have hi : i < ds.length := by rw [← hlen]; exact (List.getElem?_eq_some_iff.1 hd).1
    have hlt : (C.loc t).2 + i < cs.size := by omega
    refine ⟨?_,(hds i d hd).1,(hds i d hd).2⟩
    show cs[(C.loc t).2 + 0 + i]? = some (cs.getD ((C.loc t).2 + i) undef)
    rw [Nat.add_zero,Array.getElem?_eq_getElem hlt]
    simp [Array.getD,hlt]
section
variable {P : Program} {cfg : Cfg} {T e : TypeId} {wb : World} {b : Nat} {n : Nat} {l : List UInt8}
theorem BSt.run (hop : OpOk P cfg) {a : Act} {w : World} (S : BSt T e wb b a w n l) {sl : List D} (hsl : sl.length = n) (hg : Glob P w noL) (hk : Known P wb b a sl) {c : Code} {Q : Go.Exit → Act → World → Prop} (Qp : Go.Exit → Env → Prop)
    (h : pwp P cfg c ⟨sl,List.replicate n none⟩ Qp) (hlen : ∀ e E,Qp e E → E.sl.length = n)
    (hQ : ∀ x C,Rel w noL C → C.P = P → BSt T e wb b C.a C.w n l → (∀ t,cfg.keep t = true → C.a.tmps.getD t undef = a.tmps.getD t undef) → Qp x C.E → Q x C.a C.w) : c.wp P Q a w := by
  refine pwp_sound hop c _ Q Qp (S.rel hsl hg hk) rfl h fun e C R hP _ hka hq => ?_
  exact hQ e C R hP (S.after R (hlen e _ hq)) hka.1 hq
variable {ρ : Go.Shelf.Ren}
theorem BSt.write_in (hop : OpOk P cfg) (hL : Go.Proofs.Lays.n166 P ρ) (hX : Go.Proofs.Builder.Extra P ρ) (hent : ∀ args w,(callFunc (ρ.f 166) args).run P w = .ok (.enter (ρ.f 166) args) w) {a : Act} {w : World} (S : BSt (ρ.t 72) (ρ.t 5) wb b a w n l) {C : Ctx} (R : Rel w noL C) (hP : C.P = P)
    {id : Nat} {ops : Array Oper} {Q : Go.Exit → Act → World → Prop} (m : Nat) (hm : m + 1 = ops.size) {o : Oper} (ho : ops[m]? = some o) (hgd : o.guard = none) {t : Tmp} (hd : o.dst = some t) {c : Call} (hoo : o.op = .call c) (hc : c.callee = .value (.func (ρ.f 166))) {k y : Tmp} (ha : c.args = #[.tmp k,.tmp y])
    (hkk : cfg.keep k = true) (hv : C.a.tmps.getD k undef = .pointer (some ⟨b,0,none⟩)) {s : List UInt8} (hlen : l.length + s.length ≤ 140737488355328)
    (h : pOps P cfg ops.toList (ops.toList.take m) C.E fun E => E.sl.length = n ∧ E.sl.getD y .dead = .v (vS s))
    (hQ : ∀ a' w',BSt (ρ.t 72) (ρ.t 5) wb b a' w' n (l ++ s) → (∀ u,cfg.keep u = true → u ≠ t → a'.tmps.getD u undef = C.a.tmps.getD u undef) → Q .normal a' w') : (Code.region id ops false).wp P Q C.a C.w := by
  have hls : ops.toList = ops.toList.take m ++ [o] := by
    have h1 : ops.toList[m]? = some o := by rw [Array.getElem?_toList]; exact ho
    have h2 := List.take_append_drop m ops.toList
    rw [List.drop_eq_getElem_cons (by simp; omega),List.drop_of_length_le (by simp; omega)] at h2
    rw [List.getElem?_eq_getElem (by simp; omega)] at h1
    injection h1 with h1
    rw [← h1]
    exact h2.symm
  refine region_last hop (l := ops.toList.take m) hls hgd R hP h fun C' R' hP' _ hka hK => ?_
  have S' := S.after R' hK.1
  have hv' : C'.a.tmps.getD k undef = .pointer (some ⟨b,0,none⟩) := (hka.1 k hkk).trans hv
  refine bst_write hL hX hent S' hd hoo hc ha hv' (slot_v R' hK.2) hlen fun v w' S2 => ?_
  exact hQ _ _ S2 fun u hu hne => (put_keep (fun e => hne (by injection e with e; exact e.symm))).trans (hka.1 u hu)
theorem BSt.write (hop : OpOk P cfg) (hL : Go.Proofs.Lays.n166 P ρ) (hX : Go.Proofs.Builder.Extra P ρ) (hent : ∀ args w,(callFunc (ρ.f 166) args).run P w = .ok (.enter (ρ.f 166) args) w) {a : Act} {w : World} (S : BSt (ρ.t 72) (ρ.t 5) wb b a w n l) {sl : List D} (hsl : sl.length = n) (hg : Glob P w noL) (hk : Known P wb b a sl)
    {id : Nat} {ops : Array Oper} {Q : Go.Exit → Act → World → Prop} (m : Nat) (hm : m + 1 = ops.size) {o : Oper} (ho : ops[m]? = some o) (hgd : o.guard = none) {t : Tmp} (hd : o.dst = some t) {c : Call} (hoo : o.op = .call c) (hc : c.callee = .value (.func (ρ.f 166))) {k y : Tmp} (ha : c.args = #[.tmp k,.tmp y])
    (hkk : cfg.keep k = true) (hv : a.tmps.getD k undef = .pointer (some ⟨b,0,none⟩)) {s : List UInt8} (hlen : l.length + s.length ≤ 140737488355328)
    (h : pOps P cfg ops.toList (ops.toList.take m) ⟨sl,List.replicate n none⟩ fun E => E.sl.length = n ∧ E.sl.getD y .dead = .v (vS s))
    (hQ : ∀ a' w',BSt (ρ.t 72) (ρ.t 5) wb b a' w' n (l ++ s) → (∀ u,cfg.keep u = true → u ≠ t → a'.tmps.getD u undef = a.tmps.getD u undef) → Q .normal a' w') : (Code.region id ops false).wp P Q a w :=
  BSt.write_in hop hL hX hent S (S.rel hsl hg hk) rfl m hm ho hgd hd hoo hc ha hkk hv hlen h hQ
theorem BSt.write_draw (hop : OpOk P cfg) (hL : Go.Proofs.Lays.n166 P ρ) (hX : Go.Proofs.Builder.Extra P ρ) (hent : ∀ args w,(callFunc (ρ.f 166) args).run P w = .ok (.enter (ρ.f 166) args) w) {a : Act} {w : World} (S : BSt (ρ.t 72) (ρ.t 5) wb b a w n l) {sl : List D} (hsl : sl.length = n) (hg : Glob P w noL) (hk : Known P wb b a sl)
    {id : Nat} {ops : Array Oper} {Q : Go.Exit → Act → World → Prop} (hmx : P.follows .mixedOrders = true) (m : Nat) (fs : List (List Nat)) (hok : drawOk ops.toList m fs = true) (hm : m + 1 = ops.size) {o : Oper} (ho : ops[m]? = some o) (hgd : o.guard = none) {t : Tmp} (hd : o.dst = some t) {c : Call} (hoo : o.op = .call c) (hc : c.callee = .value (.func (ρ.f 166))) {k y : Tmp} (ha : c.args = #[.tmp k,.tmp y])
    (hkk : cfg.keep k = true) (hv : a.tmps.getD k undef = .pointer (some ⟨b,0,none⟩)) {s : List UInt8} (hlen : l.length + s.length ≤ 140737488355328)
    (h : pHead P cfg ops.toList ((ops.toList.take m).zip fs) ⟨sl,List.replicate n none⟩ fun E => E.sl.length = n ∧ E.sl.getD y .dead = .v (vS s))
    (hQ : ∀ a' w',BSt (ρ.t 72) (ρ.t 5) wb b a' w' n (l ++ s) → (∀ u,cfg.keep u = true → u ≠ t → a'.tmps.getD u undef = a.tmps.getD u undef) → Q .normal a' w') : (Code.region id ops true).wp P Q a w := by
  have R := S.rel hsl hg hk
  refine draw_last hop (C := ⟨P,⟨sl,List.replicate n none⟩,a,w,fun _ _ => False,fun _ => (0,0),fun _ => True⟩) hmx m fs hok hm ho hgd R rfl h fun C' R' hP' _ hka hK => ?_
  have S' := S.after R' hK.1
  have hv' : C'.a.tmps.getD k undef = .pointer (some ⟨b,0,none⟩) := (hka.1 k hkk).trans hv
  refine bst_write hL hX hent S' hd hoo hc ha hv' (slot_v R' hK.2) hlen fun v w' S2 => ?_
  exact hQ _ _ S2 fun u hu hne => (put_keep (fun e => hne (by injection e with e; exact e.symm))).trans (hka.1 u hu)
end
theorem knownF_nil {P : Program} {wb : World} {b : Nat} {a : Act} {k : Nat} : ∀ (i : Nat) (d : D),([] : List D)[i]? = some d → d = .dead ∨ PV P wb b d (a.tmps.getD (k + i) undef) := fun i d h => by simp at h
theorem knownF_rep {P : Program} {wb : World} {b : Nat} {a : Act} {k m : Nat} : ∀ (i : Nat) (d : D),(List.replicate m D.dead)[i]? = some d → d = .dead ∨ PV P wb b d (a.tmps.getD (k + i) undef) := fun i d h => by
  rw [List.getElem?_replicate] at h
  split at h
  · injection h with h; exact .inl h.symm
  · cases h
theorem knownF_cons {P : Program} {wb : World} {b : Nat} {a : Act} {k : Nat} {d : D} {ds : List D} (h : d = .dead ∨ PV P wb b d (a.tmps.getD k undef)) (h2 : ∀ (i : Nat) (x : D),ds[i]? = some x → x = .dead ∨ PV P wb b x (a.tmps.getD (k + 1 + i) undef)) :
    ∀ (i : Nat) (x : D),(d :: ds)[i]? = some x → x = .dead ∨ PV P wb b x (a.tmps.getD (k + i) undef) := by
  intro i x hx
  cases i with
  | zero => injection hx with hx; rw [← hx]; exact h
  | succ i =>
    have := h2 i x hx
    rw [show k + 1 + i = k + (i + 1) by omega] at this
    exact this
theorem known_of {P : Program} {wb : World} {b : Nat} {a : Act} {ds : List D} (h : ∀ (i : Nat) (x : D),ds[i]? = some x → x = .dead ∨ PV P wb b x (a.tmps.getD (0 + i) undef)) : Known P wb b a ds := fun t d hd => by
  have := h t d hd
  rwa [Nat.zero_add] at this
theorem BSt.run2 {P : Program} {cfg cfg2 : Cfg} {T e : TypeId} {wb : World} {b : Nat} {n : Nat} {l : List UInt8} (hop : OpOk P cfg) (hop2 : OpOk P cfg2) {a : Act} {w : World} (S : BSt T e wb b a w n l) {sl1 sl2 : List D} (hsl1 : sl1.length = n) (hsl2 : sl2.length = n) (hg : ∀ {a w},BSt T e wb b a w n l → Glob P w noL) (hk : Known P wb b a sl1)
    {id : Nat} {ops : Array Oper} {Q : Go.Exit → Act → World → Prop} (m : Nat) (K1 K2 : Env → Prop) (h1 : pOps P cfg ops.toList (ops.toList.take m) ⟨sl1,List.replicate n none⟩ K1) (hl1 : ∀ E,K1 E → E.sl.length = n) (hl2 : ∀ E,K2 E → E.sl.length = n)
    (mid : ∀ w0 C,Rel w0 noL C → (∀ t,cfg.keep t = true → C.a.tmps.getD t undef = a.tmps.getD t undef) → K1 C.E → Known P wb b C.a sl2)
    (h2 : pOps P cfg2 ops.toList (ops.toList.drop m) ⟨sl2,List.replicate n none⟩ K2)
    (hQ : ∀ w0 C a1,Rel w0 noL C → BSt T e wb b C.a C.w n l → (∀ t,cfg.keep t = true → cfg2.keep t = true → C.a.tmps.getD t undef = a.tmps.getD t undef) → (∃ w1 C1,Rel w1 noL C1 ∧ C1.a = a1 ∧ K1 C1.E) → (∀ t,cfg2.keep t = true → C.a.tmps.getD t undef = a1.tmps.getD t undef) → K2 C.E → Q .normal C.a C.w) : (Code.region id ops false).wp P Q a w := by
  refine wp_region_list ?_
  have hls : ops.toList = ops.toList.take m ++ ops.toList.drop m := (List.take_append_drop m _).symm
  rw [hls]
  refine pOps_app hop (C := ⟨P,⟨sl1,List.replicate n none⟩,a,w,fun _ _ => False,fun _ => (0,0),fun _ => True⟩) _ (S.rel hsl1 (hg S) hk) rfl h1 fun C R hP _ hka hK => ?_
  have S1 := S.after R (hl1 _ hK)
  refine pOps_sound hop2 (C := ⟨P,⟨sl2,List.replicate n none⟩,C.a,C.w,fun _ _ => False,fun _ => (0,0),fun _ => True⟩) _ (S1.rel hsl2 (hg S1) (mid _ C R hka.1 hK)) rfl h2 fun C2 R2 hP2 _ hka2 hK2 => ?_
  exact hQ _ C2 C.a R2 (S1.after R2 (hl2 _ hK2)) (fun t ht ht2 => (hka2.1 t ht2).trans (hka.1 t ht)) ⟨_,C,R,rfl,hK⟩ hka2.1 hK2
open Go.Shelf in
theorem BSt.string {P : Program} {cfg : Cfg} {ρ : Ren} {wb : World} {b : Nat} {n : Nat} {l : List UInt8} (hop : OpOk P cfg) (hL : Go.Proofs.Lays.n169 P ρ) (hX : Go.Proofs.Builder.Extra P ρ) (hent : ∀ args w,(callFunc (ρ.f 169) args).run P w = .ok (.enter (ρ.f 169) args) w) {a : Act} {w : World} (S : BSt (ρ.t 72) (ρ.t 5) wb b a w n l) (hg : ∀ w2 : World,(∀ k,k < b → w2.heap[k]? = wb.heap[k]?) → b ≤ w2.heap.size → Glob P w2 noL)
    {id : Nat} {ops : Array Oper} {Q : Go.Exit → Act → World → Prop} {o : Oper} (ho : ops[0]? = some o) (hgd : o.guard = none) {t : Tmp} (hd : o.dst = some t) {c : Call} (hoo : o.op = .call c) (hc : c.callee = .value (.func (ρ.f 169))) {k : Tmp} (ha : c.args = #[.tmp k]) (hv : a.tmps.getD k undef = .pointer (some ⟨b,0,none⟩))
    {sl : List D} (hsl : sl.length = n) (hk : ∀ a' : Act,a'.tmps.getD t undef = vS l → Known P wb b a' sl) (ht : t < n) (K : Env → Prop) (h : pOps P cfg ops.toList (ops.toList.drop 1) ⟨sl,List.replicate n none⟩ K)
    (hQ : ∀ w0 C,Rel w0 noL C → C.w.os = wb.os → C.w.tape = wb.tape → C.w.output = wb.output → (∀ k,k < b → C.w.heap[k]? = wb.heap[k]?) → b ≤ C.w.heap.size → K C.E → Q .normal C.a C.w) : (Code.region id ops false).wp P Q a w := by
  refine wp_region_list ?_
  have hls : ops.toList = o :: ops.toList.drop 1 := by
    have h1 : ops.toList[0]? = some o := by rw [Array.getElem?_toList]; exact ho
    cases hx : ops.toList with
    | nil => rw [hx] at h1; simp at h1
    | cons x xs => rw [hx] at h1; simp at h1; rw [h1]; rfl
  rw [hls]
  unfold wpList
  rw [if_pos (wanted_none hgd)]
  refine .inl (bst_string hL hX hent S hd hoo hc ha hv fun w' hb => ?_)
  have hlow : ∀ k,k < b → w'.heap[k]? = wb.heap[k]? := fun k hk => (hb.block k hk).trans (S.low k hk)
  have hbs : b ≤ w'.heap.size := Nat.le_trans (Nat.le_of_lt S.hb) hb.size
  have hget : (a.put (some t) (vS l)).tmps.getD t undef = vS l := by
    have := S.sz
    simp [Act.put,Array.getD,this,ht]
  have R : Rel w' noL ⟨P,⟨sl,List.replicate n none⟩,a.put (some t) (vS l),w',fun _ _ => False,fun _ => (0,0),fun _ => True⟩ := by
    have R := mk_rel (P := P) (a := a.put (some t) (vS l)) (sl := sl) ((put_size.trans S.sz).trans hsl.symm) S.df hlow (hg w' hlow hbs) (hk _ hget)
    rw [hsl] at R
    exact R
  refine pOps_sound hop (C := ⟨P,⟨sl,List.replicate n none⟩,a.put (some t) (vS l),w',fun _ _ => False,fun _ => (0,0),fun _ => True⟩) _ R rfl h fun C R2 hP _ hka hK => ?_
  exact hQ _ C R2 (R2.frame.os.trans (hb.os.trans S.os)) (R2.frame.tape.trans (hb.tape.trans S.tape)) (R2.frame.output.trans (hb.output.trans S.output)) (fun k hk => (R2.frame.kept k (Nat.lt_of_lt_of_le hk hbs) fun _ h => h).trans (hlow k hk)) (Nat.le_trans hbs R2.frame.size) hK
theorem slot_cref {w0 : World} {L : Nat → Nat → Prop} {C : Ctx} (R : Rel w0 L C) {t c k : Nat} (h : C.E.sl.getD t .dead = .cref c k) : C.a.tmps.getD t undef = .pointer (some ⟨(C.loc c).1,(C.loc c).2 + k,none⟩) := by
  have hs : C.E.sl[t]? = some (.cref c k) := by
    rw [List.getD_eq_getElem?_getD] at h
    cases hx : C.E.sl[t]? with
    | none => rw [hx] at h; simp at h
    | some y => rw [hx] at h; simp at h; rw [h]
  have := R.slot t _ hs
  generalize C.a.tmps.getD t undef = v at this
  cases this with
  | comp _ _ _ hc => cases hc with | leaf _ _ a b c => cases c with | cref _ _ _ _ => rfl
theorem region_one {P : Program} {id : Nat} {ops : Array Oper} {Q : Go.Exit → Act → World → Prop} {a : Act} {w : World} {o : Oper} (h1 : ops.toList = [o]) (hg : o.guard = none) (h : o.wp P a w (Q .normal) Q) : (Code.region id ops false).wp P Q a w := by
  refine wp_region_list ?_
  rw [h1]
  unfold wpList
  rw [if_pos (wanted_none hg)]
  exact .inl h
theorem Rel.base {P : Program} {w : World} {L : Nat → Nat → Prop} {sl : List D} {a : Act} {F : Lf → Nat → Prop} {loc : Nat → Nat × Nat} {M : Nat → Prop} {n : Nat} (R : Rel w L ⟨P,⟨sl,List.replicate n none⟩,a,w,F,loc,M⟩) (hno : ∀ t,(sl.getD t .dead).anyOwn = false) :
    Rel w noL ⟨P,⟨sl,List.replicate n none⟩,a,w,fun _ _ => False,loc,M⟩ := by
  have hce : ∀ (t : Nat) (ds : List D),¬ (List.replicate n (none : Option (List D)))[t]? = some (some ds) := by
    intro t ds h
    rw [List.getElem?_replicate] at h
    split at h <;> simp at h
  have hleaf : ∀ p e xs,(⟨sl,List.replicate n none⟩ : Env).leaf p ≠ .own e xs := by
    rintro ⟨c,t,k⟩ e xs h
    cases c with
    | false => exact notOwn_inS (C := ⟨P,⟨sl,List.replicate n none⟩,a,w,F,loc,M⟩) (hno t) ⟨false,t,k⟩ e xs h ⟨rfl,rfl⟩
    | true =>
      have h : (((List.replicate n (none : Option (List D))).getD t none).getD []).getD k .dead = .own e xs := h
      rw [List.getD_eq_getElem?_getD (l := List.replicate n none),List.getElem?_replicate] at h
      split at h <;> simp at h
  have R1 := R.reF (fun _ _ => False) (fun p e xs h => absurd h (hleaf p e xs)) (fun _ _ h => h.elim) (fun _ _ _ h => h.elim)
  obtain ⟨B,g1,g2,g3⟩ := R1.glob
  exact ⟨R1.tmps,R1.defers,R1.slot,R1.cell,R1.disj,R1.cdisj,R1.fcd,R1.fbound,fun _ _ h => h.elim,fun t ds h => absurd h (hce t ds),⟨rfl,rfl,rfl,Nat.le_refl _,fun _ _ _ => rfl,fun bb cs e fr h => ⟨cs,h,rfl,fun _ _ => rfl⟩⟩,R1.mnew,fun _ _ h => h.elim,⟨B,g1,fun _ _ h => h.elim,g3⟩⟩
theorem bst_new {T e : TypeId} {a : Act} {w : World} {n t : Nat} (hsz : a.tmps.size = n) (hdf : a.defers = []) {v : Value} : BSt T e w w.heap.size (a.put (some t) v) (w.alloc (.cells (Value.agg #[.pointer none,.slice none 0 0]).cells T)) n [] := by
  have h1 : (w.alloc (.cells (Value.agg #[.pointer none,.slice none 0 0]).cells T)).heap[w.heap.size]? = some (.cells #[.pointer none,.slice none 0 0] T (0,0)) := heap_alloc_new w _
  exact ⟨put_size.trans hsz,hdf,rfl,rfl,rfl,fun k hk => heap_alloc_old w _ hk,(Array.getElem?_eq_some_iff.1 h1).1,.inl ⟨Nat.le_refl _,.slice none 0 0,h1,⟨rfl,.inl ⟨rfl,rfl⟩⟩,by simp [Value.ownBlock]⟩⟩
theorem Sem.forget {P : Program} {f : FuncId} {Ein Eout : Env} (h : Sem P f Ein Eout) (g : Nat → Bool) : Sem P f Ein (Eout.forget g) := by
  intro w a F loc M R
  have := h w a F loc M R
  rcases this with ⟨h1,h2⟩ | ⟨v,w',h1,F',loc',h2,h3⟩
  · refine .inl ⟨h1,h2.mono fun e w' ⟨v,he,F',loc',h2,h3⟩ => ⟨v,he,F',loc',h2,h3.forget g⟩⟩
  · exact .inr ⟨v,w',h1,F',loc',h2,h3.forget g⟩
end Go.Proofs.YtplagdnnnkdlnaaGreatDoor.Fw
/- Contracts: the head of a message, written with a strings.Builder. -/
namespace Go.Proofs.YtplagdnnnkdlnaaGreatDoor.Fw
open Go
open Go.Proofs.Tryz
set_option maxRecDepth 100000
set_option maxHeartbeats 1000000
set_option linter.unusedSimpArgs false
set_option linter.unusedVariables false
attribute [local congr] c_bnd c_slot c_cell c_all c_len c_chk c_asm c_opdR c_wp c_pwp c_pOps c_Done c_nx c_blk c_fin c_rowsR c_leafR c_opdsR c_coeLeaf c_coeLeaves c_lendLeaf c_lendLeaves c_coeCapt c_argR c_argsR c_boundR c_partsR c_srcR c_mfgo c_ite c_wpF c_OutF c_pHead c_pDraw
def kcfg (ks : List Nat) : Cfg := ⟨1,fun t => ks.contains t,tb,pts,md⟩
theorem lays166 : Go.Proofs.Lays.n166 Go.Proofs.Tryz.prog join_lays156_ren := { join_lays156 with }
theorem lays169 : Go.Proofs.Lays.n169 Go.Proofs.Tryz.prog join_lays156_ren := { join_lays156 with }
theorem ent74 : ∀ args w,(callFunc (join_lays156_ren.f 166) args).run prog w = .ok (.enter (join_lays156_ren.f 166) args) w := enter_of func118 rfl rfl
theorem ent77 : ∀ args w,(callFunc (join_lays156_ren.f 169) args).run prog w = .ok (.enter (join_lays156_ren.f 169) args) w := enter_of func121 rfl rfl
def I3 (b : Nat) (pM : Value) (a : Act) : Prop := a.tmps.getD 1 undef = pM ∧ a.tmps.getD 2 undef = vS [] ∧ a.tmps.getD 3 undef = .pointer (some ⟨b,0,none⟩)
theorem I3.keep {b : Nat} {pM : Value} {a a' : Act} (h : I3 b pM a) (e1 : a'.tmps.getD 1 undef = a.tmps.getD 1 undef) (e2 : a'.tmps.getD 2 undef = a.tmps.getD 2 undef) (e3 : a'.tmps.getD 3 undef = a.tmps.getD 3 undef) : I3 b pM a' := by
  unfold I3
  rw [e1,e2,e3]
  exact h
theorem I3.k1 {w1 : World} {b : Nat} {pM : Value} {d : D} {a : Act} (h : I3 b pM a) (hd : PV prog w1 b d pM) : PV prog w1 b d (a.tmps.getD 1 undef) := by
  rw [h.1]
  exact hd
theorem I3.k2 {w1 : World} {b : Nat} {pM : Value} {a : Act} (h : I3 b pM a) : PV prog w1 b (.v (vS [])) (a.tmps.getD 2 undef) := by
  rw [h.2.1]
  exact .v rfl rfl
theorem I3.k3 {w1 : World} {b : Nat} {pM : Value} {a : Act} (h : I3 b pM a) : PV prog w1 b (.v (.pointer (some ⟨b,0,none⟩))) (a.tmps.getD 3 undef) := by
  rw [h.2.2]
  exact .v rfl rfl
theorem pv_eq {w1 : World} {b : Nat} {v x : Value} (h : v = x) (h1 : scal x = true) (h2 : one x = true) : PV prog w1 b (.v x) v := by
  rw [h]
  exact .v h1 h2
theorem c70 : H44 := by
  intro me ta st re ba l bo hl hf h1 h2 h3 h4 h5
  have hs : l.length ≤ 9223372036854775807 := hl.1
  have h59 : bo.length ≤ 9223372036854775807 := by omega
  have hn20 := fields_len hf
  have d1 := decDigits_len st
  have d2 := decDigits_len bo.length
  have hfst := first_le h1 h2 h3 h4
  have hH := head_len (ba := ba) hf h1 h2 h3 h4 h5
  have hw := Sem.forget (sem_calls (Ein := ⟨[.agg [.v (vS me),.v (vS ta),.v (vI (st : Nat)),.v (vS re),.v (vB ba),.imm 45 (rowsF l),.v (vS bo)]],[none]⟩) (r := vS (headT me ta st re ba l bo)) (enter_of func70 rfl rfl) rfl (by simp only [scal,decide_eq_true_eq]; exact hH) rfl ?_) (fun t => decide (t = 0))
  · exact hw
  intro w a F loc M R
  have hsz : a.tmps.size = 1 := R.tmps
  refine calls_of_wp func70 rfl ?_
  rw [hsz]
  have hR0 : ∀ t,(([.agg [.v (vS me),.v (vS ta),.v (vI (st : Nat)),.v (vS re),.v (vB ba),.imm 45 (rowsF l),.v (vS bo)]] : List D).getD t .dead).anyOwn = false := by
    intro t
    cases t with
    | zero => rfl
    | succ t => simp [D.anyOwn,D.comps,D.leaves1,D.isOwn]
  have Rb := Rel.base (n := 1) R hR0
  have R1 := Rb.pad (f70.ntmps - 1)
  refine wp_seq ?_
  refine wp_of (op_ok (cfg := kcfg []) tbOk) R1 (fun x E => x = .normal ∧ E.sl.length = 67 ∧ E.sl.getD 1 .dead = .cref 1 0 ∧ E.sl.getD 2 .dead = .v (vS []) ∧ E.ce.getD 1 none = some [.v (vS me),.v (vS ta),.v (vI (st : Nat)),.v (vS re),.v (vB ba),.imm 45 (rowsF l),.v (vS bo)]) ?_ ?_
  · simp only [go_sem,Nat.reduceLeDiff,Nat.reduceAdd,Nat.reduceSub,f70,kcfg]
  rintro x ⟨P',E,a1,w1,F1,loc1,M1⟩ R2 hP - ⟨rfl,hq1,hq2,hq3,hq4⟩
  have hP : P' = prog := hP
  subst hP
  have hl1 : Ctx.live ⟨prog,E,a1,w1,F1,loc1,M1⟩ 1 [.v (vS me),.v (vS ta),.v (vI (st : Nat)),.v (vS re),.v (vB ba),.imm 45 (rowsF l),.v (vS bo)] := by
    show E.ce[1]? = _
    have hq4 : E.ce.getD 1 none = _ := hq4
    rw [List.getD_eq_getElem?_getD] at hq4
    cases hx : E.ce[1]? with
    | none => rw [hx] at hq4; cases hq4
    | some y => rw [hx] at hq4; exact congrArg some hq4
  obtain ⟨X,hX1,hX2⟩ := pv_cell R2 hl1 (by
    intro d hd
    simp only [List.mem_cons,List.not_mem_nil,or_false] at hd
    rcases hd with rfl | rfl | rfl | rfl | rfl | rfl | rfl
    · exact .inl ⟨_,rfl⟩
    · exact .inl ⟨_,rfl⟩
    · exact .inl ⟨_,rfl⟩
    · exact .inl ⟨_,rfl⟩
    · exact .inl ⟨_,rfl⟩
    · exact .inr ⟨_,_,rfl⟩
    · exact .inl ⟨_,rfl⟩)
  have p1 : a1.tmps.getD 1 undef = .pointer (some ⟨(loc1 1).1,(loc1 1).2 + 0,none⟩) := slot_cref R2 hq2
  have p2 : a1.tmps.getD 2 undef = vS [] := slot_v R2 hq3
  have hsz1 : a1.tmps.size = 67 := R2.tmps.trans hq1
  have hdf1 : a1.defers = [] := R2.defers
  have hfr : ∀ k,k < w.heap.size → w1.heap[k]? = w.heap[k]? := fun k hk => R2.frame.kept k hk fun _ h => h
  have hsw : w.heap.size ≤ w1.heap.size := R2.frame.size
  have hX2 : ∀ ds' : List D,ds'.length = 7 → (∀ (i : Nat) (d : D),ds'[i]? = some d → d.pure = true ∧ PV prog w1 w1.heap.size d (X i)) → PV prog w1 w1.heap.size (.rptr ds') (.pointer (some ⟨(loc1 1).1,(loc1 1).2 + 0,none⟩)) := hX2
  have hX1 : ∀ (i : Nat) (d : D),([.v (vS me),.v (vS ta),.v (vI (st : Nat)),.v (vS re),.v (vB ba),.imm 45 (rowsF l),.v (vS bo)] : List D)[i]? = some d → PV prog w1 w1.heap.size d (X i) ∧ scal (X i) = true := hX1
  generalize (Value.pointer (some ⟨(loc1 1).1,(loc1 1).2 + 0,none⟩)) = pM at p1 hX2
  have gl : ∀ w2 : World,(∀ k,k < w1.heap.size → w2.heap[k]? = w1.heap[k]?) → w1.heap.size ≤ w2.heap.size → Glob prog w2 noL := fun w2 h1 h2 => glob_low Rb.glob (fun k hk => (h1 k (Nat.lt_of_lt_of_le hk hsw)).trans (hfr k hk)) (Nat.le_trans hsw h2)
  have hos : w1.os = w.os ∧ w1.tape = w.tape ∧ w1.output = w.output := ⟨R2.frame.os,R2.frame.tape,R2.frame.output⟩
  clear R2 hl1 hq1 hq2 hq3 hq4 R1 Rb hR0
  refine wp_seq ?_
  refine region_one rfl rfl ?_
  refine alloc_wp rfl zeroValue100 ?_
  have S1 : BSt 100 5 w1 w1.heap.size (a1.put (some 3) (.pointer (some ⟨w1.heap.size,0,none⟩))) (w1.alloc (.cells (Value.agg #[.pointer none,.slice none 0 0]).cells 100)) 67 [] := bst_new hsz1 hdf1
  have q1 : (a1.put (some 3) (.pointer (some ⟨w1.heap.size,0,none⟩))).tmps.getD 1 undef = pM := (put_keep (by decide)).trans p1
  have q2 : (a1.put (some 3) (.pointer (some ⟨w1.heap.size,0,none⟩))).tmps.getD 2 undef = vS [] := (put_keep (by decide)).trans p2
  have q3 : (a1.put (some 3) (.pointer (some ⟨w1.heap.size,0,none⟩))).tmps.getD 3 undef = .pointer (some ⟨w1.heap.size,0,none⟩) := by
    simp [Act.put,Array.getD,hsz1]
  refine (?_ : Code.wp _ _ _ (a1.put (some 3) (.pointer (some ⟨w1.heap.size,0,none⟩))) (w1.alloc (.cells (Value.agg #[.pointer none,.slice none 0 0]).cells 100)))
  generalize (a1.put (some 3) (.pointer (some ⟨w1.heap.size,0,none⟩))) = a2 at S1 q1 q2 q3 ⊢
  generalize (w1.alloc (.cells (Value.agg #[.pointer none,.slice none 0 0]).cells 100)) = w2 at S1 ⊢
  clear p1 p2 hsz1 hdf1
  have gS : ∀ {a' w' l'},BSt 100 5 w1 w1.heap.size a' w' 67 l' → Glob prog w' noL := fun S => gl _ S.low (Nat.le_of_lt S.hb)
  have hds : PV prog w1 w1.heap.size (.rptr [.v (vS me),.v (vS ta),.v (vI (st : Nat)),.v (vS re),.v (vB ba),.imm 45 (rowsF l),.v (vS bo)]) pM := hX2 _ rfl fun i d hd => ⟨by
    have := List.mem_of_getElem? hd
    simp only [List.mem_cons,List.not_mem_nil,or_false] at this
    rcases this with rfl | rfl | rfl | rfl | rfl | rfl | rfl <;> rfl,(hX1 i d hd).1⟩
  have i3 : I3 w1.heap.size pM a2 := ⟨q1,q2,q3⟩
  clear q1 q2 q3
  have hseg := firstT me ta st re
  refine wp_seq (Code.wp_mono (Q := fun x a w => x = .normal ∧ BSt 100 5 w1 w1.heap.size a w 67 (firstT me ta st re) ∧ I3 w1.heap.size pM a) ?_ ?_)
  · rintro x a3 w3 ⟨rfl,S3,i3⟩
    generalize hG : firstT me ta st re = Fx at S3 hfst
    refine wp_seq (Code.wp_mono (Q := fun x a w => x = .normal ∧ BSt 100 5 w1 w1.heap.size a w 67 (Fx ++ fieldsT l) ∧ I3 w1.heap.size pM a) ?_ ?_)
    · rintro x a4 w4 ⟨rfl,S4,i4⟩
      have t1 := fieldsT_take_le hf l.length
      rw [List.take_of_length_le (Nat.le_refl _)] at t1
      have d4 : (Lib.itoa (bo.length : Int)).length ≤ bo.length + 1 := by rw [itoa_nat]; exact d2
      refine wp_seq (Code.wp_mono (Q := fun x a w => x = .normal ∧ BSt 100 5 w1 w1.heap.size a w 67 (Fx ++ fieldsT l ++ lastT me ba bo) ∧ I3 w1.heap.size pM a) ?_ ?_)
      · rintro x a5 w5 ⟨rfl,S5,i5⟩
        have hHe : headT me ta st re ba l bo = Fx ++ fieldsT l ++ lastT me ba bo ++ [13,10] := by unfold headT; rw [hG]; rfl
        rw [hHe] at hH ⊢
        generalize Fx ++ fieldsT l ++ lastT me ba bo = L at S5 hH ⊢
        have hL9 : L.length ≤ 9223372036854775805 := by simp only [List.length_append,List.length_cons,List.length_nil] at hH; omega
        have hL8 : L.length + 2 ≤ 9223372036854775807 := by omega
        refine wp_seq ?_
        refine BSt.string (op_ok (cfg := kcfg []) tbOk) lays169 join_Builder_Extra_156 ent77 S5 gl rfl rfl rfl rfl rfl rfl i5.2.2 (sl := [.dead,.dead,.dead,.dead,.dead,.dead,.dead,.dead,.dead,.dead,.dead,.dead,.dead,.dead,.dead,.dead,.dead,.dead,.dead,.dead,.dead,.dead,.dead,.dead,.dead,.dead,.dead,.dead,.dead,.dead,.dead,.dead,.dead,.dead,.dead,.dead,.dead,.dead,.dead,.dead,.dead,.dead,.dead,.dead,.dead,.dead,.dead,.dead,.dead,.dead,.dead,.dead,.dead,.dead,.dead,.dead,.dead,.dead,.dead,.dead,.dead,.dead,.dead,.dead,.dead,.v (vS L),.dead]) rfl (fun a' ha' => known_of (by
          have k65 : PV prog w1 w1.heap.size (.v (vS L)) (a'.tmps.getD 65 undef) := pv_eq ha' (by simp only [scal,decide_eq_true_eq]; show L.length ≤ _; omega) rfl
          repeat' (first | exact knownF_rep | exact knownF_nil | refine knownF_cons (.inl rfl) ?_ | refine knownF_cons (.inr (by assumption)) ?_))) (by decide) (fun E => E.sl.length = 67 ∧ E.sl.getD 2 .dead = .v (vS (L ++ [13,10]))) ?_ ?_
        · dsimp only [List.drop,List.toList_toArray]
          simp only [go_sem,Nat.reduceLeDiff,Nat.reduceAdd,Nat.reduceBNe,kcfg,hL8]
        intro w0 C R5 o1 o2 o3 low hsz5 hK
        have hv2 := slot_v R5 hK.2
        have hdf := R5.defers
        refine wp_ret ?_
        refine ⟨hdf,C.a.tmps.getD 2 undef,?_,?_,?_⟩
        · simp [results,f70]
        · rw [hv2]
        · exact ⟨o1.trans hos.1,o2.trans hos.2.1,o3.trans hos.2.2,Nat.le_trans hsw hsz5,fun k hk => (low k (Nat.lt_of_lt_of_le hk hsw)).trans (hfr k hk)⟩
      refine wp_seq ?_
      refine BSt.run (op_ok (cfg := kcfg [1,2,3]) tbOk) S4 (sl := ([.dead,.rptr [.v (vS me),.v (vS ta),.v (vI (st : Nat)),.v (vS re),.v (vB ba),.imm 45 (rowsF l),.v (vS bo)],.v (vS []),.v (.pointer (some ⟨w1.heap.size,0,none⟩))] ++ List.replicate 63 .dead)) rfl (gS S4) (known_of (by
        have k1 := i4.k1 hds
        have k2 := i4.k2 (w1 := w1)
        have k3 := i4.k3 (w1 := w1)
        repeat' (first | exact knownF_rep | exact knownF_nil | refine knownF_cons (.inl rfl) ?_ | refine knownF_cons (.inr (by assumption)) ?_))) (fun x E => x = .normal ∧ E.sl.length = 67 ∧ E.sl.getD 57 .dead = .v (vB ((!(me == []) && !(bo == [])) || ((me == []) && !ba)))) ?_ (fun _ _ h => h.2.1) ?_
      · cases hm : me == [] <;> cases hb : bo == [] <;> cases ba <;> simp only [go_sem,Nat.reduceLeDiff,Nat.reduceAdd,Nat.reduceBEq,reduceCtorEq,kcfg,hm,hb]
      rintro x ⟨P',E,a5,w5,F5,loc5,M5⟩ R5 hP S5 hk5 ⟨rfl,hz,hq⟩
      have S5 : BSt 100 5 w1 w1.heap.size a5 w5 67 (Fx ++ fieldsT l) := S5
      have i5 : I3 w1.heap.size pM a5 := i4.keep (hk5 1 rfl) (hk5 2 rfl) (hk5 3 rfl)
      have hv57 : a5.eval (.tmp 57) = .bool ((!(me == []) && !(bo == [])) || ((me == []) && !ba)) := slot_v R5 hq
      clear R5 hk5 hq hz
      refine wp_cond hv57 ?_
      cases hcv : ((!(me == []) && !(bo == [])) || ((me == []) && !ba))
      · have hlt : lastT me ba bo = [] := by unfold lastT; rw [if_neg (by rw [hcv]; simp)]
        rw [hlt,List.append_nil]
        exact wp_skip ⟨rfl,S5,i5⟩
      · have hlt : lastT me ba bo = 67 :: 111 :: 110 :: 116 :: 101 :: 110 :: 116 :: 45 :: 76 :: 101 :: 110 :: 103 :: 116 :: 104 :: 58 :: 32 :: (Lib.itoa bo.length ++ [13,10]) := by unfold lastT; rw [if_pos hcv]; rfl
        rw [hlt]
        refine BSt.write (op_ok (cfg := kcfg [1,2,3]) tbOk) lays166 join_Builder_Extra_156 ent74 S5 (sl := ([.dead,.rptr [.v (vS me),.v (vS ta),.v (vI (st : Nat)),.v (vS re),.v (vB ba),.imm 45 (rowsF l),.v (vS bo)],.v (vS []),.v (.pointer (some ⟨w1.heap.size,0,none⟩))] ++ List.replicate 63 .dead)) rfl (gS S5) (known_of (by
          have k1 := i5.k1 hds
          have k2 := i5.k2 (w1 := w1)
          have k3 := i5.k3 (w1 := w1)
          repeat' (first | exact knownF_rep | exact knownF_nil | refine knownF_cons (.inl rfl) ?_ | refine knownF_cons (.inr (by assumption)) ?_))) 6 rfl rfl rfl rfl rfl rfl rfl rfl i5.2.2 (y := 63) (s := 67 :: 111 :: 110 :: 116 :: 101 :: 110 :: 116 :: 45 :: 76 :: 101 :: 110 :: 103 :: 116 :: 104 :: 58 :: 32 :: (Lib.itoa bo.length ++ [13,10])) (by simp only [List.length_append,List.length_cons,List.length_nil]; omega) ?_ ?_
        · dsimp only [List.take_succ_cons,List.take_zero,List.toList_toArray]
          simp only [go_sem,Nat.reduceLeDiff,Nat.reduceAdd,Nat.reduceBEq,kcfg,h59]
          refine ev_call (c119 bo.length (by omega) (by omega) (by omega)) (retW0 rfl rfl rfl rfl) ?_
          simp only [go_sem,Nat.reduceLeDiff,Nat.reduceAdd]
          repeat' with_reducible refine And.intro (by (try simp only [List.length_append,List.length_cons,List.length_nil]); omega) ?_
          try ((try simp only [List.length_append,List.length_cons,List.length_nil]); omega)
        intro a6 w6 S6 hk6
        exact ⟨rfl,S6,i5.keep (hk6 1 rfl (by decide)) (hk6 2 rfl (by decide)) (hk6 3 rfl (by decide))⟩
    have hX5 := hX1 5 _ rfl
    have hds5 : PV prog w1 w1.heap.size (.rptr [.v (vS me),.v (vS ta),.v (vI (st : Nat)),.v (vS re),.v (vB ba),.v (X 5),.v (vS bo)]) pM := hX2 _ rfl fun i d hd => by
      have hi : i < 7 := (List.getElem?_eq_some_iff.1 hd).1
      by_cases h5 : i = 5
      · subst h5
        injection hd with hd
        rw [← hd]
        exact ⟨rfl,.v hX5.2 hX5.1.one⟩
      · have hd2 : ([.v (vS me),.v (vS ta),.v (vI (st : Nat)),.v (vS re),.v (vB ba),.imm 45 (rowsF l),.v (vS bo)] : List D)[i]? = some d := by
          have : i = 0 ∨ i = 1 ∨ i = 2 ∨ i = 3 ∨ i = 4 ∨ i = 6 := by omega
          rcases this with rfl | rfl | rfl | rfl | rfl | rfl <;> exact hd
        refine ⟨?_,(hX1 i d hd2).1⟩
        have := List.mem_of_getElem? hd
        simp only [List.mem_cons,List.not_mem_nil,or_false] at this
        rcases this with rfl | rfl | rfl | rfl | rfl | rfl | rfl <;> rfl
    refine wp_seq ?_
    refine BSt.run2 (op_ok (cfg := kcfg [1,2,3]) tbOk) (op_ok (cfg := kcfg [1,2,3,29]) tbOk) S3 (sl1 := ([.dead,.rptr [.v (vS me),.v (vS ta),.v (vI (st : Nat)),.v (vS re),.v (vB ba),.v (X 5),.v (vS bo)],.v (vS []),.v (.pointer (some ⟨w1.heap.size,0,none⟩))] ++ List.replicate 63 .dead)) (sl2 := [.dead,.rptr [.v (vS me),.v (vS ta),.v (vI (st : Nat)),.v (vS re),.v (vB ba),.imm 45 (rowsF l),.v (vS bo)],.v (vS []),.v (.pointer (some ⟨w1.heap.size,0,none⟩)),.dead,.dead,.dead,.dead,.dead,.dead,.dead,.dead,.dead,.dead,.dead,.dead,.dead,.dead,.dead,.dead,.dead,.dead,.dead,.dead,.dead,.dead,.dead,.dead,.dead,.imm 45 (rowsF l),.dead,.dead,.dead,.dead,.dead,.dead,.dead,.dead,.dead,.dead,.dead,.dead,.dead,.dead,.dead,.dead,.dead,.dead,.dead,.dead,.dead,.dead,.dead,.dead,.dead,.dead,.dead,.dead,.dead,.dead,.dead,.dead,.dead,.dead,.dead,.dead,.dead]) rfl rfl gS (known_of (by
      have k1 := i3.k1 hds5
      have k2 := i3.k2 (w1 := w1)
      have k3 := i3.k3 (w1 := w1)
      repeat' (first | exact knownF_rep | exact knownF_nil | refine knownF_cons (.inl rfl) ?_ | refine knownF_cons (.inr (by assumption)) ?_))) 2 (fun E => E.sl.length = 67 ∧ E.sl.getD 29 .dead = .v (X 5)) (fun E => E.sl.length = 67 ∧ E.sl.getD 30 .dead = .v (vI l.length) ∧ E.sl.getD 31 .dead = .v (vI 0)) ?_ (fun _ h => h.1) (fun _ h => h.1) ?_ ?_ ?_
    · dsimp only [List.take_succ_cons,List.take_zero,List.toList_toArray]
      simp only [go_sem,Nat.reduceLeDiff,Nat.reduceAdd,Nat.reduceBEq,kcfg]
    · intro w0 C R5 hk5 hK
      have i5 : I3 w1.heap.size pM C.a := i3.keep (hk5 1 rfl) (hk5 2 rfl) (hk5 3 rfl)
      refine known_of (by
        have k1 := i5.k1 hds
        have k2 := i5.k2 (w1 := w1)
        have k3 := i5.k3 (w1 := w1)
        have k29 : PV prog w1 w1.heap.size (.imm 45 (rowsF l)) (C.a.tmps.getD 29 undef) := by rw [slot_v R5 hK.2]; exact hX5.1
        repeat' (first | exact knownF_rep | exact knownF_nil | refine knownF_cons (.inl rfl) ?_ | refine knownF_cons (.inr (by assumption)) ?_))
    · dsimp only [List.drop,List.toList_toArray]
      simp only [go_sem,Nat.reduceAdd,Nat.reduceBEq,kcfg,rowsF_length,hs]
    rintro w0 C a5 R5 S5 hk5 ⟨w5,C5,R6,rfl,hK5⟩ hk6 ⟨hz,hq1,hq2⟩
    have i5 : I3 w1.heap.size pM C.a := i3.keep (hk5 1 rfl rfl) (hk5 2 rfl rfl) (hk5 3 rfl rfl)
    have v29 : C.a.tmps.getD 29 undef = X 5 := (hk6 29 rfl).trans (slot_v R6 hK5.2)
    have v30 := slot_v R5 hq1
    have v31 := slot_v R5 hq2
    refine (?_ : Code.wp _ _ _ C.a C.w)
    generalize C.a = aL at S5 i5 v29 v30 v31 ⊢
    generalize C.w = wL at S5 ⊢
    clear R5 hk5 R6 hK5 hk6 hz hq1 hq2
    refine wp_block ?_
    refine wp_loop_rounds (l.length + 1) ?_
    obtain ⟨i,hlt,hi,S6,v31b⟩ : ∃ i : Nat,l.length - i < l.length + 1 ∧ i ≤ l.length ∧ BSt 100 5 w1 w1.heap.size aL wL 67 (Fx ++ fieldsT (l.take i)) ∧ aL.tmps.getD 31 undef = vI i := ⟨0,by omega,by omega,by simpa [fieldsT] using S5,v31⟩
    clear S5 v31
    generalize l.length + 1 = N at hlt ⊢
    induction N generalizing aL wL i with
    | zero => omega
    | succ N ih =>
      have hfl := fieldsT_take_le hf i
      rw [rounds_succ]
      have k29 : PV prog w1 w1.heap.size (.imm 45 (rowsF l)) (aL.tmps.getD 29 undef) := by rw [v29]; exact hX5.1
      have k30 : PV prog w1 w1.heap.size (.v (vI l.length)) (aL.tmps.getD 30 undef) := pv_eq v30 rfl rfl
      have k31 : PV prog w1 w1.heap.size (.v (vI i)) (aL.tmps.getD 31 undef) := pv_eq v31b rfl rfl
      refine wp_seq ?_
      refine BSt.run (op_ok (cfg := kcfg [1,2,3,29,30,31]) tbOk) S6 (sl := [.dead,.rptr [.v (vS me),.v (vS ta),.v (vI (st : Nat)),.v (vS re),.v (vB ba),.imm 45 (rowsF l),.v (vS bo)],.v (vS []),.v (.pointer (some ⟨w1.heap.size,0,none⟩)),.dead,.dead,.dead,.dead,.dead,.dead,.dead,.dead,.dead,.dead,.dead,.dead,.dead,.dead,.dead,.dead,.dead,.dead,.dead,.dead,.dead,.dead,.dead,.dead,.dead,.imm 45 (rowsF l),.v (vI l.length),.v (vI i),.dead,.dead,.dead,.dead,.dead,.dead,.dead,.dead,.dead,.dead,.dead,.dead,.dead,.dead,.dead,.dead,.dead,.dead,.dead,.dead,.dead,.dead,.dead,.dead,.dead,.dead,.dead,.dead,.dead,.dead,.dead,.dead,.dead,.dead,.dead]) rfl (gS S6) (known_of (by
        have k1 := i5.k1 hds
        have k2 := i5.k2 (w1 := w1)
        have k3 := i5.k3 (w1 := w1)
        repeat' (first | exact knownF_rep | exact knownF_nil | refine knownF_cons (.inl rfl) ?_ | refine knownF_cons (.inr (by assumption)) ?_))) (fun x E => x = .normal ∧ E.sl.length = 67 ∧ E.sl.getD 32 .dead = .v (vB (decide (i < l.length)))) ?_ (fun _ _ h => h.2.1) ?_
      · simp only [go_sem,Nat.reduceAdd,Nat.reduceBEq,kcfg]
      rintro x ⟨P',E,a6,w6,F6,loc6,M6⟩ R6 hP S7 hk7 ⟨rfl,hz,hq⟩
      have S7 : BSt 100 5 w1 w1.heap.size a6 w6 67 (Fx ++ fieldsT (l.take i)) := S7
      have i7 : I3 w1.heap.size pM a6 := i5.keep (hk7 1 rfl) (hk7 2 rfl) (hk7 3 rfl)
      have u29 : a6.tmps.getD 29 undef = X 5 := (hk7 29 rfl).trans v29
      have u30 : a6.tmps.getD 30 undef = vI l.length := (hk7 30 rfl).trans v30
      have u31 : a6.tmps.getD 31 undef = vI i := (hk7 31 rfl).trans v31b
      have hv32 : a6.eval (.tmp 32) = .bool (decide (i < l.length)) := slot_v R6 hq
      clear R6 hk7 hq hz k29 k30 k31 S6 i5 v29 v30 v31b
      refine wp_seq ?_
      by_cases hc : i < l.length
      · rw [decide_eq_true hc] at hv32
        refine wp_cond hv32 ?_
        refine wp_skip ?_
        have hw := wrapN hc hs
        have g1 := rowsF_getD hc
        have g2 := fieldsB_at hf hc
        have g3 := fieldB_le g2
        have g4 := fieldT_len (l.getD i ([],[]))
        have hci : ((i : Int) < (l.length : Int)) := by omega
        refine wp_seq ?_
        refine wp_block ?_
        refine wp_seq ?_
        have R7 := S7.rel (sl := [.dead,.rptr [.v (vS me),.v (vS ta),.v (vI (st : Nat)),.v (vS re),.v (vB ba),.imm 45 (rowsF l),.v (vS bo)],.v (vS []),.v (.pointer (some ⟨w1.heap.size,0,none⟩)),.dead,.dead,.dead,.dead,.dead,.dead,.dead,.dead,.dead,.dead,.dead,.dead,.dead,.dead,.dead,.dead,.dead,.dead,.dead,.dead,.dead,.dead,.dead,.dead,.dead,.imm 45 (rowsF l),.v (vI l.length),.v (vI i),.dead,.dead,.dead,.dead,.dead,.dead,.dead,.dead,.dead,.dead,.dead,.dead,.dead,.dead,.dead,.dead,.dead,.dead,.dead,.dead,.dead,.dead,.dead,.dead,.dead,.dead,.dead,.dead,.dead,.dead,.dead,.dead,.dead,.dead,.dead]) rfl (gS S7) (known_of (by
          have k1 := i7.k1 hds
          have k2 := i7.k2 (w1 := w1)
          have k3 := i7.k3 (w1 := w1)
          have k29 : PV prog w1 w1.heap.size (.imm 45 (rowsF l)) (a6.tmps.getD 29 undef) := by rw [u29]; exact hX5.1
          have k30 : PV prog w1 w1.heap.size (.v (vI l.length)) (a6.tmps.getD 30 undef) := pv_eq u30 rfl rfl
          have k31 : PV prog w1 w1.heap.size (.v (vI i)) (a6.tmps.getD 31 undef) := pv_eq u31 rfl rfl
          repeat' (first | exact knownF_rep | exact knownF_nil | refine knownF_cons (.inl rfl) ?_ | refine knownF_cons (.inr (by assumption)) ?_)))
        refine wp_of (op_ok (cfg := kcfg [1,2,3,29,30,31]) tbOk) R7 (fun x E => x = .normal ∧ E.sl.length = 67 ∧ E.forget (fun t => !([3,5] : List Nat).contains t) = (⟨[.dead,.dead,.dead,.v (.pointer (some ⟨w1.heap.size,0,none⟩)),.dead,.cref 5 0,.dead,.dead,.dead,.dead,.dead,.dead,.dead,.dead,.dead,.dead,.dead,.dead,.dead,.dead,.dead,.dead,.dead,.dead,.dead,.dead,.dead,.dead,.dead,.dead,.dead,.dead,.dead,.dead,.dead,.dead,.dead,.dead,.dead,.dead,.dead,.dead,.dead,.dead,.dead,.dead,.dead,.dead,.dead,.dead,.dead,.dead,.dead,.dead,.dead,.dead,.dead,.dead,.dead,.dead,.dead,.dead,.dead,.dead,.dead,.dead,.dead],[none,none,none,none,none,some [.v (vS (l.getD i ([],[])).1),.v (vS (l.getD i ([],[])).2)],none,none,none,none,none,none,none,none,none,none,none,none,none,none,none,none,none,none,none,none,none,none,none,none,none,none,none,none,none,none,none,none,none,none,none,none,none,none,none,none,none,none,none,none,none,none,none,none,none,none,none,none,none,none,none,none,none,none,none,none,none]⟩ : Env)) ?_ ?_
        · simp only [go_sem,Nat.reduceLeDiff,Nat.reduceLT,Nat.reduceAdd,Nat.reduceBEq,kcfg,rowsF_length,hci,g1]
          first | rfl | exact ⟨rfl,rfl,rfl⟩ | trace_state
        rintro x C R8 hP hk8 ⟨rfl,hz,hE5⟩
        have S8 := S7.after R8 hz
        have i8 : I3 w1.heap.size pM C.a := i7.keep (hk8 1 rfl) (hk8 2 rfl) (hk8 3 rfl)
        have y29 : C.a.tmps.getD 29 undef = X 5 := (hk8 29 rfl).trans u29
        have y30 : C.a.tmps.getD 30 undef = vI l.length := (hk8 30 rfl).trans u30
        have y31 : C.a.tmps.getD 31 undef = vI i := (hk8 31 rfl).trans u31
        have R9 := R8.forget (fun t => !([3,5] : List Nat).contains t)
        rw [hE5] at R9
        refine (?_ : Code.wp _ _ _ ({ C with E := (⟨[.dead,.dead,.dead,.v (.pointer (some ⟨w1.heap.size,0,none⟩)),.dead,.cref 5 0,.dead,.dead,.dead,.dead,.dead,.dead,.dead,.dead,.dead,.dead,.dead,.dead,.dead,.dead,.dead,.dead,.dead,.dead,.dead,.dead,.dead,.dead,.dead,.dead,.dead,.dead,.dead,.dead,.dead,.dead,.dead,.dead,.dead,.dead,.dead,.dead,.dead,.dead,.dead,.dead,.dead,.dead,.dead,.dead,.dead,.dead,.dead,.dead,.dead,.dead,.dead,.dead,.dead,.dead,.dead,.dead,.dead,.dead,.dead,.dead,.dead],[none,none,none,none,none,some [.v (vS (l.getD i ([],[])).1),.v (vS (l.getD i ([],[])).2)],none,none,none,none,none,none,none,none,none,none,none,none,none,none,none,none,none,none,none,none,none,none,none,none,none,none,none,none,none,none,none,none,none,none,none,none,none,none,none,none,none,none,none,none,none,none,none,none,none,none,none,none,none,none,none,none,none,none,none,none,none]⟩ : Env) } : Ctx).a ({ C with E := (⟨[.dead,.dead,.dead,.v (.pointer (some ⟨w1.heap.size,0,none⟩)),.dead,.cref 5 0,.dead,.dead,.dead,.dead,.dead,.dead,.dead,.dead,.dead,.dead,.dead,.dead,.dead,.dead,.dead,.dead,.dead,.dead,.dead,.dead,.dead,.dead,.dead,.dead,.dead,.dead,.dead,.dead,.dead,.dead,.dead,.dead,.dead,.dead,.dead,.dead,.dead,.dead,.dead,.dead,.dead,.dead,.dead,.dead,.dead,.dead,.dead,.dead,.dead,.dead,.dead,.dead,.dead,.dead,.dead,.dead,.dead,.dead,.dead,.dead,.dead],[none,none,none,none,none,some [.v (vS (l.getD i ([],[])).1),.v (vS (l.getD i ([],[])).2)],none,none,none,none,none,none,none,none,none,none,none,none,none,none,none,none,none,none,none,none,none,none,none,none,none,none,none,none,none,none,none,none,none,none,none,none,none,none,none,none,none,none,none,none,none,none,none,none,none,none,none,none,none,none,none,none,none,none,none,none,none]⟩ : Env) } : Ctx).w)
        refine BSt.write_in (op_ok (cfg := kcfg [1,2,3,29,30,31]) tbOk) lays166 join_Builder_Extra_156 ent74 S7 R9 hP 3 rfl rfl rfl rfl rfl rfl rfl rfl i8.2.2 (y := 37) (s := fieldT (l.getD i ([],[])) ++ [13,10]) (by simp only [List.length_append,List.length_cons,List.length_nil,g4]; omega) ?_ ?_
        · dsimp only [List.take_succ_cons,List.take_zero,List.toList_toArray]
          simp only [go_sem,Nat.reduceAdd,Nat.reduceBEq,kcfg]
          refine ev_call (c120 _ _ (by omega) (by omega)) (retW0 rfl rfl rfl rfl) ?_
          simp only [go_sem,Nat.reduceLeDiff,Nat.reduceAdd]
          repeat' with_reducible refine And.intro (by (try simp only [List.length_append,List.length_cons,List.length_nil,g4]); omega) ?_
          try ((try simp only [g4]); omega)
        intro a7 w7 S9 hk9
        have i9 : I3 w1.heap.size pM a7 := i8.keep (hk9 1 rfl (by decide)) (hk9 2 rfl (by decide)) (hk9 3 rfl (by decide))
        have z29 : a7.tmps.getD 29 undef = X 5 := (hk9 29 rfl (by decide)).trans y29
        have z30 : a7.tmps.getD 30 undef = vI l.length := (hk9 30 rfl (by decide)).trans y30
        have z31 : a7.tmps.getD 31 undef = vI i := (hk9 31 rfl (by decide)).trans y31
        have hsn : Fx ++ fieldsT (l.take i) ++ (fieldT (l.getD i ([],[])) ++ [13,10]) = Fx ++ fieldsT (l.take (i + 1)) := by
          rw [fieldsT_snoc hc,List.append_assoc]; rfl
        rw [hsn] at S9
        clear R7 R8 R9 hk8 hk9 S8
        refine BSt.run (op_ok (cfg := kcfg [1,2,3,29,30]) tbOk) S9 (sl := [.dead,.rptr [.v (vS me),.v (vS ta),.v (vI (st : Nat)),.v (vS re),.v (vB ba),.imm 45 (rowsF l),.v (vS bo)],.v (vS []),.v (.pointer (some ⟨w1.heap.size,0,none⟩)),.dead,.dead,.dead,.dead,.dead,.dead,.dead,.dead,.dead,.dead,.dead,.dead,.dead,.dead,.dead,.dead,.dead,.dead,.dead,.dead,.dead,.dead,.dead,.dead,.dead,.imm 45 (rowsF l),.v (vI l.length),.v (vI i),.dead,.dead,.dead,.dead,.dead,.dead,.dead,.dead,.dead,.dead,.dead,.dead,.dead,.dead,.dead,.dead,.dead,.dead,.dead,.dead,.dead,.dead,.dead,.dead,.dead,.dead,.dead,.dead,.dead,.dead,.dead,.dead,.dead,.dead,.dead]) rfl (gS S9) (known_of (by
          have k1 := i9.k1 hds
          have k2 := i9.k2 (w1 := w1)
          have k3 := i9.k3 (w1 := w1)
          have k29 : PV prog w1 w1.heap.size (.imm 45 (rowsF l)) (a7.tmps.getD 29 undef) := by rw [z29]; exact hX5.1
          have k30 : PV prog w1 w1.heap.size (.v (vI l.length)) (a7.tmps.getD 30 undef) := pv_eq z30 rfl rfl
          have k31 : PV prog w1 w1.heap.size (.v (vI i)) (a7.tmps.getD 31 undef) := pv_eq z31 rfl rfl
          repeat' (first | exact knownF_rep | exact knownF_nil | refine knownF_cons (.inl rfl) ?_ | refine knownF_cons (.inr (by assumption)) ?_))) (fun x E => x = .normal ∧ E.sl.length = 67 ∧ E.sl.getD 31 .dead = .v (vI (i + 1 : Nat))) ?_ (fun _ _ h => h.2.1) ?_
        · simp only [go_sem,Nat.reduceAdd,Nat.reduceBEq,kcfg,hw]
        rintro x ⟨P',E,a8,w8,F8,loc8,M8⟩ R10 hP S10 hk10 ⟨rfl,hz,hq⟩
        exact ih a8 (i9.keep (hk10 1 rfl) (hk10 2 rfl) (hk10 3 rfl)) ((hk10 29 rfl).trans z29) ((hk10 30 rfl).trans z30) w8 (i + 1) hc S10 (slot_v R10 hq) (by omega)
      · rw [decide_eq_false hc] at hv32
        refine wp_cond hv32 ?_
        refine wp_exit ?_
        have he : i = l.length := by omega
        subst he
        rw [List.take_of_length_le (Nat.le_refl _)] at S7
        exact ⟨rfl,S7,i7⟩
  refine wp_seq ?_
  refine BSt.run (op_ok (cfg := kcfg [1,2,3]) tbOk) S1 (sl := ([.dead,.rptr [.v (vS me),.v (vS ta),.v (vI (st : Nat)),.v (vS re),.v (vB ba),.imm 45 (rowsF l),.v (vS bo)],.v (vS []),.v (.pointer (some ⟨w1.heap.size,0,none⟩))] ++ List.replicate 63 .dead)) rfl (gS S1) (known_of (by
    have k1 := i3.k1 hds
    have k2 := i3.k2 (w1 := w1)
    have k3 := i3.k3 (w1 := w1)
    repeat' (first | exact knownF_rep | exact knownF_nil | refine knownF_cons (.inl rfl) ?_ | refine knownF_cons (.inr (by assumption)) ?_))) (fun x E => x = .normal ∧ E.sl.length = 67 ∧ E.sl.getD 8 .dead = .v (vB (!(me == [])))) ?_ (fun _ _ h => h.2.1) ?_
  · simp only [go_sem,Nat.reduceLeDiff,Nat.reduceAdd,Nat.reduceBEq,kcfg]
  rintro x ⟨P',E,a3,w3,F3,loc3,M3⟩ R3 hP S3 hk3 ⟨rfl,hz,hq⟩
  have S3 : BSt 100 5 w1 w1.heap.size a3 w3 67 [] := S3
  have i3 : I3 w1.heap.size pM a3 := i3.keep (hk3 1 rfl) (hk3 2 rfl) (hk3 3 rfl)
  have hv8 : a3.eval (.tmp 8) = .bool (!(me == [])) := slot_v R3 hq
  clear R3 hk3 hq hz
  have K3 : Known prog w1 w1.heap.size a3 ([.dead,.rptr [.v (vS me),.v (vS ta),.v (vI (st : Nat)),.v (vS re),.v (vB ba),.imm 45 (rowsF l),.v (vS bo)],.v (vS []),.v (.pointer (some ⟨w1.heap.size,0,none⟩))] ++ List.replicate 63 .dead) := known_of (by
    have k1 := i3.k1 hds
    have k2 := i3.k2 (w1 := w1)
    have k3 := i3.k3 (w1 := w1)
    repeat' (first | exact knownF_rep | exact knownF_nil | refine knownF_cons (.inl rfl) ?_ | refine knownF_cons (.inr (by assumption)) ?_))
  refine wp_cond hv8 ?_
  cases hm : me == []
  · have hF : firstT me ta st re = me ++ [32] ++ ta ++ [32,72,84,84,80,47,49,46,49] ++ [13,10] := by
      unfold firstT; rw [hm]; rfl
    rw [hF]
    refine BSt.write (op_ok (cfg := kcfg [1,2,3]) tbOk) lays166 join_Builder_Extra_156 ent74 S3 (sl := ([.dead,.rptr [.v (vS me),.v (vS ta),.v (vI (st : Nat)),.v (vS re),.v (vB ba),.imm 45 (rowsF l),.v (vS bo)],.v (vS []),.v (.pointer (some ⟨w1.heap.size,0,none⟩))] ++ List.replicate 63 .dead)) rfl (gS S3) K3 8 rfl rfl rfl rfl rfl rfl rfl rfl i3.2.2 (y := 16) (s := me ++ [32] ++ ta ++ [32,72,84,84,80,47,49,46,49] ++ [13,10]) (by simp; omega) ?_ ?_
    · dsimp only [List.take_succ_cons,List.take_zero,List.toList_toArray]
      simp only [go_sem,Nat.reduceLeDiff,Nat.reduceAdd,Nat.reduceBEq,kcfg]
      repeat' with_reducible refine And.intro (by (try simp only [List.length_append,List.length_cons,List.length_nil]); omega) ?_
      try ((try simp only [List.length_append,List.length_cons,List.length_nil]); omega)
    intro a4 w4 S4 hk4
    exact ⟨rfl,S4,i3.keep (hk4 1 rfl (by decide)) (hk4 2 rfl (by decide)) (hk4 3 rfl (by decide))⟩
  · have hm1 : me = [] := by simpa using hm
    have hF : firstT me ta st re = 72 :: 84 :: 84 :: 80 :: 47 :: 49 :: 46 :: 49 :: 32 :: (Lib.itoa st ++ [32] ++ re ++ [13,10]) := by
      unfold firstT; rw [hm]; simp [httpA,crlf]
    rw [hF]
    have d3 : (Lib.itoa (st : Int)).length ≤ st + 1 := by rw [itoa_nat]; exact d1
    refine BSt.write_draw (op_ok (cfg := kcfg [1,2,3]) tbOk) lays166 join_Builder_Extra_156 ent74 S3 (sl := ([.dead,.rptr [.v (vS me),.v (vS ta),.v (vI (st : Nat)),.v (vS re),.v (vB ba),.imm 45 (rowsF l),.v (vS bo)],.v (vS []),.v (.pointer (some ⟨w1.heap.size,0,none⟩))] ++ List.replicate 63 .dead)) rfl (gS S3) K3 mixedOk 9 [[19,20,21,22,23,24,25,26],[20,21,22,23,24,25,26],[18,21,22,23,24,25,26],[18,19,22,23,24,25,26],[18,19,20,23,24,25,26],[18,19,20,21,22,24,25,26],[18,19,20,21,22,25,26],[18,19,20,21,23,26],[18,19,20,21,22,23,24]] rfl rfl rfl rfl rfl rfl rfl rfl rfl i3.2.2 (y := 26) (s := 72 :: 84 :: 84 :: 80 :: 47 :: 49 :: 46 :: 49 :: 32 :: (Lib.itoa st ++ [32] ++ re ++ [13,10])) (by simp; omega) ?_ ?_
    · simp only [go_sem,Nat.reduceLeDiff,Nat.reduceAdd,Nat.reduceBEq,kcfg]
      refine of_call (c119 st (by omega) (by omega) (by omega)) (retW0 rfl rfl rfl rfl) rfl rfl rfl ?_
      simp only [go_sem,Nat.reduceLeDiff,Nat.reduceAdd,Nat.reduceBEq]
      repeat' with_reducible refine And.intro (by (try simp only [List.length_append,List.length_cons,List.length_nil]); omega) ?_
      try ((try simp only [List.length_append,List.length_cons,List.length_nil]); omega)
    intro a4 w4 S4 hk4
    exact ⟨rfl,S4,i3.keep (hk4 1 rfl (by decide)) (hk4 2 rfl (by decide)) (hk4 3 rfl (by decide))⟩
set_option maxRecDepth 100000
set_option maxHeartbeats 600000
def mdead (x : D) : D := .agg [.dead,.dead,.dead,.dead,.dead,x,.dead]
def mcfg (np : Nat) (ks : List Nat) : Cfg := ⟨np,fun t => ks.contains t,tb,pts,md⟩
theorem c9 (me ta : List UInt8) (st : Int) (re : List UInt8) (ba : Bool) (l : List Fld) (bo : List UInt8) (hl : l.length ≤ 1048576) (k : Nat) (h1 : 0 < k) (hk : k ≤ 4) : Sem prog 9 ⟨[.agg [.v (vS me),.v (vS ta),.v (vI st),.v (vS re),.v (vB ba),.own 45 (rowsF l),.v (vS bo)],.v (vI k)],[none,none]⟩ ⟨[mdead (.own 45 (rowsF (marks l.length k))),.dead,.v (vI (k + 2 * l.length : Nat))],[none,none]⟩ := by
  refine sem_fin (cfg := mcfg 2 [0]) (ts := [.tm 4]) tbOk func9 rfl rfl rfl rfl (fun t h => by simp [mcfg] at h; subst h; decide) ?_
  have h21 := c29 l hl k h1 hk
  simp only [go_sem,Nat.reduceLeDiff,Nat.reduceAdd,Nat.reduceSub,Nat.reduceBEq,Nat.reduceEqDiff,reduceCtorEq,Nat.reduceDiv,Nat.reduceMod,f9,mcfg]
  refine ev_call h21 (retW1 rfl rfl rfl rfl rfl rfl) ?_
  simp only [go_sem,Nat.reduceAdd,Nat.reduceBNe,Nat.reduceEqDiff,reduceCtorEq]
  exact ⟨.inr rfl,_,.inr (.inr (.inr ⟨false,0,0,7,rfl⟩)),rfl,rfl⟩
theorem c10 (me ta : List UInt8) (st : Int) (re : List UInt8) (ba : Bool) (l : List Fld) (bo : List UInt8) (n : Nat) (hl : n ≤ 1048576) (k : Nat) (h1 : 0 < k) (hk : k ≤ 4) : Sem prog 10 ⟨[.agg [.v (vS me),.v (vS ta),.v (vI st),.v (vS re),.v (vB ba),.imm 45 (rowsF (marks n k)),.v (vS bo)],.v (vI k)],[none,none]⟩ ⟨[.dead,.dead,.v (vI (k + 2 * n : Nat))],[none,none]⟩ := by
  refine sem_fin (cfg := cfg 2) (ts := [.tm 4]) tbOk func10 rfl rfl rfl rfl (fun t h => by cases h) ?_
  have h22 := c30 n hl k h1 hk
  have hq : ¬ ((k + 2 * n : Nat) : Int) < 0 := by omega
  simp only [go_sem,Nat.reduceLeDiff,Nat.reduceAdd,Nat.reduceSub,Int.reduceNeg,f10,cfg]
  refine ev_call h22 (retW0 rfl rfl rfl rfl) ?_
  simp only [go_sem,Nat.reduceAdd,Nat.reduceBNe,hq]
  first | exact fin0 (.inr rfl) rfl rfl rfl rfl | trace_state
theorem c6 (me ta : List UInt8) (st : Int) (re : List UInt8) (ba : Bool) (l : List Fld) (bo : List UInt8) (hl : Small l) (hm : l.length ≤ 1048576) : Sem prog 6 ⟨[.agg [.v (vS me),.v (vS ta),.v (vI st),.v (vS re),.v (vB ba),.imm 52 (rowsF l),.v (vS bo)]],[none]⟩ ⟨[.dead,.agg [.v (vS me),.v (vS ta),.v (vI st),.v (vS re),.v (vB ba),.own 45 (rowsF l),.v (vS bo)]],[none]⟩ := by
  refine sem_fin (cfg := cfg 1) (ts := [.ce 2 28]) tbOk func6 rfl rfl rfl rfl (fun t h => by cases h) ?_
  have h15 := c19 l hl hm
  simp only [go_sem,Nat.reduceLeDiff,Nat.reduceLT,Nat.reduceAdd,Nat.reduceSub,f6,cfg]
  refine ev_call h15 (retW0 rfl rfl rfl rfl) ?_
  simp only [go_sem,Nat.reduceLeDiff,Nat.reduceLT,Nat.reduceAdd,Nat.reduceEqDiff,reduceCtorEq,Nat.reduceDiv,Nat.reduceMod]
  first | exact fin0 (.inr rfl) rfl rfl rfl rfl | trace_state
theorem c8 (me ta : List UInt8) (st : Int) (re : List UInt8) (ba : Bool) (l : List Fld) (bo : List UInt8) (me2 ta2 : List UInt8) (st2 : Int) (re2 : List UInt8) (ba2 : Bool) (l2 : List Fld) (bo2 : List UInt8) (h1 : l.length ≤ 9223372036854775807) (h2 : l2.length ≤ 9223372036854775807) : Sem prog 8 ⟨[.agg [.v (vS me),.v (vS ta),.v (vI st),.v (vS re),.v (vB ba),.imm 45 (rowsF l),.v (vS bo)],.agg [.v (vS me2),.v (vS ta2),.v (vI st2),.v (vS re2),.v (vB ba2),.imm 45 (rowsF l2),.v (vS bo2)]],[none,none]⟩ ⟨[.dead,.dead,.v (vB ((me == me2) && (ta == ta2) && (st == st2) && (re == re2) && (ba == ba2) && (l == l2) && (bo == bo2)))],[none,none]⟩ := by
  refine sem_fin (cfg := cfg 2) (ts := [.tm 4]) tbOk func8 rfl rfl rfl rfl (fun t h => by cases h) ?_
  have h20 := c28 l l2 h1 h2
  cases e1 : me == me2
  · simp only [go_sem,Nat.reduceLeDiff,Nat.reduceLT,Nat.reduceAdd,Nat.reduceSub,f8,cfg,e1]
    first | exact fin0 (.inr rfl) rfl rfl rfl rfl | trace_state
  cases e2 : ta == ta2
  · simp only [go_sem,Nat.reduceLeDiff,Nat.reduceLT,Nat.reduceAdd,Nat.reduceSub,f8,cfg,e1,e2]
    first | exact fin0 (.inr rfl) rfl rfl rfl rfl | trace_state
  cases e3 : st == st2
  · have e3' : (st != st2) = true := by rw [bne,e3]; rfl
    simp only [go_sem,Nat.reduceLeDiff,Nat.reduceLT,Nat.reduceAdd,Nat.reduceSub,f8,cfg,e1,e2,e3']
    first | exact fin0 (.inr rfl) rfl rfl rfl rfl | trace_state
  have e3' : (st != st2) = false := by rw [bne,e3]; rfl
  cases e4 : re == re2
  · simp only [go_sem,Nat.reduceLeDiff,Nat.reduceLT,Nat.reduceAdd,Nat.reduceSub,f8,cfg,e1,e2,e3',e4]
    first | exact fin0 (.inr rfl) rfl rfl rfl rfl | trace_state
  cases e5 : ba == ba2
  · simp only [go_sem,Nat.reduceLeDiff,Nat.reduceLT,Nat.reduceAdd,Nat.reduceSub,f8,cfg,e1,e2,e3',e4,e5]
    first | exact fin0 (.inr rfl) rfl rfl rfl rfl | trace_state
  cases e6 : l == l2
  · simp only [go_sem,Nat.reduceLeDiff,Nat.reduceLT,Nat.reduceAdd,Nat.reduceSub,f8,cfg,e1,e2,e3',e4,e5]
    rw [e6] at h20
    refine ev_call h20 (retW0 rfl rfl rfl rfl) ?_
    simp only [go_sem,Nat.reduceAdd]
    first | exact fin0 (.inr rfl) rfl rfl rfl rfl | trace_state
  rw [e6] at h20
  cases e7 : bo == bo2
  · simp only [go_sem,Nat.reduceLeDiff,Nat.reduceLT,Nat.reduceAdd,Nat.reduceSub,f8,cfg,e1,e2,e3',e4,e5]
    refine ev_call h20 (retW0 rfl rfl rfl rfl) ?_
    simp only [go_sem,Nat.reduceLeDiff,Nat.reduceAdd,e7]
    first | exact fin0 (.inr rfl) rfl rfl rfl rfl | trace_state
  · simp only [go_sem,Nat.reduceLeDiff,Nat.reduceLT,Nat.reduceAdd,Nat.reduceSub,f8,cfg,e1,e2,e3',e4,e5]
    refine ev_call h20 (retW0 rfl rfl rfl rfl) ?_
    simp only [go_sem,Nat.reduceLeDiff,Nat.reduceAdd,e7]
    first | exact fin0 (.inr rfl) rfl rfl rfl rfl | trace_state
def szM (me ta re bo : List UInt8) (l : List Fld) (k : Int) : Int :=
  if k < me.length then -1 else
  if k - me.length < ta.length then -1 else
  if k - me.length - ta.length < re.length then -1 else
  let z := (if k - me.length - ta.length - re.length < l.length then -1 else szL l (k - me.length - ta.length - re.length - l.length))
  if z < 0 then -1 else
  if z < bo.length then -1 else z - bo.length
theorem szL_le : ∀ (l : List Fld) (k : Int),szL l k ≤ k ∨ szL l k = -1
  | [],k => .inl (Int.le_refl k)
  | p :: l,k => by
    have hup : szF p k ≤ k ∨ szF p k < 0 := by unfold szF; split <;> (try split) <;> omega
    unfold szL
    split
    · exact .inr rfl
    · have := szL_le l (szF p k)
      omega
theorem c4a (me ta : List UInt8) (st : Int) (re : List UInt8) (ba : Bool) (l : List Fld) (bo : List UInt8) (h1 : me.length ≤ 9223372036854775807) (h2 : ta.length ≤ 9223372036854775807) (h3 : re.length ≤ 9223372036854775807) (h4 : bo.length ≤ 9223372036854775807) (hl : Small l) (k : Int) (h0 : 0 ≤ k) (hk : k ≤ 1048576) (w1 : IntKind.i64.wrap (k - me.length) = k - me.length) (c1 : k - (me.length : Int) < 0) : Sem prog 4 ⟨[.agg [.v (vS me),.v (vS ta),.v (vI st),.v (vS re),.v (vB ba),.imm 52 (rowsF l),.v (vS bo)],.v (vI k)],[none,none]⟩ ⟨[.dead,.dead,.v (vI (-1))],[none,none]⟩ := by
  refine sem_fin (cfg := cfg 2) (ts := [.tm 4]) tbOk func4 rfl rfl rfl rfl (fun t h => by cases h) ?_
  simp only [go_sem,Nat.reduceLeDiff,Nat.reduceAdd,Nat.reduceSub,Nat.reduceBNe,Int.reduceNeg,f4,cfg,h1,w1,c1]
  first | exact fin0 (.inr rfl) rfl rfl rfl rfl | trace_state
theorem c4b (me ta : List UInt8) (st : Int) (re : List UInt8) (ba : Bool) (l : List Fld) (bo : List UInt8) (h1 : me.length ≤ 9223372036854775807) (h2 : ta.length ≤ 9223372036854775807) (h3 : re.length ≤ 9223372036854775807) (h4 : bo.length ≤ 9223372036854775807) (hl : Small l) (k : Int) (h0 : 0 ≤ k) (hk : k ≤ 1048576) (w1 : IntKind.i64.wrap (k - me.length) = k - me.length) (c1 : ¬ k - (me.length : Int) < 0) (w2 : IntKind.i64.wrap (k - me.length - ta.length) = k - me.length - ta.length) (c2 : k - (me.length : Int) - ta.length < 0) : Sem prog 4 ⟨[.agg [.v (vS me),.v (vS ta),.v (vI st),.v (vS re),.v (vB ba),.imm 52 (rowsF l),.v (vS bo)],.v (vI k)],[none,none]⟩ ⟨[.dead,.dead,.v (vI (-1))],[none,none]⟩ := by
  refine sem_fin (cfg := cfg 2) (ts := [.tm 4]) tbOk func4 rfl rfl rfl rfl (fun t h => by cases h) ?_
  simp only [go_sem,Nat.reduceLeDiff,Nat.reduceAdd,Nat.reduceSub,Nat.reduceBNe,Int.reduceNeg,f4,cfg,h1,h2,w1,c1,w2,c2]
  first | exact fin0 (.inr rfl) rfl rfl rfl rfl | trace_state
theorem c4c (me ta : List UInt8) (st : Int) (re : List UInt8) (ba : Bool) (l : List Fld) (bo : List UInt8) (h1 : me.length ≤ 9223372036854775807) (h2 : ta.length ≤ 9223372036854775807) (h3 : re.length ≤ 9223372036854775807) (h4 : bo.length ≤ 9223372036854775807) (hl : Small l) (k : Int) (h0 : 0 ≤ k) (hk : k ≤ 1048576) (w1 : IntKind.i64.wrap (k - me.length) = k - me.length) (c1 : ¬ k - (me.length : Int) < 0) (w2 : IntKind.i64.wrap (k - me.length - ta.length) = k - me.length - ta.length) (c2 : ¬ k - (me.length : Int) - ta.length < 0) (w3 : IntKind.i64.wrap (k - me.length - ta.length - re.length) = k - me.length - ta.length - re.length) (c3 : k - (me.length : Int) - ta.length - re.length < 0) : Sem prog 4 ⟨[.agg [.v (vS me),.v (vS ta),.v (vI st),.v (vS re),.v (vB ba),.imm 52 (rowsF l),.v (vS bo)],.v (vI k)],[none,none]⟩ ⟨[.dead,.dead,.v (vI (-1))],[none,none]⟩ := by
  refine sem_fin (cfg := cfg 2) (ts := [.tm 4]) tbOk func4 rfl rfl rfl rfl (fun t h => by cases h) ?_
  simp only [go_sem,Nat.reduceLeDiff,Nat.reduceAdd,Nat.reduceSub,Nat.reduceBNe,Int.reduceNeg,f4,cfg,h1,h2,h3,w1,c1,w2,c2,w3,c3]
  first | exact fin0 (.inr rfl) rfl rfl rfl rfl | trace_state
theorem c4d (me ta : List UInt8) (st : Int) (re : List UInt8) (ba : Bool) (l : List Fld) (bo : List UInt8) (h1 : me.length ≤ 9223372036854775807) (h2 : ta.length ≤ 9223372036854775807) (h3 : re.length ≤ 9223372036854775807) (h4 : bo.length ≤ 9223372036854775807) (hl : Small l) (k : Int) (h0 : 0 ≤ k) (hk : k ≤ 1048576) (w1 : IntKind.i64.wrap (k - me.length) = k - me.length) (c1 : ¬ k - (me.length : Int) < 0) (w2 : IntKind.i64.wrap (k - me.length - ta.length) = k - me.length - ta.length) (c2 : ¬ k - (me.length : Int) - ta.length < 0) (w3 : IntKind.i64.wrap (k - me.length - ta.length - re.length) = k - me.length - ta.length - re.length) (c3 : ¬ k - (me.length : Int) - ta.length - re.length < 0) (z : Int) (h11 : Sem prog 11 ⟨[.imm 52 (rowsF l),.v (vI (k - me.length - ta.length - re.length))],[none,none]⟩ ⟨[.dead,.dead,.v (vI z)],[none,none]⟩) (c4 : z < 0) : Sem prog 4 ⟨[.agg [.v (vS me),.v (vS ta),.v (vI st),.v (vS re),.v (vB ba),.imm 52 (rowsF l),.v (vS bo)],.v (vI k)],[none,none]⟩ ⟨[.dead,.dead,.v (vI (-1))],[none,none]⟩ := by
  refine sem_fin (cfg := cfg 2) (ts := [.tm 4]) tbOk func4 rfl rfl rfl rfl (fun t h => by cases h) ?_
  simp only [go_sem,Nat.reduceLeDiff,Nat.reduceAdd,Nat.reduceSub,Nat.reduceBNe,Int.reduceNeg,f4,cfg,h1,h2,h3,w1,c1,w2,c2,w3,c3]
  refine ev_call h11 (retW0 rfl rfl rfl rfl) ?_
  simp only [go_sem,Nat.reduceAdd,Nat.reduceBNe,Int.reduceNeg,c4]
  first | exact fin0 (.inr rfl) rfl rfl rfl rfl | trace_state
theorem c4e (me ta : List UInt8) (st : Int) (re : List UInt8) (ba : Bool) (l : List Fld) (bo : List UInt8) (h1 : me.length ≤ 9223372036854775807) (h2 : ta.length ≤ 9223372036854775807) (h3 : re.length ≤ 9223372036854775807) (h4 : bo.length ≤ 9223372036854775807) (hl : Small l) (k : Int) (h0 : 0 ≤ k) (hk : k ≤ 1048576) (w1 : IntKind.i64.wrap (k - me.length) = k - me.length) (c1 : ¬ k - (me.length : Int) < 0) (w2 : IntKind.i64.wrap (k - me.length - ta.length) = k - me.length - ta.length) (c2 : ¬ k - (me.length : Int) - ta.length < 0) (w3 : IntKind.i64.wrap (k - me.length - ta.length - re.length) = k - me.length - ta.length - re.length) (c3 : ¬ k - (me.length : Int) - ta.length - re.length < 0) (z : Int) (h11 : Sem prog 11 ⟨[.imm 52 (rowsF l),.v (vI (k - me.length - ta.length - re.length))],[none,none]⟩ ⟨[.dead,.dead,.v (vI z)],[none,none]⟩) (c4 : ¬ z < 0) (w5 : IntKind.i64.wrap (z - bo.length) = z - bo.length) (c5 : z - (bo.length : Int) < 0) : Sem prog 4 ⟨[.agg [.v (vS me),.v (vS ta),.v (vI st),.v (vS re),.v (vB ba),.imm 52 (rowsF l),.v (vS bo)],.v (vI k)],[none,none]⟩ ⟨[.dead,.dead,.v (vI (-1))],[none,none]⟩ := by
  refine sem_fin (cfg := cfg 2) (ts := [.tm 4]) tbOk func4 rfl rfl rfl rfl (fun t h => by cases h) ?_
  simp only [go_sem,Nat.reduceLeDiff,Nat.reduceAdd,Nat.reduceSub,Nat.reduceBNe,Int.reduceNeg,f4,cfg,h1,h2,h3,w1,c1,w2,c2,w3,c3]
  refine ev_call h11 (retW0 rfl rfl rfl rfl) ?_
  simp only [go_sem,Nat.reduceLeDiff,Nat.reduceAdd,Nat.reduceBNe,Int.reduceNeg,h4,c4,w5,c5]
  first | exact fin0 (.inr rfl) rfl rfl rfl rfl | trace_state
theorem c4f (me ta : List UInt8) (st : Int) (re : List UInt8) (ba : Bool) (l : List Fld) (bo : List UInt8) (h1 : me.length ≤ 9223372036854775807) (h2 : ta.length ≤ 9223372036854775807) (h3 : re.length ≤ 9223372036854775807) (h4 : bo.length ≤ 9223372036854775807) (hl : Small l) (k : Int) (h0 : 0 ≤ k) (hk : k ≤ 1048576) (w1 : IntKind.i64.wrap (k - me.length) = k - me.length) (c1 : ¬ k - (me.length : Int) < 0) (w2 : IntKind.i64.wrap (k - me.length - ta.length) = k - me.length - ta.length) (c2 : ¬ k - (me.length : Int) - ta.length < 0) (w3 : IntKind.i64.wrap (k - me.length - ta.length - re.length) = k - me.length - ta.length - re.length) (c3 : ¬ k - (me.length : Int) - ta.length - re.length < 0) (z : Int) (h11 : Sem prog 11 ⟨[.imm 52 (rowsF l),.v (vI (k - me.length - ta.length - re.length))],[none,none]⟩ ⟨[.dead,.dead,.v (vI z)],[none,none]⟩) (c4 : ¬ z < 0) (w5 : IntKind.i64.wrap (z - bo.length) = z - bo.length) (c5 : ¬ z - (bo.length : Int) < 0) : Sem prog 4 ⟨[.agg [.v (vS me),.v (vS ta),.v (vI st),.v (vS re),.v (vB ba),.imm 52 (rowsF l),.v (vS bo)],.v (vI k)],[none,none]⟩ ⟨[.dead,.dead,.v (vI (z - bo.length))],[none,none]⟩ := by
  refine sem_fin (cfg := cfg 2) (ts := [.tm 4]) tbOk func4 rfl rfl rfl rfl (fun t h => by cases h) ?_
  simp only [go_sem,Nat.reduceLeDiff,Nat.reduceAdd,Nat.reduceSub,Nat.reduceBNe,Int.reduceNeg,f4,cfg,h1,h2,h3,w1,c1,w2,c2,w3,c3]
  refine ev_call h11 (retW0 rfl rfl rfl rfl) ?_
  simp only [go_sem,Nat.reduceLeDiff,Nat.reduceAdd,Nat.reduceBNe,h4,c4,w5,c5]
  first | exact fin0 (.inr rfl) rfl rfl rfl rfl | trace_state
theorem c4 (me ta : List UInt8) (st : Int) (re : List UInt8) (ba : Bool) (l : List Fld) (bo : List UInt8) (h1 : me.length ≤ 9223372036854775807) (h2 : ta.length ≤ 9223372036854775807) (h3 : re.length ≤ 9223372036854775807) (h4 : bo.length ≤ 9223372036854775807) (hl : Small l) (k : Int) (h0 : 0 ≤ k) (hk : k ≤ 1048576) : Sem prog 4 ⟨[.agg [.v (vS me),.v (vS ta),.v (vI st),.v (vS re),.v (vB ba),.imm 52 (rowsF l),.v (vS bo)],.v (vI k)],[none,none]⟩ ⟨[.dead,.dead,.v (vI (szM me ta re bo l k))],[none,none]⟩ := by
  unfold szM
  have w1 : IntKind.i64.wrap (k - me.length) = k - me.length := by rw [IntKind.wrap_i64]; omega
  by_cases c1 : k < me.length
  · rw [if_pos c1]; exact c4a me ta st re ba l bo h1 h2 h3 h4 hl k h0 hk w1 (by omega)
  rw [if_neg c1]
  have w2 : IntKind.i64.wrap (k - me.length - ta.length) = k - me.length - ta.length := by rw [IntKind.wrap_i64]; omega
  by_cases c2 : k - me.length < ta.length
  · rw [if_pos c2]; exact c4b me ta st re ba l bo h1 h2 h3 h4 hl k h0 hk w1 (by omega) w2 (by omega)
  rw [if_neg c2]
  have w3 : IntKind.i64.wrap (k - me.length - ta.length - re.length) = k - me.length - ta.length - re.length := by rw [IntKind.wrap_i64]; omega
  by_cases c3 : k - me.length - ta.length < re.length
  · rw [if_pos c3]; exact c4c me ta st re ba l bo h1 h2 h3 h4 hl k h0 hk w1 (by omega) w2 (by omega) w3 (by omega)
  rw [if_neg c3]
  have h11 := c11 l hl (k - me.length - ta.length - re.length) (by omega) (by omega)
  have hz : (if k - me.length - ta.length - re.length < l.length then -1 else szL l (k - me.length - ta.length - re.length - l.length)) ≤ 1048576 := by
    split
    · omega
    · have := szL_le l (k - me.length - ta.length - re.length - l.length)
      omega
  simp only
  generalize (if k - (me.length : Int) - ta.length - re.length < l.length then -1 else szL l (k - me.length - ta.length - re.length - l.length)) = z at h11 hz ⊢
  by_cases c4 : z < 0
  · rw [if_pos c4]; exact c4d me ta st re ba l bo h1 h2 h3 h4 hl k h0 hk w1 (by omega) w2 (by omega) w3 (by omega) z h11 c4
  rw [if_neg c4]
  have w5 : IntKind.i64.wrap (z - bo.length) = z - bo.length := by rw [IntKind.wrap_i64]; omega
  by_cases c5 : z < bo.length
  · rw [if_pos c5]; exact c4e me ta st re ba l bo h1 h2 h3 h4 hl k h0 hk w1 (by omega) w2 (by omega) w3 (by omega) z h11 c4 w5 (by omega)
  · rw [if_neg c5]; exact c4f me ta st re ba l bo h1 h2 h3 h4 hl k h0 hk w1 (by omega) w2 (by omega) w3 (by omega) z h11 c4 w5 (by omega)
end Go.Proofs.YtplagdnnnkdlnaaGreatDoor.Fw
/- Contracts: a request as it is forwarded. -/
namespace Go.Proofs.YtplagdnnnkdlnaaGreatDoor.Fw
open Go
open Go.Proofs.Tryz
set_option maxRecDepth 100000
set_option maxHeartbeats 4000000
set_option linter.unusedSimpArgs false
set_option linter.unusedVariables false
attribute [local congr] c_bnd c_slot c_cell c_all c_len c_chk c_asm c_opdR c_wp c_pwp c_pOps c_Done c_nx c_blk c_fin c_rowsR c_leafR c_opdsR c_coeLeaf c_coeLeaves c_lendLeaf c_lendLeaves c_coeCapt c_argR c_argsR c_boundR c_partsR c_srcR c_mfgo c_ite c_wpF c_OutF c_pHead c_pHeadN c_pDraw
def gs7_0 : List (Option (List Nat)) := [some [31,35],some [31,35],some [31,35],some [28,29,30,35],some [35],some [35],some [35],some [28,29,30,31,32,33,34],none,none]
attribute [go_sem] gs7_0
def gs5_0 : List (Option (List Nat)) := [some [32],some [32],some [32],some [29,30,31],none,none,none,none]
attribute [go_sem] gs5_0
def gs5_1 : List (Option (List Nat)) := [some [42,43,44,45,46,47,48,9],some [42,43,44,45,46,47,48,9],some [40,41,44,45,47,48,9],some [40,41,44,45,47,48,9],some [40,41,42,43,45,47,48,9],some [40,41,42,43,44,47,48,9],some [40,41,47,48,9],some [40,41,42,43,44,45,46,9],some [40,41,42,43,44,45,46,9],some [9],some [40,41,42,43,44,45,46,47,48,49],none]
attribute [go_sem] gs5_1
def gs7_1 : List (Option (List Nat)) := [some [43,44,45,46,47],some [43,44,45,46,47],some [41,42,45,46,47],some [41,42,45,46,47],some [41,42,43,44,46,47],some [41,42,43,44,45],some [41,42,43,44,45],none,none,some [51],some [50],none,none]
attribute [go_sem] gs7_1
theorem resU_none : resU none = .tup [zeroU,.v (vB false)] := id rfl
theorem resU_some {a : Adr} : resU (some a) = .tup [urlD a.ho a.p a.pa a.q a.b,.v (vB true)] := id rfl
attribute [local go_sem] rowsF_length optD_none optD_some resU_none resU_some
def hostN : List UInt8 := [72,111,115,116]
def fieldsA (a : Adr) (l : List Fld) (name : List UInt8) : Option (List Fld) :=
  match withB (e2eB l) (hostN,a.ho ++ portB a.p) with
  | none => none
  | some y => addB y name
def aheadB (me ta : List UInt8) (st : Int) (re : List UInt8) (ba : Bool) (l : List Fld) (bo name : List UInt8) : Option (List UInt8 × List Fld) :=
  match readU ta with
  | none => none
  | some a => if (msgB me ta st re ba l bo && !(me == [])) = true then
    match fieldsA a l name with
    | none => none
    | some x => if msgB me (urlT a.ho a.p a.pa a.q a.b) 0 [] false x bo = true then some (urlT a.ho a.p a.pa a.q a.b,x) else none
    else none
def resA (me bo : List UInt8) : Option (List UInt8 × List Fld) → D
  | none => .tup [msgZ,.v (vB false)]
  | some (t,x) => .tup [.agg [.v (vS me),.v (vS t),.v (vI 0),.v (vS []),.v (vB false),.own 45 (rowsF x),.v (vS bo)],.v (vB true)]
theorem ru_inv {s : List UInt8} {a : Adr} (hs : s.length ≤ 1048576) (h : readU s = some a) : a.ho.length ≤ 200 ∧ a.p ≤ 999999999999999 ∧ a.pa.length ≤ 100001 ∧ a.q.length ≤ 200 ∧ urlB a.ho a.p a.pa a.q a.b = true := by
  unfold readU at h
  split at h
  · rename_i h0
    have hl : s.length ≤ 200 := by
      unfold headB at h0
      simp only [Bool.and_eq_true,decide_eq_true_eq] at h0
      exact h0.1.1.1.1
    have hd : (s.drop 7).length ≤ 200 := by rw [List.length_drop]; omega
    generalize s.drop 7 = r at h hd
    split at h
    · cases h
    · rename_i p hp
      split at h
      · rename_i hu
        injection h with h
        subst h
        refine ⟨?_,?_,path_len r,Nat.le_trans (query_le r) hd,hu⟩
        · have h1 := upto_le 58 (authB r)
          have h2 := auth_le r
          simp only [hostR,foldB,List.length_map]; omega
        · unfold portR at hp
          split at hp
          · exact readD_le hp
          · injection hp with hp; subst hp; exact (by decide : 80 ≤ 999999999999999)
      · cases h
  · cases h
theorem withB_small {l y : List Fld} {f : Fld} (hl : Small l) (h : withB l f = some y) : Small y ∧ 1 ≤ y.length ∧ y.length ≤ 20 := by
  have hc := h
  unfold withB at hc
  obtain ⟨rfl,hf⟩ := withB_some h
  have hfl := fieldB_le hf
  split at hc
  · rename_i h2
    simp only [Bool.and_eq_true,decide_eq_true_eq] at h2
    refine ⟨⟨by rw [List.length_append]; simp; omega,fun q hq => ?_⟩,by simp,by rw [List.length_append]; simp; omega⟩
    rcases List.mem_append.1 hq with h1 | h1
    · exact (small_filter hl _).2 q h1
    · rw [List.mem_singleton] at h1; rw [h1]; omega
  · cases hc
theorem addB_two {l y x : List Fld} {v name : List UInt8} (h : withB l (hostN,v) = some y) (h2 : addB y name = some x) : 2 ≤ x.length := by
  obtain ⟨rfl,_⟩ := withB_some h
  unfold addB at h2
  split at h2
  · obtain ⟨rfl,_⟩ := withB_some h2
    have : (hostN,v) ∈ withoutB [86,105,97] (withoutB hostN l ++ [(hostN,v)]) := by
      refine List.mem_filter.2 ⟨List.mem_append.2 (.inr List.mem_cons_self),?_⟩
      show (!(foldB hostN == foldB [86,105,97])) = true
      decide
    have := List.length_pos_of_mem this
    rw [List.length_append]
    simp only [List.length_cons,List.length_nil]
    exact Nat.succ_le_succ this
  · cases h2
theorem addB_nil (name : List UInt8) : addB [] name = none ∨ ∃ x,addB [] name = some x ∧ x.length = 1 := by
  cases h : addB [] name with
  | none => exact .inl rfl
  | some x =>
    refine .inr ⟨x,rfl,?_⟩
    unfold addB at h
    split at h
    · obtain ⟨rfl,_⟩ := withB_some h
      rfl
    · cases h
section
variable (me ta : List UInt8) (st : Int) (re : List UInt8) (ba : Bool) (l : List Fld) (bo name : List UInt8) (h1 : me.length ≤ 9223372036854775807) (h2 : ta.length ≤ 1048576) (h3 : re.length ≤ 9223372036854775807) (h4 : bo.length ≤ 9223372036854775807) (hl : Small l) (hn : name.length ≤ 9223372036854775807)
abbrev msgD (f : D) : D := .agg [.v (vS me),.v (vS ta),.v (vI st),.v (vS re),.v (vB ba),f,.v (vS bo)]
include h1 h2 h3 h4 hl hn
theorem c7an (h : msgB me ta st re ba l bo = false) (o1 : readU ta = none) : Sem prog 7 ⟨[msgD me ta st re ba bo (.imm 45 (rowsF l)),.v (vS name)],[none,none]⟩ ⟨[.dead,.dead,.tup [msgZ,.v (vB false)]],[none,none]⟩ := by
  have u := And.intro h1 (And.intro h2 (And.intro h3 (And.intro h4 (And.intro hl hn))))
  clear u
  have x1 := c20 ta h2
  have x2 := c21 c70 me ta st re ba l bo h1 (by omega) h3 h4 hl
  rw [h] at x2
  rw [o1] at x1
  refine sb 2 [.ce 4 28,.tm 5] func7 ?_
  refine call0 x1 ?_
  refine call0 x2 ?_
  exact fz
theorem c7as (h : msgB me ta st re ba l bo = false) (a : Adr) (o1 : readU ta = some a) : Sem prog 7 ⟨[msgD me ta st re ba bo (.imm 45 (rowsF l)),.v (vS name)],[none,none]⟩ ⟨[.dead,.dead,.tup [msgZ,.v (vB false)]],[none,none]⟩ := by
  have u := And.intro h1 (And.intro h2 (And.intro h3 (And.intro h4 (And.intro hl hn))))
  clear u
  have x1 := c20 ta h2
  have x2 := c21 c70 me ta st re ba l bo h1 (by omega) h3 h4 hl
  rw [h] at x2
  rw [o1] at x1
  refine sb 2 [.ce 4 28,.tm 5] func7 ?_
  refine call0 x1 ?_
  refine call0 x2 ?_
  exact fz
theorem c7bn (h : msgB me ta st re ba l bo = true) (hm : (me == []) = true) (o1 : readU ta = none) : Sem prog 7 ⟨[msgD me ta st re ba bo (.imm 45 (rowsF l)),.v (vS name)],[none,none]⟩ ⟨[.dead,.dead,.tup [msgZ,.v (vB false)]],[none,none]⟩ := by
  have u := And.intro h1 (And.intro h2 (And.intro h3 (And.intro h4 (And.intro hl hn))))
  clear u
  have x1 := c20 ta h2
  have x2 := c21 c70 me ta st re ba l bo h1 (by omega) h3 h4 hl
  rw [h] at x2
  rw [o1] at x1
  refine sb 2 [.ce 4 28,.tm 5] func7 ?_
  refine call0 x1 ?_
  refine call0 x2 ?_
  exact fz
theorem c7bs (h : msgB me ta st re ba l bo = true) (hm : (me == []) = true) (a : Adr) (o1 : readU ta = some a) : Sem prog 7 ⟨[msgD me ta st re ba bo (.imm 45 (rowsF l)),.v (vS name)],[none,none]⟩ ⟨[.dead,.dead,.tup [msgZ,.v (vB false)]],[none,none]⟩ := by
  have u := And.intro h1 (And.intro h2 (And.intro h3 (And.intro h4 (And.intro hl hn))))
  clear u
  have x1 := c20 ta h2
  have x2 := c21 c70 me ta st re ba l bo h1 (by omega) h3 h4 hl
  rw [h] at x2
  rw [o1] at x1
  refine sb 2 [.ce 4 28,.tm 5] func7 ?_
  refine call0 x1 ?_
  refine call0 x2 ?_
  exact fz
theorem c7c (h : msgB me ta st re ba l bo = true) (hm : (me == []) = false) (o1 : readU ta = none) : Sem prog 7 ⟨[msgD me ta st re ba bo (.imm 45 (rowsF l)),.v (vS name)],[none,none]⟩ ⟨[.dead,.dead,.tup [msgZ,.v (vB false)]],[none,none]⟩ := by
  have u := And.intro h1 (And.intro h2 (And.intro h3 (And.intro h4 (And.intro hl hn))))
  clear u
  have x1 := c20 ta h2
  have x2 := c21 c70 me ta st re ba l bo h1 (by omega) h3 h4 hl
  rw [h] at x2
  rw [o1] at x1
  refine sb 2 [.ce 4 28,.tm 5] func7 ?_
  refine call0 x1 ?_
  refine call0 x2 ?_
  exact fz
theorem c5c (o1 : readU ta = none) : Sem prog 5 ⟨[msgD me ta st re ba bo (.imm 45 (rowsF l)),.v (vS name)],[none,none]⟩ ⟨[.dead,.dead,.tup [msgZ,.v (vB false)]],[none,none]⟩ := by
  have u := And.intro h1 (And.intro h2 (And.intro h3 (And.intro h4 (And.intro hl hn))))
  clear u
  have x1 := c12 ta h2
  rw [o1] at x1
  refine sb 2 [.ce 4 28,.tm 5] func5 ?_
  refine call0 x1 ?_
  exact fz
theorem c5a (h : msgB me ta st re ba l bo = false) (a : Adr) (o1 : readU ta = some a) : Sem prog 5 ⟨[msgD me ta st re ba bo (.imm 45 (rowsF l)),.v (vS name)],[none,none]⟩ ⟨[.dead,.dead,.tup [msgZ,.v (vB false)]],[none,none]⟩ := by
  have u := And.intro h1 (And.intro h2 (And.intro h3 (And.intro h4 (And.intro hl hn))))
  clear u
  have x1 := c12 ta h2
  have x2 := c13 me ta st re ba l bo h1 (by omega) h3 h4 hl
  rw [h] at x2
  rw [o1] at x1
  refine sb 2 [.ce 4 28,.tm 5] func5 ?_
  refine call0 x1 ?_
  refine call0 x2 ?_
  exact fz
theorem c5b (h : msgB me ta st re ba l bo = true) (hm : (me == []) = true) (a : Adr) (o1 : readU ta = some a) : Sem prog 5 ⟨[msgD me ta st re ba bo (.imm 45 (rowsF l)),.v (vS name)],[none,none]⟩ ⟨[.dead,.dead,.tup [msgZ,.v (vB false)]],[none,none]⟩ := by
  have u := And.intro h1 (And.intro h2 (And.intro h3 (And.intro h4 (And.intro hl hn))))
  clear u
  have x1 := c12 ta h2
  have x2 := c13 me ta st re ba l bo h1 (by omega) h3 h4 hl
  rw [h] at x2
  rw [o1] at x1
  refine sb 2 [.ce 4 28,.tm 5] func5 ?_
  refine call0 x1 ?_
  refine call0 x2 ?_
  exact fz
theorem c7d (h : msgB me ta st re ba l bo = true) (hm : (me == []) = false) (a : Adr) (o1 : readU ta = some a) (w1 : withB (e2eB l) (hostN,a.ho ++ portB a.p) = none) (v1 : addB [] name = none) : Sem prog 7 ⟨[msgD me ta st re ba bo (.imm 45 (rowsF l)),.v (vS name)],[none,none]⟩ ⟨[.dead,.dead,.tup [msgZ,.v (vB false)]],[none,none]⟩ := by
  have x1 := c20 ta h2
  have x2 := c21 c70 me ta st re ba l bo h1 (by omega) h3 h4 hl
  rw [h] at x2
  rw [o1] at x1
  obtain ⟨b1,b2,b3,b4,b5⟩ := ru_inv h2 o1
  have b6 := port_len a.p b2
  have x3 := c24 l hl
  have x4 := c25 a.ho a.p a.pa a.q a.b (by omega) b2 (by omega) (by omega) b5
  have x5 : Sem prog 23 ⟨[.imm 45 (rowsF (e2eB l)),.agg [.v (vS [72,111,115,116]),.v (vS (a.ho ++ portB a.p))]],[none,none]⟩ ⟨[.dead,.dead,optD (withB (e2eB l) (hostN,a.ho ++ portB a.p))],[none,none]⟩ := c23 (e2eB l) (small_e2e hl) (hostN,a.ho ++ portB a.p) (by show hostN.length ≤ _; decide) (by simp only [List.length_append]; omega)
  rw [w1] at x5
  have x6 := c22 [] ⟨by decide,fun q hq => by cases hq⟩ name hn
  rw [v1] at x6
  refine sb 2 [.ce 4 28,.tm 5] func7 ?_
  refine call0 x1 ?_
  refine call0 x2 ?_
  generalize rowsF (e2eB l) = E at x3 x5
  cases E with
  | nil =>
    rw [sd_nil] at x3
    refine draw_new gs7_0 mixedOk (by kernel_rfl) ?_
    refine Z ?_
    refine drawn0 x3 ?_
    refine drawn0 x4 ?_
    refine drawn0 x5 ?_
    refine call0 x6 ?_
    exact fz
  | cons z zs =>
    rw [sd_cons] at x3
    refine draw_new gs7_0 mixedOk (by kernel_rfl) ?_
    refine Z ?_
    refine drawn0 x3 ?_
    refine drawn0 x4 ?_
    refine drawn0 x5 ?_
    refine call0 x6 ?_
    exact fz
theorem c7e (h : msgB me ta st re ba l bo = true) (hm : (me == []) = false) (a : Adr) (o1 : readU ta = some a) (w1 : withB (e2eB l) (hostN,a.ho ++ portB a.p) = none) (x : List Fld) (v1 : addB [] name = some x) (v2 : x.length = 1) : Sem prog 7 ⟨[msgD me ta st re ba bo (.imm 45 (rowsF l)),.v (vS name)],[none,none]⟩ ⟨[.dead,.dead,.tup [msgZ,.v (vB false)]],[none,none]⟩ := by
  have x1 := c20 ta h2
  have x2 := c21 c70 me ta st re ba l bo h1 (by omega) h3 h4 hl
  rw [h] at x2
  rw [o1] at x1
  obtain ⟨b1,b2,b3,b4,b5⟩ := ru_inv h2 o1
  have b6 := port_len a.p b2
  have x3 := c24 l hl
  have x4 := c25 a.ho a.p a.pa a.q a.b (by omega) b2 (by omega) (by omega) b5
  have x5 : Sem prog 23 ⟨[.imm 45 (rowsF (e2eB l)),.agg [.v (vS [72,111,115,116]),.v (vS (a.ho ++ portB a.p))]],[none,none]⟩ ⟨[.dead,.dead,optD (withB (e2eB l) (hostN,a.ho ++ portB a.p))],[none,none]⟩ := c23 (e2eB l) (small_e2e hl) (hostN,a.ho ++ portB a.p) (by show hostN.length ≤ _; decide) (by simp only [List.length_append]; omega)
  rw [w1] at x5
  have x6 := c22 [] ⟨by decide,fun q hq => by cases hq⟩ name hn
  rw [v1] at x6
  have v3 : ((x.length : Int) < 2) := by omega
  have v4 : x.length ≤ 9223372036854775807 := by omega
  clear v2
  refine sb 2 [.ce 4 28,.tm 5] func7 ?_
  refine call0 x1 ?_
  refine call0 x2 ?_
  generalize rowsF (e2eB l) = E at x3 x5
  cases E with
  | nil =>
    rw [sd_nil] at x3
    refine draw_new gs7_0 mixedOk (by kernel_rfl) ?_
    refine Z ?_
    refine drawn0 x3 ?_
    refine drawn0 x4 ?_
    refine drawn0 x5 ?_
    refine call0 x6 ?_
    exact fz
  | cons z zs =>
    rw [sd_cons] at x3
    refine draw_new gs7_0 mixedOk (by kernel_rfl) ?_
    refine Z ?_
    refine drawn0 x3 ?_
    refine drawn0 x4 ?_
    refine drawn0 x5 ?_
    refine call0 x6 ?_
    exact fz
theorem c5d (h : msgB me ta st re ba l bo = true) (hm : (me == []) = false) (a : Adr) (o1 : readU ta = some a) (w1 : withB (e2eB l) (hostN,a.ho ++ portB a.p) = none) : Sem prog 5 ⟨[msgD me ta st re ba bo (.imm 45 (rowsF l)),.v (vS name)],[none,none]⟩ ⟨[.dead,.dead,.tup [msgZ,.v (vB false)]],[none,none]⟩ := by
  have u := And.intro h1 (And.intro h2 (And.intro h3 (And.intro h4 (And.intro hl hn))))
  clear u
  have x1 := c12 ta h2
  have x2 := c13 me ta st re ba l bo h1 (by omega) h3 h4 hl
  rw [h] at x2
  rw [o1] at x1
  obtain ⟨b1,b2,b3,b4,b5⟩ := ru_inv h2 o1
  have b6 := port_len a.p b2
  have x3 := c15 l hl
  have x4 := c16 a.ho a.p a.pa a.q a.b (by omega) b2 (by omega) (by omega) b5
  have x5 : Sem prog 14 ⟨[.imm 45 (rowsF (e2eB l)),.agg [.v (vS [72,111,115,116]),.v (vS (a.ho ++ portB a.p))]],[none,none]⟩ ⟨[.dead,.dead,optD (withB (e2eB l) (hostN,a.ho ++ portB a.p))],[none,none]⟩ := c14 (e2eB l) (small_e2e hl) (hostN,a.ho ++ portB a.p) (by show hostN.length ≤ _; decide) (by simp only [List.length_append]; omega)
  rw [w1] at x5
  refine sb 2 [.ce 4 28,.tm 5] func5 ?_
  refine call0 x1 ?_
  refine call0 x2 ?_
  generalize rowsF (e2eB l) = E at x3 x5
  cases E with
  | nil =>
    rw [sd_nil] at x3
    refine draw_new gs5_0 mixedOk (by kernel_rfl) ?_
    refine Z ?_
    refine drawn0 x3 ?_
    refine call0 x4 ?_
    refine call0 x5 ?_
    exact fz
  | cons z zs =>
    rw [sd_cons] at x3
    refine draw_new gs5_0 mixedOk (by kernel_rfl) ?_
    refine Z ?_
    refine drawn0 x3 ?_
    refine call0 x4 ?_
    refine call0 x5 ?_
    exact fz
theorem c7f (h : msgB me ta st re ba l bo = true) (hm : (me == []) = false) (a : Adr) (o1 : readU ta = some a) (y : List Fld) (w1 : withB (e2eB l) (hostN,a.ho ++ portB a.p) = some y) (v1 : addB y name = none) : Sem prog 7 ⟨[msgD me ta st re ba bo (.imm 45 (rowsF l)),.v (vS name)],[none,none]⟩ ⟨[.dead,.dead,.tup [msgZ,.v (vB false)]],[none,none]⟩ := by
  have x1 := c20 ta h2
  have x2 := c21 c70 me ta st re ba l bo h1 (by omega) h3 h4 hl
  rw [h] at x2
  rw [o1] at x1
  obtain ⟨b1,b2,b3,b4,b5⟩ := ru_inv h2 o1
  have b6 := port_len a.p b2
  have x3 := c24 l hl
  have x4 := c25 a.ho a.p a.pa a.q a.b (by omega) b2 (by omega) (by omega) b5
  have x5 : Sem prog 23 ⟨[.imm 45 (rowsF (e2eB l)),.agg [.v (vS [72,111,115,116]),.v (vS (a.ho ++ portB a.p))]],[none,none]⟩ ⟨[.dead,.dead,optD (withB (e2eB l) (hostN,a.ho ++ portB a.p))],[none,none]⟩ := c23 (e2eB l) (small_e2e hl) (hostN,a.ho ++ portB a.p) (by show hostN.length ≤ _; decide) (by simp only [List.length_append]; omega)
  rw [w1] at x5
  obtain ⟨y1,y2,y3⟩ := withB_small (small_e2e hl) w1
  have y4 : ((y.length : Int) == 0) = false := by rw [beq_eq_false_iff_ne]; omega
  have y5 : y.length ≤ 9223372036854775807 := by omega
  have x6 := c22 y y1 name hn
  rw [v1] at x6
  refine sb 2 [.ce 4 28,.tm 5] func7 ?_
  refine call0 x1 ?_
  refine call0 x2 ?_
  generalize rowsF (e2eB l) = E at x3 x5
  cases E with
  | nil =>
    rw [sd_nil] at x3
    refine draw_new gs7_0 mixedOk (by kernel_rfl) ?_
    refine Z ?_
    refine drawn0 x3 ?_
    refine drawn0 x4 ?_
    refine drawn0 x5 ?_
    refine call0 x6 ?_
    exact fz
  | cons z zs =>
    rw [sd_cons] at x3
    refine draw_new gs7_0 mixedOk (by kernel_rfl) ?_
    refine Z ?_
    refine drawn0 x3 ?_
    refine drawn0 x4 ?_
    refine drawn0 x5 ?_
    refine call0 x6 ?_
    exact fz
theorem c5f (h : msgB me ta st re ba l bo = true) (hm : (me == []) = false) (a : Adr) (o1 : readU ta = some a) (y : List Fld) (w1 : withB (e2eB l) (hostN,a.ho ++ portB a.p) = some y) (v1 : addB y name = none) : Sem prog 5 ⟨[msgD me ta st re ba bo (.imm 45 (rowsF l)),.v (vS name)],[none,none]⟩ ⟨[.dead,.dead,.tup [msgZ,.v (vB false)]],[none,none]⟩ := by
  have x1 := c12 ta h2
  have x2 := c13 me ta st re ba l bo h1 (by omega) h3 h4 hl
  rw [h] at x2
  rw [o1] at x1
  obtain ⟨b1,b2,b3,b4,b5⟩ := ru_inv h2 o1
  have b6 := port_len a.p b2
  have x3 := c15 l hl
  have x4 := c16 a.ho a.p a.pa a.q a.b (by omega) b2 (by omega) (by omega) b5
  have x5 : Sem prog 14 ⟨[.imm 45 (rowsF (e2eB l)),.agg [.v (vS [72,111,115,116]),.v (vS (a.ho ++ portB a.p))]],[none,none]⟩ ⟨[.dead,.dead,optD (withB (e2eB l) (hostN,a.ho ++ portB a.p))],[none,none]⟩ := c14 (e2eB l) (small_e2e hl) (hostN,a.ho ++ portB a.p) (by show hostN.length ≤ _; decide) (by simp only [List.length_append]; omega)
  rw [w1] at x5
  obtain ⟨y1,y2,y3⟩ := withB_small (small_e2e hl) w1
  have y4 : ((y.length : Int) == 0) = false := by rw [beq_eq_false_iff_ne]; omega
  have y5 : y.length ≤ 9223372036854775807 := by omega
  have x6 := c18 y y1 name hn
  rw [v1] at x6
  have x7 := c17 a.ho a.p a.pa a.q a.b (by omega) b2 (by omega) (by omega) b5
  refine sb 2 [.ce 4 28,.tm 5] func5 ?_
  refine call0 x1 ?_
  refine call0 x2 ?_
  generalize rowsF (e2eB l) = E at x3 x5
  cases E with
  | nil =>
    rw [sd_nil] at x3
    refine draw_new gs5_0 mixedOk (by kernel_rfl) ?_
    refine Z ?_
    refine drawn0 x3 ?_
    refine call0 x4 ?_
    refine call0 x5 ?_
    refine draw_new gs5_1 mixedOk (by kernel_rfl) ?_
    refine Z ?_
    refine drawn0 x7 ?_
    refine drawn0 x6 ?_
    exact fz
  | cons z zs =>
    rw [sd_cons] at x3
    refine draw_new gs5_0 mixedOk (by kernel_rfl) ?_
    refine Z ?_
    refine drawn0 x3 ?_
    refine call0 x4 ?_
    refine call0 x5 ?_
    refine draw_new gs5_1 mixedOk (by kernel_rfl) ?_
    refine Z ?_
    refine drawn0 x7 ?_
    refine drawn0 x6 ?_
    exact fz
theorem c5g (h : msgB me ta st re ba l bo = true) (hm : (me == []) = false) (a : Adr) (o1 : readU ta = some a) (y : List Fld) (w1 : withB (e2eB l) (hostN,a.ho ++ portB a.p) = some y) (x : List Fld) (v1 : addB y name = some x) (m1 : msgB me (urlT a.ho a.p a.pa a.q a.b) 0 [] false x bo = false) : Sem prog 5 ⟨[msgD me ta st re ba bo (.imm 45 (rowsF l)),.v (vS name)],[none,none]⟩ ⟨[.dead,.dead,.tup [msgZ,.v (vB false)]],[none,none]⟩ := by
  have x1 := c12 ta h2
  have x2 := c13 me ta st re ba l bo h1 (by omega) h3 h4 hl
  rw [h] at x2
  rw [o1] at x1
  obtain ⟨b1,b2,b3,b4,b5⟩ := ru_inv h2 o1
  have b6 := port_len a.p b2
  have x3 := c15 l hl
  have x4 := c16 a.ho a.p a.pa a.q a.b (by omega) b2 (by omega) (by omega) b5
  have x5 : Sem prog 14 ⟨[.imm 45 (rowsF (e2eB l)),.agg [.v (vS [72,111,115,116]),.v (vS (a.ho ++ portB a.p))]],[none,none]⟩ ⟨[.dead,.dead,optD (withB (e2eB l) (hostN,a.ho ++ portB a.p))],[none,none]⟩ := c14 (e2eB l) (small_e2e hl) (hostN,a.ho ++ portB a.p) (by show hostN.length ≤ _; decide) (by simp only [List.length_append]; omega)
  rw [w1] at x5
  obtain ⟨y1,y2,y3⟩ := withB_small (small_e2e hl) w1
  have y4 : ((y.length : Int) == 0) = false := by rw [beq_eq_false_iff_ne]; omega
  have y5 : y.length ≤ 9223372036854775807 := by omega
  have x6 := c18 y y1 name hn
  rw [v1] at x6
  obtain ⟨z1,z2,z3⟩ := addB_some y1 v1
  have z4 := addB_two w1 v1
  have z5 : x.length ≤ 9223372036854775807 := by omega
  have z6 : ¬ (x.length : Int) < 2 := by omega
  have z7 : ((x.length : Int) == 0) = false := by rw [beq_eq_false_iff_ne]; omega
  have z8 : rowsF x ≠ [] := fun e => by have h1 := congrArg List.length e; rw [rowsF_length,List.length_nil] at h1; omega
  have t1 := urlT_len a.ho a.p a.pa a.q a.b b2
  have t2 : (urlT a.ho a.p a.pa a.q a.b).length ≤ 9223372036854775807 := by omega
  have x7 := c17 a.ho a.p a.pa a.q a.b (by omega) b2 (by omega) (by omega) b5
  have x8 := c13 me (urlT a.ho a.p a.pa a.q a.b) 0 [] false x bo h1 t2 (by decide) h4 z1
  rw [m1] at x8
  refine sb 2 [.ce 4 28,.tm 5] func5 ?_
  refine call0 x1 ?_
  refine call0 x2 ?_
  clear o1 w1 v1 m1 h hm x1 x2
  generalize rowsF (e2eB l) = E at x3 x5
  cases E with
  | nil =>
    rw [sd_nil] at x3
    refine draw_new gs5_0 mixedOk (by kernel_rfl) ?_
    refine Z ?_
    refine drawn0 x3 ?_
    refine call0 x4 ?_
    refine call0 x5 ?_
    refine draw_new gs5_1 mixedOk (by kernel_rfl) ?_
    refine Z ?_
    refine drawn0 x7 ?_
    refine drawn0 x6 ?_
    refine call0 x8 ?_
    exact fz
  | cons z zs =>
    rw [sd_cons] at x3
    refine draw_new gs5_0 mixedOk (by kernel_rfl) ?_
    refine Z ?_
    refine drawn0 x3 ?_
    refine call0 x4 ?_
    refine call0 x5 ?_
    refine draw_new gs5_1 mixedOk (by kernel_rfl) ?_
    refine Z ?_
    refine drawn0 x7 ?_
    refine drawn0 x6 ?_
    refine call0 x8 ?_
    exact fz
theorem c7g (h : msgB me ta st re ba l bo = true) (hm : (me == []) = false) (a : Adr) (o1 : readU ta = some a) (y : List Fld) (w1 : withB (e2eB l) (hostN,a.ho ++ portB a.p) = some y) (x : List Fld) (v1 : addB y name = some x) (m1 : msgB me (urlT a.ho a.p a.pa a.q a.b) 0 [] false x bo = false) : Sem prog 7 ⟨[msgD me ta st re ba bo (.imm 45 (rowsF l)),.v (vS name)],[none,none]⟩ ⟨[.dead,.dead,.tup [msgZ,.v (vB false)]],[none,none]⟩ := by
  have x1 := c20 ta h2
  have x2 := c21 c70 me ta st re ba l bo h1 (by omega) h3 h4 hl
  rw [h] at x2
  rw [o1] at x1
  obtain ⟨b1,b2,b3,b4,b5⟩ := ru_inv h2 o1
  have b6 := port_len a.p b2
  have x3 := c24 l hl
  have x4 := c25 a.ho a.p a.pa a.q a.b (by omega) b2 (by omega) (by omega) b5
  have x5 : Sem prog 23 ⟨[.imm 45 (rowsF (e2eB l)),.agg [.v (vS [72,111,115,116]),.v (vS (a.ho ++ portB a.p))]],[none,none]⟩ ⟨[.dead,.dead,optD (withB (e2eB l) (hostN,a.ho ++ portB a.p))],[none,none]⟩ := c23 (e2eB l) (small_e2e hl) (hostN,a.ho ++ portB a.p) (by show hostN.length ≤ _; decide) (by simp only [List.length_append]; omega)
  rw [w1] at x5
  obtain ⟨y1,y2,y3⟩ := withB_small (small_e2e hl) w1
  have y4 : ((y.length : Int) == 0) = false := by rw [beq_eq_false_iff_ne]; omega
  have y5 : y.length ≤ 9223372036854775807 := by omega
  have x6 := c22 y y1 name hn
  rw [v1] at x6
  obtain ⟨z1,z2,z3⟩ := addB_some y1 v1
  have z4 := addB_two w1 v1
  have z5 : x.length ≤ 9223372036854775807 := by omega
  have z6 : ¬ (x.length : Int) < 2 := by omega
  have z7 : ((x.length : Int) == 0) = false := by rw [beq_eq_false_iff_ne]; omega
  have z8 : rowsF x ≠ [] := fun e => by have h1 := congrArg List.length e; rw [rowsF_length,List.length_nil] at h1; omega
  have t1 := urlT_len a.ho a.p a.pa a.q a.b b2
  have t2 : (urlT a.ho a.p a.pa a.q a.b).length ≤ 9223372036854775807 := by omega
  have x7 := c26 a.ho a.p a.pa a.q a.b (by omega) b2 (by omega) (by omega)
  have x8 := c27n c70 me (urlT a.ho a.p a.pa a.q a.b) 0 [] false x bo h1 t2 (by decide) h4 z1 m1
  refine sb 2 [.ce 4 28,.tm 5] func7 ?_
  refine call0 x1 ?_
  refine call0 x2 ?_
  clear o1 w1 v1 m1 h hm x1 x2
  generalize rowsF (e2eB l) = E at x3 x5
  cases E with
  | nil =>
    rw [sd_nil] at x3
    refine draw_new gs7_0 mixedOk (by kernel_rfl) ?_
    refine Z ?_
    refine drawn0 x3 ?_
    refine drawn0 x4 ?_
    refine drawn0 x5 ?_
    refine call0 x6 ?_
    refine draw_new gs7_1 mixedOk (by kernel_rfl) ?_
    refine Z ?_
    refine drawn0 x7 ?_
    refine callm x8 ?_
    exact fz
  | cons z zs =>
    rw [sd_cons] at x3
    refine draw_new gs7_0 mixedOk (by kernel_rfl) ?_
    refine Z ?_
    refine drawn0 x3 ?_
    refine drawn0 x4 ?_
    refine drawn0 x5 ?_
    refine call0 x6 ?_
    refine draw_new gs7_1 mixedOk (by kernel_rfl) ?_
    refine Z ?_
    refine drawn0 x7 ?_
    refine callm x8 ?_
    exact fz
theorem c5h (h : msgB me ta st re ba l bo = true) (hm : (me == []) = false) (a : Adr) (o1 : readU ta = some a) (y : List Fld) (w1 : withB (e2eB l) (hostN,a.ho ++ portB a.p) = some y) (x : List Fld) (v1 : addB y name = some x) (m1 : msgB me (urlT a.ho a.p a.pa a.q a.b) 0 [] false x bo = true) : Sem prog 5 ⟨[msgD me ta st re ba bo (.imm 45 (rowsF l)),.v (vS name)],[none,none]⟩ ⟨[.dead,.dead,.tup [.agg [.v (vS me),.v (vS (urlT a.ho a.p a.pa a.q a.b)),.v (vI 0),.v (vS []),.v (vB false),.own 45 (rowsF x),.v (vS bo)],.v (vB true)]],[none,none]⟩ := by
  have x1 := c12 ta h2
  have x2 := c13 me ta st re ba l bo h1 (by omega) h3 h4 hl
  rw [h] at x2
  rw [o1] at x1
  obtain ⟨b1,b2,b3,b4,b5⟩ := ru_inv h2 o1
  have b6 := port_len a.p b2
  have x3 := c15 l hl
  have x4 := c16 a.ho a.p a.pa a.q a.b (by omega) b2 (by omega) (by omega) b5
  have x5 : Sem prog 14 ⟨[.imm 45 (rowsF (e2eB l)),.agg [.v (vS [72,111,115,116]),.v (vS (a.ho ++ portB a.p))]],[none,none]⟩ ⟨[.dead,.dead,optD (withB (e2eB l) (hostN,a.ho ++ portB a.p))],[none,none]⟩ := c14 (e2eB l) (small_e2e hl) (hostN,a.ho ++ portB a.p) (by show hostN.length ≤ _; decide) (by simp only [List.length_append]; omega)
  rw [w1] at x5
  obtain ⟨y1,y2,y3⟩ := withB_small (small_e2e hl) w1
  have y4 : ((y.length : Int) == 0) = false := by rw [beq_eq_false_iff_ne]; omega
  have y5 : y.length ≤ 9223372036854775807 := by omega
  have x6 := c18 y y1 name hn
  rw [v1] at x6
  obtain ⟨z1,z2,z3⟩ := addB_some y1 v1
  have z4 := addB_two w1 v1
  have z5 : x.length ≤ 9223372036854775807 := by omega
  have z6 : ¬ (x.length : Int) < 2 := by omega
  have z7 : ((x.length : Int) == 0) = false := by rw [beq_eq_false_iff_ne]; omega
  have z8 : rowsF x ≠ [] := fun e => by have h1 := congrArg List.length e; rw [rowsF_length,List.length_nil] at h1; omega
  have t1 := urlT_len a.ho a.p a.pa a.q a.b b2
  have t2 : (urlT a.ho a.p a.pa a.q a.b).length ≤ 9223372036854775807 := by omega
  have x7 := c17 a.ho a.p a.pa a.q a.b (by omega) b2 (by omega) (by omega) b5
  have x8 := c13 me (urlT a.ho a.p a.pa a.q a.b) 0 [] false x bo h1 t2 (by decide) h4 z1
  rw [m1] at x8
  refine sb 2 [.ce 4 28,.tm 5] func5 ?_
  refine call0 x1 ?_
  refine call0 x2 ?_
  clear o1 w1 v1 m1 h hm x1 x2
  generalize rowsF (e2eB l) = E at x3 x5
  cases E with
  | nil =>
    rw [sd_nil] at x3
    refine draw_new gs5_0 mixedOk (by kernel_rfl) ?_
    refine Z ?_
    refine drawn0 x3 ?_
    refine call0 x4 ?_
    refine call0 x5 ?_
    refine draw_new gs5_1 mixedOk (by kernel_rfl) ?_
    refine Z ?_
    refine drawn0 x7 ?_
    refine drawn0 x6 ?_
    refine call0 x8 ?_
    exact fz
  | cons z zs =>
    rw [sd_cons] at x3
    refine draw_new gs5_0 mixedOk (by kernel_rfl) ?_
    refine Z ?_
    refine drawn0 x3 ?_
    refine call0 x4 ?_
    refine call0 x5 ?_
    refine draw_new gs5_1 mixedOk (by kernel_rfl) ?_
    refine Z ?_
    refine drawn0 x7 ?_
    refine drawn0 x6 ?_
    refine call0 x8 ?_
    exact fz
theorem c7h (h : msgB me ta st re ba l bo = true) (hm : (me == []) = false) (a : Adr) (o1 : readU ta = some a) (y : List Fld) (w1 : withB (e2eB l) (hostN,a.ho ++ portB a.p) = some y) (x : List Fld) (v1 : addB y name = some x) (m1 : msgB me (urlT a.ho a.p a.pa a.q a.b) 0 [] false x bo = true) : Sem prog 7 ⟨[msgD me ta st re ba bo (.imm 45 (rowsF l)),.v (vS name)],[none,none]⟩ ⟨[.dead,.dead,.tup [.agg [.v (vS me),.v (vS (urlT a.ho a.p a.pa a.q a.b)),.v (vI 0),.v (vS []),.v (vB false),.own 45 (rowsF x),.v (vS bo)],.v (vB true)]],[none,none]⟩ := by
  have x1 := c20 ta h2
  have x2 := c21 c70 me ta st re ba l bo h1 (by omega) h3 h4 hl
  rw [h] at x2
  rw [o1] at x1
  obtain ⟨b1,b2,b3,b4,b5⟩ := ru_inv h2 o1
  have b6 := port_len a.p b2
  have x3 := c24 l hl
  have x4 := c25 a.ho a.p a.pa a.q a.b (by omega) b2 (by omega) (by omega) b5
  have x5 : Sem prog 23 ⟨[.imm 45 (rowsF (e2eB l)),.agg [.v (vS [72,111,115,116]),.v (vS (a.ho ++ portB a.p))]],[none,none]⟩ ⟨[.dead,.dead,optD (withB (e2eB l) (hostN,a.ho ++ portB a.p))],[none,none]⟩ := c23 (e2eB l) (small_e2e hl) (hostN,a.ho ++ portB a.p) (by show hostN.length ≤ _; decide) (by simp only [List.length_append]; omega)
  rw [w1] at x5
  obtain ⟨y1,y2,y3⟩ := withB_small (small_e2e hl) w1
  have y4 : ((y.length : Int) == 0) = false := by rw [beq_eq_false_iff_ne]; omega
  have y5 : y.length ≤ 9223372036854775807 := by omega
  have x6 := c22 y y1 name hn
  rw [v1] at x6
  obtain ⟨z1,z2,z3⟩ := addB_some y1 v1
  have z4 := addB_two w1 v1
  have z5 : x.length ≤ 9223372036854775807 := by omega
  have z6 : ¬ (x.length : Int) < 2 := by omega
  have z7 : ((x.length : Int) == 0) = false := by rw [beq_eq_false_iff_ne]; omega
  have z8 : rowsF x ≠ [] := fun e => by have h1 := congrArg List.length e; rw [rowsF_length,List.length_nil] at h1; omega
  have t1 := urlT_len a.ho a.p a.pa a.q a.b b2
  have t2 : (urlT a.ho a.p a.pa a.q a.b).length ≤ 9223372036854775807 := by omega
  have x7 := c26 a.ho a.p a.pa a.q a.b (by omega) b2 (by omega) (by omega)
  have x8 := c27y c70 me (urlT a.ho a.p a.pa a.q a.b) 0 [] false x bo h1 t2 (by decide) h4 z1 m1
  refine sb 2 [.ce 4 28,.tm 5] func7 ?_
  refine call0 x1 ?_
  refine call0 x2 ?_
  clear o1 w1 v1 m1 h hm x1 x2
  generalize rowsF (e2eB l) = E at x3 x5
  cases E with
  | nil =>
    rw [sd_nil] at x3
    refine draw_new gs7_0 mixedOk (by kernel_rfl) ?_
    refine Z ?_
    refine drawn0 x3 ?_
    refine drawn0 x4 ?_
    refine drawn0 x5 ?_
    refine call0 x6 ?_
    refine draw_new gs7_1 mixedOk (by kernel_rfl) ?_
    refine Z ?_
    refine drawn0 x7 ?_
    refine callm x8 ?_
    exact fz
  | cons z zs =>
    rw [sd_cons] at x3
    refine draw_new gs7_0 mixedOk (by kernel_rfl) ?_
    refine Z ?_
    refine drawn0 x3 ?_
    refine drawn0 x4 ?_
    refine drawn0 x5 ?_
    refine call0 x6 ?_
    refine draw_new gs7_1 mixedOk (by kernel_rfl) ?_
    refine Z ?_
    refine drawn0 x7 ?_
    refine callm x8 ?_
    exact fz
end
set_option maxRecDepth 100000
set_option maxHeartbeats 4000000
def gs3_0 : List (Option (List Nat)) := [some [49,50],some [48],some [48],none,none]
attribute [go_sem] gs3_0
attribute [local go_sem] rowsF_length
theorem szM_ta {me ta re bo : List UInt8} {l : List Fld} {k : Int} (hk : k ≤ 1048576) (h : ¬ szM me ta re bo l k < 0) : l.length ≤ 1048576 ∧ ta.length ≤ 1048576 := by
  unfold szM at h
  split at h
  · exact absurd (by decide) h
  split at h
  · exact absurd (by decide) h
  split at h
  · exact absurd (by decide) h
  by_cases hc : k - me.length - ta.length - re.length < l.length
  · rw [if_pos hc] at h
    simp at h
  · omega
theorem ahead_len {me ta : List UInt8} {st : Int} {re : List UInt8} {ba : Bool} {l : List Fld} {bo name : List UInt8} (hl : Small l) {t : List UInt8} {x : List Fld} (h : aheadB me ta st re ba l bo name = some (t,x)) : x.length ≤ 1048576 := by
  unfold aheadB fieldsA at h
  split at h
  · cases h
  split at h
  · split at h
    · cases h
    · rename_i x' hx
      split at hx
      · cases hx
      · rename_i y hy
        split at h
        · injection h with h
          injection h with h1 h2
          subst h2
          exact (addB_some (withB_small (small_e2e hl) hy).1 hx).2.2
        · cases h
  · cases h
section
variable (me ta : List UInt8) (st : Int) (re : List UInt8) (ba : Bool) (l : List Fld) (bo name : List UInt8) (h1 : me.length ≤ 9223372036854775807) (h2 : ta.length ≤ 9223372036854775807) (h3 : re.length ≤ 9223372036854775807) (h4 : bo.length ≤ 9223372036854775807) (hl : Small l) (hn : name.length ≤ 9223372036854775807)
include h1 h2 h3 h4 hl hn
abbrev Law : Prop := Sem prog 3 ⟨[msgD me ta st re ba bo (.imm 52 (rowsF l)),.v (vS name)],[none,none]⟩ ⟨[.dead,.dead,.v (vB true)],[none,none]⟩
omit h1 h2 h3 h4 hl in
theorem c3a (hb : (1048576 : Int) < (name.length : Int)) : Law me ta st re ba l bo name := by
  refine sb 2 [.tm 4] func3 ?_
  exact fz
theorem c3b (hb : ¬ (1048576 : Int) < (name.length : Int)) (z : Int) (h4s : Sem prog 4 ⟨[msgD me ta st re ba bo (.imm 52 (rowsF l)),.v (vI 1048576)],[none,none]⟩ ⟨[.dead,.dead,.v (vI z)],[none,none]⟩) (hz : z < 0) : Law me ta st re ba l bo name := by
  have u := And.intro h1 (And.intro h2 (And.intro h3 (And.intro h4 (And.intro hl hn))))
  clear u
  refine sb 2 [.tm 4] func3 ?_
  refine call0 h4s ?_
  exact fz
theorem c3c (hb : ¬ (1048576 : Int) < (name.length : Int)) (z : Int) (h4s : Sem prog 4 ⟨[msgD me ta st re ba bo (.imm 52 (rowsF l)),.v (vI 1048576)],[none,none]⟩ ⟨[.dead,.dead,.v (vI z)],[none,none]⟩) (hz : ¬ z < 0) (hm : l.length ≤ 1048576) (R : Option (List UInt8 × List Fld)) (hx : ∀ t x,R = some (t,x) → x.length ≤ 1048576)
    (h5 : Sem prog 5 ⟨[msgD me ta st re ba bo (.imm 45 (rowsF l)),.v (vS name)],[none,none]⟩ ⟨[.dead,.dead,resA me bo R],[none,none]⟩) (h7 : Sem prog 7 ⟨[msgD me ta st re ba bo (.imm 45 (rowsF l)),.v (vS name)],[none,none]⟩ ⟨[.dead,.dead,resA me bo R],[none,none]⟩) : Law me ta st re ba l bo name := by
  have u := And.intro h1 (And.intro h2 (And.intro h3 (And.intro h4 (And.intro hl hn))))
  clear u
  have h6 := c6 me ta st re ba l bo hl hm
  have hs : l.length ≤ 9223372036854775807 := hl.1
  have h8l := c8 me ta st re ba l bo me ta st re ba l bo hs hs
  have hll : ((me == me) && (ta == ta) && (st == st) && (re == re) && (ba == ba) && (l == l) && (bo == bo)) = true := by simp
  rw [hll] at h8l
  have h9l := c9 me ta st re ba l bo hm 1 (by decide) (by decide)
  have hk : ¬ ((1 + 2 * l.length : Nat) : Int) < 0 := by omega
  clear hll
  match R,h5,h7,hx with
  | none,h5,h7,_ =>
    have h5 : Sem prog 5 ⟨[msgD me ta st re ba bo (.imm 45 (rowsF l)),.v (vS name)],[none,none]⟩ ⟨[.dead,.dead,.tup [.agg [.v (vS []),.v (vS []),.v (vI 0),.v (vS []),.v (vB false),.nil,.v (vS [])],.v (vB false)]],[none,none]⟩ := h5
    have h7 : Sem prog 7 ⟨[msgD me ta st re ba bo (.imm 45 (rowsF l)),.v (vS name)],[none,none]⟩ ⟨[.dead,.dead,.tup [.agg [.v (vS []),.v (vS []),.v (vI 0),.v (vS []),.v (vB false),.nil,.v (vS [])],.v (vB false)]],[none,none]⟩ := h7
    have h8z : Sem prog 8 ⟨[msgD [] [] 0 [] false [] (.imm 45 []),msgD [] [] 0 [] false [] (.imm 45 [])],[none,none]⟩ ⟨[.dead,.dead,.v (vB true)],[none,none]⟩ := c8 [] [] 0 [] false [] [] [] [] 0 [] false [] [] (by decide) (by decide)
    have h9z : Sem prog 9 ⟨[msgD [] [] 0 [] false [] (.own 45 []),.v (vI 1)],[none,none]⟩ ⟨[mdead (.own 45 []),.dead,.v (vI 1)],[none,none]⟩ := c9 [] [] 0 [] false [] [] (by decide) 1 (by decide) (by decide)
    have h10z : Sem prog 10 ⟨[msgD [] [] 0 [] false [] (.imm 45 []),.v (vI 1)],[none,none]⟩ ⟨[.dead,.dead,.v (vI 1)],[none,none]⟩ := c10 [] [] 0 [] false [] [] 0 (by decide) 1 (by decide) (by decide)
    refine sb 2 [.tm 4] func3 ?_
    refine call0 h4s ?_
    refine call0 h6 ?_
    refine call0 h5 ?_
    refine call0 h6 ?_
    refine call0 h7 ?_
    refine call0 h8z ?_
    refine draw_new gs3_0 mixedOk (by kernel_rfl) ?_
    refine Z ?_
    refine drawn0 h6 ?_
    refine call0 h8l ?_
    refine call1 h9l ?_
    refine call0 h8z ?_
    refine call0 h9z ?_
    refine call0 h10z ?_
    refine call0 h6 ?_
    refine call0 h7 ?_
    refine call0 h8z ?_
    refine call0 h10z ?_
    exact fz
  | some (t,x),h5,h7,hx =>
    replace hx := hx t x rfl
    have h5 : Sem prog 5 ⟨[msgD me ta st re ba bo (.imm 45 (rowsF l)),.v (vS name)],[none,none]⟩ ⟨[.dead,.dead,.tup [msgD me t 0 [] false bo (.own 45 (rowsF x)),.v (vB true)]],[none,none]⟩ := h5
    have h7 : Sem prog 7 ⟨[msgD me ta st re ba bo (.imm 45 (rowsF l)),.v (vS name)],[none,none]⟩ ⟨[.dead,.dead,.tup [msgD me t 0 [] false bo (.own 45 (rowsF x)),.v (vB true)]],[none,none]⟩ := h7
    have h8x := c8 me t 0 [] false x bo me t 0 [] false x bo (by omega) (by omega)
    have hxx : ((me == me) && (t == t) && ((0 : Int) == 0) && (([] : List UInt8) == []) && (false == false) && (x == x) && (bo == bo)) = true := by simp
    rw [hxx] at h8x
    have h9x := c9 me t 0 [] false x bo hx 1 (by decide) (by decide)
    have h10x := c10 me t 0 [] false l bo x.length hx 1 (by decide) (by decide)
    have hq : ¬ ((1 + 2 * x.length : Nat) : Int) < 0 := by omega
    clear hxx
    refine sb 2 [.tm 4] func3 ?_
    refine call0 h4s ?_
    refine call0 h6 ?_
    refine call0 h5 ?_
    refine call0 h6 ?_
    refine call0 h7 ?_
    refine call0 h8x ?_
    refine draw_new gs3_0 mixedOk (by kernel_rfl) ?_
    refine Z ?_
    refine drawn0 h6 ?_
    refine call0 h8l ?_
    refine call1 h9l ?_
    refine call0 h8x ?_
    refine call1 h9x ?_
    refine call0 h10x ?_
    refine call0 h6 ?_
    refine call0 h7 ?_
    refine call0 h8x ?_
    refine call0 h10x ?_
    exact fz
omit h2 in
omit h2 in
theorem c7 (h2 : ta.length ≤ 1048576) : Sem prog 7 ⟨[msgD me ta st re ba bo (.imm 45 (rowsF l)),.v (vS name)],[none,none]⟩ ⟨[.dead,.dead,resA me bo (aheadB me ta st re ba l bo name)],[none,none]⟩ := by
  cases o1 : readU ta with
  | none =>
    have e : aheadB me ta st re ba l bo name = none := by unfold aheadB; rw [o1]
    rw [e]
    cases h : msgB me ta st re ba l bo
    · exact c7an me ta st re ba l bo name h1 h2 h3 h4 hl hn h o1
    cases hm : me == []
    · exact c7c me ta st re ba l bo name h1 h2 h3 h4 hl hn h hm o1
    · exact c7bn me ta st re ba l bo name h1 h2 h3 h4 hl hn h hm o1
  | some a =>
    cases h : msgB me ta st re ba l bo
    · have e : aheadB me ta st re ba l bo name = none := by unfold aheadB; rw [o1,h]; rfl
      rw [e]; exact c7as me ta st re ba l bo name h1 h2 h3 h4 hl hn h a o1
    cases hm : me == []
    · cases w1 : withB (e2eB l) (hostN,a.ho ++ portB a.p) with
      | none =>
        have fA : fieldsA a l name = none := by unfold fieldsA; rw [w1]
        have e : aheadB me ta st re ba l bo name = none := by unfold aheadB; rw [o1]; simp [h,hm,fA]
        rw [e]
        rcases addB_nil name with v1 | ⟨x,v1,v2⟩
        · exact c7d me ta st re ba l bo name h1 h2 h3 h4 hl hn h hm a o1 w1 v1
        · exact c7e me ta st re ba l bo name h1 h2 h3 h4 hl hn h hm a o1 w1 x v1 v2
      | some y =>
        cases v1 : addB y name with
        | none =>
          have fA : fieldsA a l name = none := by unfold fieldsA; rw [w1]; exact v1
          have e : aheadB me ta st re ba l bo name = none := by unfold aheadB; rw [o1]; simp [h,hm,fA]
          rw [e]; exact c7f me ta st re ba l bo name h1 h2 h3 h4 hl hn h hm a o1 y w1 v1
        | some x =>
          have fA : fieldsA a l name = some x := by unfold fieldsA; rw [w1]; exact v1
          cases m1 : msgB me (urlT a.ho a.p a.pa a.q a.b) 0 [] false x bo
          · have e : aheadB me ta st re ba l bo name = none := by unfold aheadB; rw [o1]; simp [h,hm,fA,m1]
            rw [e]; exact c7g me ta st re ba l bo name h1 h2 h3 h4 hl hn h hm a o1 y w1 x v1 m1
          · have e : aheadB me ta st re ba l bo name = some (urlT a.ho a.p a.pa a.q a.b,x) := by unfold aheadB; rw [o1]; simp [h,hm,fA,m1]
            rw [e]; exact c7h me ta st re ba l bo name h1 h2 h3 h4 hl hn h hm a o1 y w1 x v1 m1
    · have e : aheadB me ta st re ba l bo name = none := by unfold aheadB; rw [o1,h,hm]; rfl
      rw [e]; exact c7bs me ta st re ba l bo name h1 h2 h3 h4 hl hn h hm a o1
omit h2 in
theorem c5 (h2 : ta.length ≤ 1048576) : Sem prog 5 ⟨[msgD me ta st re ba bo (.imm 45 (rowsF l)),.v (vS name)],[none,none]⟩ ⟨[.dead,.dead,resA me bo (aheadB me ta st re ba l bo name)],[none,none]⟩ := by
  cases o1 : readU ta with
  | none =>
    have e : aheadB me ta st re ba l bo name = none := by unfold aheadB; rw [o1]
    rw [e]
    exact c5c me ta st re ba l bo name h1 h2 h3 h4 hl hn o1
  | some a =>
    cases h : msgB me ta st re ba l bo
    · have e : aheadB me ta st re ba l bo name = none := by unfold aheadB; rw [o1,h]; rfl
      rw [e]; exact c5a me ta st re ba l bo name h1 h2 h3 h4 hl hn h a o1
    cases hm : me == []
    · cases w1 : withB (e2eB l) (hostN,a.ho ++ portB a.p) with
      | none =>
        have fA : fieldsA a l name = none := by unfold fieldsA; rw [w1]
        have e : aheadB me ta st re ba l bo name = none := by unfold aheadB; rw [o1]; simp [h,hm,fA]
        rw [e]
        exact c5d me ta st re ba l bo name h1 h2 h3 h4 hl hn h hm a o1 w1
      | some y =>
        cases v1 : addB y name with
        | none =>
          have fA : fieldsA a l name = none := by unfold fieldsA; rw [w1]; exact v1
          have e : aheadB me ta st re ba l bo name = none := by unfold aheadB; rw [o1]; simp [h,hm,fA]
          rw [e]; exact c5f me ta st re ba l bo name h1 h2 h3 h4 hl hn h hm a o1 y w1 v1
        | some x =>
          have fA : fieldsA a l name = some x := by unfold fieldsA; rw [w1]; exact v1
          cases m1 : msgB me (urlT a.ho a.p a.pa a.q a.b) 0 [] false x bo
          · have e : aheadB me ta st re ba l bo name = none := by unfold aheadB; rw [o1]; simp [h,hm,fA,m1]
            rw [e]; exact c5g me ta st re ba l bo name h1 h2 h3 h4 hl hn h hm a o1 y w1 x v1 m1
          · have e : aheadB me ta st re ba l bo name = some (urlT a.ho a.p a.pa a.q a.b,x) := by unfold aheadB; rw [o1]; simp [h,hm,fA,m1]
            rw [e]; exact c5h me ta st re ba l bo name h1 h2 h3 h4 hl hn h hm a o1 y w1 x v1 m1
    · have e : aheadB me ta st re ba l bo name = none := by unfold aheadB; rw [o1,h,hm]; rfl
      rw [e]; exact c5b me ta st re ba l bo name h1 h2 h3 h4 hl hn h hm a o1
theorem c3 : Law me ta st re ba l bo name := by
  by_cases hb : (1048576 : Int) < (name.length : Int)
  · exact c3a me ta st re ba l bo name hn hb
  have h4s := c4 me ta st re ba l bo h1 h2 h3 h4 hl 1048576 (by decide) (by decide)
  have hp := szM_ta (me := me) (ta := ta) (re := re) (bo := bo) (l := l) (k := 1048576) (by decide)
  generalize szM me ta re bo l 1048576 = z at h4s hp
  by_cases hz : z < 0
  · exact c3b me ta st re ba l bo name h1 h2 h3 h4 hl hn hb z h4s hz
  exact c3c me ta st re ba l bo name h1 h2 h3 h4 hl hn hb z h4s hz (hp hz).1 (aheadB me ta st re ba l bo name) (fun t x h => ahead_len hl h) (c5 me ta st re ba l bo name h1 h3 h4 hl hn (hp hz).2) (c7 me ta st re ba l bo name h1 h3 h4 hl hn (hp hz).2)
end
end Go.Proofs.YtplagdnnnkdlnaaGreatDoor.Fw
