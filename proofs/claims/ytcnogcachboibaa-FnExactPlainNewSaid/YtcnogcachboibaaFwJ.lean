/- Framework, part J: the table of types; operations that make a scalar. -/
import Derived.Test.YtcnogcachboibaaFwI
import Derived.Deep.AppendSrc
import Derived.Laws.Tables
import Derived.Laws.Slices
import Derived.Laws.Strings
import Derived.Laws.BytesString
import Derived.Laws.Unary
import Derived.Laws.Concat
import Derived.Laws.StructEq
import Derived.Laws.Pointers
import Derived.Laws.Cover3
import Derived.Laws.Entries
namespace Go.Proofs.Ytcnogcachboibaa.Fw
open Go
set_option linter.unusedVariables false

/-- The table says the truth of a type. -/
def KOk (P : Program) (t : TypeId) (i : TI) : Prop :=
  match i.k with
  | .int k => P.underlying t = some (.int k)
  | .bool => P.underlying t = some .bool
  | .str => P.underlying t = some .string
  | .ptr e => P.underlying t = some (.pointer e)
  | .slice e => P.underlying t = some (.slice e) ∧ ∃ j, P.info? e = some j
  | .struct => ∃ fs, P.underlying t = some (.struct fs) ∧ (∀ y, y ∈ fs.toList → (P.info? y.type).isSome = true) ∧
      ∀ f off, i.fields[f]? = some off → ∃ x, fs[f]? = some x ∧ x.offset = off ∧ ∃ j, P.info? x.type = some j ∧ j.size ≠ 0 ∧ j.size = i.fsize f
  | .map k e => P.underlying t = some (.map k e)
  | .other => ∃ d, P.underlying t = some d ∧ (match d with | .struct _ | .array _ _ => False | _ => True)
structure TIok (P : Program) (t : TypeId) (i : TI) : Prop where
  k : KOk P t i
  info : ∃ j z, P.info? t = some j ∧ j.size = i.size ∧ j.bytes = i.bytes ∧ j.zero = some z ∧ z.cells.size = i.size ∧ i.zero = z.cells.toList.map constLeaf ∧ z.cells.toList.all one = true
  flat : flatB i.les = flatP P t
  les : i.les.length = i.size
  nag : i.k.isStruct = false → i.size = 1
  small : i.size ≤ 64

def TabOk (P : Program) (tb : Tab) : Prop := ∀ t i, tb t = some i → TIok P t i

/-- What is owed of a step's outcome. -/
def Done (P : Program) (K : Env → Prop) (E : Env) : Stp → Prop
  | .done ws => K (E.app ws)
  | .call f Ein k => ∃ Eout, Sem P f Ein Eout ∧ ∃ ws, k Eout = some ws ∧ K (E.app ws)
/-- What follows. -/
def Nxt (w0 : World) (L : Nat → Nat → Prop) (np : Nat) (C : Ctx) (K : Env → Prop) (next : Act → World → Prop) : Prop :=
  ∀ C', Rel w0 L C' → (C'.P, C'.M) = (C.P, C.M) → (∀ t, t < np → C'.loc t = C.loc t) → K C'.E → next C'.a C'.w

section inv
variable {C : Ctx}
theorem VRel.lf {d : D} {v : Value} (h : VRel C d v) (hd : d.leafy = true) (hn : d ≠ .dead) : LRel C ⟨false, 0, 0⟩ d v ∧ one v = true := by
  have := h.2 0
  cases this with
  | tup => simp [D.leafy] at hd
  | comp _ _ _ hc =>
    cases hc with
    | dead => exact absurd rfl hn
    | agg => simp [D.leafy] at hd
    | leaf _ _ a b c => exact ⟨c, b⟩
theorem VRel.v_inv {x v : Value} (h : VRel C (.v x) v) : v = x ∧ scal x = true := by
  have := (h.lf rfl (by simp)).1
  cases this with | v _ h' => exact ⟨rfl, h'⟩
theorem VRel.nil_inv {v : Value} (h : VRel C .nil v) : v = .slice none 0 0 := by
  have := (h.lf rfl (by simp)).1
  cases this; rfl
theorem VRel.agg_inv {ds : List D} {v : Value} (h : VRel C (.agg ds) v) :
    ∃ vs : Array Value, v = .agg vs ∧ ds.length = vs.size ∧ ds.length ≤ 64 ∧ ∀ (i : Nat) (d : D), ds[i]? = some d → d.leafy = true ∧ d.isOwn = false ∧ one (vs.getD i undef) = true ∧ ∀ p, LRel C p d (vs.getD i undef) := by
  have h1 := h.1
  have e : (D.agg ds).anyOwn = ds.any D.isOwn := by simp [D.anyOwn, D.comps, D.leaves1]
  rw [e] at h1
  have := h.2 0
  cases this with
  | comp _ _ _ hc =>
    cases hc with
    | agg _ vs a b c =>
      refine ⟨vs, rfl, a, b, fun i d hd => ?_⟩
      obtain ⟨c1, c2, c3⟩ := c i d hd
      have ho : d.isOwn = false := by
        rw [List.any_eq_false] at h1
        have := h1 d (List.mem_of_getElem? hd)
        simpa using this
      exact ⟨c1, ho, c2, fun p => c3.any ho p⟩
    | leaf _ _ a => simp [D.leafy] at a
end inv

theorem Rel.drew {w0 : World} {L : Nat → Nat → Prop} {C : Ctx} (R : Rel w0 L C) {w' : World} (x : Ext C.w w') : Rel w0 L { C with w := w' } :=
  R.ext x C.F (fun _ => False) (fun _ _ _ _ h => h) (fun _ _ => rfl) (fun _ _ h => h.elim) (fun _ _ _ h => h.elim)

/-- A value is written to its slot. -/
theorem wrS_done {w0 : World} {L : Nat → Nat → Prop} {C : Ctx} (R : Rel w0 L C) {np : Nat} {K : Env → Prop} {next : Act → World → Prop} (hn : Nxt w0 L np C K next)
    {dst : Option Tmp} {d : D} {v : Value} {w' : World} (x : Ext C.w w') (h : (wrS dst d).wp C.E (Done C.P K C.E)) (hv : VRel { C with w := w' } d v) : next (C.a.put dst v) w' := by
  cases dst with
  | none =>
    simp only [wrS, Rdr.wp, Done, Env.app] at h
    exact hn _ (R.drew x) rfl (fun _ _ => rfl) h
  | some t =>
    simp only [wrS, Rdr.wp, Done, Env.app] at h
    exact hn _ (R.wr0 x t d v hv.1 (hv.2 t)) rfl (fun _ _ => rfl) h
theorem wrS_own {w0 : World} {L : Nat → Nat → Prop} {C : Ctx} (R : Rel w0 L C) {np : Nat} {K : Env → Prop} {next : Act → World → Prop} (hn : Nxt w0 L np C K next)
    {dst : Option Tmp} {e : TypeId} {xs : List (List T)} {v : Value} {w' : World} (x : Ext C.w w') (h : (wrS dst (.own e xs)).wp C.E (Done C.P K C.E))
    {G : Nat → Prop} (hG : ∀ b, G b → C.w.heap.size ≤ b ∧ b < w'.heap.size) (ho : OwnT C.P w' (.sl e xs) v G) : next (C.a.put dst v) w' := by
  cases dst with
  | none =>
    simp only [wrS, Rdr.wp, Done, Env.app] at h
    exact hn _ (R.drew x) rfl (fun _ _ => rfl) h
  | some t =>
    simp only [wrS, Rdr.wp, Done, Env.app] at h
    obtain ⟨F', R'⟩ := R.wr1 x t e xs v G hG ho
    exact hn _ R' rfl (fun _ _ => rfl) h

/-- An operation that ends with a value, memory as it is. -/
theorem wp_value {P : Program} {o : Oper} {a : Act} {w w' : World} {next : Act → World → Prop} {Q : Exit → Act → World → Prop} {v : Value}
    (h : (execOp a.eval o).run P w = .ok (.value v) w') (hn : next (a.put o.dst v) w') : o.wp P a w next Q := by
  unfold Oper.wp; rw [h]; exact hn

theorem leafR_wp {α : Type} {E : Env} {p : Lf} {k : D → Rdr α} {Q : α → Prop} : (leafR p k).wp E Q ↔ (k (E.leaf p)).wp E Q := by
  unfold leafR Env.leaf
  cases p.c <;> simp [Rdr.wp]

theorem Rel.leaf' {w0 : World} {L : Nat → Nat → Prop} {C : Ctx} (R : Rel w0 L C) {p : Lf} {e : TypeId} {xs : List (List T)} (h : C.E.leaf p = .own e xs) : OwnT C.P C.w (.sl e xs) (C.cv p) (C.F p) := R.ownLeaf h

/-- What is read as rows. -/
theorem rowsR_wp {w0 : World} {L : Nat → Nat → Prop} {C : Ctx} (R : Rel w0 L C) {α : Type} {d : D} {v : Value} (hv : VRel C d v) {k : TypeId → List (List T) → Rdr α} {Q : α → Prop} (h : (rowsR d k).wp C.E Q) :
    ∃ e xs, (k e xs).wp C.E Q ∧ RdT C.P C.w (fun _ => True) (.sl e xs) v := by
  cases d with
  | own e xs => have := hv.1; simp [D.anyOwn, D.comps, D.leaves1, D.isOwn] at this
  | imm e xs =>
    have h1 := (hv.lf rfl (by simp)).1
    cases h1 with | imm _ _ _ h1 => exact ⟨e, xs, h, h1.mono fun b _ _ => ⟨trivial, rfl⟩⟩
  | ali p =>
    have h1 := (hv.lf rfl (by simp)).1
    simp only [rowsR] at h
    rw [leafR_wp] at h
    cases h1 with
    | ali q e xs hl =>
      simp only [hl] at h
      exact ⟨e, xs, h, (R.ownLeaf hl).rd fun _ _ => trivial⟩
  | sub p lo hi =>
    have h1 := (hv.lf rfl (by simp)).1
    simp only [rowsR] at h
    rw [leafR_wp] at h
    cases h1 with
    | sub q lo hi e xs hl h2 h3 =>
      simp only [hl] at h
      exact ⟨e, _, h, RdT.cut ((R.ownLeaf hl).rd fun _ _ => trivial) h2 h3⟩
  | ela p i j =>
    have h1 := (hv.lf rfl (by simp)).1
    simp only [rowsR] at h
    rw [leafR_wp] at h
    cases h1 with
    | ela q i j e xs e' ys b o n cap v hl hg hc hw =>
      simp only [hl] at h
      have hg' : T.get xs i j = .sl e' ys := by
        unfold T.get? at hg
        unfold T.get
        cases hx : xs[i]? with
        | none => rw [hx] at hg; simp at hg
        | some r => rw [hx] at hg; rw [getD_some hx]; exact getD_some (by simpa using hg)
      simp only [hg'] at h
      have ho := R.ownLeaf hl
      rw [hc] at ho
      refine ⟨e', ys, h, ?_⟩
      cases ho with
      | row _ _ b o cap cs fr F G X h1 h2 h3 h4 h5 h6 h7 h8 h9 h10 h11 h12 =>
        have e1 := h10 i j _ hg
        have e2 := h11 i j _ hg
        have : v = X i j := by
          simp only [World.cell?, h1] at hw
          simp at hw
          rw [e1] at hw; injection hw with hw; exact hw.symm
        rw [this]
        exact e2.rd fun _ _ => trivial
  | _ => exact h.elim

theorem RdT.slice {P : Program} {w : World} {S : Nat → Prop} {e : TypeId} {xs : List (List T)} {v : Value} (h : RdT P w S (.sl e xs) v) :
    ∃ base cap, v = .slice base xs.length cap ∧ cap ≤ 9223372036854775807 ∧ (xs ≠ [] → base.isSome = true) ∧ (base.isSome = true → xs.length ≤ cap) ∧ (xs.length ≤ 9223372036854775807) := by
  cases h with
  | emp base cap => exact ⟨_, _, rfl, by assumption, fun h => absurd rfl h, fun _ => by simp, by simp⟩
  | row => exact ⟨_, _, rfl, by assumption, fun _ => rfl, fun _ => by assumption, by omega⟩

theorem binI_run {P : Program} {E : Env} {Q : Stp → Prop} {op : BinOp} {a b : IntKind} {m n : Int} {k : Value → Rdr Stp} (h : (binI op a m b n k).wp E Q) :
    ∃ v, (k v).wp E Q ∧ scal v = true ∧ ∀ w t x y, (do eqGuard op t x y (.int a m) (.int b n); binOp op t (.int a m) (.int b n) : Go.Sem Value).run P w = .ok v w := by
  cases op <;> simp only [binI] at h
  case shl =>
    obtain ⟨h1, h2⟩ := h
    refine ⟨_, h2, rfl, fun w t x y => ?_⟩
    have : ¬ n < 0 := by omega
    simp [eqGuard, binOp, Op.shift, this]
  case shr =>
    obtain ⟨h1, h2⟩ := h
    refine ⟨_, h2, rfl, fun w t x y => ?_⟩
    have : ¬ n < 0 := by omega
    simp [eqGuard, binOp, Op.shift, this]
  all_goals
    first
    | exact h.elim
    | (by_cases hab : a = b
       · subst hab
         simp only [if_true] at h
         first
         | exact ⟨_, h, rfl, fun w t x y => by simp [eqGuard, binOp, Op.intArith, Op.intBits, Op.intCmp]⟩
         | (obtain ⟨h1, h2⟩ := h
            refine ⟨_, h2, rfl, fun w t x y => ?_⟩
            simp [eqGuard, binOp, Op.intDiv, h1])
       · simp only [hab, if_false] at h
         exact h.elim)

theorem binS_run {P : Program} {E : Env} {Q : Stp → Prop} {op : BinOp} {s t : ByteArray} {k : Value → Rdr Stp} (h : (binS op s t k).wp E Q) :
    ∃ v, (k v).wp E Q ∧ scal v = true ∧ ∀ w ty x y, (do eqGuard op ty x y (.string s) (.string t); binOp op ty (.string s) (.string t) : Go.Sem Value).run P w = .ok v w := by
  cases op <;> simp only [binS] at h
  case add =>
    obtain ⟨h1, h2⟩ := h
    refine ⟨_, h2, by simpa [scal, ofL, ByteArray.size] using h1, fun w t' x y => ?_⟩
    have e : s ++ t = ofL (toL s ++ toL t) := by
      have : (s ++ t).data.toList = s.data.toList ++ t.data.toList := by simp
      exact congrArg ofL this
    have h3 : (s.size : Int) + (t.size : Int) ≤ 9223372036854775807 := by
      rw [toL_length, toL_length] at h1; omega
    simp [eqGuard, binOp, Op.stringOp, e, h3]
  all_goals
    first
    | exact h.elim
    | exact ⟨_, h, rfl, fun w ty x y => by simp [eqGuard, binOp, Op.stringOp, ByteArray.toList_eq, toL, ltB]⟩

theorem binB_run {P : Program} {tb : Tab} (hT : TabOk P tb) {E : Env} {Q : Stp → Prop} {op : BinOp} {ty : TypeId} {b c : Bool} {k : Value → Rdr Stp} (h : (binB tb op ty b c k).wp E Q) :
    ∃ v, (k v).wp E Q ∧ scal v = true ∧ ∀ w x y, (do eqGuard op ty x y (.bool b) (.bool c); binOp op ty (.bool b) (.bool c) : Go.Sem Value).run P w = .ok v w := by
  unfold binB at h
  cases ht : tb ty with
  | none => rw [ht] at h; exact h.elim
  | some i =>
    rw [ht] at h
    have hk := (hT ty i ht).k
    obtain ⟨ik, i1, i2, i3, i4, i5⟩ := i
    cases ik <;> try exact h.elim
    have hu : P.underlying ty = some .bool := hk
    cases op <;> first
      | exact h.elim
      | (refine ⟨_, h, rfl, fun w x y => ?_⟩
         have e := run_equalIn_bool' (P := P) (w := w) 9999 ty b c hu
         simp [eqGuard, binOp, Op.equal, Op.maxDepth, e])

theorem binR_run {P : Program} {tb : Tab} (hT : TabOk P tb) {E : Env} {Q : Stp → Prop} {op : BinOp} {ty : TypeId} {a b : Value} {k : Value → Rdr Stp} (h : (binR tb op ty a b k).wp E Q) :
    ∃ v, (k v).wp E Q ∧ scal v = true ∧ ∀ w x y, (do eqGuard op ty x y a b; binOp op ty a b : Go.Sem Value).run P w = .ok v w := by
  cases a <;> cases b <;> first
    | exact h.elim
    | (obtain ⟨v, h1, h2, h3⟩ := binI_run (P := P) h; exact ⟨v, h1, h2, fun w x y => h3 w ty x y⟩)
    | (obtain ⟨v, h1, h2, h3⟩ := binS_run (P := P) h; exact ⟨v, h1, h2, fun w x y => h3 w ty x y⟩)
    | exact binB_run hT h

theorem eqRes_wp {dst : Option Tmp} {op : BinOp} {r : Bool} {E : Env} {Q : Stp → Prop} (h : (eqRes dst op r).wp E Q) :
    (op = .eql ∧ (wrS dst (.v (.bool r))).wp E Q) ∨ (op = .neq ∧ (wrS dst (.v (.bool !r))).wp E Q) := by
  cases op <;> first | exact h.elim | exact .inl ⟨rfl, h⟩ | exact .inr ⟨rfl, h⟩

section ops
variable {w0 : World} {L : Nat → Nat → Prop} {C : Ctx} (R : Rel w0 L C) {np : Nat} {K : Env → Prop} {next : Act → World → Prop} (hn : Nxt w0 L np C K next) {Q : Exit → Act → World → Prop} {o : Oper}
include R hn

theorem snd_move {x : Operand} (ho : o.op = .move x ∨ o.op = .assign x) (h : (opMove o.dst x).wp C.E (Done C.P K C.E)) : o.wp C.P C.a C.w next Q := by
  obtain ⟨d, hd, hv⟩ := opdR_wp R h
  by_cases ht : d.isTup = true
  · simp [ht, Rdr.wp] at hd
  · have ht : d.isTup = false := by simpa using ht
    simp only [ht, Bool.false_eq_true, if_false] at hd
    refine wp_value (w' := C.w) (v := C.a.eval x) ?_ (wrS_done R hn (.refl _) hd (hv ht))
    rcases ho with ho | ho <;> simp [execOp, ho]

theorem snd_pick {c x y : Operand} (ho : o.op = .pick c x y) (h : (opPick o.dst c x y).wp C.E (Done C.P K C.E)) : o.wp C.P C.a C.w next Q := by
  obtain ⟨d, hd, hv⟩ := opdR_wp R h
  split at hd
  · rename_i t
    have e := (hv rfl).v_inv.1
    cases t with
    | true =>
      simp only [if_true] at hd
      obtain ⟨d, hd, hv⟩ := opdR_wp R hd
      by_cases ht : d.isTup = true
      · simp [ht, Rdr.wp] at hd
      · have ht : d.isTup = false := by simpa using ht
        simp only [ht, Bool.false_eq_true, if_false] at hd
        refine wp_value (w' := C.w) (v := C.a.eval x) ?_ (wrS_done R hn (.refl _) hd (hv ht))
        simp [execOp, ho, e, asBool]
    | false =>
      simp only [Bool.false_eq_true, if_false] at hd
      obtain ⟨d, hd, hv⟩ := opdR_wp R hd
      by_cases ht : d.isTup = true
      · simp [ht, Rdr.wp] at hd
      · have ht : d.isTup = false := by simpa using ht
        simp only [ht, Bool.false_eq_true, if_false] at hd
        refine wp_value (w' := C.w) (v := C.a.eval y) ?_ (wrS_done R hn (.refl _) hd (hv ht))
        simp [execOp, ho, e, asBool]
  · exact hd.elim

theorem snd_un {op : UnOp} {t : TypeId} {x : Operand} (ho : o.op = .unOp op t x) (h : (opUn o.dst op x).wp C.E (Done C.P K C.E)) : o.wp C.P C.a C.w next Q := by
  obtain ⟨d, hd, hv⟩ := opdR_wp R h
  split at hd
  · rename_i a
    have e := (hv rfl).v_inv.1
    split at hd
    · rename_i v hu
      have : (Op.unary op a).run C.P C.w = .ok v C.w ∧ scal v = true := by
        unfold unV at hu
        split at hu
        · injection hu with hu; subst hu; exact ⟨rfl, rfl⟩
        · injection hu with hu; subst hu; exact ⟨rfl, rfl⟩
        · injection hu with hu; subst hu; exact ⟨rfl, rfl⟩
        · cases hu
      refine wp_value (w' := C.w) (v := v) ?_ (wrS_done R hn (.refl _) hd (.v this.2))
      simp [execOp, ho, e, this.1]
    · exact hd.elim
  · exact hd.elim

theorem snd_nilCheck {x : Operand} (ho : o.op = .nilCheck x) (h : (opNilCheck o.dst x).wp C.E (Done C.P K C.E)) : o.wp C.P C.a C.w next Q := by
  obtain ⟨d, hd, hv⟩ := opdR_wp R h
  split at hd
  · have h1 := (hv rfl)
    have h2 := (h1.lf rfl (by simp)).1
    refine wp_value (w' := C.w) (v := C.a.eval x) ?_ (wrS_done R hn (.refl _) hd h1)
    generalize hx : C.a.eval x = v at h2
    cases h2; simp [execOp, ho, hx]
  · have h1 := (hv rfl)
    have h2 := (h1.lf rfl (by simp)).1
    refine wp_value (w' := C.w) (v := C.a.eval x) ?_ (wrS_done R hn (.refl _) hd h1)
    generalize hx : C.a.eval x = v at h2
    cases h2; simp [execOp, ho, hx]
  · have h1 := (hv rfl)
    have h2 := (h1.lf rfl (by simp)).1
    refine wp_value (w' := C.w) (v := C.a.eval x) ?_ (wrS_done R hn (.refl _) hd h1)
    generalize hx : C.a.eval x = v at h2
    cases h2; simp [execOp, ho, hx]
  · have h1 := (hv rfl)
    have h2 := (h1.lf rfl (by simp)).1
    refine wp_value (w' := C.w) (v := C.a.eval x) ?_ (wrS_done R hn (.refl _) hd h1)
    generalize hx : C.a.eval x = v at h2
    cases h2; simp [execOp, ho, hx]
  · exact hd.elim

theorem snd_bin {tb : Tab} (hT : TabOk C.P tb) {op : BinOp} {t u : TypeId} {x y : Operand} (ho : o.op = .binOp op t x y u) (h : (opBin tb o.dst op t x y).wp C.E (Done C.P K C.E)) : o.wp C.P C.a C.w next Q := by
  replace h := opdR_wp R h
  obtain ⟨dx, h, hvx⟩ := h
  replace h := opdR_wp R h
  obtain ⟨dy, h, hvy⟩ := h
  split at h
  · rename_i a b
    have ex := (hvx rfl).v_inv.1
    have ey := (hvy rfl).v_inv.1
    obtain ⟨v, h1, h2, h3⟩ := binR_run hT h
    refine wp_value (w' := C.w) (v := v) ?_ (wrS_done R hn (.refl _) h1 (.v h2))
    have := h3 C.w x y
    simp only [Sem.run_bind] at this
    cases hg : (eqGuard op t x y a b).run C.P C.w with
    | ok u w1 =>
      rw [hg] at this
      simp only [Result.andThen_ok] at this
      simp [execOp, ho, ex, ey, hg, this]
    | halt e w1 => rw [hg] at this; simp at this
  · split at h
    · rename_i e _ _ _ _ _ ht
      have hu : C.P.underlying t = some (.slice e) := (hT _ _ ht).k.1
      have ey := (hvy rfl).nil_inv
      have fin : ∀ (ao : Option Addr) (l c : Nat) (r : Bool), C.a.eval x = .slice ao l c → ao.isNone = r → (eqRes o.dst op r).wp C.E (Done C.P K C.E) → o.wp C.P C.a C.w next Q := by
        intro ao l c r ex hr h
        have hq := run_equal_slice_nil (P := C.P) (w := C.w) t e ao l c hu
        rcases eqRes_wp h with ⟨rfl, h⟩ | ⟨rfl, h⟩
        · refine wp_value (w' := C.w) (v := .bool r) ?_ (wrS_done R hn (.refl _) h (.v rfl))
          simp [execOp, ho, ex, ey, eqGuard, binOp, hq, hr]
        · refine wp_value (w' := C.w) (v := .bool !r) ?_ (wrS_done R hn (.refl _) h (.v rfl))
          simp [execOp, ho, ex, ey, eqGuard, binOp, hq, hr]
      split at h
      · exact fin none 0 0 true (hvx rfl).nil_inv rfl h
      · have hx' : dx.isTup = false := by
          cases dx <;> first | rfl | exact h.elim
        obtain ⟨e', xs, h, hr⟩ := rowsR_wp R (hvx hx') h
        obtain ⟨base, cap, hv, hc, hb, _⟩ := hr.slice
        have hb := hb h.1
        exact fin base _ cap false hv (by cases base <;> simp at hb ⊢) h.2
    · exact h.elim
  · split at h
    · rename_i e _ _ _ _ _ ht
      have hu : C.P.underlying t = some (.pointer e) := (hT _ _ ht).k
      have ey := (hvy rfl).v_inv.1
      have fin : ∀ (a : Addr), C.a.eval x = .pointer (some a) → (eqRes o.dst op false).wp C.E (Done C.P K C.E) → o.wp C.P C.a C.w next Q := by
        intro a ex h
        have hq : (Op.equal t (.pointer (some a)) (.pointer none)).run C.P C.w = .ok false C.w := by
          rw [run_equal_pointer_nil]
          · rfl
          · simp [hu, Program.pointee]
        rcases eqRes_wp h with ⟨rfl, h⟩ | ⟨rfl, h⟩
        · refine wp_value (w' := C.w) (v := .bool false) ?_ (wrS_done R hn (.refl _) h (.v rfl))
          simp [execOp, ho, ex, ey, eqGuard, binOp, hq]
        · refine wp_value (w' := C.w) (v := .bool true) ?_ (wrS_done R hn (.refl _) h (.v rfl))
          simp [execOp, ho, ex, ey, eqGuard, binOp, hq]
      split at h
      · have h2 := ((hvx rfl).lf rfl (by simp)).1
        generalize hx : C.a.eval x = v at h2
        cases h2; exact fin _ hx h
      · have h2 := ((hvx rfl).lf rfl (by simp)).1
        generalize hx : C.a.eval x = v at h2
        cases h2; exact fin _ hx h
      · have h2 := ((hvx rfl).lf rfl (by simp)).1
        generalize hx : C.a.eval x = v at h2
        cases h2; exact fin _ hx h
      · exact h.elim
    · exact h.elim
  · exact h.elim
end ops
end Go.Proofs.Ytcnogcachboibaa.Fw
