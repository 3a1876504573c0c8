/- Framework, part B: what the data say of memory. -/
import Derived.Test.YtcnogcachboibaaFwA
import Derived.Below
namespace Go.Proofs.Ytcnogcachboibaa.Fw
open Go
set_option linter.unusedVariables false

def T.get? (xs : List (List T)) (i j : Nat) : Option T := (xs[i]?).bind (·[j]?)

def T.isV : T → Bool | .v _ => true | _ => false
/-- No cell of the type is a slice. -/
def flatP (P : Program) (e : TypeId) : Bool := match (P.info? e).bind (·.zero) with | some z => z.cells.toList.all (fun x => match x with | .slice _ _ _ => false | _ => true) | none => false
/-- The block is not frozen at any of its cells. -/
def Thawed (n : Nat) (fr : Nat × Nat) : Prop := ∀ o, o < n → ¬ (fr.1 ≤ o ∧ o < fr.2)

/-- A value reads as data, all of it in blocks of S. -/
inductive RdT (P : Program) (w : World) (S : Nat → Prop) : T → Value → Prop
  | v (x : Value) : scal x = true → RdT P w S (.v x) x
  | emp (e : TypeId) (base : Option Addr) (cap : Nat) : cap ≤ 9223372036854775807 → RdT P w S (.sl e []) (.slice base 0 cap)
  | row (e : TypeId) (xs : List (List T)) (b o cap : Nat) (cs : Array Value) (ce : TypeId) (fr : Nat × Nat) (X : Nat → Nat → Value) :
      w.heap[b]? = some (.cells cs ce fr) → S b → xs.length ≤ cap → cap ≤ 9223372036854775807 →
      (∀ (i : Nat) (r : List T), xs[i]? = some r → r.length = P.cellsOf e) →
      (∀ i j t, T.get? xs i j = some t → cs[o + i * P.cellsOf e + j]? = some (X i j)) →
      (∀ i j t, T.get? xs i j = some t → RdT P w S t (X i j)) → (flatP P e = true → ∀ i j t, T.get? xs i j = some t → t.isV = true) →
      RdT P w S (.sl e xs) (.slice (some ⟨b, o, none⟩) xs.length cap)

/-- A value reads as data, and what it reaches belongs to it alone: the blocks F. -/
inductive OwnT (P : Program) (w : World) : T → Value → (Nat → Prop) → Prop
  | v (x : Value) (F : Nat → Prop) : scal x = true → OwnT P w (.v x) x F
  | emp (e : TypeId) (F : Nat → Prop) : OwnT P w (.sl e []) (.slice none 0 0) F
  | row (e : TypeId) (xs : List (List T)) (b o cap : Nat) (cs : Array Value) (fr : Nat × Nat) (F : Nat → Prop) (G : Nat → Nat → Nat → Prop) (X : Nat → Nat → Value) :
      w.heap[b]? = some (.cells cs e fr) → F b → Thawed cs.size fr → o + cap * P.cellsOf e ≤ cs.size → xs.length ≤ cap → cap ≤ 9223372036854775807 →
      (∀ (i : Nat) (r : List T), xs[i]? = some r → r.length = P.cellsOf e) →
      (∀ i j b', G i j b' → F b' ∧ b' ≠ b) →
      (∀ i j i' j' b', G i j b' → G i' j' b' → i = i' ∧ j = j') →
      (∀ i j t, T.get? xs i j = some t → cs[o + i * P.cellsOf e + j]? = some (X i j)) →
      (∀ i j t, T.get? xs i j = some t → OwnT P w t (X i j) (G i j)) → (flatP P e = true → ∀ i j t, T.get? xs i j = some t → t.isV = true) →
      OwnT P w (.sl e xs) (.slice (some ⟨b, o, none⟩) xs.length cap) F

theorem OwnT.rd {P : Program} {w : World} {t : T} {v : Value} {F : Nat → Prop} (h : OwnT P w t v F) : ∀ {S : Nat → Prop}, (∀ b, F b → S b) → RdT P w S t v := by
  induction h with
  | v x F hx => intro S _; exact .v x hx
  | emp e F => intro S _; exact .emp e _ _ (by omega)
  | row e xs b o cap cs fr F G X h1 h2 h3 h4 h5 h6 h7 h8 h9 h10 h11 h12 ih =>
    intro S hS
    exact .row e xs b o cap cs e fr X h1 (hS b h2) h5 h6 h7 h10 (fun i j t ht => ih i j t ht (fun b' hb => hS b' (h8 i j b' hb).1)) h12

theorem RdT.mono {P : Program} {w w' : World} {S S' : Nat → Prop} {t : T} {v : Value} (h : RdT P w S t v)
    (hS : ∀ b, S b → b < w.heap.size → S' b ∧ w'.heap[b]? = w.heap[b]?) : RdT P w' S' t v := by
  induction h with
  | v x hx => exact .v x hx
  | emp e base cap hc => exact .emp e base cap hc
  | row e xs b o cap cs ce fr X h1 h2 h5 h6 h7 h10 h11 h12 ih =>
    have hb : b < w.heap.size := (Array.getElem?_eq_some_iff.1 h1).1
    obtain ⟨s1, s2⟩ := hS b h2 hb
    exact .row e xs b o cap cs ce fr X (s2 ▸ h1) s1 h5 h6 h7 h10 ih h12

theorem OwnT.mono {P : Program} {w w' : World} {F : Nat → Prop} {t : T} {v : Value} (h : OwnT P w t v F) :
    ∀ {F' : Nat → Prop}, (∀ b, F b → F' b) → (∀ b, F b → b < w.heap.size → w'.heap[b]? = w.heap[b]?) → OwnT P w' t v F' := by
  induction h with
  | v x F hx => intro F' _ _; exact .v x F' hx
  | emp e F => intro F' _ _; exact .emp e F'
  | row e xs b o cap cs fr F G X h1 h2 h3 h4 h5 h6 h7 h8 h9 h10 h11 h12 ih =>
    intro F' hF hw
    have hb : b < w.heap.size := (Array.getElem?_eq_some_iff.1 h1).1
    refine .row e xs b o cap cs fr F' G X (by rw [hw b h2 hb]; exact h1) (hF b h2) h3 h4 h5 h6 h7 (fun i j b' hb => ⟨hF b' (h8 i j b' hb).1, (h8 i j b' hb).2⟩) h9 h10 ?_ h12
    exact fun i j t ht => ih i j t ht (fun _ h => h) (fun b' hb' hl => hw b' (h8 i j b' hb').1 hl)

theorem OwnT.slice {P : Program} {w : World} {e : TypeId} {xs : List (List T)} {v : Value} {F : Nat → Prop} (h : OwnT P w (.sl e xs) v F) :
    ∃ base cap, v = .slice base xs.length cap ∧ cap ≤ 9223372036854775807 ∧ xs.length ≤ cap := by
  cases h with
  | emp => exact ⟨_, _, rfl, by omega, by simp⟩
  | row => exact ⟨_, _, rfl, by assumption, by assumption⟩

/-! ### leaves and cells of values -/
def vcomps : Value → List Value | .tuple vs => vs.toList | v => [v]
def vleaves1 : Value → List Value | .agg cs => cs.toList | v => [v]
def vleafOf (v : Value) (k : Nat) : Value := ((vleaves1 ((vcomps v).getD (k / 64) undef))).getD (k % 64) undef
structure Ctx where
  P : Program
  E : Env
  a : Act
  w : World
  F : Lf → Nat → Prop
  loc : Nat → Nat × Nat
  /-- the blocks that may be read -/
  M : Nat → Prop

def Ctx.live (C : Ctx) (t : Nat) (ds : List D) : Prop := C.E.ce[t]? = some (some ds)
def Ctx.Owned (C : Ctx) (b : Nat) : Prop := (∃ p, C.F p b) ∨ (∃ t ds, C.live t ds ∧ (C.loc t).1 = b)
def Ctx.Rd (C : Ctx) (b : Nat) : Prop := ¬ C.Owned b ∧ C.M b
def Ctx.cv (C : Ctx) (p : Lf) : Value :=
  if p.c then (C.w.cell? ⟨(C.loc p.t).1, (C.loc p.t).2 + p.k, none⟩).getD undef else vleafOf (C.a.tmps.getD p.t undef) p.k

/-- What a slice expression makes of a header. -/
def cutV (sz : Nat) (v : Value) (lo hi : Nat) : Value :=
  match v with
  | .slice base _ cap => .slice (if cap = lo then base else base.map (·.add (lo * sz))) (hi - lo) (cap - lo)
  | v => v

inductive LRel (C : Ctx) : Lf → D → Value → Prop
  | dead (p : Lf) (v : Value) : LRel C p .dead v
  | v (p : Lf) (x : Value) : scal x = true → LRel C p (.v x) x
  | nil (p : Lf) : LRel C p .nil (.slice none 0 0)
  | own (p : Lf) (e : TypeId) (xs : List (List T)) (v : Value) : OwnT C.P C.w (.sl e xs) v (C.F p) → LRel C p (.own e xs) v
  | imm (p : Lf) (e : TypeId) (xs : List (List T)) (v : Value) : RdT C.P C.w C.Rd (.sl e xs) v → LRel C p (.imm e xs) v
  | ali (p q : Lf) (e : TypeId) (xs : List (List T)) : C.E.leaf q = .own e xs → LRel C p (.ali q) (C.cv q)
  | sub (p q : Lf) (lo hi : Nat) (e : TypeId) (xs : List (List T)) : C.E.leaf q = .own e xs → lo ≤ hi → hi ≤ xs.length → LRel C p (.sub q lo hi) (cutV (C.P.cellsOf e) (C.cv q) lo hi)
  | ela (p q : Lf) (i j : Nat) (e : TypeId) (xs : List (List T)) (e' : TypeId) (ys : List (List T)) (b o n cap : Nat) (v : Value) : C.E.leaf q = .own e xs → T.get? xs i j = some (.sl e' ys) →
      C.cv q = .slice (some ⟨b, o, none⟩) n cap → C.w.cell? ⟨b, o + i * C.P.cellsOf e + j, none⟩ = some v → LRel C p (.ela q i j) v
  | cref (p : Lf) (t k : Nat) (ds : List D) : C.live t ds → k ≤ ds.length → LRel C p (.cref t k) (.pointer (some ⟨(C.loc t).1, (C.loc t).2 + k, none⟩))
  | eref (p q : Lf) (i j : Nat) (e : TypeId) (xs : List (List T)) (b o n cap : Nat) : C.E.leaf q = .own e xs → C.cv q = .slice (some ⟨b, o, none⟩) n cap → i < xs.length →
      LRel C p (.eref q i j) (.pointer (some ⟨b, o + i * C.P.cellsOf e + j, none⟩))
  | rptr (p : Lf) (ds : List D) (b o : Nat) (cs : Array Value) (ce : TypeId) (fr : Nat × Nat) (X : Nat → Value) : C.w.heap[b]? = some (.cells cs ce fr) → C.Rd b →
      (∀ (i : Nat) (d : D), ds[i]? = some d → cs[o + i]? = some (X i) ∧ one (X i) = true) → (∀ (i : Nat) (d : D), ds[i]? = some d → d.pure = true) → (∀ (i : Nat) (d : D), ds[i]? = some d → LRel C p d (X i)) →
      LRel C p (.rptr ds) (.pointer (some ⟨b, o, none⟩))
  | clo (p : Lf) (f : FuncId) (ds : List D) (vs : Array Value) : ds.length = vs.size → (∀ (i : Nat) (d : D), ds[i]? = some d → d.capt = true) → (∀ (i : Nat) (d : D), ds[i]? = some d → LRel C p d (vs.getD i undef)) →
      LRel C p (.clo f ds) (.func (.func f) #[] vs)

/-- A leaf's mark. -/
def D.leafy : D → Bool | .agg _ | .tup _ => false | _ => true

/-- A component: a struct or a leaf. -/
inductive CRel (C : Ctx) (t : Nat) : Nat → D → Value → Prop
  | dead (k : Nat) (v : Value) : CRel C t k .dead v
  | agg (k : Nat) (ds : List D) (vs : Array Value) : ds.length = vs.size → ds.length ≤ 64 → (∀ (i : Nat) (d : D), ds[i]? = some d → d.leafy = true ∧ one (vs.getD i undef) = true ∧ LRel C ⟨false, t, k + i⟩ d (vs.getD i undef)) → CRel C t k (.agg ds) (.agg vs)
  | leaf (k : Nat) (d : D) (v : Value) : d.leafy = true → one v = true → LRel C ⟨false, t, k⟩ d v → CRel C t k d v
inductive SRel (C : Ctx) (t : Nat) : D → Value → Prop
  | tup (cs : List D) (vs : Array Value) : cs.length = vs.size → (∀ (i : Nat) (d : D), cs[i]? = some d → d.isTup = false ∧ CRel C t (64 * i) d (vs.getD i undef)) → SRel C t (.tup cs) (.tuple vs)
  | comp (d : D) (v : Value) : d.isTup = false → CRel C t 0 d v → SRel C t d v

structure CellOk (C : Ctx) (t : Nat) (ds : List D) : Prop where
  mk' ::
  out : ∃ cs e fr, C.w.heap[(C.loc t).1]? = some (.cells cs e fr) ∧ Thawed cs.size fr ∧ (C.loc t).2 + ds.length ≤ cs.size ∧
    ∀ (i : Nat) (d : D), ds[i]? = some d → d.leafy = true ∧ one (cs.getD ((C.loc t).2 + i) undef) = true ∧ LRel C ⟨true, t, i⟩ d (cs.getD ((C.loc t).2 + i) undef)

/-- What of the old memory may have changed: the lent places alone. -/
structure Frame (w0 : World) (L : Nat → Nat → Prop) (w : World) : Prop where
  os : w.os = w0.os
  tape : w.tape = w0.tape
  output : w.output = w0.output
  size : w0.heap.size ≤ w.heap.size
  kept : ∀ b, b < w0.heap.size → (∀ o, ¬ L b o) → w.heap[b]? = w0.heap[b]?
  part : ∀ b cs e fr, w0.heap[b]? = some (.cells cs e fr) → ∃ cs', w.heap[b]? = some (.cells cs' e fr) ∧ cs'.size = cs.size ∧ ∀ o, ¬ L b o → cs'[o]? = cs[o]?

structure Rel (w0 : World) (L : Nat → Nat → Prop) (C : Ctx) : Prop where
  tmps : C.a.tmps.size = C.E.sl.length
  defers : C.a.defers = []
  slot : ∀ (t : Nat) (d : D), C.E.sl[t]? = some d → SRel C t d (C.a.tmps.getD t undef)
  cell : ∀ t ds, C.live t ds → CellOk C t ds
  disj : ∀ p q b, C.F p b → C.F q b → p = q
  cdisj : ∀ t ds t' ds', C.live t ds → C.live t' ds' → (C.loc t).1 = (C.loc t').1 → t = t'
  fcd : ∀ t ds p, C.live t ds → ¬ C.F p (C.loc t).1
  fbound : ∀ p b, C.F p b → b < C.w.heap.size
  flent : ∀ p b, C.F p b → b < w0.heap.size → ∀ o, L b o
  clent : ∀ t ds, C.live t ds → (C.loc t).1 < w0.heap.size → ∀ i, i < ds.length → L (C.loc t).1 ((C.loc t).2 + i)
  frame : Frame w0 L C.w
  mnew : ∀ b, w0.heap.size ≤ b → C.M b
  mL : ∀ b o, L b o → C.M b
end Go.Proofs.Ytcnogcachboibaa.Fw
