/- Framework, part A: values as plain data with ownership marks, environments, what each operation does to them, and the weakest precondition over them. -/
import Derived.LoopN
import Derived.Calls
namespace Go.Proofs.Ytcnogcachboibaa.Fw
open Go
set_option linter.unusedVariables false

/-- Plain data of one cell: a scalar, or a slice of rows of cells. -/
inductive T where
  | v (x : Value)
  | sl (e : TypeId) (xs : List (List T))
  deriving Inhabited

/-- A leaf: cell or slot, its number, which of its leaves. -/
structure Lf where
  c : Bool
  t : Nat
  k : Nat
  deriving DecidableEq, Inhabited

/-- What a slot, or a leaf of it, holds. -/
inductive D where
  | dead
  | v (x : Value)
  | nil
  | own (e : TypeId) (xs : List (List T))
  | imm (e : TypeId) (xs : List (List T))
  | ali (p : Lf)
  | sub (p : Lf) (lo hi : Nat)
  | ela (p : Lf) (i j : Nat)
  | cref (t k : Nat)
  | eref (p : Lf) (i j : Nat)
  | rptr (ds : List D)
  | agg (ds : List D)
  | tup (ds : List D)
  | clo (f : FuncId) (ds : List D)
  deriving Inhabited

structure Env where
  sl : List D
  ce : List (Option (List D))
  deriving Inhabited

/-- A type of the program, as far as it is needed. -/
inductive K where
  | int (k : IntKind) | bool | str | ptr (e : TypeId) | slice (e : TypeId) | struct | map (k e : TypeId) | other
structure TI where
  k : K
  size : Nat
  bytes : Nat
  zero : List D
  fields : List Nat
  les : List TypeId
abbrev Tab := TypeId → Option TI

def D.comps : D → List D | .tup ds => ds | d => [d]
def D.leaves1 : D → List D | .agg ds => ds | d => [d]
def D.leafOf (d : D) (k : Nat) : D := ((d.comps.getD (k / 64) .dead).leaves1).getD (k % 64) .dead
def Env.leaf (E : Env) (p : Lf) : D :=
  if p.c then ((E.ce.getD p.t none).getD []).getD p.k .dead else (E.sl.getD p.t .dead).leafOf p.k

/-! reading an environment -/
inductive Rdr (α : Type) where
  | ret (a : α)
  | fail
  | slot (t : Nat) (k : D → Rdr α)
  | cell (t : Nat) (k : Option (List D) → Rdr α)
  | all (k : Env → Rdr α)
  | len (k : Nat → Rdr α)
  | chk (p : Prop) (k : Rdr α)
  | asm (p : Prop) (k : Rdr α)

def Rdr.wp {α : Type} (E : Env) : Rdr α → (α → Prop) → Prop
  | .ret a, Q => Q a
  | .fail, _ => False
  | .slot t k, Q => (k (E.sl.getD t .dead)).wp E Q
  | .cell t k, Q => (k (E.ce.getD t none)).wp E Q
  | .all k, Q => (k E).wp E Q
  | .len k, Q => (k E.ce.length).wp E Q
  | .chk p k, Q => p ∧ k.wp E Q
  | .asm p k, Q => p → k.wp E Q

/-! leaves and aliases -/
def mvLeaf (p : Lf) : D → D
  | .own _ _ => .ali p
  | d => d
def mvList (c : Bool) (t : Nat) : Nat → List D → List D
  | _, [] => []
  | k, d :: ds => mvLeaf ⟨c, t, k⟩ d :: mvList c t (k + 1) ds
def mvComp (t k : Nat) : D → D
  | .agg ds => .agg (mvList false t k ds)
  | d => mvLeaf ⟨false, t, k⟩ d
def asMove (t : Nat) (d : D) : D := mvComp t 0 d

/-- A value that needs no memory. -/
def scal : Value → Bool
  | .string s => decide (s.size ≤ 9223372036854775807)
  | .agg _ | .tuple _ => false
  | _ => true
def constLeaf : Value → D
  | .slice none 0 0 => .nil
  | x => if scal x then .v x else .dead
/-- A value of one cell. -/
def one : Value → Bool | .agg _ | .tuple _ => false | _ => true
def constD : Value → D
  | .agg cs => if cs.toList.all one && decide (cs.toList.length ≤ 64) then .agg (cs.toList.map constLeaf) else .dead
  | x => constLeaf x

def opdR {α : Type} (x : Operand) (k : D → Rdr α) : Rdr α :=
  match x with
  | .tmp t => .slot t fun d => k (asMove t d)
  | .const v => k (constD v)
  | .func f => k (.clo f [])
  | .global _ => .fail

def leafR {α : Type} (p : Lf) (k : D → Rdr α) : Rdr α :=
  if p.c then .cell p.t fun ds => k ((ds.getD []).getD p.k .dead) else .slot p.t fun d => k (d.leafOf p.k)

def T.get (xs : List (List T)) (i j : Nat) : T := (xs.getD i []).getD j (.v (.tuple #[]))

/-- The rows of a slice, if it can be read; e: its element type. -/
def rowsR {α : Type} (d : D) (k : TypeId → List (List T) → Rdr α) : Rdr α :=
  match d with
  | .own e xs => k e xs
  | .imm e xs => k e xs
  | .ali p => leafR p fun | .own e xs => k e xs | _ => .fail
  | .sub p lo hi => leafR p fun | .own e xs => k e ((xs.drop lo).take (hi - lo)) | _ => .fail
  | .ela p i j => leafR p fun | .own _ xs => (match T.get xs i j with | .sl e ys => k e ys | _ => .fail) | _ => .fail
  | _ => .fail

def D.isOwn : D → Bool | .own _ _ => true | _ => false
def D.anyOwn (d : D) : Bool := d.comps.any fun c => c.leaves1.any D.isOwn
/-- Does a leaf ask for ownership when it is stored? -/
def D.ownish : D → Bool | .own _ _ | .ali _ | .sub _ _ _ | .ela _ _ _ => true | _ => false
def D.anyOwnish (d : D) : Bool := d.comps.any fun c => c.leaves1.any D.ownish

/-! ghost steps -/
def D.base : D → Option Lf
  | .ali p | .sub p _ _ | .ela p _ _ | .eref p _ _ => some p
  | _ => none
def D.re (g : Lf → Lf) : D → D
  | .ali p => .ali (g p)
  | .sub p lo hi => .sub (g p) lo hi
  | .ela p i j => .ela (g p) i j
  | .eref p i j => .eref (g p) i j
  | d => d
def D.crefs : D → List Nat
  | .cref t _ => [t]
  | .clo _ ds => ds.filterMap fun d => match d with | .cref t _ => some t | _ => none
  | _ => []
def killB (b : Lf → Bool) : D → D
  | .ali p => if b p then .dead else .ali p
  | .sub p lo hi => if b p then .dead else .sub p lo hi
  | .ela p i j => if b p then .dead else .ela p i j
  | .eref p i j => if b p then .dead else .eref p i j
  | d => d
def reB (q p : Lf) : D → D := D.re fun r => if r = q then p else r

/-! a change leaf by leaf, each leaf told where it stands; what is dead stays so -/
def lf1 (g : Lf → D → D) (p : Lf) : D → D
  | .dead => .dead
  | d => g p d
def mapLv (g : Nat → D → D) : Nat → List D → List D
  | _, [] => []
  | k, d :: ds => g k d :: mapLv g (k + 1) ds
def D.mapP1 (g : Nat → D → D) (k : Nat) : D → D
  | .agg ds => .agg (mapLv g k ds)
  | d => g k d
def mapCs (g : Nat → D → D) : Nat → List D → List D
  | _, [] => []
  | k, c :: cs => c.mapP1 g k :: mapCs g (k + 64) cs
def D.mapP (g : Nat → D → D) : D → D
  | .tup cs => .tup (mapCs g 0 cs)
  | d => d.mapP1 g 0
def mapSl (g : Lf → D → D) : Nat → List D → List D
  | _, [] => []
  | t, d :: ds => d.mapP (fun k => g ⟨false, t, k⟩) :: mapSl g (t + 1) ds
def mapCe (g : Lf → D → D) : Nat → List (Option (List D)) → List (Option (List D))
  | _, [] => []
  | t, c :: cs => c.map (mapLv (fun k => g ⟨true, t, k⟩) 0) :: mapCe g (t + 1) cs
def Env.mapP (E : Env) (g : Lf → D → D) : Env := { sl := mapSl (lf1 g) 0 E.sl, ce := mapCe (lf1 g) 0 E.ce }

/-- All that hangs on leaves of b dies, and these leaves with it. -/
def Env.kill (E : Env) (b : Lf → Bool) : Env := E.mapP fun p d => if b p then .dead else killB b d
def Env.killS (E : Env) (t : Nat) : Env := E.kill fun p => !p.c && p.t == t
/-- Leaf p, an exact alias of q, becomes the owner; all that hung on q hangs on p. -/
def Env.swap (E : Env) (q p : Lf) : Option Env :=
  match E.leaf q with
  | .own e xs => if q = p then none else some (E.mapP fun r d => if r = q then .ali p else if r = p then .own e xs else reB q p d)
  | _ => none
/-- Leaf p, a part of q, becomes the owner; all that hung on q dies. -/
def Env.cut (E : Env) (q p : Lf) (lo hi : Nat) : Option Env :=
  match E.leaf q with
  | .own e xs => if q = p then none else some (E.mapP fun r d => if r = q then .dead else if r = p then .own e ((xs.drop lo).take (hi - lo)) else killB (fun r => r == q) d)
  | _ => none
/-- Leaf q is no longer owned by anyone: it and what hangs on it is only read from now on. -/
def frzB (q : Lf) (e : TypeId) (xs : List (List T)) : D → D
  | .ali r => if r = q then .imm e xs else .ali r
  | .sub r lo hi => if r = q then .imm e ((xs.drop lo).take (hi - lo)) else .sub r lo hi
  | .ela r i j => if r = q then (match T.get xs i j with | .sl e' ys => .imm e' ys | _ => .dead) else .ela r i j
  | .eref r i j => if r = q then .dead else .eref r i j
  | d => d
def Env.frz (E : Env) (q : Lf) : Option Env :=
  match E.leaf q with
  | .own e xs => some (E.mapP fun r d => if r = q then .imm e xs else frzB q e xs d)
  | _ => none
/-- Leaf p has other rows now, under the same header. -/
def Env.setLeaf (E : Env) (q : Lf) (x : D) : Env := E.mapP fun r d => if r = q then x else d

/-- Each of the n leaves of slot t from k on that is a part of an owned row becomes the owner. -/
def cutLeaves (t : Nat) : Nat → Nat → Env → Option Env
  | _, 0, E => some E
  | k, n + 1, E => match E.leaf ⟨false, t, k⟩ with
    | .sub q lo hi => (match E.cut q ⟨false, t, k⟩ lo hi with | some E' => cutLeaves t (k + 1) n E' | none => none)
    | .ela _ _ _ => none
    | _ => cutLeaves t (k + 1) n E
/-- Each of the n leaves of (c, t) from k on that is an exact alias becomes the owner. -/
def swapLeaves (c : Bool) (t : Nat) : Nat → Nat → Env → Option Env
  | _, 0, E => some E
  | k, n + 1, E => match E.leaf ⟨c, t, k⟩ with
    | .ali q => (match E.swap q ⟨c, t, k⟩ with | some E' => swapLeaves c t (k + 1) n E' | none => none)
    | _ => swapLeaves c t (k + 1) n E

def Env.killP (E : Env) (q : Lf) : Env := E.kill fun r => r == q

/-! what a step writes -/
def setRange {α : Type} (l : List α) (k : Nat) : List α → List α
  | [] => l
  | x :: xs => setRange (l.set k x) (k + 1) xs

inductive W where
  | s (t : Nat) (d : D)
  | c (t : Nat) (ds : Option (List D))
  | lf (p : Lf) (d : D)
  | all (E : Env)
  | kp (p : Lf)
  | ks (t : Nat) (d : D)
  | rw (t : Nat) (d : D)
  | ca (wb : List (Lf × TypeId × List (List T))) (wc : List (Nat × Nat × List D))
  | fz (ps : List Lf)

/-- Old leaves of a cell that are overwritten: what hung on them dies. -/
def Env.killC (E : Env) (c k n : Nat) : Env := E.kill fun p => p.c && p.t == c && decide (k ≤ p.k) && decide (p.k < k + n)
def Env.frzs (E : Env) : List Lf → Env
  | [] => E
  | p :: ps => ((E.frz p).getD E).frzs ps
def wbFind : List (Lf × TypeId × List (List T)) → Lf → Option (TypeId × List (List T))
  | [], _ => none
  | (p, x) :: l, q => if p = q then some x else wbFind l q
/-- Is the leaf one of a cell's that was lent? -/
def inWc : List (Nat × Nat × List D) → Lf → Bool
  | [], _ => false
  | (c, j, ls) :: l, p => (p.c && p.t == c && decide (j ≤ p.k) && decide (p.k < j + ls.length)) || inWc l p
def wbG (wb : List (Lf × TypeId × List (List T))) (r : Lf) (d : D) : D :=
  match wbFind wb r with
  | some (e, xs) => .own e xs
  | none => match d with
    | .ela q i j => if (wbFind wb q).isSome then .dead else .ela q i j
    | d => d
def setCs (E : Env) : List (Nat × Nat × List D) → Env
  | [] => E
  | (c, j, ls) :: l => setCs { E with ce := E.ce.set c ((E.ce.getD c none).map fun ds => setRange ds j ls) } l
/-- After a call: rows that were lent have changed in place; cells that were lent hold other leaves. -/
def Env.called (E : Env) (wb : List (Lf × TypeId × List (List T))) (wc : List (Nat × Nat × List D)) : Env :=
  setCs ((E.kill fun p => inWc wc p).mapP (wbG wb)) wc
def Env.app1 (E : Env) : W → Env
  | .s t d => { E with sl := E.sl.set t d }
  | .c t ds => { E with ce := E.ce.set t ds }
  | .lf p d => E.setLeaf p d
  | .all E' => E'
  | .kp p => E.killP p
  | .ks t d => { (E.killS t) with sl := (E.killS t).sl.set t (d.mapP fun _ x => killB (fun p => !p.c && p.t == t) x) }
  | .rw t d => if (E.sl.getD t .dead).anyOwn then { (E.killS t) with sl := (E.killS t).sl.set t d } else { E with sl := E.sl.set t d }
  | .ca wb wc => E.called wb wc
  | .fz ps => E.frzs ps
def Env.app (E : Env) : List W → Env
  | [] => E
  | x :: ws => (E.app1 x).app ws

inductive Stp where
  | done (ws : List W)
  | call (f : FuncId) (Ein : Env) (k : Env → Option (List W))

/-! writing a slot -/
def wrS (dst : Option Tmp) (d : D) : Rdr Stp :=
  match dst with
  | none => .ret (.done [])
  | some t => .slot t fun old =>
    .ret (.done [if old.anyOwn then .ks t d else .s t d])

/-! strings as lists of bytes -/
def toL (b : ByteArray) : List UInt8 := b.data.toList
def ofL (l : List UInt8) : ByteArray := ⟨l.toArray⟩
theorem toL_ofL (l : List UInt8) : toL (ofL l) = l := rfl
theorem ofL_toL (b : ByteArray) : ofL (toL b) = b := rfl
theorem toL_length (b : ByteArray) : (toL b).length = b.size := rfl
theorem ofL_inj {a b : List UInt8} : ofL a = ofL b ↔ a = b := ⟨fun h => congrArg toL h, fun h => by rw [h]⟩
abbrev vS (l : List UInt8) : Value := .string (ofL l)
abbrev vI (n : Int) : Value := .int .i64 n
abbrev vB (b : Bool) : Value := .bool b
abbrev vC (n : Int) : Value := .int .u8 n

/-! scalar operations -/
def ltB : List UInt8 → List UInt8 → Bool := Go.Op.bytesLess

def binI (op : BinOp) (a : IntKind) (m : Int) (b : IntKind) (n : Int) (k : Value → Rdr Stp) : Rdr Stp :=
  match op with
  | .shl => .chk (0 ≤ n) (k (.int a (a.wrap (m * 2 ^ (min n.toNat a.bits)))))
  | .shr => .chk (0 ≤ n) (k (.int a (m.fdiv (2 ^ (min n.toNat a.bits)))))
  | .add => if a = b then k (.int a (a.wrap (m + n))) else .fail
  | .sub => if a = b then k (.int a (a.wrap (m - n))) else .fail
  | .mul => if a = b then k (.int a (a.wrap (m * n))) else .fail
  | .quo => if a = b then .chk (n ≠ 0) (k (.int a (a.wrap (m.tdiv n)))) else .fail
  | .rem => if a = b then .chk (n ≠ 0) (k (.int a (m.tmod n))) else .fail
  | .and => if a = b then k (.int a (a.wrap ((BitVec.ofInt a.bits m &&& BitVec.ofInt a.bits n).toNat))) else .fail
  | .or => if a = b then k (.int a (a.wrap ((BitVec.ofInt a.bits m ||| BitVec.ofInt a.bits n).toNat))) else .fail
  | .xor => if a = b then k (.int a (a.wrap ((BitVec.ofInt a.bits m ^^^ BitVec.ofInt a.bits n).toNat))) else .fail
  | .andNot => if a = b then k (.int a (a.wrap ((BitVec.ofInt a.bits m &&& ~~~BitVec.ofInt a.bits n).toNat))) else .fail
  | .eql => if a = b then k (.bool (m == n)) else .fail
  | .neq => if a = b then k (.bool (m != n)) else .fail
  | .lss => if a = b then k (.bool (m < n)) else .fail
  | .leq => if a = b then k (.bool (m ≤ n)) else .fail
  | .gtr => if a = b then k (.bool (m > n)) else .fail
  | .geq => if a = b then k (.bool (m ≥ n)) else .fail
def binS (op : BinOp) (s t : ByteArray) (k : Value → Rdr Stp) : Rdr Stp :=
  match op with
  | .add => .chk ((toL s).length + (toL t).length ≤ 9223372036854775807) (k (vS (toL s ++ toL t)))
  | .eql => k (.bool (toL s == toL t))
  | .neq => k (.bool (!(toL s == toL t)))
  | .lss => k (.bool (ltB (toL s) (toL t)))
  | .leq => k (.bool (ltB (toL s) (toL t) || toL s == toL t))
  | .gtr => k (.bool (!(ltB (toL s) (toL t) || toL s == toL t)))
  | .geq => k (.bool (!(ltB (toL s) (toL t))))
  | _ => .fail
def binB (tb : Tab) (op : BinOp) (ty : TypeId) (b c : Bool) (k : Value → Rdr Stp) : Rdr Stp :=
  match tb ty with
  | some ⟨.bool, _, _, _, _, _⟩ => (match op with
    | .eql => k (.bool (b == c))
    | .neq => k (.bool (!(b == c)))
    | _ => .fail)
  | _ => .fail
def binR (tb : Tab) (op : BinOp) (ty : TypeId) (x y : Value) (k : Value → Rdr Stp) : Rdr Stp :=
  match x, y with
  | .int a m, .int b n => binI op a m b n k
  | .string s, .string t => binS op s t k
  | .bool b, .bool c => binB tb op ty b c k
  | _, _ => .fail

def unV (op : UnOp) (x : Value) : Option Value :=
  match op, x with
  | .not, .bool b => some (.bool !b)
  | .neg, .int k n => some (.int k (k.wrap (0 - n)))
  | .xor, .int k n => some (.int k (k.wrap ((BitVec.ofInt k.bits (if k.signed then -1 else k.max) ^^^ BitVec.ofInt k.bits n).toNat)))
  | _, _ => none

/-! leaves and rows -/
def T.toD : T → D
  | .v x => .v x
  | .sl e xs => .imm e xs
/-- A leaf of an element of the owned row p. -/
def T.toE (p : Lf) (i j : Nat) : T → D
  | .v x => .v x
  | .sl _ _ => .ela p i j
def toEs (p : Lf) (i : Nat) : Nat → List T → List D
  | _, [] => []
  | j, t :: ts => t.toE p i j :: toEs p i (j + 1) ts
/-- A leaf as plain data, e: its element type where it is a slice. -/
def D.toT (e : TypeId) : D → Option T
  | .v x => some (.v x)
  | .nil => if e == 0 then none else some (.sl e [])
  | _ => none
def toTs : List TypeId → List D → Option (List T)
  | e :: es, d :: ds => match d.toT e, toTs es ds with | some t, some ts => some (t :: ts) | _, _ => none
  | [], [] => some []
  | _, _ => none
def flatB (xs : List TypeId) : Bool := xs.all (· == 0)
def listD : List D → D | [d] => d | ds => .agg ds
def K.isStruct : K → Bool | .struct => true | _ => false
def mkD (k : K) (ds : List D) : D := if k.isStruct then .agg ds else ds.getD 0 .dead


def bytesRows (l : List UInt8) : List (List T) := l.map fun b => [.v (.int .u8 b.toNat)]
def rowsBytes (xs : List (List T)) : List UInt8 := xs.map fun r => match r with | [.v (.int .u8 n)] => UInt8.ofNat n.toNat | _ => 0


def D.isTup : D → Bool | .tup _ => true | _ => false
/-! ### What each operation does -/
structure Cfg where
  /-- how many parameters the function at hand has -/
  np : Nat
  /-- slots that are never written (parameters that are lent) -/
  keep : Nat → Bool
  tb : Tab
  /-- the parameters' types of a function -/
  pts : FuncId → List TypeId
  /-- how parameter i of a function is handed over: 0 read, 1 lent (a slice), 2 a pointer lent, 3 a pointer read -/
  md : FuncId → Nat → Nat

def Tab.kd (tb : Tab) (t : TypeId) : Option K := (tb t).map (·.k)
def opMove (dst : Option Tmp) (x : Operand) : Rdr Stp := opdR x fun d => if d.isTup then .fail else wrS dst d

def mvCs (t : Nat) : Nat → List D → List D
  | _, [] => []
  | k, c :: cs => mvComp t k c :: mvCs t (k + 64) cs
/-- A move, of several results at once, too. -/
def opMoveT (dst : Option Tmp) (x : Operand) : Rdr Stp :=
  match x with
  | .tmp t => .slot t fun
    | .tup cs => wrS dst (.tup (mvCs t 0 cs))
    | d => wrS dst (asMove t d)
  | x => opMove dst x
/-- 'x = y' where y's leaves are owned rows: what is stored becomes the owner. -/
def assignOwn (dst s : Tmp) (n : Nat) (E : Env) : Option Env :=
  match cutLeaves s 0 n E with
  | none => none
  | some E1 =>
    let E2 := if (E1.sl.getD dst .dead).anyOwn then E1.killS dst else E1
    if (E2.sl.getD s .dead).isTup then none else swapLeaves false dst 0 n { E2 with sl := E2.sl.set dst (asMove s (E2.sl.getD s .dead)) }
def opAssign (dst : Option Tmp) (x : Operand) : Rdr Stp :=
  match x, dst with
  | .tmp s, some t => .slot s fun d =>
    if d.isTup then .fail
    else if d.anyOwnish && s != t then .all fun E => (match assignOwn t s d.leaves1.length E with | some E' => .ret (.done [.all E']) | none => .fail)
    else wrS dst (asMove s d)
  | x, dst => opdR x fun d => if d.isTup then .fail else wrS dst d

def opPick (dst : Option Tmp) (c a b : Operand) : Rdr Stp :=
  opdR c fun
    | .v (.bool t) => if t then opdR a fun d => if d.isTup then .fail else wrS dst d else opdR b fun d => if d.isTup then .fail else wrS dst d
    | _ => .fail

/-- A new cell at slot t, with these leaves (none of them an owner). -/
def newCell (np : Nat) (t : Nat) (ds : List D) : Rdr Stp :=
  .cell t fun old => .slot t fun d => .len fun n =>
    match old with
    | none => if d.anyOwn || decide (t < np) || decide (n ≤ t) then .fail else
      if ds.any D.ownish then .all fun E =>
        (match swapLeaves true t 0 ds.length { sl := E.sl.set t (.cref t 0), ce := E.ce.set t (some ds) } with | some E' => .ret (.done [.all E']) | none => .fail)
      else .ret (.done [.c t (some ds), .s t (.cref t 0)])
    | some _ => .fail
def opAlloc (np : Nat) (tb : Tab) (dst : Option Tmp) (e : TypeId) : Rdr Stp :=
  match dst, tb e with
  | some t, some i => newCell np t i.zero
  | _, _ => .fail
/-- What a read-only pointer leads to, and what a function value holds. -/
def D.pure : D → Bool | .v _ | .nil | .imm _ _ => true | _ => false
def D.capt : D → Bool | .v _ | .nil | .imm _ _ | .cref _ _ | .rptr _ => true | _ => false
/-- Only leaves that are no parts of rows may be boxed or built in. -/
def D.plainish : D → Bool | .sub _ _ _ | .ela _ _ _ | .own _ _ | .tup _ | .agg _ | .dead => false | _ => true
def opBox (np : Nat) (tb : Tab) (dst : Option Tmp) (e : TypeId) (x : Operand) : Rdr Stp :=
  match dst, tb e with
  | some t, some i => opdR x fun d =>
    match d with
    | .agg ds => if i.k.isStruct && ds.all D.plainish && ds.length == i.size then newCell np t ds else .fail
    | d => if !i.k.isStruct && d.plainish then newCell np t [d] else .fail
  | _, _ => .fail

def D.isDead : D → Bool | .dead => true | _ => false
def partsR (zero : List D) : List (Nat × Nat × Operand) → (List D → Rdr Stp) → Rdr Stp
  | [], k => k zero
  | (off, n, x) :: ps, k => opdR x fun d =>
    if d.isTup || d.isDead || d.leaves1.length != n || decide (zero.length < off + n) then .fail else partsR (setRange zero off d.leaves1) ps k
/-- The parts of a struct: their places and sizes. -/
def places (i : TI) (sz : Nat → Nat) : List (Nat × Operand) → Option (List (Nat × Nat × Operand))
  | [] => some []
  | (f, x) :: ps => match i.fields[f]?, places i sz ps with
    | some off, some r => some ((off, sz f, x) :: r)
    | _, _ => none
/-- The size of field f. -/
def TI.fsize (i : TI) (f : Nat) : Nat := (i.fields.getD (f + 1) i.size) - i.fields.getD f 0
def opBuild (tb : Tab) (dst : Option Tmp) (t : TypeId) (parts : List (Nat × Operand)) : Rdr Stp :=
  match tb t with
  | some i => if i.k.isStruct then (match places i i.fsize parts with
    | some ps => partsR i.zero ps fun ds => wrS dst (.agg ds)
    | none => .fail) else .fail
  | none => .fail
def chunk (s n : Nat) (l : List D) : List (List D) := (List.range n).map fun i => (l.drop (i * s)).take s
def rowsOf (les : List TypeId) : List (List D) → Option (List (List T))
  | [] => some []
  | r :: rs => match toTs les r, rowsOf les rs with | some x, some xs => some (x :: xs) | _, _ => none
def opBuildSlice (tb : Tab) (dst : Option Tmp) (t : TypeId) (n : Nat) (parts : List (Nat × Operand)) : Rdr Stp :=
  match tb.kd t with
  | some (.slice e) => (match tb e with
    | some i => if decide (n * i.size ≤ 16777216 ∧ n ≤ 16777216) then
        partsR (List.replicate n i.zero).flatten (parts.map fun p => (p.1 * i.size, i.size, p.2)) fun ds => (match rowsOf i.les (chunk i.size n ds) with | some rs => wrS dst (.own e rs) | none => .fail) else .fail
    | none => .fail)
  | _ => .fail

def opLoad (tb : Tab) (dst : Option Tmp) (t : TypeId) (x : Operand) : Rdr Stp :=
  match tb t with
  | none => .fail
  | some i => opdR x fun
    | .cref c k => .cell c fun
      | some ds => if k + i.size ≤ ds.length then wrS dst (mkD i.k (mvList true c k ((ds.drop k).take i.size))) else .fail
      | none => .fail
    | .eref p a j => leafR p fun
      | .own _ xs => if j + i.size ≤ (xs.getD a []).length then wrS dst (mkD i.k (toEs p a j (((xs.getD a []).drop j).take i.size))) else .fail
      | _ => .fail
    | .rptr ds => if i.size ≤ ds.length then wrS dst (mkD i.k (ds.take i.size)) else .fail
    | _ => .fail

def tmpOf : Operand → Option Nat | .tmp s => some s | _ => none
def stD (s : Option Nat) (E : Env) (d0 : D) : D := match s with | some s => asMove s (E.sl.getD s .dead) | none => d0
def stCut (s : Option Nat) (n : Nat) (E : Env) : Option Env := match s with | some s => cutLeaves s 0 n E | none => some E
def storeOwn (c k n : Nat) (s : Option Nat) (d0 : D) (E : Env) : Option Env :=
  match stCut s n E with
  | none => none
  | some E1 =>
    let E2 := if (((E1.ce.getD c none).getD []).drop k |>.take n).any D.isOwn then E1.killC c k n else E1
    match E2.ce.getD c none with
    | none => none
    | some ds2 =>
      if !(stD s E2 d0).isTup && !(stD s E2 d0).isDead && (stD s E2 d0).leaves1.length == n && decide (k + n ≤ ds2.length) && !((ds2.drop k).take n).any D.isOwn then
        swapLeaves true c k n { E2 with ce := E2.ce.set c (some (setRange ds2 k (stD s E2 d0).leaves1)) }
      else none
def opStore (tb : Tab) (dst : Option Tmp) (t : TypeId) (a x : Operand) : Rdr Stp :=
  match tb t, dst with
  | none, _ => .fail
  | some _, some _ => .fail
  | some i, none => opdR a fun
    | .cref c k => .cell c fun
      | none => .fail
      | some old => opdR x fun d =>
        if d.isTup || d.isDead || d.leaves1.length != i.size || decide (old.length < k + i.size) then .fail
        else if d.leaves1.any D.ownish || ((old.drop k).take i.size).any D.isOwn then
          .all fun E => (match storeOwn c k i.size (tmpOf x) d E with | some E' => .ret (.done [.all E']) | none => .fail)
        else .ret (.done [.c c (some (setRange old k d.leaves1))])
    | .eref p a j => leafR p fun
      | .own e xs => opdR x fun d =>
        (match tb e with
        | none => .fail
        | some ie =>
        if d.isTup || d.isDead || d.leaves1.length != i.size || decide ((xs.getD a []).length < j + i.size) || !flatB ie.les then .fail
        else (match toTs (List.replicate i.size 0) d.leaves1 with
          | some ts => .ret (.done [.lf p (.own e (xs.set a (setRange (xs.getD a []) j ts)))])
          | none => .fail))
      | _ => .fail
    | _ => .fail

def opNilCheck (dst : Option Tmp) (x : Operand) : Rdr Stp :=
  opdR x fun
    | .cref c k => wrS dst (.cref c k)
    | .eref p a j => wrS dst (.eref p a j)
    | .rptr ds => wrS dst (.rptr ds)
    | .clo f ds => wrS dst (.clo f ds)
    | _ => .fail

def eqRes (dst : Option Tmp) (op : BinOp) (r : Bool) : Rdr Stp :=
  match op with
  | .eql => wrS dst (.v (.bool r))
  | .neq => wrS dst (.v (.bool !r))
  | _ => .fail
def opBin (tb : Tab) (dst : Option Tmp) (op : BinOp) (t : TypeId) (x y : Operand) : Rdr Stp :=
  opdR x fun dx => opdR y fun dy =>
    match dx, dy with
    | .v a, .v b => binR tb op t a b fun v => wrS dst (.v v)
    | dx, .nil => (match tb t with
      | some ⟨.slice _, _, _, _, _, _⟩ => (match dx with
        | .nil => eqRes dst op true
        | dx => rowsR dx fun _ xs => .chk (xs ≠ []) (eqRes dst op false))
      | _ => .fail)
    | dx, .v (.pointer none) => (match tb t with
      | some ⟨.ptr _, _, _, _, _, _⟩ => (match dx with
        | .cref _ _ | .eref _ _ _ | .rptr _ => eqRes dst op false
        | _ => .fail)
      | _ => .fail)
    | _, _ => .fail
def opUn (dst : Option Tmp) (op : UnOp) (x : Operand) : Rdr Stp :=
  opdR x fun
    | .v a => (match unV op a with | some v => wrS dst (.v v) | none => .fail)
    | _ => .fail
def opConvert (tb : Tab) (dst : Option Tmp) (s t : TypeId) (x : Operand) : Rdr Stp :=
  opdR x fun d =>
    match tb.kd s, tb.kd t, d with
    | some _, some (.int k), .v (.int _ n) => wrS dst (.v (.int k (k.wrap n)))
    | some .str, some .str, .v (.string b) => wrS dst (.v (.string b))
    | some .str, some (.slice e), .v (.string b) => (match tb.kd e with
      | some (.int .u8) => wrS dst (.own e (bytesRows (toL b)))
      | _ => .fail)
    | some (.slice e), some .str, .nil => (match tb.kd e with | some (.int .u8) => wrS dst (.v (vS [])) | _ => .fail)
    | some (.slice e), some .str, d => (match tb.kd e with
        | some (.int .u8) => rowsR d fun e' xs => .chk (e' = e ∧ xs = bytesRows (rowsBytes xs)) (wrS dst (.v (vS (rowsBytes xs))))
        | _ => .fail)
    | _, _, _ => .fail

def opMakeFunc (dst : Option Tmp) (fn : Fn) (first captured : List Operand) : Rdr Stp :=
  match fn, first with
  | .func f, [] => go captured [] fun ds => wrS dst (.clo f ds)
  | _, _ => .fail
  where
  go : List Operand → List D → (List D → Rdr Stp) → Rdr Stp
  | [], acc, k => k acc
  | x :: xs, acc, k => opdR x fun d => if d.capt then go xs (acc ++ [d]) k else .fail

def zeroT (i : TI) : Option (List T) := toTs i.les i.zero
def opMakeSlice (tb : Tab) (dst : Option Tmp) (t : TypeId) (l c : Operand) : Rdr Stp :=
  match tb.kd t with
  | some (.slice e) => (match tb e with
    | some i => (match zeroT i with
      | some z => opdR l fun dl => opdR c fun dc =>
        (match dl, dc with
        | .v (.int _ n), .v (.int _ m) => .chk (0 ≤ n ∧ n ≤ m ∧ m ≤ 9223372036854775807 ∧ m.toNat * i.bytes ≤ 140737488355328) (wrS dst (.own e (List.replicate n.toNat z)))
        | _, _ => .fail)
      | none => .fail)
    | none => .fail)
  | _ => .fail

/-- The bounds of a slice expression over a length. -/
def boundR {β : Type} (x : Option Operand) (dflt : Nat) (k : Nat → Rdr β) : Rdr β :=
  match x with
  | none => k dflt
  | some x => opdR x fun
    | .v (.int _ n) => .chk (0 ≤ n) (k n.toNat)
    | _ => .fail
def opSlice (tb : Tab) (dst : Option Tmp) (t : TypeId) (x : Operand) (lo hi mx : Option Operand) : Rdr Stp :=
  match mx with
  | some _ => .fail
  | none => opdR x fun d =>
    match tb.kd t, d with
    | some .str, .v (.string b) => boundR lo 0 fun l => boundR hi (toL b).length fun h => .chk (l ≤ h ∧ h ≤ (toL b).length) (wrS dst (.v (vS (((toL b).drop l).take (h - l)))))
    | some (.slice e), .ali p => leafR p fun
      | .own e' xs => boundR lo 0 fun l => boundR hi xs.length fun h => .chk (l ≤ h ∧ h ≤ xs.length ∧ e' = e) (wrS dst (.sub p l h))
      | _ => .fail
    | some (.slice e), .sub p a b => leafR p fun
      | .own e' xs => boundR lo 0 fun l => boundR hi (b - a) fun h => .chk (l ≤ h ∧ h ≤ b - a ∧ (l = 0 ∨ l < b - a) ∧ e' = e) (wrS dst (.sub p (a + l) (a + h)))
      | _ => .fail
    | some (.slice e), .imm e' xs => boundR lo 0 fun l => boundR hi xs.length fun h => .chk (l ≤ h ∧ h ≤ xs.length ∧ e' = e) (wrS dst (.imm e ((xs.drop l).take (h - l))))
    | some (.slice e), .nil => boundR lo 0 fun l => boundR hi 0 fun h => .chk (l = 0 ∧ h = 0) (wrS dst .nil)
    | _, _ => .fail

def opFieldAddr (tb : Tab) (dst : Option Tmp) (s : TypeId) (x : Operand) (f : Nat) : Rdr Stp :=
  match tb s with
  | none => .fail
  | some i => if !i.k.isStruct then .fail else (match i.fields[f]? with
    | none => .fail
    | some off => opdR x fun
      | .cref c k => .cell c fun | some ds => (if k + off ≤ ds.length then wrS dst (.cref c (k + off)) else .fail) | none => .fail
      | .eref p a j => wrS dst (.eref p a (j + off))
      | .rptr ds => wrS dst (.rptr (ds.drop off))
      | _ => .fail)

def opIndexAddr (tb : Tab) (dst : Option Tmp) (t : TypeId) (x ix : Operand) : Rdr Stp :=
  match tb.kd t with
  | some (.slice e) => opdR ix fun
    | .v (.int _ n) => opdR x fun
      | .ali p => leafR p fun
        | .own e' xs => .chk (0 ≤ n ∧ n < xs.length ∧ e' = e) (wrS dst (.eref p n.toNat 0))
        | _ => .fail
      | .sub p a b => leafR p fun
        | .own e' xs => .chk (0 ≤ n ∧ n < ((b - a : Nat) : Int) ∧ e' = e) (wrS dst (.eref p (a + n.toNat) 0))
        | _ => .fail
      | .imm e' xs => .chk (0 ≤ n ∧ n < xs.length ∧ e' = e) (wrS dst (.rptr ((xs.getD n.toNat []).map T.toD)))
      | _ => .fail
    | _ => .fail
  | _ => .fail
def opIndex (tb : Tab) (dst : Option Tmp) (t : TypeId) (x ix : Operand) : Rdr Stp :=
  match tb.kd t with
  | some .str => opdR x fun
    | .v (.string b) => opdR ix fun
      | .v (.int _ n) => .chk (0 ≤ n ∧ n < (toL b).length) (wrS dst (.v (vC ((toL b).getD n.toNat 0).toNat)))
      | _ => .fail
    | _ => .fail
  | _ => .fail
def opExtract (dst : Option Tmp) (x : Operand) (k : Nat) : Rdr Stp :=
  match x with
  | .tmp t => .slot t fun
    | .tup cs => (match cs[k]? with | some d => wrS dst (mvComp t (64 * k) d) | none => .fail)
    | _ => .fail
  | _ => .fail

/-! built-in functions -/
def opLen (tb : Tab) (dst : Option Tmp) (t : TypeId) (x : Operand) : Rdr Stp :=
  opdR x fun d =>
    match tb.kd t, d with
    | some .str, .v (.string b) => .asm ((toL b).length ≤ 9223372036854775807) (wrS dst (.v (vI (toL b).length)))
    | some (.slice _), .nil => wrS dst (.v (vI 0))
    | some (.slice _), d => rowsR d fun _ xs => .asm (xs.length ≤ 9223372036854775807) (wrS dst (.v (vI xs.length)))
    | _, _ => .fail
def opMinMax (mx : Bool) (dst : Option Tmp) (xs : List Operand) : Rdr Stp :=
  match xs with
  | x :: xs => opdR x fun
    | .v (.int k n) => go xs n k
    | _ => .fail
  | [] => .fail
  where
  go : List Operand → Int → IntKind → Rdr Stp
  | [], n, k => wrS dst (.v (.int k n))
  | x :: xs, n, k => opdR x fun
    | .v (.int k' m) => if k = k' then go xs (if mx then (if m > n then m else n) else (if m < n then m else n)) k else .fail
    | _ => .fail
/-- What is appended, as rows. -/
def srcR {α : Type} (tb : Tab) (tx e : TypeId) (sz : Nat) (d : D) (k : List (List T) → Rdr α) : Rdr α :=
  match tb.kd tx, d with
  | some .str, .v (.string b) => if sz == 1 then k (bytesRows (toL b)) else .fail
  | some (.slice _), .nil => k []
  | some (.slice _), d => rowsR d fun e' xs => .chk (e' = e) (k xs)
  | _, _ => .fail
def opAppend (tb : Tab) (dst : Option Tmp) (t tx : TypeId) (s x : Operand) : Rdr Stp :=
  match tb.kd t, dst with
  | some (.slice e), some r => (match tb e with
    | some i => if flatB i.les && decide (0 < i.size) && decide (0 < i.bytes) then opdR s fun d => opdR x fun y => srcR tb tx e i.size y fun ys =>
      (match d with
      | .nil => .chk (ys.length * i.bytes ≤ 140737488355328) (wrS dst (.own e ys))
      | .ali p => leafR p fun
        | .own e' xs => .chk ((xs.length + ys.length) * i.bytes ≤ 140737488355328 ∧ e' = e) (.all fun E => .ret (.done [.all (fin E r p e (xs ++ ys))]))
        | _ => .fail
      | .sub p a b => leafR p fun
        | .own e' xs => .chk ((b - a + ys.length) * i.bytes ≤ 140737488355328 ∧ e' = e) (.all fun E => .ret (.done [.all (fin E r p e ((xs.drop a).take (b - a) ++ ys))]))
        | _ => .fail
      | _ => .fail) else .fail
    | none => .fail)
  | _, _ => .fail
  where
  fin (E : Env) (r : Nat) (p : Lf) (e : TypeId) (zs : List (List T)) : Env :=
    let E1 := E.killP p
    let E2 := if (E1.sl.getD r .dead).anyOwn then E1.killS r else E1
    { E2 with sl := E2.sl.set r (.own e zs) }

/-! ### Calls -/
structure CallAcc where
  args : List D
  ce : List (Option (List D))
  wb : List (Lf × Nat)
  wc : List (Nat × Nat × Nat × Nat)
  bor : List Lf
  borc : List Nat
def CallAcc.push (a : CallAcc) (d : D) (bor : List Lf) (borc : List Nat) : CallAcc := { a with args := a.args ++ [d], ce := a.ce ++ [none], bor := a.bor ++ bor, borc := a.borc ++ borc }

/-- A leaf handed over to be read; e: its element type where it is a slice, or 0. -/
def coeLeaf {α : Type} (e : TypeId) (d : D) (k : D → List Lf → Rdr α) : Rdr α :=
  match d with
  | .v x => k (.v x) []
  | .nil => k (if e == 0 then .nil else .imm e []) []
  | .imm e' xs => k (.imm e' xs) []
  | .rptr ds => k (.rptr ds) []
  | .clo f [] => k (.clo f []) []
  | .ali p => rowsR (.ali p) fun e' xs => k (.imm e' xs) [p]
  | .sub p a b => rowsR (.sub p a b) fun e' xs => k (.imm e' xs) [p]
  | .ela p i j => rowsR (.ela p i j) fun e' xs => k (.imm e' xs) [p]
  | _ => .fail
def coeLeaves {α : Type} : List TypeId → List D → (List D → List Lf → Rdr α) → Rdr α
  | es, d :: ds, k => coeLeaf (es.headD 0) d fun d bs => coeLeaves es.tail ds fun ds bs' => k (d :: ds) (bs ++ bs')
  | _, [], k => k [] []
/-- What a function value holds, to be read. -/
def coeCapt {α : Type} : List D → (List D → List Lf → List Nat → Rdr α) → Rdr α
  | [], k => k [] [] []
  | .cref c j :: ds, k => .cell c fun
    | some ls => coeLeaves [] (mvList true c j (ls.drop j)) fun ls bs => if ls.all D.pure && decide (0 < ls.length) then coeCapt ds fun ds bs' bc => k (.rptr ls :: ds) (bs ++ bs') (c :: bc) else .fail
    | none => .fail
  | .rptr ls :: ds, k => coeCapt ds fun ds bs bc => k (.rptr ls :: ds) bs bc
  | .v x :: ds, k => coeCapt ds fun ds bs bc => k (.v x :: ds) bs bc
  | .nil :: ds, k => coeCapt ds fun ds bs bc => k (.nil :: ds) bs bc
  | .imm e xs :: ds, k => coeCapt ds fun ds bs bc => k (.imm e xs :: ds) bs bc
  | _ :: _, _ => .fail
def lendable : D → Bool | .v _ | .nil | .own _ _ | .imm _ _ => true | _ => false

def argR (tb : Tab) (pt : TypeId) (m : Nat) (d : D) (acc : CallAcc) (k : CallAcc → Rdr Stp) : Rdr Stp :=
  match m with
  | 1 => (match d with
    | .ali p => rowsR (.ali p) fun e' xs => k { acc.push (.own e' xs) [] [] with wb := acc.wb ++ [(p, acc.args.length)] }
    | .nil => (match tb.kd pt with | some (.slice e) => k (acc.push (.own e []) [] []) | _ => .fail)
    | _ => .fail)
  | 2 => (match d, tb.kd pt with
    | .cref c j, some (.ptr e) => (match tb e with
      | none => .fail
      | some ie => .cell c fun
        | none => .fail
        | some ls =>
          if ((ls.drop j).take ie.size).all lendable && decide (j + ie.size ≤ ls.length) && decide (0 < ie.size) then
            k { acc with args := acc.args ++ [.cref acc.args.length 0], ce := acc.ce ++ [some ((ls.drop j).take ie.size)], wc := acc.wc ++ [(c, j, ie.size, acc.args.length)] }
          else .fail)
    | _, _ => .fail)
  | _ => (match d with
    | .agg ds => (match tb pt with
      | some i => coeLeaves i.les ds fun ds' bs => k (acc.push (.agg ds') bs [])
      | none => .fail)
    | .cref c j => (match tb.kd pt with
      | some (.ptr e) => (match tb e with
        | none => .fail
        | some ie => .cell c fun
          | none => .fail
          | some ls => if 0 < ie.size ∧ j + ie.size ≤ ls.length then coeLeaves ie.les (mvList true c j ((ls.drop j).take ie.size)) fun ls' bs => if ls'.all D.pure then k (acc.push (.rptr ls') bs [c]) else .fail else .fail)
      | _ => .fail)
    | .clo f cs => coeCapt cs fun cs' bs bc => k (acc.push (.clo f cs') bs bc)
    | .tup _ => .fail
    | d => coeLeaf (match tb.kd pt with | some (.slice e) => e | _ => 0) d fun d' bs => k (acc.push d' bs []))
def argsR (tb : Tab) (md : Nat → Nat) : List TypeId → List D → CallAcc → (CallAcc → Rdr Stp) → Rdr Stp
  | pt :: pts, d :: ds, acc, k => argR tb pt (md acc.args.length) d acc fun acc => argsR tb md pts ds acc k
  | [], [], acc, k => k acc
  | _, _, _, _ => .fail

/-- Nothing is lent twice, nothing is lent and read. -/
def distinct {α : Type} [DecidableEq α] : List α → Bool
  | [] => true
  | x :: xs => !(xs.contains x) && distinct xs
def CallAcc.ok (a : CallAcc) : Bool :=
  let ps := a.wb.map (·.1)
  let cs := a.wc.map (·.1)
  distinct ps && distinct cs && ps.all (fun p => !(p.c && cs.contains p.t)) && a.bor.all (fun q => !(ps.contains q) && !(q.c && cs.contains q.t)) && a.borc.all (fun c => !(cs.contains c))

def D.isImm : D → Bool | .imm _ _ => true | _ => false
/-- A leaf of a result. -/
def D.resLeaf : D → Bool | .v _ | .nil | .own _ _ | .imm _ _ | .dead => true | .clo _ ds => ds.isEmpty | _ => false
def D.anyL (p : D → Bool) (d : D) : Bool := d.comps.any fun c => c.leaves1.any p
def wbs (Ein Eout : Env) : List (Lf × Nat) → Option (List (Lf × TypeId × List (List T)))
  | [] => some []
  | (p, i) :: ps => match Ein.sl.getD i .dead, Eout.sl.getD i .dead, wbs Ein Eout ps with
    | .own e0 _, .own e xs, some ws => if e0 = e then some ((p, e, xs) :: ws) else none
    | _, _, _ => none
def wcs (Eout : Env) : List (Nat × Nat × Nat × Nat) → Option (List (Nat × Nat × List D))
  | [] => some []
  | (c, j, n, i) :: ps => match Eout.ce.getD i none, wcs Eout ps with
    | some ls, some ws => if ls.length = n ∧ ls.all D.resLeaf = true then some ((c, j, ls) :: ws) else none
    | _, _ => none
def retIm (acc : CallAcc) (Eout : Env) (w2 : List (Nat × Nat × List D)) : Bool := (Eout.sl.getD acc.args.length .dead).anyL D.isImm || w2.any fun x => x.2.2.any D.isImm
def retW (acc : CallAcc) (dst : Option Tmp) (Eout : Env) : Option (List W) :=
  match wbs ⟨acc.args, acc.ce⟩ Eout acc.wb, wcs Eout acc.wc with
  | some w1, some w2 =>
    if (Eout.sl.getD acc.args.length .dead).anyL (fun d => !d.resLeaf) || (retIm acc Eout w2 && !acc.borc.isEmpty) || decide (Eout.sl.length ≠ acc.args.length + 1) then none
    else some ((if retIm acc Eout w2 then [.fz acc.bor] else []) ++ (.ca w1 w2 :: (match dst with | none => [] | some t => [.rw t (Eout.sl.getD acc.args.length .dead)])))
  | _, _ => none
def callR (C : Cfg) (dst : Option Tmp) (f : FuncId) (ds : List D) : Rdr Stp :=
  argsR C.tb (C.md f) (C.pts f) ds ⟨[], [], [], [], [], []⟩ fun acc => if acc.ok then .ret (.call f ⟨acc.args, acc.ce⟩ (retW acc dst)) else .fail
def opdsR {α : Type} : List Operand → List D → (List D → Rdr α) → Rdr α
  | [], acc, k => k acc
  | x :: xs, acc, k => opdR x fun d => opdsR xs (acc ++ [d]) k

def opCall (C : Cfg) (dst : Option Tmp) (c : Call) : Rdr Stp :=
  match c.callee with
  | .builtin .len => (match c.args.toList, c.argTypes.toList with | [x], [t] => opLen C.tb dst t x | _, _ => .fail)
  | .builtin .append => (match c.args.toList, c.argTypes.toList with | [s, x], [t, tx] => opAppend C.tb dst t tx s x | _, _ => .fail)
  | .builtin .min => opMinMax false dst c.args.toList
  | .builtin .max => opMinMax true dst c.args.toList
  | .builtin _ => .fail
  | .value (.func f) => opdsR c.args.toList [] fun ds => callR C dst f ds
  | .value x => opdR x fun
    | .clo f cs => opdsR c.args.toList [] fun ds => callR C dst f (ds ++ cs)
    | _ => .fail
  | .invoke _ _ => .fail

def opR (C : Cfg) (o : Oper) : Rdr Stp :=
  match o.op with
  | .move x => opMoveT o.dst x
  | .assign x => opAssign o.dst x
  | .pick c a b => opPick o.dst c a b
  | .alloc e => opAlloc C.np C.tb o.dst e
  | .box e x => opBox C.np C.tb o.dst e x
  | .build t ps => opBuild C.tb o.dst t ps.toList
  | .buildSlice t n ps => opBuildSlice C.tb o.dst t n ps.toList
  | .load t a => opLoad C.tb o.dst t a
  | .store t a x => opStore C.tb o.dst t a x
  | .nilCheck x => opNilCheck o.dst x
  | .binOp op t x y _ => opBin C.tb o.dst op t x y
  | .unOp op _ x => opUn o.dst op x
  | .convert s t x => opConvert C.tb o.dst s t x
  | .makeFunc fn fi ca => opMakeFunc o.dst fn fi.toList ca.toList
  | .makeSlice t l c => opMakeSlice C.tb o.dst t l c
  | .slice t x lo hi mx => opSlice C.tb o.dst t x lo hi mx
  | .fieldAddr s x f => opFieldAddr C.tb o.dst s x f
  | .indexAddr t x i => opIndexAddr C.tb o.dst t x i
  | .index t x i => opIndex C.tb o.dst t x i
  | .extract x k => opExtract o.dst x k
  | .call c => opCall C o.dst c
  | _ => .fail
end Go.Proofs.Ytcnogcachboibaa.Fw
