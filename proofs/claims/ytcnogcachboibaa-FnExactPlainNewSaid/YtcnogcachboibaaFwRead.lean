/- Framework, part Read: what a row's own reading of an argument tells: the argument as plain data. -/
import Derived.Test.YtcnogcachboibaaFwRow
import Derived.Deep.Slices
import Derived.ChangeArms
import Derived.ChangeShapes
namespace Go.Proofs.Ytcnogcachboibaa.Fw
open Go
set_option linter.unusedVariables false

/-- The shape of a leaf. -/
inductive Sh where
  | int (k : IntKind)
  | bool
  | str
  | sl (e : TypeId) (fs : List Sh)

def Sh.isSl : Sh → Bool | .sl _ _ => true | _ => false

/-- The leaves of a type. -/
inductive ShT (P : Program) : TypeId → List Sh → Prop
  | int (t : TypeId) (k : IntKind) : P.underlying t = some (.int k) → P.cellsOf t = 1 → ShT P t [.int k]
  | bool (t : TypeId) : P.underlying t = some .bool → P.cellsOf t = 1 → ShT P t [.bool]
  | str (t : TypeId) : P.underlying t = some .string → P.cellsOf t = 1 → ShT P t [.str]
  | slice (t e : TypeId) (fs : List Sh) : P.underlying t = some (.slice e) → P.cellsOf t = 1 → 0 < fs.length → (flatP P e = true → fs.all (fun s => !s.isSl) = true) → ShT P e fs → ShT P t [.sl e fs]
  | struct (t : TypeId) (fs : Array Field) (shs : List (List Sh)) : P.underlying t = some (.struct fs) → P.cellsOf t = shs.flatten.length → shs.length = fs.size →
      (∀ (i : Nat) (f : Field) (s : List Sh), fs[i]? = some f → shs[i]? = some s → f.offset = (shs.take i).flatten.length ∧ P.cellsOf f.type = s.length) →
      (∀ (i : Nat) (f : Field) (s : List Sh), fs[i]? = some f → shs[i]? = some s → ShT P f.type s) → ShT P t shs.flatten

/-- Data of a shape. -/
inductive WT : Sh → T → Prop
  | int (k : IntKind) (n : Int) : (Lit.int k n).wf = true → WT (.int k) (.v (.int k n))
  | bool (b : Bool) : WT .bool (.v (.bool b))
  | str (s : ByteArray) : s.size ≤ maxLen → WT .str (.v (.string s))
  | sl (e : TypeId) (fs : List Sh) (xs : List (List T)) : xs.length ≤ maxLen → (∀ (i : Nat) (r : List T), xs[i]? = some r → r.length = fs.length) →
      (∀ (i j : Nat) (r : List T) (f : Sh) (t : T), xs[i]? = some r → fs[j]? = some f → r[j]? = some t → WT f t) → WT (.sl e fs) (.sl e xs)

def WTs (fs : List Sh) (r : List T) : Prop := r.length = fs.length ∧ ∀ (j : Nat) (f : Sh) (t : T), fs[j]? = some f → r[j]? = some t → WT f t

theorem WTs.cons {f : Sh} {fs : List Sh} {r : List T} (h : WTs (f :: fs) r) : ∃ t r', r = t :: r' ∧ WT f t ∧ WTs fs r' := by
  obtain ⟨h1, h2⟩ := h
  cases r with
  | nil => simp at h1
  | cons t r' => exact ⟨t, r', rfl, h2 0 f t rfl rfl, by simpa using h1, fun j f t hf ht => h2 (j + 1) f t hf ht⟩
theorem WTs.nil {r : List T} (h : WTs [] r) : r = [] := List.eq_nil_of_length_eq_zero h.1
theorem WT.int_inv {k : IntKind} {t : T} (h : WT (.int k) t) : ∃ n, t = .v (.int k n) ∧ (Lit.int k n).wf = true := by cases h; exact ⟨_, rfl, by assumption⟩
theorem WT.bool_inv {t : T} (h : WT .bool t) : ∃ b, t = .v (.bool b) := by cases h; exact ⟨_, rfl⟩
theorem WT.str_inv {t : T} (h : WT .str t) : ∃ l, t = .v (vS l) ∧ l.length ≤ 9223372036854775807 := by
  cases h with
  | str s h => exact ⟨toL s, rfl, h⟩
theorem WT.sl_inv {e : TypeId} {fs : List Sh} {t : T} (h : WT (.sl e fs) t) : ∃ xs, t = .sl e xs ∧ xs.length ≤ 9223372036854775807 ∧ ∀ r, r ∈ xs → WTs fs r := by
  cases h with
  | sl _ _ xs h1 h2 h3 =>
    refine ⟨xs, rfl, h1, fun r hr => ?_⟩
    obtain ⟨i, hi, rfl⟩ := List.mem_iff_getElem.1 hr
    have := List.getElem?_eq_getElem hi
    exact ⟨h2 i _ this, fun j f t hf ht => h3 i j _ f t this hf ht⟩

/-- Cells that read as data of these shapes. -/
def CRd (P : Program) (w : World) (fs : List Sh) (cs : List Value) (r : List T) : Prop :=
  cs.length = fs.length ∧ WTs fs r ∧ ∀ (j : Nat) (t : T), r[j]? = some t → ∃ v, cs[j]? = some v ∧ one v = true ∧ RdT P w (fun _ => True) t v

theorem crd1 {P : Program} {w : World} {f : Sh} {v : Value} {t : T} (h1 : WT f t) (h2 : one v = true) (h3 : RdT P w (fun _ => True) t v) : CRd P w [f] [v] [t] := by
  refine ⟨rfl, ⟨rfl, fun j g s hg hs => ?_⟩, fun j s hs => ?_⟩
  · match j, hg, hs with
    | 0, hg, hs => injection hg with hg; injection hs with hs; subst hg; subst hs; exact h1
  · match j, hs with
    | 0, hs => injection hs with hs; subst hs; exact ⟨v, rfl, h2, h3⟩

theorem chooseL {α : Type} [Inhabited α] {n : Nat} {p : Nat → α → Prop} (h : ∀ i, i < n → ∃ x, p i x) : ∃ l : List α, l.length = n ∧ ∀ (i : Nat) (x : α), l[i]? = some x → p i x := by
  induction n with
  | zero => exact ⟨[], rfl, fun i x hx => by simp at hx⟩
  | succ n ih =>
    obtain ⟨l, h1, h2⟩ := ih fun i hi => h i (by omega)
    obtain ⟨x, hx⟩ := h n (by omega)
    refine ⟨l ++ [x], by simp [h1], fun i y hy => ?_⟩
    by_cases hi : i < l.length
    · rw [List.getElem?_append_left hi] at hy; exact h2 i y hy
    · rw [List.getElem?_append_right (by omega)] at hy
      have : i - l.length = 0 := by
        by_cases hz : i - l.length = 0
        · exact hz
        · rw [List.getElem?_eq_none (by simp; omega)] at hy; cases hy
      rw [this] at hy
      injection hy with hy; subst hy
      have : i = n := by omega
      subst this; exact hx

theorem flat_get {α : Type} : ∀ (ls : List (List α)) (k : Nat) (x : α), ls.flatten[k]? = some x → ∃ (i j : Nat) (l : List α), ls[i]? = some l ∧ l[j]? = some x ∧ k = (ls.take i).flatten.length + j
  | [], k, x, h => by simp at h
  | l :: ls, k, x, h => by
    rw [List.flatten_cons] at h
    by_cases hk : k < l.length
    · rw [List.getElem?_append_left hk] at h
      exact ⟨0, k, l, rfl, h, by simp⟩
    · rw [List.getElem?_append_right (by omega)] at h
      obtain ⟨i, j, l', h1, h2, h3⟩ := flat_get ls (k - l.length) x h
      exact ⟨i + 1, j, l', h1, h2, by rw [List.take_succ_cons, List.flatten_cons, List.length_append]; omega⟩
theorem flat_at {α : Type} : ∀ (ls : List (List α)) (i j : Nat) (l : List α) (x : α), ls[i]? = some l → l[j]? = some x → ls.flatten[(ls.take i).flatten.length + j]? = some x
  | [], i, j, l, x, h, _ => by simp at h
  | m :: ls, 0, j, l, x, h, hx => by
    injection h with h; subst h
    rw [List.flatten_cons]
    have : j < m.length := (List.getElem?_eq_some_iff.1 hx).1
    simp only [List.take_zero, List.flatten_nil, List.length_nil, Nat.zero_add]
    rw [List.getElem?_append_left this]; exact hx
  | m :: ls, i + 1, j, l, x, h, hx => by
    rw [List.flatten_cons, List.take_succ_cons, List.flatten_cons, List.length_append, Nat.add_assoc, List.getElem?_append_right (by omega), Nat.add_sub_cancel_left]
    exact flat_at ls i j l x h hx

theorem take_len_eq {α β : Type} : ∀ (a : List (List α)) (b : List (List β)) (n : Nat), a.length = b.length → (∀ (i : Nat) (x : List α) (y : List β), a[i]? = some x → b[i]? = some y → x.length = y.length) → (a.take n).flatten.length = (b.take n).flatten.length
  | [], [], n, _, _ => by simp
  | [], _ :: _, n, h, _ => by simp at h
  | _ :: _, [], n, h, _ => by simp at h
  | x :: a, y :: b, 0, _, _ => by simp
  | x :: a, y :: b, n + 1, h, h2 => by
    simp only [List.take_succ_cons, List.flatten_cons, List.length_append]
    rw [h2 0 x y rfl rfl, take_len_eq a b n (by simpa using h) fun i x y hx hy => h2 (i + 1) x y hx hy]

theorem read_trod {H : Type} {enc : TypeId × Value → H} {P : Program} {w : World} {base : Nat} {spare : Nat → Bool} {held : Bool} {t : TypeId} {fs : List Sh} (hs : ShT P t fs) :
    ∀ {fuel : Nat} {cs : List Value} {x : DataW H × List MemPlace}, DataW.trod enc P w base spare held fuel t cs = some x → ∃ r, CRd P w fs cs r := by
  induction hs with
  | int t k hu hc =>
    intro fuel cs x h
    obtain ⟨n, rfl, _, hw⟩ := DataW.trod_int hu h
    exact ⟨[.v (.int k n)], crd1 (.int k n hw) rfl (.v _ rfl)⟩
  | bool t hu hc =>
    intro fuel cs x h
    obtain ⟨b, rfl, _⟩ := DataW.trod_bool hu h
    exact ⟨[.v (.bool b)], crd1 (.bool b) rfl (.v _ rfl)⟩
  | str t hu hc =>
    intro fuel cs x h
    obtain ⟨s, rfl, _, hw⟩ := DataW.trod_string hu h
    exact ⟨[.v (.string s)], crd1 (.str s hw) rfl (.v _ (by simp only [scal, decide_eq_true_eq]; unfold maxLen at hw; omega))⟩
  | slice t e fs hu hc hpos hfl hsh ih =>
    intro fuel cs x h
    rcases Deep.open_slice hu h with ⟨rfl, _⟩ | ⟨a, len, cap, m, n, D, Pl, rfl, hb, hlc, hcm, hm, _, hx⟩
    · exact ⟨[.sl e []], crd1 (.sl e fs [] (by simp) (fun i r h => by simp at h) (fun i j r f t h => by simp at h)) rfl (.emp e none 0 (by omega))⟩
    · have hcap : cap ≤ 9223372036854775807 := by unfold maxLen at hcm; omega
      by_cases h0 : len = 0
      · subst h0
        exact ⟨[.sl e []], crd1 (.sl e fs [] (by simp) (fun i r h => by simp at h) (fun i j r f t h => by simp at h)) rfl (.emp e (some a) cap hcap)⟩
      · have hrow : ∀ i, i < len → ∃ r : List T, ∃ cs', w.cells? base (a.add (i * P.cellsOf e)) (P.cellsOf e) = some cs' ∧ CRd P w fs cs' r := by
          intro i hi
          obtain ⟨cs', h1, h2⟩ := hx i (by rw [hm]; split <;> omega)
          obtain ⟨r, hr⟩ := ih h2
          exact ⟨r, cs', h1, hr⟩
        obtain ⟨xs, hxl, hxs⟩ := chooseL hrow
        subst hxl
        have hsz : P.cellsOf e = fs.length := by
          obtain ⟨r, cs', h1, h2⟩ := hrow 0 (by omega)
          have := (World.cells?_some h1).2.1
          rw [← this, h2.1]
        -- the block
        have hfst : ∃ v, w.cell? a = some v := by
          obtain ⟨r, cs', h1, h2⟩ := hrow 0 (by omega)
          obtain ⟨_, g1, g2⟩ := World.cells?_some h1
          have := g2 0 (by omega)
          have e0 : (a.add (0 * P.cellsOf e)).add 0 = a := by simp [Addr.add]
          rw [e0] at this
          rw [this]
          exact ⟨_, List.getElem?_eq_getElem (by omega)⟩
        obtain ⟨v0, hv0⟩ := hfst
        have hspot := World.cell?_spot hv0
        obtain ⟨b, o, sp⟩ := a
        have hspot : sp = none := hspot
        subst hspot
        have hblk : ∃ ca ce fr, w.heap[b]? = some (.cells ca ce fr) := by
          unfold World.cell? at hv0
          split at hv0
          · rename_i ca ce fr hh
            exact ⟨ca, ce, fr, hh⟩
          · cases hv0
        obtain ⟨ca, ce, fr, hblk⟩ := hblk
        have hcell : ∀ (i j : Nat) (t : T), T.get? xs i j = some t → ∃ v, ca[o + i * P.cellsOf e + j]? = some v ∧ RdT P w (fun _ => True) t v := by
          intro i j t ht
          obtain ⟨r, hr, hj⟩ : ∃ r, xs[i]? = some r ∧ r[j]? = some t := by
            unfold T.get? at ht
            cases hh : xs[i]? with
            | none => rw [hh] at ht; cases ht
            | some r => rw [hh] at ht; exact ⟨r, rfl, ht⟩
          obtain ⟨cs', g1, g2⟩ := hxs i r hr
          obtain ⟨v, hv, _, hrd⟩ := g2.2.2 j t hj
          refine ⟨v, ?_, hrd⟩
          have hjl : j < cs'.length := (List.getElem?_eq_some_iff.1 hv).1
          obtain ⟨_, k1, k2⟩ := World.cells?_some g1
          have := k2 j (by omega)
          rw [hv] at this
          have e1 : ((⟨b, o, none⟩ : Addr).add (i * P.cellsOf e)).add j = ⟨b, o + i * P.cellsOf e + j, none⟩ := by rw [add_plain, add_plain]
          rw [e1, cell_of hblk] at this
          exact this
        have hval : ∀ i j, ∃ v, ∀ t, T.get? xs i j = some t → ca[o + i * P.cellsOf e + j]? = some v ∧ RdT P w (fun _ => True) t v := by
          intro i j
          cases hh : T.get? xs i j with
          | none => exact ⟨undef, fun t ht => by cases ht⟩
          | some t =>
            obtain ⟨v, hv⟩ := hcell i j t hh
            exact ⟨v, fun s hs => by injection hs with hs; subst hs; exact hv⟩
        refine ⟨[.sl e xs], crd1 (.sl e fs xs (by unfold maxLen at hcm ⊢; omega) (fun i r hr => ?_) (fun i j r f t hr hf ht => ?_)) rfl
          (.row e xs b o cap ca ce fr (fun i j => (hval i j).choose) hblk trivial hlc hcap (fun i r hr => ?_) (fun i j t ht => ((hval i j).choose_spec t ht).1) (fun i j t ht => ((hval i j).choose_spec t ht).2) ?_)⟩
        · obtain ⟨cs', _, g⟩ := hxs i r hr; exact g.2.1.1
        · obtain ⟨cs', _, g⟩ := hxs i r hr; exact g.2.1.2 j f t hf ht
        · obtain ⟨cs', _, g⟩ := hxs i r hr; rw [hsz]; exact g.2.1.1
        · intro hf i j t ht
          obtain ⟨r, hr, hj⟩ : ∃ r, xs[i]? = some r ∧ r[j]? = some t := by
            unfold T.get? at ht
            cases hh : xs[i]? with
            | none => rw [hh] at ht; cases ht
            | some r => rw [hh] at ht; exact ⟨r, rfl, ht⟩
          obtain ⟨cs', _, g⟩ := hxs i r hr
          have hjl : j < fs.length := by have := (List.getElem?_eq_some_iff.1 hj).1; rw [g.2.1.1] at this; exact this
          have hw := g.2.1.2 j _ t (List.getElem?_eq_getElem hjl) hj
          have hns := List.all_eq_true.1 (hfl hf) _ (List.getElem_mem hjl)
          generalize fs[j] = f at hw hns
          cases hw <;> first | rfl | simp [Sh.isSl] at hns
  | struct t fa shs hu hc hl hoff hsh ih =>
    intro fuel cs x h
    obtain ⟨xs, n, _, _, hcl, hxl, hf⟩ := DataW.trod_struct hu h
    have hrow : ∀ i, i < shs.length → ∃ r : List T, ∃ s f, shs[i]? = some s ∧ fa[i]? = some f ∧ CRd P w s ((cs.drop f.offset).take (P.cellsOf f.type)) r := by
      intro i hi
      have h1 := List.getElem?_eq_getElem hi
      have h2 : fa[i]? = some fa[i] := Array.getElem?_eq_getElem (by omega)
      have h3 := hf i _ h2
      rw [List.getElem?_eq_getElem (by omega)] at h3
      obtain ⟨r, hr⟩ := ih i _ _ h2 h1 h3
      exact ⟨r, _, _, h1, h2, hr⟩
    obtain ⟨rs, hrl, hrs⟩ := chooseL hrow
    have hlen : ∀ (i : Nat) (x : List T) (y : List Sh), rs[i]? = some x → shs[i]? = some y → x.length = y.length := by
      intro i x y hx hy
      obtain ⟨s, f, g1, g2, g3⟩ := hrs i x hx
      rw [hy] at g1; injection g1 with g1; subst g1
      exact g3.2.1.1
    have hall : rs.flatten.length = shs.flatten.length := by
      have := take_len_eq rs shs rs.length hrl hlen
      rw [List.take_length, hrl, List.take_length] at this
      exact this
    refine ⟨rs.flatten, by rw [hcl, hc], ⟨hall, fun j f t hj ht => ?_⟩, fun j t ht => ?_⟩
    · obtain ⟨i, k, r, g1, g2, g3⟩ := flat_get rs j t ht
      obtain ⟨s, fd, k1, k2, k3⟩ := hrs i r g1
      have hks : k < s.length := by have := (List.getElem?_eq_some_iff.1 g2).1; rw [k3.2.1.1] at this; exact this
      have := flat_at shs i k s _ k1 (List.getElem?_eq_getElem hks)
      rw [← take_len_eq rs shs i hrl hlen, ← g3, hj] at this
      injection this with this
      rw [this]
      exact k3.2.1.2 k _ t (List.getElem?_eq_getElem hks) g2
    · obtain ⟨i, k, r, g1, g2, g3⟩ := flat_get rs j t ht
      obtain ⟨s, fd, k1, k2, k3⟩ := hrs i r g1
      obtain ⟨v, hv, hv1, hv2⟩ := k3.2.2 k t g2
      refine ⟨v, ?_, hv1, hv2⟩
      obtain ⟨o1, o2⟩ := hoff i fd s k2 k1
      have hkl : k < P.cellsOf fd.type := by
        have := (List.getElem?_eq_some_iff.1 hv).1
        simp at this; omega
      rw [List.getElem?_take_of_lt hkl, List.getElem?_drop, o1, ← take_len_eq rs shs i hrl hlen, ← g3] at hv
      exact hv
end Go.Proofs.Ytcnogcachboibaa.Fw
