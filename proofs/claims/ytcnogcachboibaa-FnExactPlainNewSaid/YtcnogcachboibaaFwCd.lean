/- Framework, part Cd: all that is handed over. -/
import Derived.Test.YtcnogcachboibaaFwCc
namespace Go.Proofs.Ytcnogcachboibaa.Fw
open Go
set_option linter.unusedVariables false

/-- A component handed over to be read. -/
def CS (P : Program) (w : World) (S : Nat → Prop) (d : D) (v : Value) : Prop :=
  CL P w S d v ∨ ∃ ds vs, d = .agg ds ∧ v = .agg vs ∧ ds.length = vs.size ∧ ds.length ≤ 64 ∧ ∀ (i : Nat) (d : D), ds[i]? = some d → CL P w S d (vs.getD i undef)
theorem CS.mono {P : Program} {w : World} {S S' : Nat → Prop} {d : D} {v : Value} (h : CS P w S d v) (hs : ∀ b, S b → S' b) : CS P w S' d v := by
  rcases h with h | ⟨ds, vs, h1, h2, h3, h4, h5⟩
  · exact .inl (h.mono hs)
  · exact .inr ⟨ds, vs, h1, h2, h3, h4, fun i d hd => (h5 i d hd).mono hs⟩

/-- What argument i is. -/
def ArgIs (C : Ctx) (acc : CallAcc) (i : Nat) (d : D) (v : Value) : Prop :=
  (acc.ce[i]? = some none ∧ CS C.P C.w (Bor C acc.bor acc.borc) d v) ∨
  (acc.ce[i]? = some none ∧ ∃ e xs p, d = .own e xs ∧ (p, i) ∈ acc.wb ∧ C.E.leaf p = .own e xs ∧ v = C.cv p) ∨
  (acc.ce[i]? = some none ∧ ∃ e, d = .own e [] ∧ v = .slice none 0 0) ∨
  (∃ c j n ds, (c, j, n, i) ∈ acc.wc ∧ C.live c ds ∧ d = .cref i 0 ∧ acc.ce[i]? = some (some ((ds.drop j).take n)) ∧ j + n ≤ ds.length ∧ 0 < n ∧ ((ds.drop j).take n).all lendable = true ∧ v = .pointer (some ⟨(C.loc c).1, (C.loc c).2 + j, none⟩))

structure AccOk (C : Ctx) (acc : CallAcc) (vs : List Value) : Prop where
  len : acc.args.length = vs.length
  lce : acc.ce.length = vs.length
  arg : ∀ (i : Nat) (d : D) (v : Value), acc.args[i]? = some d → vs[i]? = some v → ArgIs C acc i d v
  wbi : ∀ p i, (p, i) ∈ acc.wb → i < vs.length ∧ ∃ e xs, acc.args[i]? = some (.own e xs) ∧ C.E.leaf p = .own e xs ∧ vs[i]? = some (C.cv p)
  wci : ∀ c j n i, (c, j, n, i) ∈ acc.wc → i < vs.length ∧ ∃ ds, C.live c ds ∧ j + n ≤ ds.length ∧ 0 < n ∧ acc.ce[i]? = some (some ((ds.drop j).take n))
  wbu : ∀ p q i, (p, i) ∈ acc.wb → (q, i) ∈ acc.wb → p = q
  wcu : ∀ x y i, (x, i) ∈ acc.wc.map (fun x => ((x.1, x.2.1, x.2.2.1), x.2.2.2)) → (y, i) ∈ acc.wc.map (fun x => ((x.1, x.2.1, x.2.2.1), x.2.2.2)) → x = y

theorem ArgIs.mono {C : Ctx} {acc acc' : CallAcc} {i : Nat} {d : D} {v : Value} (h : ArgIs C acc i d v) (h1 : ∀ o, acc.ce[i]? = some o → acc'.ce[i]? = some o) (h2 : ∀ x, x ∈ acc.wb → x ∈ acc'.wb) (h3 : ∀ x, x ∈ acc.wc → x ∈ acc'.wc)
    (h4 : ∀ x, x ∈ acc.bor → x ∈ acc'.bor) (h5 : ∀ x, x ∈ acc.borc → x ∈ acc'.borc) : ArgIs C acc' i d v := by
  rcases h with ⟨a, b⟩ | ⟨a, e, xs, p, b, c, f, g⟩ | ⟨a, b⟩ | ⟨c, j, n, ds, a1, a2, a3, a4, a5⟩
  · exact .inl ⟨h1 _ a, b.mono fun x hx => hx.mono h4 h5⟩
  · exact .inr (.inl ⟨h1 _ a, e, xs, p, b, h2 _ c, f, g⟩)
  · exact .inr (.inr (.inl ⟨h1 _ a, b⟩))
  · exact .inr (.inr (.inr ⟨c, j, n, ds, h3 _ a1, a2, a3, h1 _ a4, a5⟩))

/-- One argument more. -/
theorem AccOk.push {C : Ctx} {acc acc' : CallAcc} {vs : List Value} (h : AccOk C acc vs) {d : D} {o : Option (List D)} {v : Value} (ha : acc'.args = acc.args ++ [d]) (hc : acc'.ce = acc.ce ++ [o])
    (h2 : ∀ x, x ∈ acc'.wb → x ∈ acc.wb ∨ x.2 = vs.length) (h2' : ∀ x, x ∈ acc.wb → x ∈ acc'.wb) (h3 : ∀ x, x ∈ acc'.wc → x ∈ acc.wc ∨ x.2.2.2 = vs.length) (h3' : ∀ x, x ∈ acc.wc → x ∈ acc'.wc)
    (h4 : ∀ x, x ∈ acc.bor → x ∈ acc'.bor) (h5 : ∀ x, x ∈ acc.borc → x ∈ acc'.borc)
    (hnew : ArgIs C acc' vs.length d v)
    (hwb : ∀ p, (p, vs.length) ∈ acc'.wb → ∃ e xs, d = .own e xs ∧ C.E.leaf p = .own e xs ∧ v = C.cv p) (hwbu : ∀ p q, (p, vs.length) ∈ acc'.wb → (q, vs.length) ∈ acc'.wb → p = q)
    (hwc : ∀ c j n, (c, j, n, vs.length) ∈ acc'.wc → ∃ ds, C.live c ds ∧ j + n ≤ ds.length ∧ 0 < n ∧ o = some ((ds.drop j).take n))
    (hwcu : ∀ c j n c' j' n', (c, j, n, vs.length) ∈ acc'.wc → (c', j', n', vs.length) ∈ acc'.wc → c = c' ∧ j = j' ∧ n = n') : AccOk C acc' (vs ++ [v]) := by
  have hlt : ∀ {α : Type} {l : List α} {i : Nat} {x y : α}, l.length = vs.length → (l ++ [y])[i]? = some x → (i < vs.length ∧ l[i]? = some x) ∨ (i = vs.length ∧ x = y) := by
    intro α l i x y hl hx
    by_cases hi : i < l.length
    · rw [List.getElem?_append_left hi] at hx; exact .inl ⟨by omega, hx⟩
    · have h1 := (List.getElem?_eq_some_iff.1 hx).1
      simp at h1
      have : i = l.length := by omega
      subst this
      simp at hx
      exact .inr ⟨hl, hx.symm⟩
  have hce1 : ∀ i, i < vs.length → acc'.ce[i]? = acc.ce[i]? := by
    intro i hi
    rw [hc, List.getElem?_append_left (by rw [h.lce]; exact hi)]
  have wbold : ∀ p i, (p, i) ∈ acc'.wb → i ≠ vs.length → (p, i) ∈ acc.wb := by
    intro p i hp hi
    rcases h2 _ hp with h | h
    · exact h
    · exact absurd h hi
  have wcold : ∀ c j n i, (c, j, n, i) ∈ acc'.wc → i ≠ vs.length → (c, j, n, i) ∈ acc.wc := by
    intro c j n i hp hi
    rcases h3 _ hp with h | h
    · exact h
    · exact absurd h hi
  refine ⟨by rw [ha]; simp [h.len], by rw [hc]; simp [h.lce], ?_, ?_, ?_, ?_, ?_⟩
  · intro i d' v' hd hv
    rw [ha] at hd
    rcases hlt h.len hd with ⟨hi, hd⟩ | ⟨rfl, rfl⟩
    · rcases hlt rfl hv with ⟨_, hv⟩ | ⟨h1, _⟩
      · exact (h.arg i d' v' hd hv).mono (fun o ho => by rw [hce1 i hi]; exact ho) h2' h3' h4 h5
      · omega
    · rcases hlt rfl hv with ⟨h1, _⟩ | ⟨_, rfl⟩
      · omega
      · exact hnew
  · intro p i hp
    by_cases hi : i = vs.length
    · subst hi
      obtain ⟨e, xs, h1, h2, h3⟩ := hwb p hp
      refine ⟨by simp, e, xs, ?_, h2, ?_⟩
      · rw [ha, List.getElem?_append_right (by rw [h.len]; exact Nat.le_refl _), h.len]; simp [h1]
      · simp [h3]
    · obtain ⟨a, e, xs, b, c, f⟩ := h.wbi p i (wbold p i hp hi)
      refine ⟨by simp; omega, e, xs, ?_, c, ?_⟩
      · rw [ha, List.getElem?_append_left (by rw [h.len]; exact a)]; exact b
      · rw [List.getElem?_append_left a]; exact f
  · intro c j n i hp
    by_cases hi : i = vs.length
    · subst hi
      obtain ⟨ds, h1, h2, h3, h4⟩ := hwc c j n hp
      refine ⟨by simp, ds, h1, h2, h3, ?_⟩
      rw [hc, List.getElem?_append_right (by rw [h.lce]; exact Nat.le_refl _), h.lce]; simp [h4]
    · obtain ⟨a, ds, b, c, f, g⟩ := h.wci c j n i (wcold c j n i hp hi)
      exact ⟨by simp; omega, ds, b, c, f, by rw [hce1 i a]; exact g⟩
  · intro p q i hp hq
    by_cases hi : i = vs.length
    · subst hi; exact hwbu p q hp hq
    · exact h.wbu p q i (wbold p i hp hi) (wbold q i hq hi)
  · intro x y i hx hy
    obtain ⟨⟨c, j, n, i1⟩, hx1, hx2⟩ := List.mem_map.1 hx
    obtain ⟨⟨c', j', n', i2⟩, hy1, hy2⟩ := List.mem_map.1 hy
    simp only [Prod.mk.injEq] at hx2 hy2
    obtain ⟨e1, e2⟩ := hx2
    obtain ⟨e3, e4⟩ := hy2
    rw [← e1, ← e3]
    rw [e2] at hx1
    rw [e4] at hy1
    by_cases hi : i = vs.length
    · subst hi
      obtain ⟨rfl, rfl, rfl⟩ := hwcu c j n c' j' n' hx1 hy1
      rfl
    · exact h.wcu _ _ i (List.mem_map.2 ⟨_, wcold c j n i hx1 hi, rfl⟩) (List.mem_map.2 ⟨_, wcold c' j' n' i hy1 hi, rfl⟩)

/-- An argument that is read. -/
theorem AccOk.rd {C : Ctx} {acc : CallAcc} {vs : List Value} (h : AccOk C acc vs) {d : D} {v : Value} {bs : List Lf} {bc : List Nat} (hd : CS C.P C.w (Bor C bs bc) d v) : AccOk C (acc.push d bs bc) (vs ++ [v]) := by
  refine h.push (o := none) rfl rfl (fun x hx => .inl hx) (fun x hx => hx) (fun x hx => .inl hx) (fun x hx => hx) (fun x hx => List.mem_append_left _ hx) (fun x hx => List.mem_append_left _ hx) ?_ ?_ ?_ ?_ ?_
  · refine .inl ⟨?_, hd.mono fun b hb => hb.mono (fun q hq => List.mem_append_right _ hq) (fun q hq => List.mem_append_right _ hq)⟩
    show (acc.ce ++ [none])[vs.length]? = _
    rw [List.getElem?_append_right (by rw [h.lce]; exact Nat.le_refl _), h.lce]; simp
  · intro p hp; have := (h.wbi p _ hp).1; omega
  · intro p q hp _; have := (h.wbi p _ hp).1; omega
  · intro c j n hp; have := (h.wci c j n _ hp).1; omega
  · intro c j n c' j' n' hp _; have := (h.wci c j n _ hp).1; omega

/-- A row that is lent. -/
theorem AccOk.lend {C : Ctx} {acc : CallAcc} {vs : List Value} (h : AccOk C acc vs) {p : Lf} {e : TypeId} {xs : List (List T)} (hl : C.E.leaf p = .own e xs) :
    AccOk C { acc.push (.own e xs) [] [] with wb := acc.wb ++ [(p, acc.args.length)] } (vs ++ [C.cv p]) := by
  have hce : (acc.ce ++ [none])[vs.length]? = some none := by
    rw [List.getElem?_append_right (by rw [h.lce]; exact Nat.le_refl _), h.lce]; simp
  have hmem : ∀ x, x ∈ acc.wb ++ [(p, acc.args.length)] → x ∈ acc.wb ∨ x = (p, vs.length) := by
    intro x hx
    rcases List.mem_append.1 hx with h1 | h1
    · exact .inl h1
    · rw [List.mem_singleton] at h1; rw [h1, h.len]; exact .inr rfl
  refine h.push (d := .own e xs) (o := none) rfl rfl ?_ (fun x hx => List.mem_append_left _ hx) (fun x hx => .inl hx) (fun x hx => hx) (fun x hx => List.mem_append_left _ hx) (fun x hx => List.mem_append_left _ hx) ?_ ?_ ?_ ?_ ?_
  · intro x hx
    rcases hmem x hx with h | rfl
    · exact .inl h
    · exact .inr rfl
  · refine .inr (.inl ⟨hce, e, xs, p, rfl, ?_, hl, rfl⟩)
    show (p, vs.length) ∈ acc.wb ++ [(p, acc.args.length)]
    rw [h.len]; simp
  · intro q hq
    rcases hmem _ hq with h1 | h1
    · have := (h.wbi q _ h1).1; omega
    · injection h1 with h1 _; subst h1; exact ⟨e, xs, rfl, hl, rfl⟩
  · intro q q' hq hq'
    rcases hmem _ hq with h1 | h1
    · have := (h.wbi q _ h1).1; omega
    · rcases hmem _ hq' with h2 | h2
      · have := (h.wbi q' _ h2).1; omega
      · injection h1 with h1 _; injection h2 with h2 _; rw [h1, h2]
  · intro c j n hp; have := (h.wci c j n _ hp).1; omega
  · intro c j n c' j' n' hp _; have := (h.wci c j n _ hp).1; omega

theorem AccOk.nil0 {C : Ctx} {acc : CallAcc} {vs : List Value} (h : AccOk C acc vs) (e : TypeId) : AccOk C (acc.push (.own e []) [] []) (vs ++ [.slice none 0 0]) := by
  refine h.push (o := none) rfl rfl (fun x hx => .inl hx) (fun x hx => hx) (fun x hx => .inl hx) (fun x hx => hx) (fun x hx => List.mem_append_left _ hx) (fun x hx => List.mem_append_left _ hx) ?_ ?_ ?_ ?_ ?_
  · refine .inr (.inr (.inl ⟨?_, e, rfl, rfl⟩))
    show (acc.ce ++ [none])[vs.length]? = _
    rw [List.getElem?_append_right (by rw [h.lce]; exact Nat.le_refl _), h.lce]; simp
  · intro p hp; have := (h.wbi p _ hp).1; omega
  · intro p q hp _; have := (h.wbi p _ hp).1; omega
  · intro c j n hp; have := (h.wci c j n _ hp).1; omega
  · intro c j n c' j' n' hp _; have := (h.wci c j n _ hp).1; omega

/-- A cell that is lent. -/
theorem AccOk.cell {C : Ctx} {acc : CallAcc} {vs : List Value} (h : AccOk C acc vs) {c j n : Nat} {ds : List D} (hl : C.live c ds) (h1 : j + n ≤ ds.length) (h2 : 0 < n) (h3 : ((ds.drop j).take n).all lendable = true) :
    AccOk C { acc with args := acc.args ++ [.cref acc.args.length 0], ce := acc.ce ++ [some ((ds.drop j).take n)], wc := acc.wc ++ [(c, j, n, acc.args.length)] } (vs ++ [.pointer (some ⟨(C.loc c).1, (C.loc c).2 + j, none⟩)]) := by
  have hce : (acc.ce ++ [some ((ds.drop j).take n)])[vs.length]? = some (some ((ds.drop j).take n)) := by
    rw [List.getElem?_append_right (by rw [h.lce]; exact Nat.le_refl _), h.lce]; simp
  have hmem : ∀ x, x ∈ acc.wc ++ [(c, j, n, acc.args.length)] → x ∈ acc.wc ∨ x = (c, j, n, vs.length) := by
    intro x hx
    rcases List.mem_append.1 hx with h1 | h1
    · exact .inl h1
    · rw [List.mem_singleton] at h1; rw [h1, h.len]; exact .inr rfl
  refine h.push (d := .cref acc.args.length 0) (o := some ((ds.drop j).take n)) rfl rfl (fun x hx => .inl hx) (fun x hx => hx) ?_ (fun x hx => List.mem_append_left _ hx) (fun x hx => hx) (fun x hx => hx) ?_ ?_ ?_ ?_ ?_
  · intro x hx
    rcases hmem x hx with h | rfl
    · exact .inl h
    · exact .inr rfl
  · refine .inr (.inr (.inr ⟨c, j, n, ds, ?_, hl, by rw [h.len], hce, h1, h2, h3, rfl⟩))
    show (c, j, n, vs.length) ∈ acc.wc ++ [(c, j, n, acc.args.length)]
    rw [h.len]; simp
  · intro p hp; have := (h.wbi p _ hp).1; omega
  · intro p q hp _; have := (h.wbi p _ hp).1; omega
  · intro c' j' n' hp
    rcases hmem _ hp with a | a
    · have := (h.wci c' j' n' _ a).1; omega
    · injection a with a b; injection b with b d; injection d with d _; subst a; subst b; subst d
      exact ⟨ds, hl, h1, h2, rfl⟩
  · intro c1 j1 n1 c2 j2 n2 hp hq
    rcases hmem _ hp with a | a
    · have := (h.wci c1 j1 n1 _ a).1; omega
    · rcases hmem _ hq with b | b
      · have := (h.wci c2 j2 n2 _ b).1; omega
      · injection a with a a2; injection a2 with a2 a3; injection a3 with a3 _
        injection b with b b2; injection b2 with b2 b3; injection b3 with b3 _
        subst a; subst a2; subst a3; subst b; subst b2; subst b3
        exact ⟨rfl, rfl, rfl⟩
end Go.Proofs.Ytcnogcachboibaa.Fw
