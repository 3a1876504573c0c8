/- Framework, part Cc: what is handed over. -/
import Derived.Test.YtcnogcachboibaaFwCb
namespace Go.Proofs.Ytcnogcachboibaa.Fw
open Go
set_option linter.unusedVariables false

/-- A value reads as d wherever memory is as it is and the blocks of S may be read. -/
def CL (P : Program) (w : World) (S : Nat → Prop) (d : D) (v : Value) : Prop :=
  d.leafy = true ∧ d.isOwn = false ∧ one v = true ∧ ∀ (C' : Ctx) (p : Lf), C'.P = P → C'.w = w → (∀ b, S b → b < w.heap.size → C'.Rd b) → LRel C' p d v
theorem CL.mono {P : Program} {w : World} {S S' : Nat → Prop} {d : D} {v : Value} (h : CL P w S d v) (hs : ∀ b, S b → S' b) : CL P w S' d v :=
  ⟨h.1, h.2.1, h.2.2.1, fun C' p a b c => h.2.2.2 C' p a b fun x hx hl => c x (hs x hx) hl⟩
/-- The blocks that may be read when these rows and cells are borrowed. -/
def Bor (C : Ctx) (bor : List Lf) (borc : List Nat) (b : Nat) : Prop := C.Rd b ∨ (∃ q e xs, q ∈ bor ∧ C.E.leaf q = .own e xs ∧ C.F q b) ∨ ∃ c ds, c ∈ borc ∧ C.live c ds ∧ 0 < ds.length ∧ (C.loc c).1 = b
theorem Bor.mono {C : Ctx} {x x' : List Lf} {y y' : List Nat} (h1 : ∀ q, q ∈ x → q ∈ x') (h2 : ∀ q, q ∈ y → q ∈ y') {b : Nat} (h : Bor C x y b) : Bor C x' y' b := by
  rcases h with h | ⟨q, e, xs, a, c, d⟩ | ⟨c, ds, a, d, e⟩
  · exact .inl h
  · exact .inr (.inl ⟨q, e, xs, h1 q a, c, d⟩)
  · exact .inr (.inr ⟨c, ds, h2 c a, d, e⟩)

theorem rowsR_base {w0 : World} {L : Nat → Nat → Prop} {C : Ctx} (R : Rel w0 L C) {α : Type} {d : D} {v : Value} {q : Lf} (hb : d = .ali q ∨ (∃ a b, d = .sub q a b) ∨ ∃ i j, d = .ela q i j) (hv : LRel C ⟨false, 0, 0⟩ d v) {k : TypeId → List (List T) → Rdr α} {Q : α → Prop} (h : (rowsR d k).wp C.E Q) :
    ∃ e xs, (k e xs).wp C.E Q ∧ RdT C.P C.w (Bor C [q] []) (.sl e xs) v := by
  have hS : ∀ e xs b, C.E.leaf q = .own e xs → C.F q b → Bor C [q] [] b := fun e xs b h1 h2 => .inr (.inl ⟨q, e, xs, List.mem_singleton.2 rfl, h1, h2⟩)
  rcases hb with rfl | ⟨a, b, rfl⟩ | ⟨i, j, rfl⟩
  · simp only [rowsR] at h
    rw [leafR_wp] at h
    cases hv with
    | ali _ e xs hl =>
      simp only [hl] at h
      exact ⟨e, xs, h, (R.ownLeaf hl).rd fun b hb => hS e xs b hl hb⟩
  · simp only [rowsR] at h
    rw [leafR_wp] at h
    cases hv with
    | sub _ _ _ e xs hl h2 h3 =>
      simp only [hl] at h
      exact ⟨e, _, h, RdT.cut ((R.ownLeaf hl).rd fun b hb => hS e xs b hl hb) h2 h3⟩
  · simp only [rowsR] at h
    rw [leafR_wp] at h
    cases hv with
    | ela _ _ _ e xs e' ys b o n cap v hl hg hc hw =>
      simp only [hl] at h
      have hg' : T.get xs i j = .sl e' ys := by
        unfold T.get? at hg
        unfold T.get
        cases hx : xs[i]? with
        | none => rw [hx] at hg; simp at hg
        | some r => rw [hx] at hg; rw [getD_some hx]; exact getD_some (by simpa using hg)
      simp only [hg'] at h
      have ho := R.ownLeaf hl
      rw [hc] at ho
      refine ⟨e', ys, h, ?_⟩
      cases ho with
      | row _ _ _ _ _ cs fr _ G X h1 h2 h3 h4 h5 h6 h7 h8 h9 h10 h11 h12 =>
        have e1 := h10 i j _ hg
        have e2 := h11 i j _ hg
        have : v = X i j := by
          simp only [World.cell?, h1] at hw
          simp at hw
          rw [e1] at hw; injection hw with hw; exact hw.symm
        rw [this]
        exact e2.rd fun b' hb' => hS e xs b' hl (h8 i j b' hb').1

theorem CL.imm {P : Program} {w : World} {S : Nat → Prop} {e : TypeId} {xs : List (List T)} {v : Value} (h : RdT P w S (.sl e xs) v) : CL P w S (.imm e xs) v :=
  ⟨rfl, rfl, h.one, fun C' p hP hw hS => .imm _ _ _ _ (by rw [hP, hw]; exact h.mono fun b hb hl => ⟨hS b hb hl, rfl⟩)⟩

theorem coeLeaf_wp {w0 : World} {L : Nat → Nat → Prop} {C : Ctx} (R : Rel w0 L C) {α : Type} {e : TypeId} {d : D} {v : Value} (hv : LRel C ⟨false, 0, 0⟩ d v) (hone : one v = true) {k : D → List Lf → Rdr α} {Q : α → Prop} (h : (coeLeaf e d k).wp C.E Q) :
    ∃ d' bs, (k d' bs).wp C.E Q ∧ CL C.P C.w (Bor C bs []) d' v := by
  have fin : ∀ d' bs, (k d' bs).wp C.E Q → CL C.P C.w (Bor C bs []) d' v → ∃ d' bs, (k d' bs).wp C.E Q ∧ CL C.P C.w (Bor C bs []) d' v :=
    fun d' bs h1 h2 => ⟨d', bs, h1, h2⟩
  cases d with
  | v x => exact fin _ _ h ⟨rfl, rfl, hone, fun C' p _ _ _ => by cases hv with | v _ hs => exact .v _ _ hs⟩
  | nil =>
    refine fin _ _ h ?_
    cases hv with
    | nil =>
      split
      · exact ⟨rfl, rfl, rfl, fun C' p _ _ _ => .nil _⟩
      · exact CL.imm (.emp _ _ _ (by omega))
  | imm e' xs =>
    refine fin _ _ h (CL.imm ?_)
    cases hv with
    | imm _ _ _ hr => exact hr.mono fun b hb _ => ⟨.inl hb, rfl⟩
  | rptr ds =>
    refine fin _ _ h ?_
    cases hv with
    | rptr _ b o cs ce fr X h1 h2 h3 h4 h5 =>
      refine ⟨rfl, rfl, rfl, fun C' p hP hw hS => ?_⟩
      refine .rptr p ds b o cs ce fr X (by rw [hw]; exact h1) (hS b (.inl h2) (Array.getElem?_eq_some_iff.1 h1).1) h3 h4 fun i d hd => ?_
      have hp := h4 i d hd
      have hl := h5 i d hd
      generalize X i = xi at hl
      cases d <;> simp [D.pure] at hp
      · cases hl with | v _ h => exact .v _ _ h
      · cases hl; exact .nil _
      · cases hl with | imm _ _ _ h => exact .imm _ _ _ _ (by rw [hP, hw]; exact h.mono fun b hb hl => ⟨hS b (.inl hb) hl, rfl⟩)
  | clo f ds =>
    cases ds with
    | nil =>
      refine fin _ _ h ?_
      cases hv with
      | clo _ _ vs h1 h2 h3 => exact ⟨rfl, rfl, rfl, fun C' p _ _ _ => .clo _ _ _ _ h1 (fun i d hd => by simp at hd) (fun i d hd => by simp at hd)⟩
    | cons => exact h.elim
  | ali q =>
    have h : (rowsR (.ali q) fun e' xs => k (.imm e' xs) [q]).wp C.E Q := h
    obtain ⟨e', xs, h1, h2⟩ := rowsR_base R (.inl rfl) hv h
    exact fin _ _ h1 (CL.imm h2)
  | sub q a b =>
    have h : (rowsR (.sub q a b) fun e' xs => k (.imm e' xs) [q]).wp C.E Q := h
    obtain ⟨e', xs, h1, h2⟩ := rowsR_base R (.inr (.inl ⟨a, b, rfl⟩)) hv h
    exact fin _ _ h1 (CL.imm h2)
  | ela q i j =>
    have h : (rowsR (.ela q i j) fun e' xs => k (.imm e' xs) [q]).wp C.E Q := h
    obtain ⟨e', xs, h1, h2⟩ := rowsR_base R (.inr (.inr ⟨i, j, rfl⟩)) hv h
    exact fin _ _ h1 (CL.imm h2)
  | _ => exact h.elim

theorem coeLeaves_wp {w0 : World} {L : Nat → Nat → Prop} {C : Ctx} (R : Rel w0 L C) {α : Type} : ∀ (es : List TypeId) (ds : List D) (vs : List Value) {k : List D → List Lf → Rdr α} {Q : α → Prop}, ds.length = vs.length →
    (∀ (i : Nat) (d : D), ds[i]? = some d → one (vs.getD i undef) = true ∧ LRel C ⟨false, 0, 0⟩ d (vs.getD i undef)) → (coeLeaves es ds k).wp C.E Q →
    ∃ ds' bs, (k ds' bs).wp C.E Q ∧ ds'.length = ds.length ∧ ∀ (i : Nat) (d : D), ds'[i]? = some d → CL C.P C.w (Bor C bs []) d (vs.getD i undef)
  | es, [], vs, k, Q, hl, hv, h => ⟨[], [], by cases es <;> exact h, rfl, fun i d hd => by simp at hd⟩
  | es, d :: ds, [], k, Q, hl, hv, h => by simp at hl
  | es, d :: ds, v :: vs, k, Q, hl, hv, h => by
    have h : (coeLeaf (es.headD 0) d fun d bs => coeLeaves es.tail ds fun ds bs' => k (d :: ds) (bs ++ bs')).wp C.E Q := by cases es <;> exact h
    obtain ⟨a1, a2⟩ := hv 0 d rfl
    obtain ⟨d', bs, h, hc⟩ := coeLeaf_wp R a2 a1 h
    obtain ⟨ds', bs', h, hlen, hcs⟩ := coeLeaves_wp R es.tail ds vs (by simpa using hl) (fun i d hd => by simpa using hv (i + 1) d (by simpa using hd)) h
    refine ⟨d' :: ds', bs ++ bs', h, by simp [hlen], fun i d hd => ?_⟩
    cases i with
    | zero =>
      simp at hd; subst hd
      exact hc.mono fun b hb => hb.mono (fun q hq => List.mem_append_left _ hq) (fun q hq => hq)
    | succ i =>
      have := hcs i d (by simpa using hd)
      have e : (v :: vs).getD (i + 1) undef = vs.getD i undef := rfl
      rw [e]
      exact this.mono fun b hb => hb.mono (fun q hq => List.mem_append_right _ hq) (fun q hq => hq)
end Go.Proofs.Ytcnogcachboibaa.Fw
