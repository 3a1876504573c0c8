/- Framework, part T: the store operation. -/
import Derived.Test.YtcnogcachboibaaFwS
namespace Go.Proofs.Ytcnogcachboibaa.Fw
open Go
set_option linter.unusedVariables false

theorem toTs_zero : ∀ (n : Nat) (ds : List D) (ts : List T), toTs (List.replicate n 0) ds = some ts → ∀ (j : Nat) (d : D), ds[j]? = some d → ∃ x, d = .v x ∧ ts[j]? = some (.v x)
  | 0, [], ts, _ => fun j d h => by simp at h
  | 0, d :: ds, ts, h => by simp [toTs] at h
  | n + 1, [], ts, h => by simp [toTs, List.replicate_succ] at h
  | n + 1, d :: ds, ts, h => by
    rw [List.replicate_succ] at h
    simp only [toTs] at h
    cases h1 : d.toT 0 with
    | none => rw [h1] at h; simp at h
    | some t =>
      cases h2 : toTs (List.replicate n 0) ds with
      | none => rw [h1, h2] at h; simp at h
      | some ts' =>
        rw [h1, h2] at h
        simp only [Option.some.injEq] at h
        subst h
        intro j d' hd
        cases j with
        | zero =>
          simp at hd; subst hd
          cases d <;> simp [D.toT] at h1
          subst h1
          exact ⟨_, rfl, rfl⟩
        | succ j => simpa using toTs_zero n ds ts' h2 j d' (by simpa using hd)

/-- An owned row of scalars whose cells from (a, j) on are written. -/
theorem OwnT.upd {P : Program} {w w' : World} {e : TypeId} {xs : List (List T)} {v : Value} {F : Nat → Prop} (h : OwnT P w (.sl e xs) v F) (hfl : flatP P e = true) {a j : Nat} {ts : List T} {vs : List Value} (ha : a < xs.length)
    (hj : j + ts.length ≤ (xs.getD a []).length) (hl : ts.length = vs.length) (hts : ∀ (i : Nat) (x : Value), vs[i]? = some x → ts[i]? = some (.v x) ∧ scal x = true)
    {b o n cap : Nat} (hv : v = .slice (some ⟨b, o, none⟩) n cap) {cs : Array Value} {ce : TypeId} {fr : Nat × Nat} {cs' : Array Value} (x : Wrt w w' b cs ce fr cs')
    (hcs : ∀ k, cs'[k]? = if o + a * P.cellsOf e + j ≤ k ∧ k < o + a * P.cellsOf e + j + vs.length then vs[k - (o + a * P.cellsOf e + j)]? else cs[k]?) :
    OwnT P w' (.sl e (xs.set a (setRange (xs.getD a []) j ts))) v F := by
  subst hv
  cases h with
  | row _ _ _ _ _ cs0 fr0 _ G X h1 h2 h3 h4 h5 h6 h7 h8 h9 h10 h11 h12 =>
  rw [x.old] at h1
  injection h1 with h1
  injection h1 with q1 q2 q3
  subst q1; subst q2; subst q3
  have hr : xs[a]? = some (xs.getD a []) := by rw [List.getD_eq_getElem?_getD, List.getElem?_eq_getElem ha]; rfl
  have hlen : (xs.set a (setRange (xs.getD a []) j ts)).length = xs.length := by simp
  have hrl : (xs.getD a []).length = P.cellsOf ce := h7 _ _ hr
  have key := OwnT.simple (P := P) (w := w') (e := ce) (xs := xs.set a (setRange (xs.getD a []) j ts)) (b := b) (o := o) (cap := cap) (cs := cs') (fr := fr) x.new (by rw [x.sz]; exact h3) (by rw [x.sz]; exact h4) (by omega) h6 (by
      intro i r hir
      by_cases hia : i = a
      · subst hia
        rw [List.getElem?_set_self ha] at hir
        injection hir with hir
        rw [← hir, setRange_length]; exact hrl
      · rw [List.getElem?_set_ne (fun h => hia h.symm)] at hir
        exact h7 i r hir) (by
      intro i k t hg
      have hold : ∀ t, T.get? xs i k = some t → ∃ v, cs[o + i * P.cellsOf ce + k]? = some v ∧ SimpT t v := by
        intro t hg
        have e1 := h10 i k t hg
        have e2 := h11 i k t hg
        have e3 := h12 hfl i k t hg
        refine ⟨_, e1, ?_⟩
        cases t with
        | v y => generalize X i k = xv at e2; cases e2 with | v _ _ hs => exact .inl ⟨rfl, hs⟩
        | sl e ys => simp [T.isV] at e3
      have hk : k < P.cellsOf ce ∧ i < xs.length := by
        unfold T.get? at hg
        by_cases hia : i = a
        · subst hia
          rw [List.getElem?_set_self ha] at hg
          simp only [Option.bind_some] at hg
          have := (List.getElem?_eq_some_iff.1 hg).1
          rw [setRange_length] at this
          exact ⟨by omega, ha⟩
        · rw [List.getElem?_set_ne (fun h => hia h.symm)] at hg
          cases hx : xs[i]? with
          | none => rw [hx] at hg; simp at hg
          | some r =>
            rw [hx] at hg
            have h1 := h7 i r hx
            have := (List.getElem?_eq_some_iff.1 (by simpa using hg : r[k]? = some t)).1
            exact ⟨by omega, (List.getElem?_eq_some_iff.1 hx).1⟩
      rw [hcs]
      by_cases hr' : i = a ∧ j ≤ k ∧ k < j + vs.length
      · obtain ⟨rfl, r1, r2⟩ := hr'
        rw [if_pos (by omega)]
        have e1 : o + i * P.cellsOf ce + k - (o + i * P.cellsOf ce + j) = k - j := by omega
        rw [e1]
        unfold T.get? at hg
        rw [List.getElem?_set_self ha] at hg
        simp only [Option.bind_some] at hg
        rw [setRange_get _ _ _ _ hj, if_pos (by omega)] at hg
        have hv : vs[k - j]? = some (vs.getD (k - j) undef) := by rw [List.getD_eq_getElem?_getD, List.getElem?_eq_getElem (by omega)]; rfl
        obtain ⟨t1, t2⟩ := hts _ _ hv
        rw [t1] at hg
        injection hg with hg
        exact ⟨_, hv, .inl ⟨hg.symm, t2⟩⟩
      · have hne : ¬ (o + a * P.cellsOf ce + j ≤ o + i * P.cellsOf ce + k ∧ o + i * P.cellsOf ce + k < o + a * P.cellsOf ce + j + vs.length) := by
          rintro ⟨n1, n2⟩
          have hjv : j + vs.length ≤ P.cellsOf ce := by omega
          rcases Nat.lt_trichotomy i a with hlt | heq | hgt
          · have : (i + 1) * P.cellsOf ce ≤ a * P.cellsOf ce := Nat.mul_le_mul_right _ hlt
            rw [Nat.add_mul] at this; omega
          · subst heq; exact hr' ⟨rfl, by omega, by omega⟩
          · have : (a + 1) * P.cellsOf ce ≤ i * P.cellsOf ce := Nat.mul_le_mul_right _ hgt
            rw [Nat.add_mul] at this; omega
        rw [if_neg hne]
        apply hold
        unfold T.get? at hg ⊢
        by_cases hia : i = a
        · subst hia
          rw [List.getElem?_set_self ha] at hg
          rw [hr]
          simp only [Option.bind_some] at hg ⊢
          rw [setRange_get _ _ _ _ hj, if_neg (by intro h; exact hr' ⟨rfl, h.1, by omega⟩)] at hg
          exact hg
        · rw [List.getElem?_set_ne (fun h => hia h.symm)] at hg
          exact hg) (by
      intro _ i k t hg
      unfold T.get? at hg
      by_cases hia : i = a
      · subst hia
        rw [List.getElem?_set_self ha] at hg
        simp only [Option.bind_some] at hg
        rw [setRange_get _ _ _ _ hj] at hg
        split at hg
        · rename_i hc
          have hv : vs[k - j]? = some (vs.getD (k - j) undef) := by rw [List.getD_eq_getElem?_getD, List.getElem?_eq_getElem (by omega)]; rfl
          obtain ⟨t1, t2⟩ := hts _ _ hv
          rw [t1] at hg
          injection hg with hg
          rw [← hg]; rfl
        · exact h12 hfl i k t (by unfold T.get?; rw [hr]; exact hg)
      · rw [List.getElem?_set_ne (fun h => hia h.symm)] at hg
        exact h12 hfl i k t hg)
  rw [hlen] at key
  exact key.mono (fun b' hb => by rw [hb]; exact h2) (fun _ _ _ => rfl)

theorem opdR_const {α : Type} {x : Operand} {k : D → Rdr α} {E : Env} {Q : α → Prop} (hx : tmpOf x = none) (h : (opdR x k).wp E Q) : ∃ d, (k d).wp E Q ∧ ∀ C : Ctx, VRel C d (C.a.eval x) := by
  cases x with
  | tmp s => simp [tmpOf] at hx
  | const v => exact ⟨_, h, fun C => constD_rel C v⟩
  | func f =>
    refine ⟨_, h, fun C => .leaf rfl rfl rfl fun p => ?_⟩
    exact .clo p f [] #[] rfl (fun i d hd => by simp at hd) (fun i d hd => by simp at hd)
  | global g => exact h.elim
theorem opdR_wp2 {w0 : World} {L : Nat → Nat → Prop} {C : Ctx} (R : Rel w0 L C) {α : Type} {x : Operand} {k : D → Rdr α} {Q : α → Prop} (h : (opdR x k).wp C.E Q) :
    ∃ d, (k d).wp C.E Q ∧ (d.isTup = false → VRel C d (C.a.eval x)) ∧ (tmpOf x = none → ∀ C : Ctx, VRel C d (C.a.eval x)) := by
  cases hx : tmpOf x with
  | none =>
    obtain ⟨d, h1, h2⟩ := opdR_const hx h
    exact ⟨d, h1, fun _ => h2 C, fun _ => h2⟩
  | some s =>
    obtain ⟨d, h1, h2⟩ := opdR_wp R h
    exact ⟨d, h1, h2, fun h => by cases h⟩
theorem asMove_isTup (t : Nat) (d : D) : (asMove t d).isTup = d.isTup := by cases d <;> rfl
theorem noOwn_range {ds : List D} {k n : Nat} (h : ((ds.drop k).take n).any D.isOwn = false) : ∀ (j : Nat) (d : D), k ≤ j → j < k + n → ds[j]? = some d → d.isOwn = false := by
  intro j d h1 h2 hd
  rw [List.any_eq_false] at h
  have := h d (List.mem_of_getElem? (i := j - k) (by rw [List.getElem?_take_of_lt (by omega), List.getElem?_drop]; rw [show k + (j - k) = j by omega]; exact hd))
  simpa using this

theorem wp_skip' {P : Program} {o : Oper} {a : Act} {w w' : World} {next : Act → World → Prop} {Q : Exit → Act → World → Prop} (hd : o.dst = none)
    (h : (execOp a.eval o).run P w = .ok .skip w') (hn : next a w') : o.wp P a w next Q := by
  unfold Oper.wp; rw [h]
  show next (a.put o.dst undef) w'
  rw [hd]; exact hn

section ops
variable {w0 : World} {L : Nat → Nat → Prop} {C : Ctx} (R : Rel w0 L C)
variable {np : Nat} {K : Env → Prop} {next : Act → World → Prop} (hn : Nxt w0 L np C K next) {Q : Exit → Act → World → Prop} {o : Oper}
include R hn

/-- A value is written into a cell, in a context that says more of ownership. -/
theorem snd_stc {E2 : Env} {F2 : Lf → Nat → Prop} (R2 : Rel w0 L { C with E := E2, F := F2 }) {t : TypeId} {i : TI} (hi : TIok C.P t i) {a x : Operand} {c k : Nat} {ds xs : List D} (ho : o.op = .store t a x) (hd : o.dst = none)
    (hl : E2.ce[c]? = some (some ds)) (ha : C.a.eval a = .pointer (some ⟨(C.loc c).1, (C.loc c).2 + k, none⟩)) (hx : Lined { C with E := E2, F := F2 } xs (C.a.eval x).cells) (hxl : xs.length = i.size) (hk : k + i.size ≤ ds.length)
    (hno : ((ds.drop k).take i.size).any D.isOwn = false) {E' : Env}
    (hfin : ∀ w', Rel w0 L { C with E := { E2 with ce := E2.ce.set c (some (setRange ds k xs)) }, F := F2, w := w' } → ∃ F', Rel w0 L { C with E := E', F := F', w := w' }) (hK : K E') : o.wp C.P C.a C.w next Q := by
  have _ := R
  obtain ⟨cs, e, fr, a1, a2, a3, a4⟩ := (R2.cell c ds hl).out
  have a1 : C.w.heap[(C.loc c).1]? = some (.cells cs e fr) := a1
  have a3 : (C.loc c).2 + ds.length ≤ cs.size := a3
  have hsz : (C.a.eval x).cells.size = i.size := by rw [← hx.1]; exact hxl
  have hrun := run_storeAt hi (w := C.w) (o := (C.loc c).2 + k) (v := C.a.eval x) a1 a2 hsz (by
    intro y hy
    obtain ⟨j, hj, rfl⟩ := List.mem_iff_getElem.1 hy
    have hj' : j < xs.length := by rw [hxl, ← hsz]; simpa using hj
    obtain ⟨_, _, h, _⟩ := hx.2 j xs[j] (List.getElem?_eq_getElem hj')
    rw [← arr_list_getD, getD_some (List.getElem?_eq_getElem hj)] at h
    exact h) (by omega)
  obtain ⟨cs', x1, x2⟩ := setCells_wrt (C.loc c).1 e fr (C.a.eval x).cells.toList ((C.loc c).2 + k) C.w cs a1 (by simp [hsz]; omega)
  have R3 := R2.stc (k := k) (xs := xs) (vs := (C.a.eval x).cells) hl (by omega) (by rw [hxl]; exact noOwn_range hno) hx x1 (by
    intro j
    show cs'[j]? = if (C.loc c).2 + k ≤ j ∧ j < (C.loc c).2 + k + xs.length then (C.a.eval x).cells[j - ((C.loc c).2 + k)]? else cs[j]?
    rw [x2 j]
    simp only [Array.length_toList, hsz, hxl, Array.getElem?_toList])
  obtain ⟨F', R4⟩ := hfin _ R3
  refine wp_skip' (w' := C.w.setCells (C.loc c).1 ((C.loc c).2 + k) (C.a.eval x).cells.toList) hd ?_ (hn _ R4 rfl (fun _ _ => rfl) hK)
  simp only [execOp, ho, ha, bind_pure_comp, Sem.run_map, hrun, Result.andThen_ok]

theorem snd_store {tb : Tab} (hT : TabOk C.P tb) {t : TypeId} {a x : Operand} (ho : o.op = .store t a x) (h : (opStore tb o.dst t a x).wp C.E (Done C.P K C.E)) : o.wp C.P C.a C.w next Q := by
  unfold opStore at h
  split at h
  · exact h.elim
  · exact h.elim
  · rename_i i ht hd
    have hi := hT t i ht
    replace h := opdR_wp R h
    obtain ⟨da, h, hva⟩ := h
    split at h
    · rename_i c k
      obtain ⟨ds0, hl0, hk0, ha⟩ := (hva rfl).cref_inv
      simp only [Rdr.wp] at h
      have e : C.E.ce.getD c none = some ds0 := getD_some hl0
      rw [e] at h
      simp only at h
      have hx := opdR_wp2 R h
      obtain ⟨d, h', hvx, hvx2⟩ := hx
      split at h'
      · exact h'.elim
      · rename_i hc
        simp only [Bool.or_eq_true, decide_eq_true_eq, bne_iff_ne, ne_eq, not_or, Bool.not_eq_true, Decidable.not_not, Nat.not_lt] at hc
        obtain ⟨⟨⟨c1, c2⟩, c3⟩, c4⟩ := hc
        have hdd : d ≠ .dead := by rintro rfl; simp [D.isDead] at c2
        split at h'
        · simp only [Rdr.wp] at h'
          split at h'
          · rename_i E' hE
            unfold storeOwn at hE
            split at hE
            · cases hE
            · rename_i E1 hcut
              have hR1 : ∃ F1, Rel w0 L { C with E := E1, F := F1 } := by
                unfold stCut at hcut
                split at hcut
                · exact R.cutLeaves _ 0 hcut
                · injection hcut with hcut; subst hcut; exact ⟨C.F, R⟩
              obtain ⟨F1, R1⟩ := hR1
              generalize hE2 : (if ((((E1.ce.getD c none).getD []).drop k).take i.size).any D.isOwn then E1.killC c k i.size else E1) = E2 at hE
              simp only at hE
              have R2 : Rel w0 L { C with E := E2, F := F1 } := by
                split at hE2
                · subst hE2; exact R1.kill _
                · subst hE2; exact R1
              split at hE
              · cases hE
              · rename_i ds2 hds2
                have hl2 : E2.ce[c]? = some (some ds2) := by
                  rw [List.getD_eq_getElem?_getD] at hds2
                  cases hx : E2.ce[c]? with
                  | none => rw [hx] at hds2; simp at hds2
                  | some y => rw [hx] at hds2; simp at hds2; rw [hds2]
                split at hE
                · rename_i hcond
                  simp only [Bool.and_eq_true, Bool.not_eq_true', beq_iff_eq, decide_eq_true_eq] at hcond
                  obtain ⟨⟨⟨⟨k1, k2⟩, k3⟩, k4⟩, k5⟩ := hcond
                  have hv2 : VRel { C with E := E2, F := F1 } (stD (tmpOf x) E2 d) (C.a.eval x) := by
                    cases hx : tmpOf x with
                    | none => exact hvx2 hx { C with E := E2, F := F1 }
                    | some s =>
                      have : x = .tmp s := by cases x <;> simp [tmpOf] at hx; rw [hx]
                      subst this
                      rw [hx] at k1
                      exact asMove_rel R2 s (by simp only [stD] at k1; rwa [asMove_isTup] at k1)
                  have hdd2 : stD (tmpOf x) E2 d ≠ .dead := by
                    intro h; rw [h] at k2; simp [D.isDead] at k2
                  exact snd_stc R hn R2 hi ho hd hl2 ha (hv2.lined k1 hdd2) k3 k4 k5 (fun w' R3 => R3.swapLeaves _ k hE) h'
                · cases hE
          · exact h'.elim
        · rename_i hno
          simp only [Bool.or_eq_true, not_or, Bool.not_eq_true] at hno
          refine snd_stc R hn R hi ho hd hl0 ha ((hvx c1).lined c1 hdd) c3 c4 hno.2 (fun w' R3 => ⟨C.F, R3⟩) h'
    · rename_i p a' j
      obtain ⟨e, xs, b, o', n, cap, hl, hcvp, hlt, ha⟩ := (hva rfl).eref_inv
      rw [leafR_wp, hl] at h
      simp only at h
      replace h := opdR_wp R h
      obtain ⟨d, h, hvx⟩ := h
      split at h
      · exact h.elim
      · rename_i ie hie
        split at h
        · exact h.elim
        · rename_i hc
          simp only [Bool.or_eq_true, decide_eq_true_eq, bne_iff_ne, ne_eq, not_or, Bool.not_eq_true, Decidable.not_not, Nat.not_lt, Bool.not_eq_true', Bool.not_eq_false] at hc
          obtain ⟨⟨⟨⟨c1, c2⟩, c3⟩, c4⟩, c5⟩ := hc
          have hdd : d ≠ .dead := by rintro rfl; simp [D.isDead] at c2
          split at h
          · rename_i ts hts
            have hfl : flatP C.P e = true := by rw [← (hT e ie hie).flat]; exact c5
            have hx := (hvx c1).lined c1 hdd
            have hsz : (C.a.eval x).cells.size = i.size := by rw [← hx.1]; exact c3
            have hown := R.ownLeaf hl
            have hown2 := hown
            rw [hcvp] at hown2
            cases hown2 with
            | row _ _ _ _ _ cs fr _ G X g1 g2 g3 g4 g5 g6 g7 g8 g9 g10 g11 g12 =>
            have hrl : (xs.getD a' []).length = C.P.cellsOf e := g7 a' _ (by rw [List.getD_eq_getElem?_getD, List.getElem?_eq_getElem hlt]; rfl)
            have hle : o' + a' * C.P.cellsOf e + j + i.size ≤ cs.size := by
              have : (a' + 1) * C.P.cellsOf e ≤ cap * C.P.cellsOf e := Nat.mul_le_mul_right _ (by omega)
              rw [Nat.add_mul] at this; omega
            have hrun := run_storeAt hi (w := C.w) (o := o' + a' * C.P.cellsOf e + j) (v := C.a.eval x) g1 g3 hsz (by
              intro y hy
              obtain ⟨k, hk, rfl⟩ := List.mem_iff_getElem.1 hy
              have hk' : k < d.leaves1.length := by rw [c3, ← hsz]; simpa using hk
              obtain ⟨_, _, h, _⟩ := hx.2 k d.leaves1[k] (List.getElem?_eq_getElem hk')
              rw [← arr_list_getD, getD_some (List.getElem?_eq_getElem hk)] at h
              exact h) hle
            obtain ⟨cs', x1, x2⟩ := setCells_wrt b e fr (C.a.eval x).cells.toList (o' + a' * C.P.cellsOf e + j) C.w cs g1 (by simp [hsz]; omega)
            obtain ⟨tl, _, _⟩ := toTs_get _ _ _ hts
            have hupd := hown.upd hfl (a := a') (j := j) (ts := ts) (vs := (C.a.eval x).cells.toList) hlt (by omega) (by rw [tl, c3]; simp [hsz]) (by
              intro k y hy
              have hk : k < d.leaves1.length := by rw [c3, ← hsz]; simpa using (List.getElem?_eq_some_iff.1 hy).1
              obtain ⟨y', e1, e2⟩ := toTs_zero _ _ _ hts k _ (List.getElem?_eq_getElem hk)
              obtain ⟨_, _, _, h4⟩ := hx.2 k d.leaves1[k] (List.getElem?_eq_getElem hk)
              have h4 := h4 ⟨false, 0, 0⟩
              rw [e1, ← arr_list_getD, getD_some hy] at h4
              cases h4 with | v _ hs => exact ⟨e2, hs⟩) hcvp x1 (by
              intro k
              rw [x2 k])
            have R2 := R.row hl (by simp) (g12 hfl) x1 g2 hupd
            refine wp_skip' (w' := C.w.setCells b (o' + a' * C.P.cellsOf e + j) (C.a.eval x).cells.toList) hd ?_ (hn _ R2 rfl (fun _ _ => rfl) h)
            simp only [execOp, ho, ha, bind_pure_comp, Sem.run_map, hrun, Result.andThen_ok]
          · exact h.elim
    · exact h.elim
end ops
end Go.Proofs.Ytcnogcachboibaa.Fw
