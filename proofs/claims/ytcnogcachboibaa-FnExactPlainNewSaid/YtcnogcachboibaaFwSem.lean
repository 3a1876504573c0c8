/- Framework, part Sem: from a function's body to its contract. -/
import Derived.Test.YtcnogcachboibaaFwOk
namespace Go.Proofs.Ytcnogcachboibaa.Fw
open Go
set_option linter.unusedVariables false

theorem getD_pad {α : Type} (l : List α) (m : Nat) (d : α) (t : Nat) : (l ++ List.replicate m d).getD t d = l.getD t d := by
  rw [List.getD_eq_getElem?_getD, List.getD_eq_getElem?_getD]
  by_cases h : t < l.length
  · rw [List.getElem?_append_left h]
  · rw [List.getElem?_append_right (by omega), List.getElem?_replicate, List.getElem?_eq_none (by omega)]
    split <;> rfl
theorem some_pad {α : Type} {l : List (Option α)} {m t : Nat} {x : α} : (l ++ List.replicate m none)[t]? = some (some x) ↔ l[t]? = some (some x) := by
  by_cases h : t < l.length
  · rw [List.getElem?_append_left h]
  · rw [List.getElem?_append_right (by omega), List.getElem?_replicate, List.getElem?_eq_none (by omega)]
    split <;> simp
theorem arr_pad (a : Array Value) (m t : Nat) : (a ++ Array.replicate m undef).getD t undef = a.getD t undef := by
  rw [arrGetD, arrGetD]
  by_cases h : t < a.size
  · rw [Array.getElem?_append_left h]
  · rw [Array.getElem?_append_right (by omega), Array.getElem?_replicate, Array.getElem?_eq_none (by omega)]
    split <;> rfl

def Env.pad (E : Env) (m : Nat) : Env := ⟨E.sl ++ List.replicate m .dead, E.ce ++ List.replicate m none⟩

/-- The temporaries that a function has of its own hold nothing at first. -/
theorem Rel.pad {w0 : World} {L : Nat → Nat → Prop} {C : Ctx} (R : Rel w0 L C) (m : Nat) : Rel w0 L { C with E := C.E.pad m, a := { tmps := C.a.tmps ++ Array.replicate m undef, defers := [] } } := by
  have hleaf : ∀ p, (C.E.pad m).leaf p = C.E.leaf p := by
    rintro ⟨c, t, k⟩
    cases c with
    | false => show ((C.E.sl ++ List.replicate m D.dead).getD t .dead).leafOf k = _; rw [getD_pad]; rfl
    | true => show (((C.E.ce ++ List.replicate m none).getD t none).getD []).getD k .dead = _; rw [getD_pad]; rfl
  have hcv : ∀ p, Ctx.cv { C with E := C.E.pad m, a := { tmps := C.a.tmps ++ Array.replicate m undef, defers := [] } } p = C.cv p := by
    rintro ⟨c, t, k⟩
    cases c with
    | false => show vleafOf ((C.a.tmps ++ Array.replicate m undef).getD t undef) k = _; rw [arr_pad]; rfl
    | true => rfl
  have hlive : ∀ t ds, ({ C with E := C.E.pad m, a := { tmps := C.a.tmps ++ Array.replicate m undef, defers := [] } } : Ctx).live t ds ↔ C.live t ds := fun t ds => some_pad
  have hown : ∀ b, ({ C with E := C.E.pad m, a := { tmps := C.a.tmps ++ Array.replicate m undef, defers := [] } } : Ctx).Owned b → C.Owned b := by
    rintro b (⟨p, hp⟩ | ⟨t, ds, hl, hb⟩)
    · exact .inl ⟨p, hp⟩
    · exact .inr ⟨t, ds, (hlive t ds).1 hl, hb⟩
  have s : Same C { C with E := C.E.pad m, a := { tmps := C.a.tmps ++ Array.replicate m undef, defers := [] } } (fun q => q) (fun _ => False) (fun _ => False) :=
    ⟨rfl, fun b hb _ => ⟨fun h => hb (hown b h), rfl⟩, fun q e xs _ hl => ⟨xs, (hleaf q).trans hl, rfl, hcv q, fun i j e' ys hg => ⟨hg, fun b o n cap v _ hv => hv⟩⟩, fun t ds _ hl => ⟨ds, (hlive t ds).2 hl, rfl, rfl⟩, fun _ h => h⟩
  have go1 : ∀ p d v, LRel C p d v → LRel { C with E := C.E.pad m, a := { tmps := C.a.tmps ++ Array.replicate m undef, defers := [] } } p d v := by
    intro p d v hv
    by_cases ho : d.isOwn = true
    · cases d <;> simp [D.isOwn] at ho
      cases hv with
      | own _ _ _ h => exact .own _ _ _ _ h
    · have := LRel.same s hv p (by simpa using ho) ⟨fun q h => by simp, fun t ht => by simp⟩
      rwa [D.re_id] at this
  refine ⟨?_, rfl, ?_, ?_, R.disj, ?_, ?_, R.fbound, R.flent, ?_, R.frame, R.mnew, R.mL⟩
  · show (C.a.tmps ++ Array.replicate m undef).size = (C.E.sl ++ List.replicate m D.dead).length
    simp [R.tmps]
  · intro t d hd
    have hd : (C.E.sl ++ List.replicate m D.dead)[t]? = some d := hd
    show SRel _ t d ((C.a.tmps ++ Array.replicate m undef).getD t undef)
    rw [arr_pad]
    by_cases h : t < C.E.sl.length
    · rw [List.getElem?_append_left h] at hd
      exact (R.slot t d hd).tr' fun k x v _ hv => go1 _ _ _ hv
    · rw [List.getElem?_append_right (by omega), List.getElem?_replicate] at hd
      split at hd
      · injection hd with hd; subst hd
        exact .comp _ _ rfl (.dead _ _)
      · cases hd
  · intro t ds hl
    obtain ⟨cs, e, fr, a1, a2, a3, a4⟩ := (R.cell t ds ((hlive t ds).1 hl)).out
    refine ⟨cs, e, fr, a1, a2, a3, fun i d hd => ?_⟩
    obtain ⟨b1, b2, b3⟩ := a4 i d hd
    exact ⟨b1, b2, go1 _ _ _ b3⟩
  · intro t ds t' ds' h1 h2 he
    exact R.cdisj t ds t' ds' ((hlive _ _).1 h1) ((hlive _ _).1 h2) he
  · intro t ds p h1 hp
    exact R.fcd t ds p ((hlive _ _).1 h1) hp
  · intro t ds h1 hb i hi
    exact R.clent t ds ((hlive _ _).1 h1) hb i hi

/-- A result: a temporary, or a cell that holds a struct. -/
inductive RV where
  | tm (t : Nat)
  | ce (c : Nat) (ty : TypeId)
  deriving DecidableEq
def RV.toR : RV → ResultVar | .tm x => .tmp x | .ce x y => .cell x y
def RV.isC : RV → Bool | .tm _ => false | .ce _ _ => true
def RV.n : RV → Nat | .tm x => x | .ce x _ => x
/-- The parameters and the results, as a contract shows them at the end. -/
def shutP (keep : Nat → Bool) (E : Env) (i : Nat) : D := if keep i then (match E.sl.getD i .dead with | .own e xs => .own e xs | _ => .dead) else .dead
def shutD (E : Env) : RV → D
  | .tm t => E.sl.getD t .dead
  | .ce c _ => .agg ((E.ce.getD c none).getD [])
def shutR (E : Env) : List RV → D
  | [t] => shutD E t
  | ts => .tup (ts.map (shutD E))
def shut (cfg : Cfg) (ts : List RV) (E : Env) : Env :=
  ⟨(List.range cfg.np).map (shutP cfg.keep E) ++ [shutR E ts], (List.range cfg.np).map (fun i => E.ce.getD i none)⟩
def resOk (cfg : Cfg) (E : Env) : RV → Bool
  | .tm t => !cfg.keep t && !(E.sl.getD t .dead).isTup && (E.sl.getD t .dead).leaves1.all D.resLeaf && decide (t < E.sl.length)
  | .ce c ty => match E.sl.getD c .dead, cfg.tb ty, E.ce.getD c none with
    | .cref c' 0, some i, some ds => decide (c' = c) && decide (cfg.np ≤ c) && decide (ds.length = i.size) && i.k.isStruct && ds.all D.resLeaf && decide (c < E.sl.length)
    | _, _, _ => false
/-- The results are whole, and their places are no kept parameters. -/
def shutOk (cfg : Cfg) (ts : List RV) (E : Env) : Bool :=
  distinct (ts.map fun r => (r.isC, r.n)) && ts.all (resOk cfg E) &&
  (List.range cfg.np).all fun i => match E.ce.getD i none with | some ds => ds.all D.resLeaf | none => true
def shutV1 (C : Ctx) : RV → Value
  | .tm t => C.a.tmps.getD t undef
  | .ce c _ => .agg ((List.range ((C.E.ce.getD c none).getD []).length).map fun j => (C.w.cell? ⟨(C.loc c).1, (C.loc c).2 + j, none⟩).getD undef).toArray
def shutV (C : Ctx) : List RV → Value
  | [t] => shutV1 C t
  | ts => .tuple (ts.map (shutV1 C)).toArray
def shutF (cfg : Cfg) (ts : List RV) (F : Lf → Nat → Prop) (p : Lf) (b : Nat) : Prop :=
  (p.c = false ∧ p.t < cfg.np ∧ cfg.keep p.t = true ∧ F p b) ∨ (p.c = true ∧ p.t < cfg.np ∧ F p b) ∨ (p.c = false ∧ p.t = cfg.np ∧ ∃ t : RV, ts[p.k / 64]? = some t ∧ F ⟨t.isC, t.n, p.k % 64⟩ b)

theorem resOk_t {cfg : Cfg} {E : Env} {t : Nat} (h : resOk cfg E (.tm t) = true) : ((cfg.keep t = false ∧ (E.sl.getD t .dead).isTup = false) ∧ ∀ x, x ∈ (E.sl.getD t .dead).leaves1 → x.resLeaf = true) ∧ t < E.sl.length := by
  simpa [resOk] using h
theorem resOk_c {cfg : Cfg} {E : Env} {c : Nat} {ty : TypeId} (h : resOk cfg E (.ce c ty) = true) : E.sl.getD c .dead = .cref c 0 ∧ c < E.sl.length ∧ cfg.np ≤ c ∧ ∃ i ds, cfg.tb ty = some i ∧ E.ce.getD c none = some ds ∧ ds.length = i.size ∧ i.k.isStruct = true ∧ ∀ x, x ∈ ds → x.resLeaf = true := by
  unfold resOk at h
  simp only at h
  split at h
  · rename_i c' i ds h1 h2 h3
    simp only [Bool.and_eq_true, decide_eq_true_eq, List.all_eq_true] at h
    obtain ⟨⟨⟨⟨⟨rfl, a2⟩, a3⟩, a4⟩, a5⟩, a6⟩ := h
    exact ⟨h1, a6, a2, i, ds, h2, h3, a3, a4, a5⟩
  · cases h

theorem Rel.shut {w0 : World} {L : Nat → Nat → Prop} {C : Ctx} (R : Rel w0 L C) {cfg : Cfg} (hT : TabOk C.P cfg.tb) {ts : List RV} (hok : shutOk cfg ts C.E = true) {args : Array Value} (hsz : args.size = cfg.np)
    (hk : ∀ t, cfg.keep t = true → C.a.tmps.getD t undef = args.getD t undef) :
    Rel w0 L { C with E := Fw.shut cfg ts C.E, a := { tmps := args.push (shutV C ts), defers := [] }, F := shutF cfg ts C.F } := by
  simp only [shutOk, Bool.and_eq_true, List.all_eq_true] at hok
  obtain ⟨⟨o1, o2⟩, o3⟩ := hok
  have hF : ∀ p b, shutF cfg ts C.F p b → ∃ q, C.F q b := by
    rintro p b (⟨_, _, _, h⟩ | ⟨_, _, h⟩ | ⟨_, _, t, _, h⟩)
    · exact ⟨_, h⟩
    · exact ⟨_, h⟩
    · exact ⟨_, h⟩
  have hlive : ∀ t ds, ({ C with E := Fw.shut cfg ts C.E, a := { tmps := args.push (shutV C ts), defers := [] }, F := shutF cfg ts C.F } : Ctx).live t ds → t < cfg.np ∧ C.live t ds := by
    intro t ds h
    have h : ((List.range cfg.np).map (fun i => C.E.ce.getD i none))[t]? = some (some ds) := h
    rw [List.getElem?_map] at h
    by_cases ht : t < cfg.np
    · rw [List.getElem?_range ht] at h
      simp only [Option.map_some, Option.some.injEq] at h
      refine ⟨ht, ?_⟩
      show C.E.ce[t]? = _
      rw [List.getD_eq_getElem?_getD] at h
      cases hx : C.E.ce[t]? with
      | none => rw [hx] at h; cases h
      | some y => rw [hx] at h; simp at h; rw [h]
    · rw [List.getElem?_eq_none (by simpa using ht)] at h; cases h
  have hRd : ∀ b, C.Rd b → ({ C with E := Fw.shut cfg ts C.E, a := { tmps := args.push (shutV C ts), defers := [] }, F := shutF cfg ts C.F } : Ctx).Rd b := by
    rintro b ⟨h1, h2⟩
    refine ⟨?_, h2⟩
    rintro (⟨p, hp⟩ | ⟨t, ds, hl, hb⟩)
    · obtain ⟨q, hq⟩ := hF p b hp
      exact h1 (.inl ⟨q, hq⟩)
    · exact h1 (.inr ⟨t, ds, (hlive t ds hl).2, hb⟩)
  have go : ∀ p p' d v, LRel C p d v → d.resLeaf = true → d.leafy = true → one v = true → (∀ b, C.F p b → shutF cfg ts C.F p' b) → LRel { C with E := Fw.shut cfg ts C.E, a := { tmps := args.push (shutV C ts), defers := [] }, F := shutF cfg ts C.F } p' d v := by
    intro p p' d v hv h1 h2 h3 h4
    refine RL.rel (C := { C with E := Fw.shut cfg ts C.E, a := { tmps := args.push (shutV C ts), defers := [] }, F := shutF cfg ts C.F }) (hv.rl h1 h2 h3) (fun e xs b _ hb _ => hRd b hb) (fun e xs _ b hb => h4 b hb)
  have compOf : ∀ (j : Nat) (t : RV), ts[j]? = some t → (shutD C.E t).isTup = false ∧ CRel { C with E := Fw.shut cfg ts C.E, a := { tmps := args.push (shutV C ts), defers := [] }, F := shutF cfg ts C.F } cfg.np (64 * j) (shutD C.E t) (shutV1 C t) := by
    intro j t hj
    have hFk : ∀ k b, k < 64 → C.F ⟨t.isC, t.n, k⟩ b → shutF cfg ts C.F ⟨false, cfg.np, 64 * j + k⟩ b := by
      intro k b hk64 hb
      refine .inr (.inr ⟨rfl, rfl, t, ?_, ?_⟩)
      · show ts[(64 * j + k) / 64]? = some t
        rw [(mul_div64 j k hk64).1]; exact hj
      · show C.F ⟨t.isC, t.n, (64 * j + k) % 64⟩ b
        rw [(mul_div64 j k hk64).2]; exact hb
    have hr := o2 t (List.mem_of_getElem? hj)
    cases t with
    | tm t =>
      obtain ⟨⟨⟨q1, q2⟩, q3⟩, q4⟩ := resOk_t hr
      refine ⟨q2, ?_⟩
      have hs := R.slot t (C.E.sl.getD t .dead) (by rw [List.getD_eq_getElem?_getD, List.getElem?_eq_getElem q4]; rfl)
      show CRel _ cfg.np (64 * j) (C.E.sl.getD t .dead) (C.a.tmps.getD t undef)
      generalize C.E.sl.getD t .dead = d at hs q2 q3
      generalize C.a.tmps.getD t undef = vv at hs
      cases hs with
      | tup => simp [D.isTup] at q2
      | comp _ _ _ hc =>
        cases hc with
        | dead => exact .dead _ _
        | agg ds xs hl h64 h =>
          refine .agg _ _ _ hl h64 fun i x hx => ?_
          obtain ⟨a1, a2, a3⟩ := h i x hx
          have hi : i < 64 := by have := (List.getElem?_eq_some_iff.1 hx).1; omega
          rw [Nat.zero_add] at a3
          exact ⟨a1, a2, go _ _ _ _ a3 (q3 x (List.mem_of_getElem? hx)) a1 a2 (fun b hb => hFk i b hi (show C.F ⟨false, t, i⟩ b from hb))⟩
        | leaf _ _ a b c =>
          have hr := q3 d (by rw [leafy_leaves1 a]; simp)
          exact .leaf _ _ _ a b (go _ _ _ _ c hr a b (fun b hb => by have := hFk 0 b (by omega) hb; simpa using this))
    | ce c ty =>
      obtain ⟨q1, q2, q3, i, ds, q4, q5, q6, q7, q8⟩ := resOk_c hr
      refine ⟨rfl, ?_⟩
      have hl : C.live c ds := by
        show C.E.ce[c]? = _
        rw [List.getD_eq_getElem?_getD] at q5
        cases hx : C.E.ce[c]? with
        | none => rw [hx] at q5; cases q5
        | some y => rw [hx] at q5; simp at q5; rw [q5]
      obtain ⟨cs, e, fr, a1, a2, a3, a4⟩ := (R.cell c ds hl).out
      have e1 : shutD C.E (.ce c ty) = .agg ds := by show D.agg ((C.E.ce.getD c none).getD []) = _; rw [q5]; rfl
      have e5 : shutV1 C (.ce c ty) = .agg ((List.range ds.length).map fun j => (C.w.cell? ⟨(C.loc c).1, (C.loc c).2 + j, none⟩).getD undef).toArray := by
        show Value.agg ((List.range ((C.E.ce.getD c none).getD []).length).map _).toArray = _
        rw [q5]; rfl
      rw [e1, e5]
      have e2 : ∀ j, j < ds.length → (C.w.cell? ⟨(C.loc c).1, (C.loc c).2 + j, none⟩).getD undef = cs.getD ((C.loc c).2 + j) undef := by
        intro j hj
        rw [cell_of a1, getD_get? (by omega)]; rfl
      refine .agg _ _ _ (by simp) (by rw [q6]; exact (hT ty i q4).small) fun k d hd => ?_
      have hk' : k < ds.length := (List.getElem?_eq_some_iff.1 hd).1
      obtain ⟨b1, b2, b3⟩ := a4 k d hd
      have hk64 : k < 64 := by have := (hT ty i q4).small; omega
      have e3 : (((List.range ds.length).map fun j => (C.w.cell? ⟨(C.loc c).1, (C.loc c).2 + j, none⟩).getD undef).toArray).getD k undef = cs.getD ((C.loc c).2 + k) undef := by
        rw [arrGetD]
        simp only [List.getElem?_toArray, List.getElem?_map, List.getElem?_range hk', Option.map_some]
        exact e2 k hk'
      rw [e3]
      exact ⟨b1, b2, go _ _ _ _ b3 (q8 d (List.mem_of_getElem? hd)) b1 b2 (fun b hb => hFk k b hk64 hb)⟩
  refine ⟨by simp [Fw.shut, hsz], rfl, ?_, ?_, ?_, ?_, ?_, ?_, ?_, ?_, R.frame, R.mnew, R.mL⟩
  · intro t d hd
    have hd : ((List.range cfg.np).map (shutP cfg.keep C.E) ++ [shutR C.E ts])[t]? = some d := hd
    show SRel _ t d ((args.push (shutV C ts)).getD t undef)
    by_cases ht : t < cfg.np
    · rw [List.getElem?_append_left (by simpa using ht), List.getElem?_map, List.getElem?_range ht] at hd
      simp only [Option.map_some, Option.some.injEq] at hd
      subst hd
      have ev : (args.push (shutV C ts)).getD t undef = args.getD t undef := by
        rw [arrGetD, arrGetD, Array.getElem?_push, if_neg (by omega)]
      rw [ev]
      unfold shutP
      cases hkt : cfg.keep t with
      | false => exact .comp _ _ rfl (.dead _ _)
      | true =>
        simp only [if_true]
        cases hd : C.E.sl.getD t .dead with
        | own e xs =>
          have hsl : C.E.sl[t]? = some (.own e xs) := by
            rw [List.getD_eq_getElem?_getD] at hd
            cases hx : C.E.sl[t]? with
            | none => rw [hx] at hd; cases hd
            | some y => rw [hx] at hd; simp at hd; rw [hd]
          have hs := R.slot t _ hsl
          rw [hk t hkt] at hs
          cases hs with
          | comp _ _ _ hc =>
            cases hc with
            | leaf _ _ a b c =>
              cases c with
              | own _ _ _ h => exact .comp _ _ rfl (.leaf _ _ _ rfl b (.own _ _ _ _ (h.mono (fun b hb => .inl ⟨rfl, ht, hkt, hb⟩) (fun _ _ _ => rfl))))
        | _ => exact .comp _ _ rfl (.dead _ _)
    · have hlt := (List.getElem?_eq_some_iff.1 hd).1
      simp at hlt
      have : t = cfg.np := by omega
      subst this
      rw [List.getElem?_append_right (by simp)] at hd
      simp at hd
      subst hd
      have ev : (args.push (shutV C ts)).getD cfg.np undef = shutV C ts := by
        rw [arrGetD, Array.getElem?_push, if_pos hsz.symm]; rfl
      rw [ev]
      have tupc : SRel { C with E := Fw.shut cfg ts C.E, a := { tmps := args.push (shutV C ts), defers := [] }, F := shutF cfg ts C.F } cfg.np (.tup (ts.map (shutD C.E))) (.tuple (ts.map (shutV1 C)).toArray) := by
        refine .tup _ _ (by simp) fun i d hd => ?_
        rw [List.getElem?_map] at hd
        cases hx : ts[i]? with
        | none => rw [hx] at hd; simp at hd
        | some t =>
          rw [hx] at hd
          simp only [Option.map_some, Option.some.injEq] at hd
          subst hd
          have e : (ts.map (shutV1 C)).toArray.getD i undef = shutV1 C t := by
            rw [arrGetD]; simp [hx]
          rw [e]
          exact compOf i t hx
      match ts, tupc, compOf with
      | [], tupc, _ => exact tupc
      | [t], _, compOf => exact .comp _ _ (compOf 0 t rfl).1 (compOf 0 t rfl).2
      | _ :: _ :: _, tupc, _ => exact tupc
  · intro t ds hl
    obtain ⟨ht, hlc⟩ := hlive t ds hl
    obtain ⟨cs, e, fr, a1, a2, a3, a4⟩ := (R.cell t ds hlc).out
    refine ⟨cs, e, fr, a1, a2, a3, fun i d hd => ?_⟩
    obtain ⟨b1, b2, b3⟩ := a4 i d hd
    have hr := o3 t (List.mem_range.2 ht)
    rw [show C.E.ce.getD t none = some ds from getD_some hlc] at hr
    have hr : ds.all D.resLeaf = true := hr
    exact ⟨b1, b2, go _ _ _ _ b3 (List.all_eq_true.1 hr d (List.mem_of_getElem? hd)) b1 b2 (fun b hb => .inr (.inl ⟨rfl, ht, hb⟩))⟩
  · intro p q b h1 h2
    obtain ⟨pc, pt, pk⟩ := p
    obtain ⟨qc, qt, qk⟩ := q
    have res : ∀ (k k' : Nat) (t t' : RV), ts[k / 64]? = some t → ts[k' / 64]? = some t' → C.F ⟨t.isC, t.n, k % 64⟩ b → C.F ⟨t'.isC, t'.n, k' % 64⟩ b → k = k' := by
      intro k k' t t' h1 h2 g1 g2
      have := R.disj _ _ _ g1 g2
      injection this with e0 e1 e2
      have hnd := distinct_nodup o1
      have e3 : k / 64 = k' / 64 := by
        refine (List.getElem?_inj (l := ts.map fun r => (r.isC, r.n)) ?_ hnd).1 ?_
        · have := (List.getElem?_eq_some_iff.1 h1).1
          simpa using this
        · rw [List.getElem?_map, List.getElem?_map, h1, h2]
          simp [e0, e1]
      omega
    have resk : ∀ (k : Nat) (t : RV) (i j : Nat), ts[k / 64]? = some t → C.F ⟨t.isC, t.n, k % 64⟩ b → cfg.keep i = true → C.F ⟨false, i, j⟩ b → False := by
      intro k t i j h1 g1 hki g2
      have := R.disj _ _ _ g1 g2
      injection this with e0 e1 _
      have hr := o2 t (List.mem_of_getElem? h1)
      cases t with
      | tm t =>
        have e1 : t = i := e1
        subst e1
        have := (resOk_t hr).1.1.1
        rw [hki] at this; cases this
      | ce c ty => cases e0
    have resc : ∀ (k : Nat) (t : RV) (i j : Nat), ts[k / 64]? = some t → i < cfg.np → C.F ⟨t.isC, t.n, k % 64⟩ b → C.F ⟨true, i, j⟩ b → False := by
      intro k t i j h1 hi g1 g2
      have := R.disj _ _ _ g1 g2
      injection this with e0 e1 _
      have hr := o2 t (List.mem_of_getElem? h1)
      cases t with
      | tm t => cases e0
      | ce c ty =>
        have e1 : c = i := e1
        have := (resOk_c hr).2.2.1
        omega
    rcases h1 with ⟨a1, a2, a3, a4⟩ | ⟨a1, a2, a4⟩ | ⟨a1, a2, t, a3, a4⟩
    · rcases h2 with ⟨c1, c2, c3, c4⟩ | ⟨c1, c2, c4⟩ | ⟨c1, c2, t', c3, c4⟩
      · exact R.disj _ _ _ a4 c4
      · exact R.disj _ _ _ a4 c4
      · simp only at a1 a2 a3 a4 c1 c2 c3 c4; subst a1; exact (resk _ _ _ _ c3 c4 a3 a4).elim
    · rcases h2 with ⟨c1, c2, c3, c4⟩ | ⟨c1, c2, c4⟩ | ⟨c1, c2, t', c3, c4⟩
      · exact R.disj _ _ _ a4 c4
      · exact R.disj _ _ _ a4 c4
      · simp only at a1 a2 a4 c3; subst a1; exact (resc _ _ _ _ c3 a2 c4 a4).elim
    · rcases h2 with ⟨c1, c2, c3, c4⟩ | ⟨c1, c2, c4⟩ | ⟨c1, c2, t', c3, c4⟩
      · simp only at c1 c2 c3 c4; subst c1; exact (resk _ _ _ _ a3 a4 c3 c4).elim
      · simp only at c1 c2 c4 a3; subst c1; exact (resc _ _ _ _ a3 c2 a4 c4).elim
      · simp only at a1 a2 a3 a4 c1 c2 c3 c4
        have := res pk qk t t' a3 c3 a4 c4
        rw [a1, a2, c1, c2, this]
  · intro t ds t' ds' h1 h2 he
    exact R.cdisj t ds t' ds' (hlive _ _ h1).2 (hlive _ _ h2).2 he
  · intro t ds p h1 hp
    obtain ⟨q, hq⟩ := hF p _ hp
    exact R.fcd t ds q (hlive _ _ h1).2 hq
  · intro p b hp; obtain ⟨q, hq⟩ := hF p b hp; exact R.fbound q b hq
  · intro p b hp; obtain ⟨q, hq⟩ := hF p b hp; exact R.flent q b hq
  · intro t ds h1 hb i hi
    exact R.clent t ds (hlive _ _ h1).2 hb i hi

theorem run_loadVar_cells {P : Program} {w : World} {t : TypeId} {i : TI} (hT : TIok P t i) (hs : i.k.isStruct = true) {a : Addr} (cs : List Value) (hl : cs.length = i.size) (hc : ∀ j v, cs[j]? = some v → w.cell? (a.add j) = some v) :
    (loadVar t a).run P w = .ok (.agg cs.toArray) w := by
  have hload := run_loadCells_list (P := P) w a cs hc
  have hz := hT.sizeOf w
  have hk := hT.k
  unfold KOk at hk
  split at hk <;> rename_i hik <;> try (rw [hik] at hs; cases hs)
  obtain ⟨fs, hu, _⟩ := hk
  have hagg : (isAgg t).run P w = .ok true w := by simp [isAgg, run_underlying hu]
  rw [← hl] at hz
  simp [loadVar, hagg, hz, hload]

theorem run_results {P : Program} {cfg : Cfg} {fn : Func} {ts : List RV} (h : fn.results = (ts.map RV.toR).toArray) {w0 : World} {L : Nat → Nat → Prop} {C : Ctx} (R : Rel w0 L C) (hP : C.P = P) (hT : TabOk P cfg.tb)
    (hok : ∀ t, t ∈ ts → resOk cfg C.E t = true) : (results fn C.a.tmps).run P C.w = .ok (shutV C ts) C.w := by
  have key : ∀ (l : List RV), (∀ t, t ∈ l → resOk cfg C.E t = true) → ((l.map RV.toR).mapM fun x => (match x with
      | .tmp t => pure (C.a.tmps.getD t undef)
      | .cell c t => do loadVar t (← asAddr (C.a.tmps.getD c undef)) : Go.Sem Value)).run P C.w = .ok (l.map (shutV1 C)) C.w := by
    intro l hl
    induction l with
    | nil => rfl
    | cons t l ih =>
      have ih := ih (fun x hx => hl x (List.mem_cons_of_mem _ hx))
      have h0 := hl t List.mem_cons_self
      have h1 : ((match RV.toR t with
        | .tmp t => pure (C.a.tmps.getD t undef)
        | .cell c t => do loadVar t (← asAddr (C.a.tmps.getD c undef)) : Go.Sem Value)).run P C.w = .ok (shutV1 C t) C.w := by
        cases t with
        | tm t => rfl
        | ce c ty =>
          obtain ⟨q1, q2, q3, i, ds, q4, q5, q6, q7, q8⟩ := resOk_c h0
          have hl : C.live c ds := by
            show C.E.ce[c]? = _
            rw [List.getD_eq_getElem?_getD] at q5
            cases hx : C.E.ce[c]? with
            | none => rw [hx] at q5; cases q5
            | some y => rw [hx] at q5; simp at q5; rw [q5]
          obtain ⟨cs, e, fr, a1, a2, a3, a4⟩ := (R.cell c ds hl).out
          have hs := R.slot c (.cref c 0) (by rw [← q1, List.getD_eq_getElem?_getD, List.getElem?_eq_getElem q2]; rfl)
          have ev : C.a.tmps.getD c undef = .pointer (some ⟨(C.loc c).1, (C.loc c).2, none⟩) := by
            generalize C.a.tmps.getD c undef = vv at hs
            cases hs with
            | comp _ _ _ hc =>
              cases hc with
              | leaf _ _ a b c => cases c; rfl
          show (do loadVar ty (← asAddr (C.a.tmps.getD c undef)) : Go.Sem Value).run P C.w = _
          rw [ev]
          have e0 : ∀ j, j < ds.length → (C.w.cell? ⟨(C.loc c).1, (C.loc c).2 + j, none⟩) = some (cs.getD ((C.loc c).2 + j) undef) := by
            intro j hj
            rw [cell_of a1, getD_get? (by omega)]
          have hr := run_loadVar_cells (w := C.w) (hT ty i q4) q7 (a := ⟨(C.loc c).1, (C.loc c).2, none⟩) ((List.range ds.length).map fun j => (C.w.cell? ⟨(C.loc c).1, (C.loc c).2 + j, none⟩).getD undef) (by simp [q6]) (by
            intro j v hj
            rw [List.getElem?_map] at hj
            by_cases hlt : j < ds.length
            · rw [List.getElem?_range hlt] at hj
              simp only [Option.map_some, Option.some.injEq] at hj
              rw [add_plain, ← hj, e0 j hlt]; rfl
            · rw [List.getElem?_eq_none (by simpa using hlt)] at hj; simp at hj)
          have e5 : shutV1 C (.ce c ty) = .agg ((List.range ds.length).map fun j => (C.w.cell? ⟨(C.loc c).1, (C.loc c).2 + j, none⟩).getD undef).toArray := by
            show Value.agg ((List.range ((C.E.ce.getD c none).getD []).length).map _).toArray = _
            rw [q5]; rfl
          rw [e5]
          simpa [asAddr] using hr
      simp only [List.map_cons, List.mapM_cons, Sem.run_bind, h1, Result.andThen_ok, ih, Sem.run_pure]
  unfold results
  rw [h]
  simp only [List.mapM_toArray, bind_pure_comp, Sem.run_map]
  refine (congrArg (fun r : Result (List Value) => ((r.andThen fun a w' => Result.ok a.toArray w').andThen fun a w' => Result.ok (if h : a.size = 1 then a[0] else Value.tuple a) w')) (key ts hok)).trans ?_
  match ts with
  | [] => rfl
  | [t] => rfl
  | t :: u :: r => simp [shutV]

/-- A function's contract from its body. -/
theorem sem_intro {P : Program} {cfg : Cfg} {f : FuncId} {fn : Func} {c : Code} {ts : List RV} (hT : TabOk P cfg.tb) (hf : P.funcs[f]? = some fn) (hname : (fn.name == "runtime.NumGoroutine") = false) (hb : fn.body = some c)
    (hres : fn.results = (ts.map RV.toR).toArray) {Ein Eout : Env} (hnp : Ein.sl.length = cfg.np) (hkeep : ∀ t, cfg.keep t = true → t < cfg.np)
    (h : pwp P cfg c (Ein.pad (fn.ntmps - cfg.np)) fun e E => (e = .normal ∨ e = .ret) ∧ ∃ E', Wk E E' ∧ shutOk cfg ts E' = true ∧ shut cfg ts E' = Eout) : Sem P f Ein Eout := by
  intro w a F loc M R
  refine .inl ⟨by simp only [callFunc, Sem.run_bind, run_program, Result.andThen_ok, hf, hname, hb, Option.isNone_some, Bool.false_eq_true, if_false, Sem.run_pure], ?_⟩
  have hsz : a.tmps.size = cfg.np := by have := R.tmps; rw [← hnp]; exact this
  have R1 := R.pad (fn.ntmps - cfg.np)
  refine calls_of_wp hf hb ?_
  rw [hsz]
  refine pwp_sound (op_ok hT) c _ _ _ R1 rfl h ?_
  rintro e C' R' hP' hl' hk' ⟨he, E', hw, hok, hE⟩
  have R2 := R'.weak' hw
  have hT2 : TabOk C'.P cfg.tb := by rw [show C'.P = P from hP']; exact hT
  have hres1 := run_results hres R2 hP' hT (fun t ht => by
    have hok2 := hok
    simp only [shutOk, Bool.and_eq_true, List.all_eq_true] at hok2
    exact hok2.1.2 t ht)
  have R3 := R2.shut hT2 hok (args := a.tmps) hsz (by
    intro t ht
    have := hk'.1 t ht
    show C'.a.tmps.getD t undef = _
    rw [this]
    exact arr_pad a.tmps _ t)
  have fin : C'.a.defers = [] ∧ ∃ v, (results fn C'.a.tmps).run P C'.w = .ok v C'.w ∧ (∃ v', Ending.returned v = .returned v' ∧ ∃ F' loc', (∀ t, t < Ein.sl.length → loc' t = loc t) ∧
      Rel w (lentOf Ein F loc) ⟨P, Eout, { tmps := a.tmps.push v', defers := [] }, C'.w, F', loc', M⟩) := by
    refine ⟨R'.defers, _, hres1, _, rfl, shutF cfg ts C'.F, C'.loc, fun t ht => hl' t (by rw [← hnp]; exact ht), ?_⟩
    have hM : C'.M = M := hk'.2
    clear hres1 R2
    obtain ⟨P1, E1, a1, w1, F1, l1, M1⟩ := C'
    simp only at hP' hM R3 hE
    subst hP'; subst hM
    rw [hE] at R3
    exact R3
  rcases he with rfl | rfl
  · exact fin
  · exact fin
end Go.Proofs.Ytcnogcachboibaa.Fw
