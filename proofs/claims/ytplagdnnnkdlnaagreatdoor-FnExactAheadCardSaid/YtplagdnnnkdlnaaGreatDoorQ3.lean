/- Texts of the proof: FwOk FwSem FwExt FwCall FwRow FwRead FwE1 FwE2 FwE3 FwArg FwSet FwY FbA FbB FbC FbD FcA FcB FcC FcD FcE FcF FcG FcH FcI FcJ. -/
import Derived.Laws.Externs
import Derived.Lib.Bytealg
import Derived.Below
import Derived.Deep.Slices
import Derived.ChangeArms
import Derived.ChangeShapes
import Derived.Test.YtplagdnnnkdlnaaGreatDoorProg
import Derived.Test.YtplagdnnnkdlnaaGreatDoorQ2
set_option linter.unusedSimpArgs false
set_option linter.unusedVariables false
/- Framework, part Ok: every operation does what is computed of it. -/
namespace Go.Proofs.YtplagdnnnkdlnaaGreatDoor.Fw
open Go
set_option linter.unusedVariables false
theorem opdsR_wp {w0 : World} {L : Nat → Nat → Prop} {C : Ctx} (R : Rel w0 L C) {α : Type} : ∀ (xs : List Operand) {acc : List D} {vs : List Value} {k : List D → Rdr α} {Q : α → Prop},acc.length = vs.length →
    (∀ (i : Nat) (d : D),acc[i]? = some d → d.isTup = false → VRel C d (vs.getD i undef)) → (opdsR xs acc k).wp C.E Q →
    ∃ ds,(k ds).wp C.E Q ∧ ds.length = (vs ++ xs.map C.a.eval).length ∧ ∀ (i : Nat) (d : D),ds[i]? = some d → d.isTup = false → VRel C d ((vs ++ xs.map C.a.eval).getD i undef)
  | [],acc,vs,k,Q,hl,hv,h => ⟨acc,h,by simpa using hl,by simpa using hv⟩
  | x :: xs,acc,vs,k,Q,hl,hv,h => by
    replace h := opdR_wp R h
    obtain ⟨d,h,hd⟩ := h
    obtain ⟨ds,h1,h2,h3⟩ := opdsR_wp R xs (acc := acc ++ [d]) (vs := vs ++ [C.a.eval x]) (by simp [hl]) (by
      intro i d' hd' ht
      by_cases hi : i < acc.length
      · rw [List.getElem?_append_left hi] at hd'
        rw [List.getD_eq_getElem?_getD,List.getElem?_append_left (by omega),← List.getD_eq_getElem?_getD]
        exact hv i d' hd' ht
      · have h1 := (List.getElem?_eq_some_iff.1 hd').1
        simp at h1
        have : i = acc.length := by omega
        subst this
        simp at hd'
        subst hd'
        rw [List.getD_eq_getElem?_getD,hl]
        simpa using hd ht) h
    exact ⟨ds,h1,by simpa using h2,by simpa using h3⟩
theorem call_run {P : Program} {a : Act} {o : Oper} {w : World} {c : Call} {x : Operand} {f : FuncId} {caps : Array Value} (ho : o.op = .call c) (hc : c.callee = .value x) (hx : a.eval x = .func (.func f) #[] caps) :
    (execOp a.eval o).run P w = (callFunc f ((c.args.map a.eval) ++ caps)).run P w := by
  simp only [execOp,ho,resolve,hc,hx,Deferred.ofValue,Sem.run_bind,Sem.run_pure,Result.andThen_ok,invoke,Array.empty_append]
theorem op_ok {P : Program} {cfg : Cfg} (hT : TabOk P cfg.tb) : OpOk P cfg := by
  intro w0 L C R hP K next hn Q o h
  subst hP
  unfold opR at h
  split at h
  · rename_i ho; exact snd_moveT R hn ho h
  · rename_i ho; exact snd_assign R hn ho h
  · rename_i ho; exact snd_pick R hn ho h
  · rename_i ho; exact snd_alloc R hn hT ho h
  · rename_i ho; exact snd_box R hn ho h
  · rename_i ho; exact snd_build R hn hT ho h
  · rename_i ho; exact snd_buildSlice R hn hT ho h
  · rename_i ho; exact snd_load R hn hT ho h
  · rename_i ho; exact snd_store R hn hT ho h
  · rename_i ho; exact snd_nilCheck R hn ho h
  · rename_i ho; exact snd_bin R hn hT ho h
  · rename_i ho; exact snd_un R hn ho h
  · rename_i ho; exact snd_convert R hn hT ho h
  · rename_i ho; exact snd_makeFunc R hn ho h
  · rename_i ho; exact snd_makeSlice R hn hT ho h
  · rename_i ho; exact snd_slice R hn hT ho h
  · rename_i ho; exact snd_fieldAddr R hn hT ho h
  · rename_i ho; exact snd_indexAddr R hn hT ho h
  · rename_i ho; exact snd_index R hn hT ho h
  · rename_i ho; exact snd_extract R hn ho h
  · rename_i c ho
    unfold opCall at h
    split at h
    · rename_i hc
      split at h
      · rename_i x t hx ht
        refine snd_len R hn hT (fun v n hv hr => ?_) h
        have e1 : c.args = #[x] := by cases hca : c.args with | mk l => rw [hca] at hx; simp at hx; rw [hx]
        have e2 : c.argTypes = #[t] := by cases hca : c.argTypes with | mk l => rw [hca] at ht; simp at ht; rw [ht]
        simp [execOp,ho,resolve,hc,invoke,builtin,e1,e2,hv,hr]
      · exact h.elim
    · rename_i hc
      split at h
      · rename_i s x t tx hx ht
        refine snd_append R hn hT (fun v hr => ?_) h
        have e1 : c.args = #[s,x] := by cases hca : c.args with | mk l => rw [hca] at hx; simp at hx; rw [hx]
        have e2 : c.argTypes = #[t,tx] := by cases hca : c.argTypes with | mk l => rw [hca] at ht; simp at ht; rw [ht]
        simp [execOp,ho,resolve,hc,invoke,builtin,e1,e2,hr]
      · exact h.elim
    · rename_i hc
      refine snd_minmax R hn (fun v vs n hv hr => ?_) h
      simp only [Bool.false_eq_true,if_false] at hr
      simp [execOp,ho,resolve,hc,invoke,builtin,Builtin.min_,hv,hr]
    · rename_i hc
      refine snd_minmax R hn (fun v vs n hv hr => ?_) h
      simp only [if_true] at hr
      simp [execOp,ho,resolve,hc,invoke,builtin,Builtin.max_,hv,hr]
    · exact h.elim
    · rename_i f hc
      obtain ⟨ds,h,h1,h2⟩ := opdsR_wp R c.args.toList (acc := []) (vs := []) rfl (fun i d hd => by simp at hd) h
      refine snd_callR R hn (ws := c.args.toList.map C.a.eval) (by simpa using h1) (by simpa using h2) ?_ h
      rw [call_run (f := f) (caps := #[]) ho hc rfl]
      congr 2
      apply Array.ext'
      simp
    · rename_i x hnf hc
      replace h := opdR_wp R h
      obtain ⟨d,h,hd⟩ := h
      split at h
      · rename_i f cs
        have hl := ((hd rfl).lf rfl (by simp)).1
        generalize hxv : C.a.eval x = xv at hl
        cases hl with
        | clo _ _ caps g1 g2 g3 =>
          obtain ⟨ds,h,h1,h2⟩ := opdsR_wp R c.args.toList (acc := []) (vs := []) rfl (fun i d hd => by simp at hd) h
          refine snd_callR R hn (ws := c.args.toList.map C.a.eval ++ caps.toList) (by simp at h1 ⊢; omega) ?_ ?_ h
          · intro i d hid ht
            by_cases hi : i < ds.length
            · rw [List.getElem?_append_left hi] at hid
              rw [List.getD_eq_getElem?_getD,List.getElem?_append_left (by simp at h1 ⊢; omega),← List.getD_eq_getElem?_getD]
              simpa using h2 i d hid ht
            · rw [List.getElem?_append_right (by omega)] at hid
              rw [List.getD_eq_getElem?_getD,List.getElem?_append_right (by simp at h1 ⊢; omega),← List.getD_eq_getElem?_getD]
              have e : i - (c.args.toList.map C.a.eval).length = i - ds.length := by simp at h1 ⊢; omega
              rw [e,arr_list_getD]
              have hcap := g2 _ _ hid
              have hlr := g3 _ _ hid
              have hone : one (caps.getD (i - ds.length) undef) = true := by
                generalize caps.getD (i - ds.length) undef = cv at hlr
                cases hlr <;> first | rfl | (exact scal_one (by assumption)) | (simp [D.capt] at hcap; done) | (rename_i hr; exact hr.one)
              exact VRel.leaf (by cases d <;> first | rfl | simp [D.capt] at hcap) hone (by cases d <;> first | rfl | simp [D.capt] at hcap) fun p => hlr.any (by cases d <;> first | rfl | simp [D.capt] at hcap) p
          · rw [call_run (f := f) (caps := caps) ho hc hxv]
            congr 2
            apply Array.ext'
            simp
      · exact h.elim
    · exact h.elim
  · exact h.elim
theorem getD_pad {α : Type} (l : List α) (m : Nat) (d : α) (t : Nat) : (l ++ List.replicate m d).getD t d = l.getD t d := by
  rw [List.getD_eq_getElem?_getD,List.getD_eq_getElem?_getD]
  by_cases h : t < l.length
  · rw [List.getElem?_append_left h]
  · rw [List.getElem?_append_right (by omega),List.getElem?_replicate,List.getElem?_eq_none (by omega)]
    split <;> rfl
theorem some_pad {α : Type} {l : List (Option α)} {m t : Nat} {x : α} : (l ++ List.replicate m none)[t]? = some (some x) ↔ l[t]? = some (some x) := by
  by_cases h : t < l.length
  · rw [List.getElem?_append_left h]
  · rw [List.getElem?_append_right (by omega),List.getElem?_replicate,List.getElem?_eq_none (by omega)]
    split <;> simp
theorem arr_pad (a : Array Value) (m t : Nat) : (a ++ Array.replicate m undef).getD t undef = a.getD t undef := by
  rw [arrGetD,arrGetD]
  by_cases h : t < a.size
  · rw [Array.getElem?_append_left h]
  · rw [Array.getElem?_append_right (by omega),Array.getElem?_replicate,Array.getElem?_eq_none (by omega)]
    split <;> rfl
def Env.pad (E : Env) (m : Nat) : Env := ⟨E.sl ++ List.replicate m .dead,E.ce ++ List.replicate m none⟩
theorem Rel.pad {w0 : World} {L : Nat → Nat → Prop} {C : Ctx} (R : Rel w0 L C) (m : Nat) : Rel w0 L { C with E := C.E.pad m,a := { tmps := C.a.tmps ++ Array.replicate m undef,defers := [] } } := by
  have hleaf : ∀ p,(C.E.pad m).leaf p = C.E.leaf p := by
    rintro ⟨c,t,k⟩
    cases c with
    | false => show ((C.E.sl ++ List.replicate m D.dead).getD t .dead).leafOf k = _; rw [getD_pad]; rfl
    | true => show (((C.E.ce ++ List.replicate m none).getD t none).getD []).getD k .dead = _; rw [getD_pad]; rfl
  have hcv : ∀ p,Ctx.cv { C with E := C.E.pad m,a := { tmps := C.a.tmps ++ Array.replicate m undef,defers := [] } } p = C.cv p := by
    rintro ⟨c,t,k⟩
    cases c with
    | false => show vleafOf ((C.a.tmps ++ Array.replicate m undef).getD t undef) k = _; rw [arr_pad]; rfl
    | true => rfl
  have hlive : ∀ t ds,({ C with E := C.E.pad m,a := { tmps := C.a.tmps ++ Array.replicate m undef,defers := [] } } : Ctx).live t ds ↔ C.live t ds := fun t ds => some_pad
  have hown : ∀ b,({ C with E := C.E.pad m,a := { tmps := C.a.tmps ++ Array.replicate m undef,defers := [] } } : Ctx).Owned b → C.Owned b := by
    rintro b (⟨p,hp⟩ | ⟨t,ds,hl,hb⟩)
    · exact .inl ⟨p,hp⟩
    · exact .inr ⟨t,ds,(hlive t ds).1 hl,hb⟩
  have s : Same C { C with E := C.E.pad m,a := { tmps := C.a.tmps ++ Array.replicate m undef,defers := [] } } (fun q => q) (fun _ => False) (fun _ => False) :=
    ⟨rfl,fun b hb _ => ⟨fun h => hb (hown b h),rfl⟩,fun q e xs _ hl => ⟨xs,(hleaf q).trans hl,rfl,hcv q,fun i j e' ys hg => ⟨hg,fun b o n cap v _ hv => hv⟩⟩,fun t ds _ hl => ⟨ds,(hlive t ds).2 hl,rfl,rfl⟩,fun _ h => h⟩
  have go1 : ∀ p d v,LRel C p d v → LRel { C with E := C.E.pad m,a := { tmps := C.a.tmps ++ Array.replicate m undef,defers := [] } } p d v := by
    intro p d v hv
    by_cases ho : d.isOwn = true
    · cases d <;> simp [D.isOwn] at ho
      cases hv with
      | own _ _ _ h => exact .own _ _ _ _ h
    · have := LRel.same s hv p (by simpa using ho) ⟨fun q h => by simp,fun t ht => by simp⟩
      rwa [D.re_id] at this
  refine ⟨?_,rfl,?_,?_,R.disj,?_,?_,R.fbound,R.flent,?_,R.frame,R.mnew,R.mL,R.glob⟩
  · show (C.a.tmps ++ Array.replicate m undef).size = (C.E.sl ++ List.replicate m D.dead).length
    simp [R.tmps]
  · intro t d hd
    have hd : (C.E.sl ++ List.replicate m D.dead)[t]? = some d := hd
    show SRel _ t d ((C.a.tmps ++ Array.replicate m undef).getD t undef)
    rw [arr_pad]
    by_cases h : t < C.E.sl.length
    · rw [List.getElem?_append_left h] at hd
      exact (R.slot t d hd).tr' fun k x v _ hv => go1 _ _ _ hv
    · rw [List.getElem?_append_right (by omega),List.getElem?_replicate] at hd
      split at hd
      · injection hd with hd; subst hd
        exact .comp _ _ rfl (.dead _ _)
      · cases hd
  · intro t ds hl
    obtain ⟨cs,e,fr,a1,a2,a3,a4⟩ := (R.cell t ds ((hlive t ds).1 hl)).out
    refine ⟨cs,e,fr,a1,a2,a3,fun i d hd => ?_⟩
    obtain ⟨b1,b2,b3⟩ := a4 i d hd
    exact ⟨b1,b2,go1 _ _ _ b3⟩
  · intro t ds t' ds' h1 h2 he
    exact R.cdisj t ds t' ds' ((hlive _ _).1 h1) ((hlive _ _).1 h2) he
  · intro t ds p h1 hp
    exact R.fcd t ds p ((hlive _ _).1 h1) hp
  · intro t ds h1 hb i hi
    exact R.clent t ds ((hlive _ _).1 h1) hb i hi
inductive RV where
  | tm (t : Nat)
  | ce (c : Nat) (ty : TypeId)
  deriving DecidableEq
def RV.toR : RV → ResultVar | .tm x => .tmp x | .ce x y => .cell x y
def RV.isC : RV → Bool | .tm _ => false | .ce _ _ => true
def RV.n : RV → Nat | .tm x => x | .ce x _ => x
def ownOnly : D → D | .own e xs => .own e xs | _ => .dead
def shutP (keep : Nat → Bool) (E : Env) (i : Nat) : D := if keep i then (match E.sl.getD i .dead with | .agg ds => .agg (ds.map ownOnly) | d => ownOnly d) else .dead
def shutD (E : Env) : RV → D
  | .tm t => E.sl.getD t .dead
  | .ce c _ => .agg ((E.ce.getD c none).getD [])
def shutR (E : Env) : List RV → D
  | [t] => shutD E t
  | ts => .tup (ts.map (shutD E))
def shut (cfg : Cfg) (ts : List RV) (E : Env) : Env :=
  ⟨(List.range cfg.np).map (shutP cfg.keep E) ++ [shutR E ts],(List.range cfg.np).map (fun i => E.ce.getD i none)⟩
def resOk (cfg : Cfg) (E : Env) : RV → Bool
  | .tm t => !cfg.keep t && !(E.sl.getD t .dead).isTup && (E.sl.getD t .dead).leaves1.all D.resLeaf && decide (t < E.sl.length)
  | .ce c ty => match E.sl.getD c .dead,cfg.tb ty,E.ce.getD c none with
    | .cref c' 0,some i,some ds => decide (c' = c) && decide (cfg.np ≤ c) && decide (ds.length = i.size) && i.k.isStruct && ds.all D.resLeaf && decide (c < E.sl.length)
    | _,_,_ => false
def shutOk (cfg : Cfg) (ts : List RV) (E : Env) : Bool :=
  distinct (ts.map fun r => (r.isC,r.n)) && ts.all (resOk cfg E) &&
  (List.range cfg.np).all fun i => match E.ce.getD i none with | some ds => ds.all D.resLeaf | none => true
def shutV1 (C : Ctx) : RV → Value
  | .tm t => C.a.tmps.getD t undef
  | .ce c _ => .agg ((List.range ((C.E.ce.getD c none).getD []).length).map fun j => (C.w.cell? ⟨(C.loc c).1,(C.loc c).2 + j,none⟩).getD undef).toArray
def shutV (C : Ctx) : List RV → Value
  | [t] => shutV1 C t
  | ts => .tuple (ts.map (shutV1 C)).toArray
def shutF (cfg : Cfg) (ts : List RV) (F : Lf → Nat → Prop) (p : Lf) (b : Nat) : Prop :=
  (p.c = false ∧ p.t < cfg.np ∧ cfg.keep p.t = true ∧ F p b) ∨ (p.c = true ∧ p.t < cfg.np ∧ F p b) ∨ (p.c = false ∧ p.t = cfg.np ∧ ∃ t : RV,ts[p.k / 64]? = some t ∧ F ⟨t.isC,t.n,p.k % 64⟩ b)
theorem resOk_t {cfg : Cfg} {E : Env} {t : Nat} (h : resOk cfg E (.tm t) = true) : ((cfg.keep t = false ∧ (E.sl.getD t .dead).isTup = false) ∧ ∀ x,x ∈ (E.sl.getD t .dead).leaves1 → x.resLeaf = true) ∧ t < E.sl.length := by
  simpa [resOk] using h
theorem resOk_c {cfg : Cfg} {E : Env} {c : Nat} {ty : TypeId} (h : resOk cfg E (.ce c ty) = true) : E.sl.getD c .dead = .cref c 0 ∧ c < E.sl.length ∧ cfg.np ≤ c ∧ ∃ i ds,cfg.tb ty = some i ∧ E.ce.getD c none = some ds ∧ ds.length = i.size ∧ i.k.isStruct = true ∧ ∀ x,x ∈ ds → x.resLeaf = true := by
  unfold resOk at h
  simp only at h
  split at h
  · rename_i c' i ds h1 h2 h3
    simp only [Bool.and_eq_true,decide_eq_true_eq,List.all_eq_true] at h
    obtain ⟨⟨⟨⟨⟨rfl,a2⟩,a3⟩,a4⟩,a5⟩,a6⟩ := h
    exact ⟨h1,a6,a2,i,ds,h2,h3,a3,a4,a5⟩
  · cases h
theorem Rel.shut {w0 : World} {L : Nat → Nat → Prop} {C : Ctx} (R : Rel w0 L C) {cfg : Cfg} (hT : TabOk C.P cfg.tb) {ts : List RV} (hok : shutOk cfg ts C.E = true) {args : Array Value} (hsz : args.size = cfg.np)
    (hk : ∀ t,cfg.keep t = true → C.a.tmps.getD t undef = args.getD t undef) :
    Rel w0 L { C with E := Fw.shut cfg ts C.E,a := { tmps := args.push (shutV C ts),defers := [] },F := shutF cfg ts C.F } := by
  simp only [shutOk,Bool.and_eq_true,List.all_eq_true] at hok
  obtain ⟨⟨o1,o2⟩,o3⟩ := hok
  have hF : ∀ p b,shutF cfg ts C.F p b → ∃ q,C.F q b := by
    rintro p b (⟨_,_,_,h⟩ | ⟨_,_,h⟩ | ⟨_,_,t,_,h⟩)
    · exact ⟨_,h⟩
    · exact ⟨_,h⟩
    · exact ⟨_,h⟩
  have hlive : ∀ t ds,({ C with E := Fw.shut cfg ts C.E,a := { tmps := args.push (shutV C ts),defers := [] },F := shutF cfg ts C.F } : Ctx).live t ds → t < cfg.np ∧ C.live t ds := by
    intro t ds h
    have h : ((List.range cfg.np).map (fun i => C.E.ce.getD i none))[t]? = some (some ds) := h
    rw [List.getElem?_map] at h
    by_cases ht : t < cfg.np
    · rw [List.getElem?_range ht] at h
      simp only [Option.map_some,Option.some.injEq] at h
      refine ⟨ht,?_⟩
      show C.E.ce[t]? = _
      rw [List.getD_eq_getElem?_getD] at h
      cases hx : C.E.ce[t]? with
      | none => rw [hx] at h; cases h
      | some y => rw [hx] at h; simp at h; rw [h]
    · rw [List.getElem?_eq_none (by simpa using ht)] at h; cases h
  have hRd : ∀ b,C.Rd b → ({ C with E := Fw.shut cfg ts C.E,a := { tmps := args.push (shutV C ts),defers := [] },F := shutF cfg ts C.F } : Ctx).Rd b := by
    rintro b ⟨h1,h2⟩
    refine ⟨?_,h2⟩
    rintro (⟨p,hp⟩ | ⟨t,ds,hl,hb⟩)
    · obtain ⟨q,hq⟩ := hF p b hp
      exact h1 (.inl ⟨q,hq⟩)
    · exact h1 (.inr ⟨t,ds,(hlive t ds hl).2,hb⟩)
  have go : ∀ p p' d v,LRel C p d v → d.resLeaf = true → d.leafy = true → one v = true → (∀ b,C.F p b → shutF cfg ts C.F p' b) → LRel { C with E := Fw.shut cfg ts C.E,a := { tmps := args.push (shutV C ts),defers := [] },F := shutF cfg ts C.F } p' d v := by
    intro p p' d v hv h1 h2 h3 h4
    refine RL.rel (C := { C with E := Fw.shut cfg ts C.E,a := { tmps := args.push (shutV C ts),defers := [] },F := shutF cfg ts C.F }) (hv.rl h1 h2 h3) (fun e xs b _ hb _ => hRd b hb) (fun e xs _ b hb => h4 b hb)
  have compOf : ∀ (j : Nat) (t : RV),ts[j]? = some t → (shutD C.E t).isTup = false ∧ CRel { C with E := Fw.shut cfg ts C.E,a := { tmps := args.push (shutV C ts),defers := [] },F := shutF cfg ts C.F } cfg.np (64 * j) (shutD C.E t) (shutV1 C t) := by
    intro j t hj
    have hFk : ∀ k b,k < 64 → C.F ⟨t.isC,t.n,k⟩ b → shutF cfg ts C.F ⟨false,cfg.np,64 * j + k⟩ b := by
      intro k b hk64 hb
      refine .inr (.inr ⟨rfl,rfl,t,?_,?_⟩)
      · show ts[(64 * j + k) / 64]? = some t
        rw [(mul_div64 j k hk64).1]; exact hj
      · show C.F ⟨t.isC,t.n,(64 * j + k) % 64⟩ b
        rw [(mul_div64 j k hk64).2]; exact hb
    have hr := o2 t (List.mem_of_getElem? hj)
    cases t with
    | tm t =>
      obtain ⟨⟨⟨q1,q2⟩,q3⟩,q4⟩ := resOk_t hr
      refine ⟨q2,?_⟩
      have hs := R.slot t (C.E.sl.getD t .dead) (by rw [List.getD_eq_getElem?_getD,List.getElem?_eq_getElem q4]; rfl)
      show CRel _ cfg.np (64 * j) (C.E.sl.getD t .dead) (C.a.tmps.getD t undef)
      generalize C.E.sl.getD t .dead = d at hs q2 q3
      generalize C.a.tmps.getD t undef = vv at hs
      cases hs with
      | tup => simp [D.isTup] at q2
      | comp _ _ _ hc =>
        cases hc with
        | dead => exact .dead _ _
        | agg ds xs hl h64 h =>
          refine .agg _ _ _ hl h64 fun i x hx => ?_
          obtain ⟨a1,a2,a3⟩ := h i x hx
          have hi : i < 64 := by have := (List.getElem?_eq_some_iff.1 hx).1; omega
          rw [Nat.zero_add] at a3
          exact ⟨a1,a2,go _ _ _ _ a3 (q3 x (List.mem_of_getElem? hx)) a1 a2 (fun b hb => hFk i b hi (show C.F ⟨false,t,i⟩ b from hb))⟩
        | leaf _ _ a b c =>
          have hr := q3 d (by rw [leafy_leaves1 a]; simp)
          exact .leaf _ _ _ a b (go _ _ _ _ c hr a b (fun b hb => by have := hFk 0 b (by omega) hb; simpa using this))
    | ce c ty =>
      obtain ⟨q1,q2,q3,i,ds,q4,q5,q6,q7,q8⟩ := resOk_c hr
      refine ⟨rfl,?_⟩
      have hl : C.live c ds := by
        show C.E.ce[c]? = _
        rw [List.getD_eq_getElem?_getD] at q5
        cases hx : C.E.ce[c]? with
        | none => rw [hx] at q5; cases q5
        | some y => rw [hx] at q5; simp at q5; rw [q5]
      obtain ⟨cs,e,fr,a1,a2,a3,a4⟩ := (R.cell c ds hl).out
      have e1 : shutD C.E (.ce c ty) = .agg ds := by show D.agg ((C.E.ce.getD c none).getD []) = _; rw [q5]; rfl
      have e5 : shutV1 C (.ce c ty) = .agg ((List.range ds.length).map fun j => (C.w.cell? ⟨(C.loc c).1,(C.loc c).2 + j,none⟩).getD undef).toArray := by
        show Value.agg ((List.range ((C.E.ce.getD c none).getD []).length).map _).toArray = _
        rw [q5]; rfl
      rw [e1,e5]
      have e2 : ∀ j,j < ds.length → (C.w.cell? ⟨(C.loc c).1,(C.loc c).2 + j,none⟩).getD undef = cs.getD ((C.loc c).2 + j) undef := by
        intro j hj
        rw [cell_of a1,getD_get? (by omega)]; rfl
      refine .agg _ _ _ (by simp) (by rw [q6]; exact (hT ty i q4).small) fun k d hd => ?_
      have hk' : k < ds.length := (List.getElem?_eq_some_iff.1 hd).1
      obtain ⟨b1,b2,b3⟩ := a4 k d hd
      have hk64 : k < 64 := by have := (hT ty i q4).small; omega
      have e3 : (((List.range ds.length).map fun j => (C.w.cell? ⟨(C.loc c).1,(C.loc c).2 + j,none⟩).getD undef).toArray).getD k undef = cs.getD ((C.loc c).2 + k) undef := by
        rw [arrGetD]
        simp only [List.getElem?_toArray,List.getElem?_map,List.getElem?_range hk',Option.map_some]
        exact e2 k hk'
      rw [e3]
      exact ⟨b1,b2,go _ _ _ _ b3 (q8 d (List.mem_of_getElem? hd)) b1 b2 (fun b hb => hFk k b hk64 hb)⟩
  refine ⟨by simp [Fw.shut,hsz],rfl,?_,?_,?_,?_,?_,?_,?_,?_,R.frame,R.mnew,R.mL,R.glob⟩
  · intro t d hd
    have hd : ((List.range cfg.np).map (shutP cfg.keep C.E) ++ [shutR C.E ts])[t]? = some d := hd
    show SRel _ t d ((args.push (shutV C ts)).getD t undef)
    by_cases ht : t < cfg.np
    · rw [List.getElem?_append_left (by simpa using ht),List.getElem?_map,List.getElem?_range ht] at hd
      simp only [Option.map_some,Option.some.injEq] at hd
      subst hd
      have ev : (args.push (shutV C ts)).getD t undef = args.getD t undef := by
        rw [arrGetD,arrGetD,Array.getElem?_push,if_neg (by omega)]
      rw [ev]
      unfold shutP
      cases hkt : cfg.keep t with
      | false => exact .comp _ _ rfl (.dead _ _)
      | true =>
        simp only [if_true]
        have hownL : ∀ (k : Nat) (x : D) (vx : Value),x.leafy = true → one vx = true → LRel C ⟨false,t,k⟩ x vx → (ownOnly x).leafy = true ∧ LRel { C with E := Fw.shut cfg ts C.E,a := { tmps := args.push (shutV C ts),defers := [] },F := shutF cfg ts C.F } ⟨false,t,k⟩ (ownOnly x) vx := by
          intro k x vx h1 h2 h3
          cases x with
          | own e xs =>
            refine ⟨rfl,?_⟩
            cases h3 with
            | own _ _ _ h => exact .own _ _ _ _ (h.mono (fun b hb => .inl ⟨rfl,ht,hkt,hb⟩) (fun _ _ _ => rfl))
          | _ => exact ⟨rfl,.dead _ _⟩
        have hlt2 : C.E.sl.getD t .dead ≠ .dead → C.E.sl[t]? = some (C.E.sl.getD t .dead) := by
          intro hne
          rw [List.getD_eq_getElem?_getD] at hne ⊢
          cases hx : C.E.sl[t]? with
          | none => rw [hx] at hne; exact absurd rfl hne
          | some y => rfl
        by_cases hdd : C.E.sl.getD t .dead = .dead
        · rw [hdd]; exact .comp _ _ rfl (.dead _ _)
        · have hs := R.slot t _ (hlt2 hdd)
          rw [hk t hkt] at hs
          generalize C.E.sl.getD t .dead = d at hs hdd
          generalize args.getD t undef = vv at hs
          cases hs with
          | tup => exact .comp _ _ rfl (.dead _ _)
          | comp _ _ hnt hc =>
            cases hc with
            | dead => exact .comp _ _ rfl (.dead _ _)
            | agg ds xs hl h64 h =>
              refine .comp _ _ rfl (.agg _ _ _ (by simpa using hl) (by simpa using h64) fun i x hx => ?_)
              rw [List.getElem?_map] at hx
              cases hy : ds[i]? with
              | none => rw [hy] at hx; simp at hx
              | some y =>
                rw [hy] at hx
                simp only [Option.map_some,Option.some.injEq] at hx
                subst hx
                obtain ⟨a1,a2,a3⟩ := h i y hy
                obtain ⟨b1,b2⟩ := hownL _ y _ a1 a2 a3
                exact ⟨b1,a2,b2⟩
            | leaf _ _ a b c =>
              obtain ⟨b1,b2⟩ := hownL _ d vv a b c
              cases d with
              | agg => simp [D.leafy] at a
              | tup => simp [D.leafy] at a
              | own e xs => exact .comp _ _ rfl (.leaf _ _ _ b1 b b2)
              | _ => exact .comp _ _ rfl (.dead _ _)
    · have hlt := (List.getElem?_eq_some_iff.1 hd).1
      simp at hlt
      have : t = cfg.np := by omega
      subst this
      rw [List.getElem?_append_right (by simp)] at hd
      simp at hd
      subst hd
      have ev : (args.push (shutV C ts)).getD cfg.np undef = shutV C ts := by
        rw [arrGetD,Array.getElem?_push,if_pos hsz.symm]; rfl
      rw [ev]
      have tupc : SRel { C with E := Fw.shut cfg ts C.E,a := { tmps := args.push (shutV C ts),defers := [] },F := shutF cfg ts C.F } cfg.np (.tup (ts.map (shutD C.E))) (.tuple (ts.map (shutV1 C)).toArray) := by
        refine .tup _ _ (by simp) fun i d hd => ?_
        rw [List.getElem?_map] at hd
        cases hx : ts[i]? with
        | none => rw [hx] at hd; simp at hd
        | some t =>
          rw [hx] at hd
          simp only [Option.map_some,Option.some.injEq] at hd
          subst hd
          have e : (ts.map (shutV1 C)).toArray.getD i undef = shutV1 C t := by
            rw [arrGetD]; simp [hx]
          rw [e]
          exact compOf i t hx
      match ts,tupc,compOf with
      | [],tupc,_ => exact tupc
      | [t],_,compOf => exact .comp _ _ (compOf 0 t rfl).1 (compOf 0 t rfl).2
      | _ :: _ :: _,tupc,_ => exact tupc
  · intro t ds hl
    obtain ⟨ht,hlc⟩ := hlive t ds hl
    obtain ⟨cs,e,fr,a1,a2,a3,a4⟩ := (R.cell t ds hlc).out
    refine ⟨cs,e,fr,a1,a2,a3,fun i d hd => ?_⟩
    obtain ⟨b1,b2,b3⟩ := a4 i d hd
    have hr := o3 t (List.mem_range.2 ht)
    rw [show C.E.ce.getD t none = some ds from getD_some hlc] at hr
    have hr : ds.all D.resLeaf = true := hr
    exact ⟨b1,b2,go _ _ _ _ b3 (List.all_eq_true.1 hr d (List.mem_of_getElem? hd)) b1 b2 (fun b hb => .inr (.inl ⟨rfl,ht,hb⟩))⟩
  · intro p q b h1 h2
    obtain ⟨pc,pt,pk⟩ := p
    obtain ⟨qc,qt,qk⟩ := q
    have res : ∀ (k k' : Nat) (t t' : RV),ts[k / 64]? = some t → ts[k' / 64]? = some t' → C.F ⟨t.isC,t.n,k % 64⟩ b → C.F ⟨t'.isC,t'.n,k' % 64⟩ b → k = k' := by
      intro k k' t t' h1 h2 g1 g2
      have := R.disj _ _ _ g1 g2
      injection this with e0 e1 e2
      have hnd := distinct_nodup o1
      have e3 : k / 64 = k' / 64 := by
        refine (List.getElem?_inj (l := ts.map fun r => (r.isC,r.n)) ?_ hnd).1 ?_
        · have := (List.getElem?_eq_some_iff.1 h1).1
          simpa using this
        · rw [List.getElem?_map,List.getElem?_map,h1,h2]
          simp [e0,e1]
      omega
    have resk : ∀ (k : Nat) (t : RV) (i j : Nat),ts[k / 64]? = some t → C.F ⟨t.isC,t.n,k % 64⟩ b → cfg.keep i = true → C.F ⟨false,i,j⟩ b → False := by
      intro k t i j h1 g1 hki g2
      have := R.disj _ _ _ g1 g2
      injection this with e0 e1 _
      have hr := o2 t (List.mem_of_getElem? h1)
      cases t with
      | tm t =>
        have e1 : t = i := e1
        subst e1
        have := (resOk_t hr).1.1.1
        rw [hki] at this; cases this
      | ce c ty => cases e0
    have resc : ∀ (k : Nat) (t : RV) (i j : Nat),ts[k / 64]? = some t → i < cfg.np → C.F ⟨t.isC,t.n,k % 64⟩ b → C.F ⟨true,i,j⟩ b → False := by
      intro k t i j h1 hi g1 g2
      have := R.disj _ _ _ g1 g2
      injection this with e0 e1 _
      have hr := o2 t (List.mem_of_getElem? h1)
      cases t with
      | tm t => cases e0
      | ce c ty =>
        have e1 : c = i := e1
        have := (resOk_c hr).2.2.1
        omega
    rcases h1 with ⟨a1,a2,a3,a4⟩ | ⟨a1,a2,a4⟩ | ⟨a1,a2,t,a3,a4⟩
    · rcases h2 with ⟨c1,c2,c3,c4⟩ | ⟨c1,c2,c4⟩ | ⟨c1,c2,t',c3,c4⟩
      · exact R.disj _ _ _ a4 c4
      · exact R.disj _ _ _ a4 c4
      · simp only at a1 a2 a3 a4 c1 c2 c3 c4; subst a1; exact (resk _ _ _ _ c3 c4 a3 a4).elim
    · rcases h2 with ⟨c1,c2,c3,c4⟩ | ⟨c1,c2,c4⟩ | ⟨c1,c2,t',c3,c4⟩
      · exact R.disj _ _ _ a4 c4
      · exact R.disj _ _ _ a4 c4
      · simp only at a1 a2 a4 c3; subst a1; exact (resc _ _ _ _ c3 a2 c4 a4).elim
    · rcases h2 with ⟨c1,c2,c3,c4⟩ | ⟨c1,c2,c4⟩ | ⟨c1,c2,t',c3,c4⟩
      · simp only at c1 c2 c3 c4; subst c1; exact (resk _ _ _ _ a3 a4 c3 c4).elim
      · simp only at c1 c2 c4 a3; subst c1; exact (resc _ _ _ _ a3 c2 a4 c4).elim
      · simp only at a1 a2 a3 a4 c1 c2 c3 c4
        have := res pk qk t t' a3 c3 a4 c4
        rw [a1,a2,c1,c2,this]
  · intro t ds t' ds' h1 h2 he
    exact R.cdisj t ds t' ds' (hlive _ _ h1).2 (hlive _ _ h2).2 he
  · intro t ds p h1 hp
    obtain ⟨q,hq⟩ := hF p _ hp
    exact R.fcd t ds q (hlive _ _ h1).2 hq
  · intro p b hp; obtain ⟨q,hq⟩ := hF p b hp; exact R.fbound q b hq
  · intro p b hp; obtain ⟨q,hq⟩ := hF p b hp; exact R.flent q b hq
  · intro t ds h1 hb i hi
    exact R.clent t ds (hlive _ _ h1).2 hb i hi
theorem run_loadVar_cells {P : Program} {w : World} {t : TypeId} {i : TI} (hT : TIok P t i) (hs : i.k.isStruct = true) {a : Addr} (cs : List Value) (hl : cs.length = i.size) (hc : ∀ j v,cs[j]? = some v → w.cell? (a.add j) = some v) :
    (loadVar t a).run P w = .ok (.agg cs.toArray) w := by
  have hload := run_loadCells_list (P := P) w a cs hc
  have hz := hT.sizeOf w
  have hk := hT.k
  unfold KOk at hk
  split at hk <;> rename_i hik <;> try (rw [hik] at hs; cases hs)
  obtain ⟨fs,hu,_⟩ := hk
  have hagg : (isAgg t).run P w = .ok true w := by simp [isAgg,run_underlying hu]
  rw [← hl] at hz
  simp [loadVar,hagg,hz,hload]
theorem run_results {P : Program} {cfg : Cfg} {fn : Func} {ts : List RV} (h : fn.results = (ts.map RV.toR).toArray) {w0 : World} {L : Nat → Nat → Prop} {C : Ctx} (R : Rel w0 L C) (hP : C.P = P) (hT : TabOk P cfg.tb)
    (hok : ∀ t,t ∈ ts → resOk cfg C.E t = true) : (results fn C.a.tmps).run P C.w = .ok (shutV C ts) C.w := by
  have key : ∀ (l : List RV),(∀ t,t ∈ l → resOk cfg C.E t = true) → ((l.map RV.toR).mapM fun x => (match x with
      | .tmp t => pure (C.a.tmps.getD t undef)
      | .cell c t => do loadVar t (← asAddr (C.a.tmps.getD c undef)) : Go.Sem Value)).run P C.w = .ok (l.map (shutV1 C)) C.w := by
    intro l hl
    induction l with
    | nil => rfl
    | cons t l ih =>
      have ih := ih (fun x hx => hl x (List.mem_cons_of_mem _ hx))
      have h0 := hl t List.mem_cons_self
      have h1 : ((match RV.toR t with
        | .tmp t => pure (C.a.tmps.getD t undef)
        | .cell c t => do loadVar t (← asAddr (C.a.tmps.getD c undef)) : Go.Sem Value)).run P C.w = .ok (shutV1 C t) C.w := by
        cases t with
        | tm t => rfl
        | ce c ty =>
          obtain ⟨q1,q2,q3,i,ds,q4,q5,q6,q7,q8⟩ := resOk_c h0
          have hl : C.live c ds := by
            show C.E.ce[c]? = _
            rw [List.getD_eq_getElem?_getD] at q5
            cases hx : C.E.ce[c]? with
            | none => rw [hx] at q5; cases q5
            | some y => rw [hx] at q5; simp at q5; rw [q5]
          obtain ⟨cs,e,fr,a1,a2,a3,a4⟩ := (R.cell c ds hl).out
          have hs := R.slot c (.cref c 0) (by rw [← q1,List.getD_eq_getElem?_getD,List.getElem?_eq_getElem q2]; rfl)
          have ev : C.a.tmps.getD c undef = .pointer (some ⟨(C.loc c).1,(C.loc c).2,none⟩) := by
            generalize C.a.tmps.getD c undef = vv at hs
            cases hs with
            | comp _ _ _ hc =>
              cases hc with
              | leaf _ _ a b c => cases c; rfl
          show (do loadVar ty (← asAddr (C.a.tmps.getD c undef)) : Go.Sem Value).run P C.w = _
          rw [ev]
          have e0 : ∀ j,j < ds.length → (C.w.cell? ⟨(C.loc c).1,(C.loc c).2 + j,none⟩) = some (cs.getD ((C.loc c).2 + j) undef) := by
            intro j hj
            rw [cell_of a1,getD_get? (by omega)]
          have hr := run_loadVar_cells (w := C.w) (hT ty i q4) q7 (a := ⟨(C.loc c).1,(C.loc c).2,none⟩) ((List.range ds.length).map fun j => (C.w.cell? ⟨(C.loc c).1,(C.loc c).2 + j,none⟩).getD undef) (by simp [q6]) (by
            intro j v hj
            rw [List.getElem?_map] at hj
            by_cases hlt : j < ds.length
            · rw [List.getElem?_range hlt] at hj
              simp only [Option.map_some,Option.some.injEq] at hj
              rw [add_plain,← hj,e0 j hlt]; rfl
            · rw [List.getElem?_eq_none (by simpa using hlt)] at hj; simp at hj)
          have e5 : shutV1 C (.ce c ty) = .agg ((List.range ds.length).map fun j => (C.w.cell? ⟨(C.loc c).1,(C.loc c).2 + j,none⟩).getD undef).toArray := by
            show Value.agg ((List.range ((C.E.ce.getD c none).getD []).length).map _).toArray = _
            rw [q5]; rfl
          rw [e5]
          simpa [asAddr] using hr
      simp only [List.map_cons,List.mapM_cons,Sem.run_bind,h1,Result.andThen_ok,ih,Sem.run_pure]
  unfold results
  rw [h]
  simp only [List.mapM_toArray,bind_pure_comp,Sem.run_map]
  refine (congrArg (fun r : Result (List Value) => ((r.andThen fun a w' => Result.ok a.toArray w').andThen fun a w' => Result.ok (if h : a.size = 1 then a[0] else Value.tuple a) w')) (key ts hok)).trans ?_
  match ts with
  | [] => rfl
  | [t] => rfl
  | t :: u :: r => simp [shutV]
theorem sem_intro {P : Program} {cfg : Cfg} {f : FuncId} {fn : Func} {c : Code} {ts : List RV} (hT : TabOk P cfg.tb) (hf : P.funcs[f]? = some fn) (hname : (fn.name == "runtime.NumGoroutine") = false) (hb : fn.body = some c)
    (hres : fn.results = (ts.map RV.toR).toArray) {Ein Eout : Env} (hnp : Ein.sl.length = cfg.np) (hkeep : ∀ t,cfg.keep t = true → t < cfg.np)
    (h : pwp P cfg c (Ein.pad (fn.ntmps - cfg.np)) fun e E => (e = .normal ∨ e = .ret) ∧ ∃ E',Wk E E' ∧ shutOk cfg ts E' = true ∧ shut cfg ts E' = Eout) : Sem P f Ein Eout := by
  intro w a F loc M R
  refine .inl ⟨by simp only [callFunc,Sem.run_bind,run_program,Result.andThen_ok,hf,hname,hb,Option.isNone_some,Bool.false_eq_true,if_false,Sem.run_pure],?_⟩
  have hsz : a.tmps.size = cfg.np := by have := R.tmps; rw [← hnp]; exact this
  have R1 := R.pad (fn.ntmps - cfg.np)
  refine calls_of_wp hf hb ?_
  rw [hsz]
  refine pwp_sound (op_ok hT) c _ _ _ R1 rfl h ?_
  rintro e C' R' hP' hl' hk' ⟨he,E',hw,hok,hE⟩
  obtain ⟨F2,R2⟩ := R'.weak' hw
  have hT2 : TabOk C'.P cfg.tb := by rw [show C'.P = P from hP']; exact hT
  have hres1 := run_results hres R2 hP' hT (fun t ht => by
    have hok2 := hok
    simp only [shutOk,Bool.and_eq_true,List.all_eq_true] at hok2
    exact hok2.1.2 t ht)
  have R3 := R2.shut hT2 hok (args := a.tmps) hsz (by
    intro t ht
    have := hk'.1 t ht
    show C'.a.tmps.getD t undef = _
    rw [this]
    exact arr_pad a.tmps _ t)
  have fin : C'.a.defers = [] ∧ ∃ v,(results fn C'.a.tmps).run P C'.w = .ok v C'.w ∧ (∃ v',Ending.returned v = .returned v' ∧ ∃ F' loc',(∀ t,t < Ein.sl.length → loc' t = loc t) ∧
      Rel w (lentOf Ein F loc) ⟨P,Eout,{ tmps := a.tmps.push v',defers := [] },C'.w,F',loc',M⟩) := by
    refine ⟨R'.defers,_,hres1,_,rfl,shutF cfg ts F2,C'.loc,fun t ht => hl' t (by rw [← hnp]; exact ht),?_⟩
    have hM : C'.M = M := hk'.2
    clear hres1 R2
    obtain ⟨P1,E1,a1,w1,F1,l1,M1⟩ := C'
    simp only at hP' hM R3 hE
    subst hP'; subst hM
    rw [hE] at R3
    exact R3
  rcases he with rfl | rfl
  · exact fin
  · exact fin
theorem set_push (a : Array Value) (r : Value) : (a ++ Array.replicate 1 undef).setIfInBounds a.size r = a.push r := by
  cases a with
  | mk l =>
    apply Array.ext'
    simp [List.set_append_right]
theorem sem_ext {P : Program} {f : FuncId} {fn : Func} {e : Array Value → Go.Sem Value} {xs : List Value} {r : Value} (hf : P.funcs[f]? = some fn) (hname : (fn.name == "runtime.NumGoroutine") = false)
    (hb : fn.body.isNone = true) (hn : Extern.findNext fn = none) (he : Extern.find fn = some e) (hx : ∀ w,(e xs.toArray).run P w = .ok r w) (hs : scal r = true) (hsx : xs.all scal = true) (ho : one r = true) {ce : List (Option (List D))} (hce : ce.length = xs.length) :
    Sem P f ⟨xs.map .v,ce⟩ ⟨xs.map .v ++ [.v r],ce ++ [none]⟩ := by
  intro w a F loc M R
  have hl : a.tmps.size = xs.length := by have := R.tmps; simpa using this
  have ha : a.tmps = xs.toArray := by
    apply Array.ext
    · simpa using hl
    · intro i h1 h2
      have hi : i < xs.length := by omega
      have hd : (xs.map D.v)[i]? = some (.v xs[i]) := by rw [List.getElem?_map,List.getElem?_eq_getElem hi]; rfl
      have := R.slot i _ hd
      have ev : a.tmps.getD i undef = a.tmps[i] := by simp [Array.getD,h1]
      have this : SRel _ i (.v xs[i]) (a.tmps.getD i undef) := this
      rw [ev] at this
      generalize a.tmps[i] = v0 at this
      generalize hx0 : xs[i] = x0 at this
      cases this with
      | comp _ _ _ hc => cases hc with | leaf _ _ _ _ c => cases c; simp [hx0]
  refine .inr ⟨r,w,?_,F,loc,fun _ _ => rfl,?_⟩
  · have hm := hx w
    rw [← ha] at hm
    simp only [callFunc,Sem.run_bind,run_program,Result.andThen_ok,hf,hname,hb,hn,he,Bool.false_eq_true,if_false,if_true,run_mark,bind_pure_comp,Sem.run_map,hm]
  · have R1 := R.pad 1
    have hlen : (xs.map D.v).length = xs.length := by simp
    have R2 := R1.put1 xs.length (.v r) r (by
      show ((xs.map D.v ++ List.replicate 1 D.dead).getD xs.length .dead).anyOwn = false
      rw [List.getD_eq_getElem?_getD,List.getElem?_append_right (by simp)]
      simp [D.anyOwn,D.comps,D.leaves1,D.isOwn]) (.comp _ _ rfl (.leaf _ _ _ rfl ho (.v _ _ hs)))
    have e1 : (xs.map D.v ++ List.replicate 1 D.dead).set xs.length (.v r) = xs.map D.v ++ [.v r] := by
      rw [List.set_append_right _ _ (by simp)]
      simp
    have e2 : (a.tmps ++ Array.replicate 1 undef).setIfInBounds xs.length r = a.tmps.push r := by
      rw [← hl]
      exact set_push a.tmps r
    have R3 : Rel w (lentOf ⟨xs.map .v,ce⟩ F loc) { P := P,E := ⟨(xs.map D.v ++ List.replicate 1 D.dead).set xs.length (.v r),ce ++ List.replicate 1 none⟩,a := { tmps := (a.tmps ++ Array.replicate 1 undef).setIfInBounds xs.length r,defers := [] },w := w,F := F,loc := loc,M := M } := R2
    rw [e1,e2] at R3
    exact R3
theorem sem_indexByteString {P : Program} {f : FuncId} {fn : Func} (hf : P.funcs[f]? = some fn) (hname : (fn.name == "runtime.NumGoroutine") = false)
    (hb : fn.body.isNone = true) (hn : Extern.findNext fn = none) (he : Extern.find fn = some Extern.BytealgIndexByte.indexByte) (l : List UInt8) (c : Int) (hl : l.length ≤ 9223372036854775807) :
    Sem P f ⟨[.v (vS l),.v (vC c)],[none,none]⟩ ⟨[.v (vS l),.v (vC c),.v (vI (Lib.indexByte l c.toNat.toUInt8))],[none,none,none]⟩ :=
  sem_ext (xs := [vS l,vC c]) hf hname hb hn he (fun w => Lib.run_indexByteString (ofL l) c w) rfl (by simp [scal,vS,vC]; exact hl) rfl rfl
theorem sem_calls {P : Program} {f : FuncId} {Ein : Env} {r : Value} (hent : ∀ args w,(callFunc f args).run P w = .ok (.enter f args) w) (hce : Ein.ce.length = Ein.sl.length) (hs : scal r = true) (ho : one r = true)
    (h : ∀ (w : World) (a : Act) (F : Lf → Nat → Prop) (loc : Nat → Nat × Nat) (M : Nat → Prop),Rel w (lentOf Ein F loc) ⟨P,Ein,a,w,F,loc,M⟩ → Calls P f a.tmps w fun e w' => e = .returned r ∧ RowKit.Below w.heap.size w w') :
    Sem P f Ein ⟨Ein.sl ++ [.v r],Ein.ce ++ [none]⟩ := by
  intro w a F loc M R
  refine .inl ⟨hent _ _,(h w a F loc M R).mono ?_⟩
  rintro e w' ⟨rfl,hb⟩
  refine ⟨r,rfl,F,loc,fun _ _ => rfl,?_⟩
  have hl : a.tmps.size = Ein.sl.length := R.tmps
  have R0 := R.drew (w' := w') ⟨hb.os,hb.tape,hb.output,hb.size,hb.block⟩
  have R1 := R0.pad 1
  have R2 := R1.put1 Ein.sl.length (.v r) r (by
    show ((Ein.sl ++ List.replicate 1 D.dead).getD Ein.sl.length .dead).anyOwn = false
    rw [List.getD_eq_getElem?_getD,List.getElem?_append_right (Nat.le_refl _)]
    simp [D.anyOwn,D.comps,D.leaves1,D.isOwn]) (.comp _ _ rfl (.leaf _ _ _ rfl ho (.v _ _ hs)))
  have e1 : (Ein.sl ++ List.replicate 1 D.dead).set Ein.sl.length (.v r) = Ein.sl ++ [.v r] := by
    rw [List.set_append_right _ _ (Nat.le_refl _)]
    simp
  have e2 : (a.tmps ++ Array.replicate 1 undef).setIfInBounds Ein.sl.length r = a.tmps.push r := by
    rw [← hl]
    exact set_push a.tmps r
  have R3 : Rel w (lentOf Ein F loc) { P := P,E := ⟨(Ein.sl ++ List.replicate 1 D.dead).set Ein.sl.length (.v r),Ein.ce ++ List.replicate 1 none⟩,a := { tmps := (a.tmps ++ Array.replicate 1 undef).setIfInBounds Ein.sl.length r,defers := [] },w := w',F := F,loc := loc,M := M } := R2
  rw [e1,e2] at R3
  exact R3
theorem strs_of {P : Program} {w : World} {S : Nat → Prop} {e : TypeId} {vs : List (List UInt8)} {v : Value} (he : P.cellsOf e = 1) (h : RdT P w S (.sl e (vs.map fun s => [T.v (vS s)])) v) :
    (vs = [] ∧ ∃ base cap,v = .slice base 0 cap) ∨ ∃ b o cap,v = .slice (some ⟨b,o,none⟩) (vs.map ofL).length cap ∧ b < w.heap.size ∧ (vs.map ofL).length ≤ cap ∧ ∀ (j : Nat) x,(vs.map ofL)[j]? = some x → w.cell? ⟨b,o + j,none⟩ = some (.string x) := by
  generalize hx : vs.map (fun s => [T.v (vS s)]) = xs at h
  cases h with
  | emp _ base cap hc =>
    left
    refine ⟨?_,base,cap,rfl⟩
    cases vs with
    | nil => rfl
    | cons => simp at hx
  | row _ _ b o cap cs ce fr X h1 h2 h3 h4 h5 h6 h7 h8 =>
    right
    have hlen : (vs.map ofL).length = xs.length := by rw [← hx]; simp
    refine ⟨b,o,cap,by rw [hlen],(Array.getElem?_eq_some_iff.1 h1).1,by rw [hlen]; exact h3,fun j x hj => ?_⟩
    rw [List.getElem?_map] at hj
    cases hv : vs[j]? with
    | none => rw [hv] at hj; simp at hj
    | some s =>
      rw [hv] at hj
      simp only [Option.map_some,Option.some.injEq] at hj
      subst hj
      have hg : T.get? xs j 0 = some (.v (vS s)) := by
        unfold T.get?
        rw [← hx,List.getElem?_map,hv]; rfl
      have a1 := h6 j 0 _ hg
      have a2 := h7 j 0 _ hg
      rw [he,Nat.mul_one,Nat.add_zero] at a1
      have e : X j 0 = vS s := by
        generalize X j 0 = y at a2
        cases a2; rfl
      rw [cell_of h1,a1,e]
theorem slot_of {P : Program} {Ein : Env} {a : Act} {w w0 : World} {F : Lf → Nat → Prop} {loc : Nat → Nat × Nat} {M : Nat → Prop} {L : Nat → Nat → Prop} (R : Rel w0 L ⟨P,Ein,a,w,F,loc,M⟩) {i : Nat} {d : D} (h : Ein.sl[i]? = some d) (hd : d.leafy = true) (hn : d ≠ .dead) :
    LRel ⟨P,Ein,a,w,F,loc,M⟩ ⟨false,i,0⟩ d (a.tmps.getD i undef) := by
  have := R.slot i d h
  have this : SRel _ i d (a.tmps.getD i undef) := this
  generalize a.tmps.getD i undef = v at this
  cases this with
  | tup => simp [D.leafy] at hd
  | comp _ _ _ hc =>
    cases hc with
    | dead => exact absurd rfl hn
    | agg => simp [D.leafy] at hd
    | leaf _ _ a b c => exact c
def C0 (P : Program) (E : Env) (args : Array Value) (w : World) : Ctx := { P,E,a := { tmps := args,defers := [] },w,F := fun _ _ => False,loc := fun _ => (0,0),M := fun _ => True }
theorem GlobOk.same {P : Program} {w w' : World} (h : GlobOk P w) (hw : ∀ b,b < w.heap.size → w'.heap[b]? = w.heap[b]?) : GlobOk P w' := by
  refine ⟨?_,?_⟩
  · intro x hx hn
    have := h.1 x hx hn
    unfold Lib.TabIs World.var? at this ⊢
    cases hg : P.globalNamed (tabName x.1) with
    | none => exact absurd hg hn
    | some g =>
      rw [hg] at this
      simp only [Option.bind_some] at this ⊢
      have hlt : g < w.heap.size := by
        rcases Nat.lt_or_ge g w.heap.size with h | h
        · exact h
        · rw [Array.getElem?_eq_none h] at this; cases this
      rw [hw g hlt]
      exact this
  · intro x hx g hg
    obtain ⟨v,hv,hp⟩ := h.2 x hx g hg
    refine ⟨v,?_,hp⟩
    have hlt : g < w.heap.size := by
      rcases Nat.lt_or_ge g w.heap.size with h | h
      · exact h
      · unfold World.cell? at hv
        simp only [Array.getElem?_eq_none h] at hv
        cases hv
    unfold World.cell? at hv ⊢
    simp only [hw g hlt]
    exact hv
theorem glob_start {P : Program} {w : World} {L : Nat → Nat → Prop} (h : GlobOk P w) (hL : ∀ b o,¬ L b o) : Glob P w L :=
  ⟨w.heap.size,Nat.le_refl _,fun b o hl => absurd hl (hL b o),fun _ hw => h.same hw⟩
theorem Rel.start {P : Program} {ds : List D} {args : Array Value} {w : World} (hl : args.size = ds.length) (h : ∀ (i : Nat) (d : D),ds[i]? = some d → SRel (C0 P ⟨ds,List.replicate ds.length none⟩ args w) i d (args.getD i undef)) (hg : GlobOk P w) :
    Rel w (lentOf ⟨ds,List.replicate ds.length none⟩ (fun _ _ => False) (fun _ => (0,0))) (C0 P ⟨ds,List.replicate ds.length none⟩ args w) := by
  have hnl : ∀ t ds',¬ (C0 P ⟨ds,List.replicate ds.length none⟩ args w).live t ds' := by
    intro t ds' h
    have h : (List.replicate ds.length none)[t]? = some (some ds') := h
    rw [List.getElem?_replicate] at h
    split at h <;> simp at h
  refine ⟨hl,rfl,h,fun t ds' hl => absurd hl (hnl t ds'),fun _ _ _ h => h.elim,fun _ _ _ _ h => absurd h (hnl _ _),fun _ _ _ _ h => h.elim,fun _ _ h => h.elim,fun _ _ h => h.elim,
    fun _ _ h => absurd h (hnl _ _),⟨rfl,rfl,rfl,Nat.le_refl _,fun _ _ _ => rfl,fun b cs e fr h => ⟨cs,h,rfl,fun _ _ => rfl⟩⟩,fun _ _ => trivial,fun _ _ _ => trivial,glob_start hg fun b o => ?_⟩
  rintro (⟨p,hp⟩ | ⟨t,ds',h,_⟩)
  · exact hp
  · exact hnl t ds' h
theorem rd_imm {P : Program} {E : Env} {args : Array Value} {w : World} {e : TypeId} {xs : List (List T)} {v : Value} {p : Lf} (hE : ∀ (t : Nat) (ds : List D),E.ce[t]? ≠ some (some ds)) (h : RdT P w (fun _ => True) (.sl e xs) v) : LRel (C0 P E args w) p (.imm e xs) v := by
  refine .imm _ _ _ _ (h.mono fun b _ hb => ⟨⟨?_,trivial⟩,rfl⟩)
  rintro (⟨p,hp⟩ | ⟨t,ds,hl,_⟩)
  · exact hp
  · exact hE t ds hl
theorem calls_of_sem {P : Program} {f : FuncId} {ds : List D} {args : Array Value} {w : World} {Eout : Env} {r : Value} (hs : Sem P f ⟨ds,List.replicate ds.length none⟩ Eout) (hent : ∀ args w,(callFunc f args).run P w = .ok (.enter f args) w) (hg : GlobOk P w)
    (hl : args.size = ds.length) (h : ∀ (i : Nat) (d : D),ds[i]? = some d → SRel (C0 P ⟨ds,List.replicate ds.length none⟩ args w) i d (args.getD i undef)) (hr : Eout.sl[ds.length]? = some (.v r)) :
    Calls P f args w fun e w' => e = .returned r ∧ RowKit.Below w.heap.size w w' := by
  have := hs w { tmps := args,defers := [] } (fun _ _ => False) (fun _ => (0,0)) (fun _ => True) (Rel.start hl h hg)
  rcases this with ⟨_,hc⟩ | ⟨v,w',hx,_⟩
  · refine Calls.mono hc ?_
    rintro e w' ⟨v,rfl,F',loc',hloc,R⟩
    have hnl : ∀ b o,¬ lentOf ⟨ds,List.replicate ds.length none⟩ (fun _ _ => False) (fun _ => (0,0)) b o := by
      rintro b o (⟨p,hp⟩ | ⟨t,ds',h,_⟩)
      · exact hp
      · have h : (List.replicate ds.length none)[t]? = some (some ds') := h
        rw [List.getElem?_replicate] at h
        split at h <;> simp at h
    refine ⟨?_,R.frame.os,R.frame.tape,R.frame.output,R.frame.size,fun b hb => R.frame.kept b hb (hnl b)⟩
    have hv := R.slot _ _ hr
    have ev : ({ tmps := args.push v,defers := [] } : Act).tmps.getD ds.length undef = v := by
      show (args.push v).getD ds.length undef = v
      rw [← hl,arrGetD]; simp
    have hv : SRel _ ds.length (.v r) (({ tmps := args.push v,defers := [] } : Act).tmps.getD ds.length undef) := hv
    rw [ev] at hv
    cases hv with
    | comp _ _ _ hc => cases hc with | leaf _ _ a b c => cases c; rfl
  · rw [hent] at hx; cases hx
inductive Sh where
  | int (k : IntKind)
  | bool
  | str
  | sl (e : TypeId) (fs : List Sh)
def Sh.isSl : Sh → Bool | .sl _ _ => true | _ => false
inductive ShT (P : Program) : TypeId → List Sh → Prop
  | int (t : TypeId) (k : IntKind) : P.underlying t = some (.int k) → P.cellsOf t = 1 → ShT P t [.int k]
  | bool (t : TypeId) : P.underlying t = some .bool → P.cellsOf t = 1 → ShT P t [.bool]
  | str (t : TypeId) : P.underlying t = some .string → P.cellsOf t = 1 → ShT P t [.str]
  | slice (t e : TypeId) (fs : List Sh) : P.underlying t = some (.slice e) → P.cellsOf t = 1 → 0 < fs.length → (flatP P e = true → fs.all (fun s => !s.isSl) = true) → ShT P e fs → ShT P t [.sl e fs]
  | struct (t : TypeId) (fs : Array Field) (shs : List (List Sh)) : P.underlying t = some (.struct fs) → P.cellsOf t = shs.flatten.length → shs.length = fs.size →
      (∀ (i : Nat) (f : Field) (s : List Sh),fs[i]? = some f → shs[i]? = some s → f.offset = (shs.take i).flatten.length ∧ P.cellsOf f.type = s.length) →
      (∀ (i : Nat) (f : Field) (s : List Sh),fs[i]? = some f → shs[i]? = some s → ShT P f.type s) → ShT P t shs.flatten
inductive WT : Sh → T → Prop
  | int (k : IntKind) (n : Int) : (Lit.int k n).wf = true → WT (.int k) (.v (.int k n))
  | bool (b : Bool) : WT .bool (.v (.bool b))
  | str (s : ByteArray) : s.size ≤ maxLen → WT .str (.v (.string s))
  | sl (e : TypeId) (fs : List Sh) (xs : List (List T)) : xs.length ≤ maxLen → (∀ (i : Nat) (r : List T),xs[i]? = some r → r.length = fs.length) →
      (∀ (i j : Nat) (r : List T) (f : Sh) (t : T),xs[i]? = some r → fs[j]? = some f → r[j]? = some t → WT f t) → WT (.sl e fs) (.sl e xs)
def WTs (fs : List Sh) (r : List T) : Prop := r.length = fs.length ∧ ∀ (j : Nat) (f : Sh) (t : T),fs[j]? = some f → r[j]? = some t → WT f t
theorem WTs.cons {f : Sh} {fs : List Sh} {r : List T} (h : WTs (f :: fs) r) : ∃ t r',r = t :: r' ∧ WT f t ∧ WTs fs r' := by
  obtain ⟨h1,h2⟩ := h
  cases r with
  | nil => simp at h1
  | cons t r' => exact ⟨t,r',rfl,h2 0 f t rfl rfl,by simpa using h1,fun j f t hf ht => h2 (j + 1) f t hf ht⟩
theorem WTs.nil {r : List T} (h : WTs [] r) : r = [] := List.eq_nil_of_length_eq_zero h.1
theorem WT.int_inv {k : IntKind} {t : T} (h : WT (.int k) t) : ∃ n,t = .v (.int k n) ∧ (Lit.int k n).wf = true := by cases h; exact ⟨_,rfl,by assumption⟩
theorem WT.bool_inv {t : T} (h : WT .bool t) : ∃ b,t = .v (.bool b) := by cases h; exact ⟨_,rfl⟩
theorem WT.str_inv {t : T} (h : WT .str t) : ∃ l,t = .v (vS l) ∧ l.length ≤ 9223372036854775807 := by
  cases h with
  | str s h => exact ⟨toL s,rfl,h⟩
theorem WT.sl_inv {e : TypeId} {fs : List Sh} {t : T} (h : WT (.sl e fs) t) : ∃ xs,t = .sl e xs ∧ xs.length ≤ 9223372036854775807 ∧ ∀ r,r ∈ xs → WTs fs r := by
  cases h with
  | sl _ _ xs h1 h2 h3 =>
    refine ⟨xs,rfl,h1,fun r hr => ?_⟩
    obtain ⟨i,hi,rfl⟩ := List.mem_iff_getElem.1 hr
    have := List.getElem?_eq_getElem hi
    exact ⟨h2 i _ this,fun j f t hf ht => h3 i j _ f t this hf ht⟩
def CRd (P : Program) (w : World) (fs : List Sh) (cs : List Value) (r : List T) : Prop :=
  cs.length = fs.length ∧ WTs fs r ∧ ∀ (j : Nat) (t : T),r[j]? = some t → ∃ v,cs[j]? = some v ∧ one v = true ∧ RdT P w (fun _ => True) t v
theorem crd1 {P : Program} {w : World} {f : Sh} {v : Value} {t : T} (h1 : WT f t) (h2 : one v = true) (h3 : RdT P w (fun _ => True) t v) : CRd P w [f] [v] [t] := by
  refine ⟨rfl,⟨rfl,fun j g s hg hs => ?_⟩,fun j s hs => ?_⟩
  · match j,hg,hs with
    | 0,hg,hs => injection hg with hg; injection hs with hs; subst hg; subst hs; exact h1
  · match j,hs with
    | 0,hs => injection hs with hs; subst hs; exact ⟨v,rfl,h2,h3⟩
theorem chooseL {α : Type} [Inhabited α] {n : Nat} {p : Nat → α → Prop} (h : ∀ i,i < n → ∃ x,p i x) : ∃ l : List α,l.length = n ∧ ∀ (i : Nat) (x : α),l[i]? = some x → p i x := by
  induction n with
  | zero => exact ⟨[],rfl,fun i x hx => by simp at hx⟩
  | succ n ih =>
    obtain ⟨l,h1,h2⟩ := ih fun i hi => h i (by omega)
    obtain ⟨x,hx⟩ := h n (by omega)
    refine ⟨l ++ [x],by simp [h1],fun i y hy => ?_⟩
    by_cases hi : i < l.length
    · rw [List.getElem?_append_left hi] at hy; exact h2 i y hy
    · rw [List.getElem?_append_right (by omega)] at hy
      have : i - l.length = 0 := by
        by_cases hz : i - l.length = 0
        · exact hz
        · rw [List.getElem?_eq_none (by simp; omega)] at hy; cases hy
      rw [this] at hy
      injection hy with hy; subst hy
      have : i = n := by omega
      subst this; exact hx
theorem flat_get {α : Type} : ∀ (ls : List (List α)) (k : Nat) (x : α),ls.flatten[k]? = some x → ∃ (i j : Nat) (l : List α),ls[i]? = some l ∧ l[j]? = some x ∧ k = (ls.take i).flatten.length + j
  | [],k,x,h => by simp at h
  | l :: ls,k,x,h => by
    rw [List.flatten_cons] at h
    by_cases hk : k < l.length
    · rw [List.getElem?_append_left hk] at h
      exact ⟨0,k,l,rfl,h,by simp⟩
    · rw [List.getElem?_append_right (by omega)] at h
      obtain ⟨i,j,l',h1,h2,h3⟩ := flat_get ls (k - l.length) x h
      exact ⟨i + 1,j,l',h1,h2,by rw [List.take_succ_cons,List.flatten_cons,List.length_append]; omega⟩
theorem flat_at {α : Type} : ∀ (ls : List (List α)) (i j : Nat) (l : List α) (x : α),ls[i]? = some l → l[j]? = some x → ls.flatten[(ls.take i).flatten.length + j]? = some x
  | [],i,j,l,x,h,_ => by simp at h
  | m :: ls,0,j,l,x,h,hx => by
    injection h with h; subst h
    rw [List.flatten_cons]
    have : j < m.length := (List.getElem?_eq_some_iff.1 hx).1
    simp only [List.take_zero,List.flatten_nil,List.length_nil,Nat.zero_add]
    rw [List.getElem?_append_left this]; exact hx
  | m :: ls,i + 1,j,l,x,h,hx => by
    rw [List.flatten_cons,List.take_succ_cons,List.flatten_cons,List.length_append,Nat.add_assoc,List.getElem?_append_right (by omega),Nat.add_sub_cancel_left]
    exact flat_at ls i j l x h hx
theorem take_len_eq {α β : Type} : ∀ (a : List (List α)) (b : List (List β)) (n : Nat),a.length = b.length → (∀ (i : Nat) (x : List α) (y : List β),a[i]? = some x → b[i]? = some y → x.length = y.length) → (a.take n).flatten.length = (b.take n).flatten.length
  | [],[],n,_,_ => by simp
  | [],_ :: _,n,h,_ => by simp at h
  | _ :: _,[],n,h,_ => by simp at h
  | x :: a,y :: b,0,_,_ => by simp
  | x :: a,y :: b,n + 1,h,h2 => by
    simp only [List.take_succ_cons,List.flatten_cons,List.length_append]
    rw [h2 0 x y rfl rfl,take_len_eq a b n (by simpa using h) fun i x y hx hy => h2 (i + 1) x y hx hy]
theorem read_trod {H : Type} {enc : TypeId × Value → H} {P : Program} {w : World} {base : Nat} {spare : Nat → Bool} {held : Bool} {t : TypeId} {fs : List Sh} (hs : ShT P t fs) :
    ∀ {fuel : Nat} {cs : List Value} {x : DataW H × List MemPlace},DataW.trod enc P w base spare held fuel t cs = some x → ∃ r,CRd P w fs cs r := by
  induction hs with
  | int t k hu hc =>
    intro fuel cs x h
    obtain ⟨n,rfl,_,hw⟩ := DataW.trod_int hu h
    exact ⟨[.v (.int k n)],crd1 (.int k n hw) rfl (.v _ rfl)⟩
  | bool t hu hc =>
    intro fuel cs x h
    obtain ⟨b,rfl,_⟩ := DataW.trod_bool hu h
    exact ⟨[.v (.bool b)],crd1 (.bool b) rfl (.v _ rfl)⟩
  | str t hu hc =>
    intro fuel cs x h
    obtain ⟨s,rfl,_,hw⟩ := DataW.trod_string hu h
    exact ⟨[.v (.string s)],crd1 (.str s hw) rfl (.v _ (by simp only [scal,decide_eq_true_eq]; unfold maxLen at hw; omega))⟩
  | slice t e fs hu hc hpos hfl hsh ih =>
    intro fuel cs x h
    rcases Deep.open_slice hu h with ⟨rfl,_⟩ | ⟨a,len,cap,m,n,D,Pl,rfl,hb,hlc,hcm,hm,_,hx⟩
    · exact ⟨[.sl e []],crd1 (.sl e fs [] (by simp) (fun i r h => by simp at h) (fun i j r f t h => by simp at h)) rfl (.emp e none 0 (by omega))⟩
    · have hcap : cap ≤ 9223372036854775807 := by unfold maxLen at hcm; omega
      by_cases h0 : len = 0
      · subst h0
        exact ⟨[.sl e []],crd1 (.sl e fs [] (by simp) (fun i r h => by simp at h) (fun i j r f t h => by simp at h)) rfl (.emp e (some a) cap hcap)⟩
      · have hrow : ∀ i,i < len → ∃ r : List T,∃ cs',w.cells? base (a.add (i * P.cellsOf e)) (P.cellsOf e) = some cs' ∧ CRd P w fs cs' r := by
          intro i hi
          obtain ⟨cs',h1,h2⟩ := hx i (by rw [hm]; split <;> omega)
          obtain ⟨r,hr⟩ := ih h2
          exact ⟨r,cs',h1,hr⟩
        obtain ⟨xs,hxl,hxs⟩ := chooseL hrow
        subst hxl
        have hsz : P.cellsOf e = fs.length := by
          obtain ⟨r,cs',h1,h2⟩ := hrow 0 (by omega)
          have := (World.cells?_some h1).2.1
          rw [← this,h2.1]
        have hfst : ∃ v,w.cell? a = some v := by
          obtain ⟨r,cs',h1,h2⟩ := hrow 0 (by omega)
          obtain ⟨_,g1,g2⟩ := World.cells?_some h1
          have := g2 0 (by omega)
          have e0 : (a.add (0 * P.cellsOf e)).add 0 = a := by simp [Addr.add]
          rw [e0] at this
          rw [this]
          exact ⟨_,List.getElem?_eq_getElem (by omega)⟩
        obtain ⟨v0,hv0⟩ := hfst
        have hspot := World.cell?_spot hv0
        obtain ⟨b,o,sp⟩ := a
        have hspot : sp = none := hspot
        subst hspot
        have hblk : ∃ ca ce fr,w.heap[b]? = some (.cells ca ce fr) := by
          unfold World.cell? at hv0
          split at hv0
          · rename_i ca ce fr hh
            exact ⟨ca,ce,fr,hh⟩
          · cases hv0
        obtain ⟨ca,ce,fr,hblk⟩ := hblk
        have hcell : ∀ (i j : Nat) (t : T),T.get? xs i j = some t → ∃ v,ca[o + i * P.cellsOf e + j]? = some v ∧ RdT P w (fun _ => True) t v := by
          intro i j t ht
          obtain ⟨r,hr,hj⟩ : ∃ r,xs[i]? = some r ∧ r[j]? = some t := by
            unfold T.get? at ht
            cases hh : xs[i]? with
            | none => rw [hh] at ht; cases ht
            | some r => rw [hh] at ht; exact ⟨r,rfl,ht⟩
          obtain ⟨cs',g1,g2⟩ := hxs i r hr
          obtain ⟨v,hv,_,hrd⟩ := g2.2.2 j t hj
          refine ⟨v,?_,hrd⟩
          have hjl : j < cs'.length := (List.getElem?_eq_some_iff.1 hv).1
          obtain ⟨_,k1,k2⟩ := World.cells?_some g1
          have := k2 j (by omega)
          rw [hv] at this
          have e1 : ((⟨b,o,none⟩ : Addr).add (i * P.cellsOf e)).add j = ⟨b,o + i * P.cellsOf e + j,none⟩ := by rw [add_plain,add_plain]
          rw [e1,cell_of hblk] at this
          exact this
        have hval : ∀ i j,∃ v,∀ t,T.get? xs i j = some t → ca[o + i * P.cellsOf e + j]? = some v ∧ RdT P w (fun _ => True) t v := by
          intro i j
          cases hh : T.get? xs i j with
          | none => exact ⟨undef,fun t ht => by cases ht⟩
          | some t =>
            obtain ⟨v,hv⟩ := hcell i j t hh
            exact ⟨v,fun s hs => by injection hs with hs; subst hs; exact hv⟩
        refine ⟨[.sl e xs],crd1 (.sl e fs xs (by unfold maxLen at hcm ⊢; omega) (fun i r hr => ?_) (fun i j r f t hr hf ht => ?_)) rfl
          (.row e xs b o cap ca ce fr (fun i j => (hval i j).choose) hblk trivial hlc hcap (fun i r hr => ?_) (fun i j t ht => ((hval i j).choose_spec t ht).1) (fun i j t ht => ((hval i j).choose_spec t ht).2) ?_)⟩
        · obtain ⟨cs',_,g⟩ := hxs i r hr; exact g.2.1.1
        · obtain ⟨cs',_,g⟩ := hxs i r hr; exact g.2.1.2 j f t hf ht
        · obtain ⟨cs',_,g⟩ := hxs i r hr; rw [hsz]; exact g.2.1.1
        · intro hf i j t ht
          obtain ⟨r,hr,hj⟩ : ∃ r,xs[i]? = some r ∧ r[j]? = some t := by
            unfold T.get? at ht
            cases hh : xs[i]? with
            | none => rw [hh] at ht; cases ht
            | some r => rw [hh] at ht; exact ⟨r,rfl,ht⟩
          obtain ⟨cs',_,g⟩ := hxs i r hr
          have hjl : j < fs.length := by have := (List.getElem?_eq_some_iff.1 hj).1; rw [g.2.1.1] at this; exact this
          have hw := g.2.1.2 j _ t (List.getElem?_eq_getElem hjl) hj
          have hns := List.all_eq_true.1 (hfl hf) _ (List.getElem_mem hjl)
          generalize fs[j] = f at hw hns
          cases hw <;> first | rfl | simp [Sh.isSl] at hns
  | struct t fa shs hu hc hl hoff hsh ih =>
    intro fuel cs x h
    obtain ⟨xs,n,_,_,hcl,hxl,hf⟩ := DataW.trod_struct hu h
    have hrow : ∀ i,i < shs.length → ∃ r : List T,∃ s f,shs[i]? = some s ∧ fa[i]? = some f ∧ CRd P w s ((cs.drop f.offset).take (P.cellsOf f.type)) r := by
      intro i hi
      have h1 := List.getElem?_eq_getElem hi
      have h2 : fa[i]? = some fa[i] := Array.getElem?_eq_getElem (by omega)
      have h3 := hf i _ h2
      rw [List.getElem?_eq_getElem (by omega)] at h3
      obtain ⟨r,hr⟩ := ih i _ _ h2 h1 h3
      exact ⟨r,_,_,h1,h2,hr⟩
    obtain ⟨rs,hrl,hrs⟩ := chooseL hrow
    have hlen : ∀ (i : Nat) (x : List T) (y : List Sh),rs[i]? = some x → shs[i]? = some y → x.length = y.length := by
      intro i x y hx hy
      obtain ⟨s,f,g1,g2,g3⟩ := hrs i x hx
      rw [hy] at g1; injection g1 with g1; subst g1
      exact g3.2.1.1
    have hall : rs.flatten.length = shs.flatten.length := by
      have := take_len_eq rs shs rs.length hrl hlen
      rw [List.take_length,hrl,List.take_length] at this
      exact this
    refine ⟨rs.flatten,by rw [hcl,hc],⟨hall,fun j f t hj ht => ?_⟩,fun j t ht => ?_⟩
    · obtain ⟨i,k,r,g1,g2,g3⟩ := flat_get rs j t ht
      obtain ⟨s,fd,k1,k2,k3⟩ := hrs i r g1
      have hks : k < s.length := by have := (List.getElem?_eq_some_iff.1 g2).1; rw [k3.2.1.1] at this; exact this
      have := flat_at shs i k s _ k1 (List.getElem?_eq_getElem hks)
      rw [← take_len_eq rs shs i hrl hlen,← g3,hj] at this
      injection this with this
      rw [this]
      exact k3.2.1.2 k _ t (List.getElem?_eq_getElem hks) g2
    · obtain ⟨i,k,r,g1,g2,g3⟩ := flat_get rs j t ht
      obtain ⟨s,fd,k1,k2,k3⟩ := hrs i r g1
      obtain ⟨v,hv,hv1,hv2⟩ := k3.2.2 k t g2
      refine ⟨v,?_,hv1,hv2⟩
      obtain ⟨o1,o2⟩ := hoff i fd s k2 k1
      have hkl : k < P.cellsOf fd.type := by
        have := (List.getElem?_eq_some_iff.1 hv).1
        simp at this; omega
      rw [List.getElem?_take_of_lt hkl,List.getElem?_drop,o1,← take_len_eq rs shs i hrl hlen,← g3] at hv
      exact hv
def bnd {α : Type} (d : D) (k : D → Rdr α) : Rdr α := k d
theorem bnd_v {α : Type} {x : Value} {k : D → Rdr α} : bnd (.v x) k = k (.v x) := id rfl
theorem bnd_dead {α : Type} {k : D → Rdr α} : bnd .dead k = k .dead := id rfl
theorem bnd_nil {α : Type} {k : D → Rdr α} : bnd .nil k = k .nil := id rfl
theorem bnd_own {α : Type} {e : TypeId} {xs : List (List T)} {k : D → Rdr α} : bnd (.own e xs) k = k (.own e xs) := id rfl
theorem bnd_imm {α : Type} {e : TypeId} {xs : List (List T)} {k : D → Rdr α} : bnd (.imm e xs) k = k (.imm e xs) := id rfl
theorem bnd_ali {α : Type} {p : Lf} {k : D → Rdr α} : bnd (.ali p) k = k (.ali p) := id rfl
theorem bnd_sub {α : Type} {p : Lf} {a b : Nat} {k : D → Rdr α} : bnd (.sub p a b) k = k (.sub p a b) := id rfl
theorem bnd_ela {α : Type} {p : Lf} {a b : Nat} {k : D → Rdr α} : bnd (.ela p a b) k = k (.ela p a b) := id rfl
theorem bnd_cref {α : Type} {a b : Nat} {k : D → Rdr α} : bnd (.cref a b) k = k (.cref a b) := id rfl
theorem bnd_eref {α : Type} {p : Lf} {a b : Nat} {k : D → Rdr α} : bnd (.eref p a b) k = k (.eref p a b) := id rfl
theorem bnd_rptr {α : Type} {ds : List D} {k : D → Rdr α} : bnd (.rptr ds) k = k (.rptr ds) := id rfl
theorem bnd_agg {α : Type} {ds : List D} {k : D → Rdr α} : bnd (.agg ds) k = k (.agg ds) := id rfl
theorem bnd_tup {α : Type} {ds : List D} {k : D → Rdr α} : bnd (.tup ds) k = k (.tup ds) := id rfl
theorem bnd_clo {α : Type} {f : FuncId} {ds : List D} {k : D → Rdr α} : bnd (.clo f ds) k = k (.clo f ds) := id rfl
theorem bnd_congr {α : Type} {d d' : D} {k : D → Rdr α} (h : d = d') : bnd d k = bnd d' k := by rw [h]
theorem slot_congr {α : Type} {t t' : Nat} {k : D → Rdr α} (h : t = t') : Rdr.slot t k = Rdr.slot t' k := by rw [h]
theorem cell_congr {α : Type} {t t' : Nat} {k : Option (List D) → Rdr α} (h : t = t') : Rdr.cell t k = Rdr.cell t' k := by rw [h]
theorem all_congr {α : Type} {k : Env → Rdr α} : Rdr.all k = Rdr.all k := rfl
theorem len_congr {α : Type} {k : Nat → Rdr α} : Rdr.len k = Rdr.len k := rfl
theorem chk_congr {α : Type} {p p' : Prop} {k : Rdr α} (h : p = p') : Rdr.chk p k = Rdr.chk p' k := by rw [h]
theorem asm_congr {α : Type} {p p' : Prop} {k : Rdr α} (h : p = p') : Rdr.asm p k = Rdr.asm p' k := by rw [h]
theorem opdR_congr {α : Type} {x : Operand} {k : D → Rdr α} : opdR x k = opdR x k := rfl
theorem wp_congr {α : Type} {E E' : Env} {r r' : Rdr α} {Q : α → Prop} (h : E = E') (h2 : r = r') : r.wp E Q = r'.wp E' Q := by rw [h,h2]
theorem pwp_congr {P : Program} {cfg : Cfg} {c : Code} {E E' : Env} {Q : Go.Exit → Env → Prop} (h : E = E') : pwp P cfg c E Q = pwp P cfg c E' Q := by rw [h]
theorem pOps_congr {P : Program} {cfg : Cfg} {ops l : List Oper} {E E' : Env} {K : Env → Prop} (h : E = E') : pOps P cfg ops l E K = pOps P cfg ops l E' K := by rw [h]
theorem Done_congr {P : Program} {K : Env → Prop} {E E' : Env} {s s' : Stp} (h : E = E') (h2 : s = s') : Done P K E s = Done P K E' s' := by rw [h,h2]
theorem nx_congr {K : Env → Prop} {Q : Go.Exit → Env → Prop} {e e' : Go.Exit} {E E' : Env} (h : E = E') (h2 : e = e') : Exit.nx K Q e E = Exit.nx K Q e' E' := by rw [h,h2]
theorem blk_congr {Q : Go.Exit → Env → Prop} {e e' : Go.Exit} {i : Nat} {E E' : Env} (h : E = E') (h2 : e = e') : Exit.blk i Q e E = Exit.blk i Q e' E' := by rw [h,h2]
theorem ev_slot {α : Type} {E : Env} {t : Nat} {k : D → Rdr α} {Q : α → Prop} : (Rdr.slot t k).wp E Q = (bnd (E.sl.getD t .dead) k).wp E Q := id rfl
theorem ev_tmp {α : Type} {E : Env} {t : Nat} {k : D → Rdr α} {Q : α → Prop} : (opdR (.tmp t) k).wp E Q = (bnd (asMove t (E.sl.getD t .dead)) k).wp E Q := id rfl
theorem ev_const {α : Type} {E : Env} {v : Value} {k : D → Rdr α} {Q : α → Prop} : (opdR (.const v) k).wp E Q = (bnd (constD v) k).wp E Q := id rfl
theorem ev_func {α : Type} {E : Env} {f : FuncId} {k : D → Rdr α} {Q : α → Prop} : (opdR (.func f) k).wp E Q = (k (.clo f [])).wp E Q := id rfl
theorem ev_ret {α : Type} {E : Env} {a : α} {Q : α → Prop} : (Rdr.ret a).wp E Q = Q a := id rfl
theorem ev_chk {α : Type} {E : Env} {p : Prop} {k : Rdr α} {Q : α → Prop} : (Rdr.chk p k).wp E Q = (p ∧ k.wp E Q) := id rfl
theorem ev_asm {α : Type} {E : Env} {p : Prop} {k : Rdr α} {Q : α → Prop} : (Rdr.asm p k).wp E Q = (p → k.wp E Q) := id rfl
theorem ev_fail {α : Type} {E : Env} {Q : α → Prop} : (Rdr.fail : Rdr α).wp E Q = False := id rfl
theorem ev_all {α : Type} {E : Env} {k : Env → Rdr α} {Q : α → Prop} : (Rdr.all k).wp E Q = (k E).wp E Q := id rfl
theorem ev_len {α : Type} {E : Env} {k : Nat → Rdr α} {Q : α → Prop} : (Rdr.len k).wp E Q = (k E.ce.length).wp E Q := id rfl
theorem ev_cell {α : Type} {E : Env} {t : Nat} {k : Option (List D) → Rdr α} {Q : α → Prop} : (Rdr.cell t k).wp E Q = (k (E.ce.getD t none)).wp E Q := id rfl
theorem ev_done {P : Program} {K : Env → Prop} {E : Env} {ws : List W} : Done P K E (.done ws) = K (E.app ws) := id rfl
theorem ev_move {dst : Option Tmp} {x : Operand} : opMove dst x = opdR x fun d => if d.isTup then .fail else wrS dst d := id rfl
theorem ev_app0 {E : Env} : E.app [] = E := id rfl
theorem ev_app1 {E : Env} {w : W} {ws : List W} : E.app (w :: ws) = (E.app1 w).app ws := id rfl
theorem ev_s {l : List D} {ce : List (Option (List D))} {t : Nat} {d : D} : (Env.mk l ce).app1 (.s t d) = ⟨l.set t d,ce⟩ := id rfl
theorem ev_c {l : List D} {ce : List (Option (List D))} {t : Nat} {d : Option (List D)} : (Env.mk l ce).app1 (.c t d) = ⟨l,ce.set t d⟩ := id rfl
theorem as_v {t : Nat} {x : Value} : asMove t (.v x) = .v x := id rfl
theorem as_nil {t : Nat} : asMove t .nil = .nil := id rfl
theorem as_dead {t : Nat} : asMove t .dead = .dead := id rfl
theorem as_own {t : Nat} {e : TypeId} {xs : List (List T)} : asMove t (.own e xs) = .ali ⟨false,t,0⟩ := id rfl
theorem as_imm {t : Nat} {e : TypeId} {xs : List (List T)} : asMove t (.imm e xs) = .imm e xs := id rfl
theorem as_ali {t : Nat} {p : Lf} : asMove t (.ali p) = .ali p := id rfl
theorem as_sub {t : Nat} {p : Lf} {a b : Nat} : asMove t (.sub p a b) = .sub p a b := id rfl
theorem as_ela {t : Nat} {p : Lf} {a b : Nat} : asMove t (.ela p a b) = .ela p a b := id rfl
theorem as_cref {t : Nat} {a b : Nat} : asMove t (.cref a b) = .cref a b := id rfl
theorem as_eref {t : Nat} {p : Lf} {a b : Nat} : asMove t (.eref p a b) = .eref p a b := id rfl
theorem as_rptr {t : Nat} {ds : List D} : asMove t (.rptr ds) = .rptr ds := id rfl
theorem as_clo {t : Nat} {f : FuncId} {ds : List D} : asMove t (.clo f ds) = .clo f ds := id rfl
theorem as_tup {t : Nat} {ds : List D} : asMove t (.tup ds) = .tup ds := id rfl
theorem as_agg {t : Nat} {ds : List D} : asMove t (.agg ds) = .agg (mvList false t 0 ds) := id rfl
theorem constD_int {k : IntKind} {n : Int} : constD (.int k n) = .v (.int k n) := rfl
theorem constD_bool {b : Bool} : constD (.bool b) = .v (.bool b) := rfl
theorem constD_str {l : List UInt8} (h : decide (l.length ≤ 9223372036854775807) = true) : constD (.string ⟨l.toArray⟩) = .v (vS l) := by
  have h2 : scal (.string ⟨l.toArray⟩) = true := h
  simp only [constD,constLeaf,h2,if_true]
  rfl
theorem constD_nils : constD (.slice none 0 0) = .nil := rfl
theorem constD_nilp : constD (.pointer none) = .v (.pointer none) := rfl
theorem ev_wr {E : Env} {t : Nat} {d : D} {Q : Stp → Prop} {old : D} (h : E.sl.getD t .dead = old) (h2 : old.anyOwn = false) : (wrS (some t) d).wp E Q = Q (.done [.s t d]) := by
  show Q (.done [if (E.sl.getD t .dead).anyOwn then _ else _]) = _
  rw [h,h2]; rfl
theorem rowsR_congr {α : Type} {d d' : D} {k : TypeId → List (List T) → Rdr α} (h : d = d') : rowsR d k = rowsR d' k := by rw [h]
theorem leafR_congr {α : Type} {p p' : Lf} {k : D → Rdr α} (h : p = p') : leafR p k = leafR p' k := by rw [h]
theorem opdsR_congr {α : Type} {xs ys : List Operand} {acc acc' : List D} {k : List D → Rdr α} (h : xs = ys) (h2 : acc = acc') : opdsR xs acc k = opdsR ys acc' k := by rw [h,h2]
theorem coeLeaf_congr {α : Type} {e e' : TypeId} {d d' : D} {k : D → List Lf → Rdr α} (h : e = e') (h2 : d = d') : coeLeaf e d k = coeLeaf e' d' k := by rw [h,h2]
theorem coeLeaves_congr {α : Type} {e e' : List TypeId} {d d' : List D} {k : List D → List Lf → Rdr α} (h : e = e') (h2 : d = d') : coeLeaves e d k = coeLeaves e' d' k := by rw [h,h2]
theorem coeCapt_congr {α : Type} {d d' : List D} {k : List D → List Lf → List Nat → Rdr α} (h2 : d = d') : coeCapt d k = coeCapt d' k := by rw [h2]
theorem argR_congr {tb : Tab} {pt pt' : TypeId} {m m' : Nat} {d d' : D} {acc acc' : CallAcc} {k : CallAcc → Rdr Stp} (h : pt = pt') (h1 : m = m') (h2 : d = d') (h3 : acc = acc') : argR tb pt m d acc k = argR tb pt' m' d' acc' k := by rw [h,h1,h2,h3]
theorem argsR_congr {tb : Tab} {md : Nat → Nat} {pts pts' : List TypeId} {ds ds' : List D} {acc acc' : CallAcc} {k : CallAcc → Rdr Stp} (h : pts = pts') (h2 : ds = ds') (h3 : acc = acc') : argsR tb md pts ds acc k = argsR tb md pts' ds' acc' k := by rw [h,h2,h3]
theorem boundR_congr {β : Type} {x x' : Option Operand} {n n' : Nat} {k : Nat → Rdr β} (h : x = x') (h2 : n = n') : boundR x n k = boundR x' n' k := by rw [h,h2]
theorem partsR_congr {z z' : List D} {ps ps' : List (Nat × Nat × Operand)} {k : List D → Rdr Stp} (h : z = z') (h2 : ps = ps') : partsR z ps k = partsR z' ps' k := by rw [h,h2]
theorem srcR_congr {α : Type} {tb : Tab} {tx e : TypeId} {sz : Nat} {d d' : D} {k : List (List T) → Rdr α} (h : d = d') : srcR tb tx e sz d k = srcR tb tx e sz d' k := by rw [h]
theorem mfgo_congr {xs ys : List Operand} {acc acc' : List D} {k : List D → Rdr Stp} (h : xs = ys) (h2 : acc = acc') : opMakeFunc.go xs acc k = opMakeFunc.go ys acc' k := by rw [h,h2]
section
variable {α : Type} {tb : Tab} {pt e : TypeId} {acc : CallAcc} {k : CallAcc → Rdr Stp} {k2 : D → List Lf → Rdr α}
theorem ar_v {x : Value} : argR tb pt 0 (.v x) acc k = k (acc.push (.v x) [] []) := id rfl
theorem ar_imm {e : TypeId} {xs : List (List T)} : argR tb pt 0 (.imm e xs) acc k = k (acc.push (.imm e xs) [] []) := id rfl
theorem ar_rptr {ds : List D} : argR tb pt 0 (.rptr ds) acc k = k (acc.push (.rptr ds) [] []) := id rfl
theorem ar_nil : argR tb pt 0 .nil acc k = (match tb.kd pt with | some (.slice e) => k (acc.push (if e == 0 then .nil else .imm e []) [] []) | _ => k (acc.push .nil [] [])) := by
  unfold argR coeLeaf
  cases tb.kd pt with
  | none => rfl
  | some x => cases x <;> rfl
theorem ar1_ali {p : Lf} : argR tb pt 1 (.ali p) acc k = rowsR (.ali p) fun e' xs => k { acc.push (.own e' xs) [] [] with wb := acc.wb ++ [(p,⟨false,acc.args.length,0⟩)] } := id rfl
theorem ar1_agg {ds : List D} : argR tb pt 1 (.agg ds) acc k = (match tb pt with | some i => lendLeaves acc.args.length 0 i.les ds fun ds' w bs => k { acc.push (.agg ds') bs [] with wb := acc.wb ++ w } | none => .fail) := id rfl
theorem ar3_cref {c j : Nat} : argR tb pt 3 (.cref c j) acc k = (.cell c fun
      | none => .fail
      | some ls =>
        if ((ls.drop j).take (ls.length - j)).all lendable && decide (j + (ls.length - j) ≤ ls.length) && decide (0 < ls.length - j) then
          k { acc with args := acc.args ++ [.cref acc.args.length 0],ce := acc.ce ++ [some ((ls.drop j).take (ls.length - j))],wc := acc.wc ++ [(c,j,ls.length - j,acc.args.length)] }
        else .fail) := id rfl
theorem ar1_nil : argR tb pt 1 .nil acc k = (match tb.kd pt with | some (.slice e) => if e == 0 then k { acc.push .nil [] [] with wb := acc.wb ++ [] } else k { acc.push (.own e []) [] [] with wb := acc.wb ++ [] } | _ => k { acc.push .nil [] [] with wb := acc.wb ++ [] }) := by
  unfold argR lendLeaf
  cases tb.kd pt with
  | none => rfl
  | some x => cases x <;> rfl
theorem ar_ali {p : Lf} : argR tb pt 0 (.ali p) acc k = rowsR (.ali p) fun e' xs => k (acc.push (.imm e' xs) [p] []) := id rfl
theorem ar_sub {p : Lf} {a b : Nat} : argR tb pt 0 (.sub p a b) acc k = rowsR (.sub p a b) fun e' xs => k (acc.push (.imm e' xs) [p] []) := id rfl
theorem ar_ela {p : Lf} {a b : Nat} : argR tb pt 0 (.ela p a b) acc k = rowsR (.ela p a b) fun e' xs => k (acc.push (.imm e' xs) [p] []) := id rfl
theorem ar_clo {f : FuncId} {cs : List D} : argR tb pt 0 (.clo f cs) acc k = coeCapt cs fun cs' bs bc => k (acc.push (.clo f cs') bs bc) := id rfl
theorem ar_agg {ds : List D} : argR tb pt 0 (.agg ds) acc k = (match tb pt with | some i => coeLeaves i.les ds fun ds' bs => k (acc.push (.agg ds') bs []) | none => .fail) := id rfl
theorem ar_cref {c j : Nat} : argR tb pt 0 (.cref c j) acc k = (match tb.kd pt with
      | some (.ptr e) => (match tb e with
        | none => .fail
        | some ie => .cell c fun
          | none => .fail
          | some ls => if 0 < ie.size ∧ j + ie.size ≤ ls.length then coeLeaves ie.les (mvList true c j ((ls.drop j).take ie.size)) fun ls' bs => if ls'.all D.pure then k (acc.push (.rptr ls') bs [c]) else .fail else .fail)
      | _ => .fail) := rfl
theorem cl_v {x : Value} : coeLeaf e (.v x) k2 = k2 (.v x) [] := id rfl
theorem cl_nil : coeLeaf e .nil k2 = k2 (if e == 0 then .nil else .imm e []) [] := id rfl
theorem cl_imm {e' : TypeId} {xs : List (List T)} : coeLeaf e (.imm e' xs) k2 = k2 (.imm e' xs) [] := id rfl
theorem cl_rptr {ds : List D} : coeLeaf e (.rptr ds) k2 = k2 (.rptr ds) [] := id rfl
theorem cl_clo {f : FuncId} : coeLeaf e (.clo f []) k2 = k2 (.clo f []) [] := id rfl
theorem cl_ali {p : Lf} : coeLeaf e (.ali p) k2 = rowsR (.ali p) fun e' xs => k2 (.imm e' xs) [p] := id rfl
theorem cl_sub {p : Lf} {a b : Nat} : coeLeaf e (.sub p a b) k2 = rowsR (.sub p a b) fun e' xs => k2 (.imm e' xs) [p] := id rfl
theorem cl_ela {p : Lf} {a b : Nat} : coeLeaf e (.ela p a b) k2 = rowsR (.ela p a b) fun e' xs => k2 (.imm e' xs) [p] := id rfl
theorem cs_cons {e : TypeId} {es : List TypeId} {d : D} {ds : List D} {k : List D → List Lf → Rdr α} : coeLeaves (e :: es) (d :: ds) k = coeLeaf e d fun d bs => coeLeaves es ds fun ds bs' => k (d :: ds) (bs ++ bs') := id rfl
theorem cs_cons0 {d : D} {ds : List D} {k : List D → List Lf → Rdr α} : coeLeaves [] (d :: ds) k = coeLeaf 0 d fun d bs => coeLeaves [] ds fun ds bs' => k (d :: ds) (bs ++ bs') := id rfl
theorem ll_nil {i j : Nat} {es : List TypeId} {k3 : List D → List (Lf × Lf) → List Lf → Rdr α} : lendLeaves i j es [] k3 = k3 [] [] [] := by cases es <;> rfl
theorem ll_cons {i j : Nat} {e : TypeId} {es : List TypeId} {d : D} {ds : List D} {k3 : List D → List (Lf × Lf) → List Lf → Rdr α} : lendLeaves i j (e :: es) (d :: ds) k3 = lendLeaf e ⟨false,i,j⟩ d fun d w bs => lendLeaves i (j + 1) es ds fun ds w' bs' => k3 (d :: ds) (w ++ w') (bs ++ bs') := id rfl
theorem lf_v {r : Lf} {x : Value} {k3 : D → List (Lf × Lf) → List Lf → Rdr α} : lendLeaf e r (.v x) k3 = k3 (.v x) [] [] := id rfl
theorem lf_ali {r p : Lf} {k3 : D → List (Lf × Lf) → List Lf → Rdr α} : lendLeaf e r (.ali p) k3 = rowsR (.ali p) fun e' xs => k3 (.own e' xs) [(p,r)] [] := id rfl
theorem lf_nil {r : Lf} {k3 : D → List (Lf × Lf) → List Lf → Rdr α} : lendLeaf e r .nil k3 = if e == 0 then k3 .nil [] [] else k3 (.own e []) [] [] := id rfl
theorem lf_imm {r : Lf} {e' : TypeId} {xs : List (List T)} {k3 : D → List (Lf × Lf) → List Lf → Rdr α} : lendLeaf e r (.imm e' xs) k3 = k3 (.imm e' xs) [] [] := id rfl
theorem cs_nil {es : List TypeId} {k : List D → List Lf → Rdr α} : coeLeaves es [] k = k [] [] := by cases es <;> rfl
theorem as_cons {md : Nat → Nat} {pts : List TypeId} {d : D} {ds : List D} : argsR tb md (pt :: pts) (d :: ds) acc k = argR tb pt (md acc.args.length) d acc fun acc => argsR tb md pts ds acc k := id rfl
theorem as_end {md : Nat → Nat} : argsR tb md [] [] acc k = k acc := id rfl
end
theorem ev_ca0 {E : Env} : E.app1 (.ca [] [] []) = E := Env.called_nil E
theorem ev_fz0 {E : Env} : E.app1 (.fz []) = E := id rfl
theorem ev_rw {l : List D} {ce : List (Option (List D))} {t : Nat} {d : D} (h : (l.getD t .dead).anyOwn = false) : (Env.mk l ce).app1 (.rw t d) = ⟨l.set t d,ce⟩ := by
  show (if (l.getD t .dead).anyOwn then _ else _) = _
  rw [h]; rfl
theorem ev_call {P : Program} {K : Env → Prop} {E Ein Eout : Env} {f : FuncId} {k : Env → Option (List W)} {ws : List W} (h : Sem P f Ein Eout) (hk : k Eout = some ws) (h2 : K (E.app ws)) : Done P K E (.call f Ein k) := ⟨Eout,h,ws,hk,h2⟩
theorem retW0 {dst : Option Tmp} {args : List D} {ce : List (Option (List D))} {bor : List Lf} {borc : List Nat} {Eout : Env} {r : D} (h1 : Eout.sl.length = args.length + 1) (h2 : Eout.sl.getD args.length .dead = r) (h3 : r.anyL (fun d => !d.resLeaf) = false) (h4 : r.anyL D.isImm = false) :
    retW ⟨args,ce,[],[],bor,borc⟩ dst Eout = some (.ca [] [] [] :: (match dst with | none => [] | some t => [.rw t r])) := by
  have hg : gones Eout [] = [] := rfl
  simp only [retW,wbs,wcs,retIm,h2,h3,h4,h1,hg]
  simp
  cases dst <;> rfl
theorem retW1 {dst : Option Tmp} {args : List D} {ce : List (Option (List D))} {bor : List Lf} {borc : List Nat} {Eout : Env} {r : D} {p i : Lf} {e : TypeId} {xs ys : List (List T)} (h5 : Env.leaf ⟨args,ce⟩ i = .own e ys) (h6 : Eout.leaf i = .own e xs)
    (h1 : Eout.sl.length = args.length + 1) (h2 : Eout.sl.getD args.length .dead = r) (h3 : r.anyL (fun d => !d.resLeaf) = false) (h4 : r.anyL D.isImm = false) :
    retW ⟨args,ce,[(p,i)],[],bor,borc⟩ dst Eout = some (.ca [] [(p,e,xs)] [] :: (match dst with | none => [] | some t => [.rw t r])) := by
  have hg : gones Eout [(p,i)] = [] := by simp [gones,h6,D.isDead]
  simp only [retW,wbs,wcs,retIm,h2,h3,h4,h1,h5,h6,hg]
  simp
  cases dst <;> rfl
theorem retWm {dst : Option Tmp} {args : List D} {ce : List (Option (List D))} {bor : List Lf} {borc : List Nat} {Eout : Env} {r : D} {p i : Lf} {e : TypeId} {ys : List (List T)} (h5 : Env.leaf ⟨args,ce⟩ i = .own e ys) (h6 : Eout.leaf i = .dead)
    (h1 : Eout.sl.length = args.length + 1) (h2 : Eout.sl.getD args.length .dead = r) (h3 : r.anyL (fun d => !d.resLeaf) = false) (h4 : r.anyL D.isImm = false) :
    retW ⟨args,ce,[(p,i)],[],bor,borc⟩ dst Eout = some (.ca [p] [] [] :: (match dst with | none => [] | some t => [.rw t r])) := by
  have hg : gones Eout [(p,i)] = [p] := by simp [gones,h6,D.isDead]
  simp only [retW,wbs,wcs,retIm,h2,h3,h4,h1,h5,h6,hg]
  simp
  cases dst <;> rfl
theorem retWc {dst : Option Tmp} {args : List D} {ce : List (Option (List D))} {bor : List Lf} {borc : List Nat} {Eout : Env} {r : D} {c j n i : Nat} {ls : List D} (h5 : Eout.ce.getD i none = some ls) (h6 : ls.length = n) (h7 : ls.all D.resLeaf = true) (h8 : ls.any D.isImm = false)
    (h1 : Eout.sl.length = args.length + 1) (h2 : Eout.sl.getD args.length .dead = r) (h3 : r.anyL (fun d => !d.resLeaf) = false) (h4 : r.anyL D.isImm = false) :
    retW ⟨args,ce,[],[(c,j,n,i)],bor,borc⟩ dst Eout = some (.ca [] [] [(c,j,ls)] :: (match dst with | none => [] | some t => [.rw t r])) := by
  have hg : gones Eout [] = [] := rfl
  simp only [retW,wbs,wcs,retIm,h2,h3,h4,h1,h5,h6,h7,hg]
  simp [h8]
  cases dst <;> rfl
theorem ev_cac {E : Env} {c j : Nat} {ls : List D} : E.app1 (.ca [] [] [(c,j,ls)]) = { (E.killC c j ls.length) with ce := (E.killC c j ls.length).ce.set c (((E.killC c j ls.length).ce.getD c none).map fun ds => setRange ds j ls) } := by
  show setCs ((E.kill fun p => inWc [(c,j,ls)] p || ([] : List Lf).contains p).mapP (wbG [])) [(c,j,ls)] = _
  have e2 : wbG [] = fun _ d => d := by
    funext p d
    simp only [wbG,wbFind]
    cases d <;> simp
  have e1 : (fun p => inWc [(c,j,ls)] p || ([] : List Lf).contains p) = fun p => p.c && p.t == c && decide (j ≤ p.k) && decide (p.k < j + ls.length) := by
    funext p
    simp only [inWc,Bool.or_false,List.contains_nil]
  rw [e1,e2,Env.mapP_id]
  rfl
theorem ev_ca1 {E : Env} {wb : List (Lf × TypeId × List (List T))} : E.app1 (.ca [] wb []) = E.mapP (wbG wb) := by
  show (E.mapP fun p d => if (fun p => inWc [] p || ([] : List Lf).contains p) p then .dead else killB (fun p => inWc [] p || ([] : List Lf).contains p) d).mapP (wbG wb) = _
  have e1 : (fun (p : Lf) (d : D) => if (fun p => inWc [] p || ([] : List Lf).contains p) p then .dead else killB (fun p => inWc [] p || ([] : List Lf).contains p) d) = fun _ d => d := by
    funext p d
    show (if (inWc [] p || ([] : List Lf).contains p) = true then D.dead else killB _ d) = d
    simp only [inWc,List.contains_nil,Bool.or_false,Bool.false_eq_true,if_false]
    cases d <;> simp [killB]
  rw [e1,Env.mapP_id]
theorem ev_cag {E : Env} {q : Lf} : E.app1 (.ca [q] [] []) = E.killP q := by
  show (E.kill fun p => inWc [] p || [q].contains p).mapP (wbG []) = E.kill fun r => r == q
  have e2 : wbG [] = fun _ d => d := by
    funext p d
    simp only [wbG,wbFind]
    cases d <;> simp
  have e1 : (fun p => inWc [] p || [q].contains p) = fun r => r == q := by
    funext p
    simp only [inWc,Bool.false_or,List.contains_cons,List.contains_nil,Bool.or_false]
  rw [e1,e2,Env.mapP_id]
def Fin (cfg : Cfg) (ts : List RV) (Eout : Env) (e : Go.Exit) (E : Env) : Prop := (e = .normal ∨ e = .ret) ∧ ∃ E',Wk E E' ∧ shutOk cfg ts E' = true ∧ shut cfg ts E' = Eout
theorem fin_congr {cfg : Cfg} {ts : List RV} {Eout : Env} {e : Go.Exit} {E E' : Env} (h : E = E') : Fin cfg ts Eout e E = Fin cfg ts Eout e E' := by rw [h]
theorem shutP_none {cfg : Cfg} (hk : cfg.keep = fun _ => false) {E : Env} {i : Nat} : shutP cfg.keep E i = .dead := by rw [hk]; rfl
theorem map_const_range {α : Type} (n : Nat) (f : Nat → α) (x : α) (h : ∀ i,i < n → f i = x) : (List.range n).map f = List.replicate n x := by
  induction n with
  | zero => rfl
  | succ n ih =>
    rw [List.range_succ,List.map_append,ih fun i hi => h i (by omega),List.replicate_succ']
    simp [h n (by omega)]
theorem fin0 {cfg : Cfg} {ts : List RV} {E : Env} {r : D} {e : Go.Exit} (he : e = .normal ∨ e = .ret) (hk : cfg.keep = fun _ => false) (hce : E.ce.take cfg.np = List.replicate cfg.np none) (hok : shutOk cfg ts E = true) (hr : shutR E ts = r) :
    Fin cfg ts ⟨List.replicate cfg.np .dead ++ [r],List.replicate cfg.np none⟩ e E := by
  refine ⟨he,E,.inl rfl,hok,?_⟩
  unfold shut
  rw [hr,map_const_range cfg.np (shutP cfg.keep E) .dead fun i _ => shutP_none hk,map_const_range cfg.np (fun i => E.ce.getD i none) none]
  intro i hi
  have : (E.ce.take cfg.np)[i]? = some none := by rw [hce,List.getElem?_replicate,if_pos hi]
  rw [List.getElem?_take_of_lt hi] at this
  rw [List.getD_eq_getElem?_getD,this]; rfl
theorem sem_fin {P : Program} {cfg : Cfg} {f : FuncId} {fn : Func} {c : Code} {ts : List RV} (hT : TabOk P cfg.tb) (hf : P.funcs[f]? = some fn) (hname : (fn.name == "runtime.NumGoroutine") = false) (hb : fn.body = some c)
    (hres : fn.results = (ts.map RV.toR).toArray) {Ein Eout : Env} (hnp : Ein.sl.length = cfg.np) (hkeep : ∀ t,cfg.keep t = true → t < cfg.np)
    (h : pwp P cfg c (Ein.pad (fn.ntmps - cfg.np)) (Fin cfg ts Eout)) : Sem P f Ein Eout := sem_intro hT hf hname hb hres hnp hkeep h
def tick : Prop := True
theorem tick_eq : tick = True := propext ⟨fun _ => trivial,fun _ => trivial⟩
section
variable {q : Prop} {α : Type}
theorem c_bnd {d d' : D} {k : D → Rdr α} (h : d = d') (ht : tick = q) : bnd d k = bnd d' k := by rw [h]
theorem c_slot {t t' : Nat} {k : D → Rdr α} (h : t = t') (ht : tick = q) : Rdr.slot t k = Rdr.slot t' k := by rw [h]
theorem c_cell {t t' : Nat} {k : Option (List D) → Rdr α} (h : t = t') (ht : tick = q) : Rdr.cell t k = Rdr.cell t' k := by rw [h]
theorem c_all {k : Env → Rdr α} (ht : tick = q) : Rdr.all k = Rdr.all k := rfl
theorem c_len {k : Nat → Rdr α} (ht : tick = q) : Rdr.len k = Rdr.len k := rfl
theorem c_chk {p p' : Prop} {k : Rdr α} (h : p = p') (ht : tick = q) : Rdr.chk p k = Rdr.chk p' k := by rw [h]
theorem c_asm {p p' : Prop} {k : Rdr α} (h : p = p') (ht : tick = q) : Rdr.asm p k = Rdr.asm p' k := by rw [h]
theorem c_opdR {x : Operand} {k : D → Rdr α} (ht : tick = q) : opdR x k = opdR x k := rfl
theorem c_wp {E E' : Env} {r r' : Rdr α} {Q : α → Prop} (h : E = E') (h2 : r = r') (ht : tick = q) : r.wp E Q = r'.wp E' Q := by rw [h,h2]
theorem c_pwp {P : Program} {cfg : Cfg} {c : Code} {E E' : Env} {Q : Go.Exit → Env → Prop} (h : E = E') (ht : tick = q) : pwp P cfg c E Q = pwp P cfg c E' Q := by rw [h]
theorem c_pOps {P : Program} {cfg : Cfg} {ops l : List Oper} {E E' : Env} {K : Env → Prop} (h : E = E') (ht : tick = q) : pOps P cfg ops l E K = pOps P cfg ops l E' K := by rw [h]
theorem c_Done {P : Program} {K : Env → Prop} {E E' : Env} {s s' : Stp} (h : E = E') (h2 : s = s') (ht : tick = q) : Done P K E s = Done P K E' s' := by rw [h,h2]
theorem c_nx {K : Env → Prop} {Q : Go.Exit → Env → Prop} {e e' : Go.Exit} {E E' : Env} (h : E = E') (h2 : e = e') (ht : tick = q) : Exit.nx K Q e E = Exit.nx K Q e' E' := by rw [h,h2]
theorem c_blk {Q : Go.Exit → Env → Prop} {e e' : Go.Exit} {i : Nat} {E E' : Env} (h : E = E') (h2 : e = e') (ht : tick = q) : Exit.blk i Q e E = Exit.blk i Q e' E' := by rw [h,h2]
theorem c_fin {cfg : Cfg} {ts : List RV} {Eout : Env} {e : Go.Exit} {E E' : Env} (h : E = E') (ht : tick = q) : Fin cfg ts Eout e E = Fin cfg ts Eout e E' := by rw [h]
theorem c_rowsR {d d' : D} {k : TypeId → List (List T) → Rdr α} (h : d = d') (ht : tick = q) : rowsR d k = rowsR d' k := by rw [h]
theorem c_leafR {p p' : Lf} {k : D → Rdr α} (h : p = p') (ht : tick = q) : leafR p k = leafR p' k := by rw [h]
theorem c_opdsR {xs ys : List Operand} {acc acc' : List D} {k : List D → Rdr α} (h : xs = ys) (h2 : acc = acc') (ht : tick = q) : opdsR xs acc k = opdsR ys acc' k := by rw [h,h2]
theorem c_coeLeaf {e e' : TypeId} {d d' : D} {k : D → List Lf → Rdr α} (h : e = e') (h2 : d = d') (ht : tick = q) : coeLeaf e d k = coeLeaf e' d' k := by rw [h,h2]
theorem c_coeLeaves {e e' : List TypeId} {d d' : List D} {k : List D → List Lf → Rdr α} (h : e = e') (h2 : d = d') (ht : tick = q) : coeLeaves e d k = coeLeaves e' d' k := by rw [h,h2]
theorem c_lendLeaf {α : Type} {e e' : TypeId} {r r' : Lf} {d d' : D} {k : D → List (Lf × Lf) → List Lf → Rdr α} (h : e = e') (h1 : r = r') (h2 : d = d') (ht : tick = q) : lendLeaf e r d k = lendLeaf e' r' d' k := by rw [h,h1,h2]
theorem c_lendLeaves {α : Type} {i j i' j' : Nat} {e e' : List TypeId} {d d' : List D} {k : List D → List (Lf × Lf) → List Lf → Rdr α} (h0 : i = i') (h1 : j = j') (h : e = e') (h2 : d = d') (ht : tick = q) : lendLeaves i j e d k = lendLeaves i' j' e' d' k := by rw [h0,h1,h,h2]
theorem c_coeCapt {d d' : List D} {k : List D → List Lf → List Nat → Rdr α} (h2 : d = d') (ht : tick = q) : coeCapt d k = coeCapt d' k := by rw [h2]
theorem c_argR {tb : Tab} {pt pt' : TypeId} {m m' : Nat} {d d' : D} {acc acc' : CallAcc} {k : CallAcc → Rdr Stp} (h : pt = pt') (h1 : m = m') (h2 : d = d') (h3 : acc = acc') (ht : tick = q) : argR tb pt m d acc k = argR tb pt' m' d' acc' k := by rw [h,h1,h2,h3]
theorem c_argsR {tb : Tab} {md : Nat → Nat} {pts pts' : List TypeId} {ds ds' : List D} {acc acc' : CallAcc} {k : CallAcc → Rdr Stp} (h : pts = pts') (h2 : ds = ds') (h3 : acc = acc') (ht : tick = q) : argsR tb md pts ds acc k = argsR tb md pts' ds' acc' k := by rw [h,h2,h3]
theorem c_boundR {x x' : Option Operand} {n n' : Nat} {k : Nat → Rdr α} (h : x = x') (h2 : n = n') (ht : tick = q) : boundR x n k = boundR x' n' k := by rw [h,h2]
theorem c_partsR {z z' : List D} {ps ps' : List (Nat × Nat × Operand)} {k : List D → Rdr Stp} (h : z = z') (h2 : ps = ps') (ht : tick = q) : partsR z ps k = partsR z' ps' k := by rw [h,h2]
theorem c_srcR {tb : Tab} {tx e : TypeId} {sz : Nat} {d d' : D} {k : List (List T) → Rdr α} (h : d = d') (ht : tick = q) : srcR tb tx e sz d k = srcR tb tx e sz d' k := by rw [h]
theorem c_mfgo {xs ys : List Operand} {acc acc' : List D} {k : List D → Rdr Stp} (h : xs = ys) (h2 : acc = acc') (ht : tick = q) : opMakeFunc.go xs acc k = opMakeFunc.go ys acc' k := by rw [h,h2]
theorem c_wpF {S : Nat → Bool} {E E' : Env} {r r' : Rdr α} {Q : α → Prop} (h : E = E') (h2 : r = r') (ht : tick = q) : r.wpF S E Q = r'.wpF S E' Q := by rw [h,h2]
theorem c_OutF {P : Program} {S : Nat → Bool} {E E' : Env} {dst : Option Tmp} {Q : Nat → D → Option (List D) → Prop} {s s' : Stp} (h : E = E') (h2 : s = s') (ht : tick = q) : OutF P S E dst Q s = OutF P S E' dst Q s' := by rw [h,h2]
theorem c_pHeadN {P : Program} {cfg : Cfg} {ops : List Oper} {l l' : List (Oper × Option (List Nat))} {E E' : Env} {K : Env → Prop} (h : l = l') (h2 : E = E') (ht : tick = q) : pHeadN P cfg ops l E K = pHeadN P cfg ops l' E' K := by rw [h,h2]
theorem c_pHead {P : Program} {cfg : Cfg} {ops : List Oper} {l l' : List (Oper × List Nat)} {E E' : Env} {K : Env → Prop} (h : l = l') (h2 : E = E') (ht : tick = q) : pHead P cfg ops l E K = pHead P cfg ops l' E' K := by rw [h,h2]
theorem c_pDraw {P : Program} {cfg : Cfg} {ops : List Oper} {E E' : Env} {K : Env → Prop} (h2 : E = E') (ht : tick = q) : pDraw P cfg ops E K = pDraw P cfg ops E' K := by rw [h2]
theorem c_ite {c c' : Prop} [Decidable c] [Decidable c'] {x y : α} (h : c = c') (ht : tick = q) : ite c x y = ite c' x y := by subst h; congr
end
section
variable {P : Program} {cfg : Cfg} {E : Env} {Q : Go.Exit → Env → Prop}
theorem pw_skip : pwp P cfg .skip E Q = Q .normal E := id rfl
theorem pw_seq {x y : Code} : pwp P cfg (.seq x y) E Q = pwp P cfg x E (Exit.nx (fun E' => pwp P cfg y E' Q) Q) := id rfl
theorem pw_region {i : Nat} {l : List Oper} : pwp P cfg (.region i l.toArray false) E Q = pOps P cfg l l E (Q .normal) := by
  show (if false = true then _ else pOps P cfg l.toArray.toList l.toArray.toList E (Q .normal)) = _
  simp
theorem pw_draw {i : Nat} {l : List Oper} : pwp P cfg (.region i l.toArray true) E Q = pDraw P cfg l E (Q .normal) := by
  show (if true = true then pDraw P cfg l.toArray.toList E (Q .normal) else _) = _
  simp
theorem pw_cond {c : Operand} {x y : Code} : pwp P cfg (.cond c x y) E Q = (condR c).wp E fun b => if b = true then pwp P cfg x E Q else pwp P cfg y E Q := id rfl
theorem pw_block {i : Nat} {c : Code} : pwp P cfg (.block i c) E Q = pwp P cfg c E (Exit.blk i Q) := id rfl
theorem pw_exit {i : Nat} : pwp P cfg (.exit i) E Q = Q (.exit i) E := id rfl
theorem pw_ret : pwp P cfg .ret E Q = Q .ret E := id rfl
theorem nx_normal {K : Env → Prop} : Exit.nx K Q .normal E = K E := id rfl
theorem nx_ret {K : Env → Prop} : Exit.nx K Q .ret E = Q .ret E := id rfl
theorem nx_exit {K : Env → Prop} {i : Nat} : Exit.nx K Q (.exit i) E = Q (.exit i) E := id rfl
theorem blk_normal {i : Nat} : Exit.blk i Q .normal E = Q .normal E := id rfl
theorem blk_ret {i : Nat} : Exit.blk i Q .ret E = Q .ret E := id rfl
theorem blk_exit {i j : Nat} : Exit.blk i Q (.exit j) E = if j = i then Q .normal E else Q (.exit j) E := id rfl
theorem po_nil {ops : List Oper} {K : Env → Prop} : pOps P cfg ops [] E K = K E := id rfl
theorem po_cons {ops : List Oper} {o : Oper} {os : List Oper} {K : Env → Prop} : pOps P cfg ops (o :: os) E K = (opG cfg ops o).wp E (Done P (fun E' => pOps P cfg ops os E' K) E) := id rfl
end
theorem pOps_mono {P : Program} {cfg : Cfg} {ops : List Oper} {K K' : Env → Prop} (h : ∀ E,K E → K' E) : ∀ (l : List Oper) (E : Env),pOps P cfg ops l E K → pOps P cfg ops l E K'
  | [],E,x => h E x
  | o :: os,E,x => wp_mono _ (fun s hs => Done_mono (fun E' hE => pOps_mono h os E' hE) s hs) x
theorem wpF_mono {α : Type} {S : Nat → Bool} {E : Env} {Q Q' : α → Prop} : ∀ (r : Rdr α),(∀ a,Q a → Q' a) → r.wpF S E Q → r.wpF S E Q'
  | .ret a,h,x => h a x
  | .fail,h,x => x
  | .slot t k,h,x => ⟨x.1,wpF_mono (k _) h x.2⟩
  | .cell t k,h,x => ⟨x.1,wpF_mono (k _) h x.2⟩
  | .all k,h,x => x
  | .len k,h,x => wpF_mono (k _) h x
  | .chk p k,h,x => ⟨x.1,wpF_mono k h x.2⟩
  | .asm p k,h,x => ⟨x.1,wpF_mono k h x.2⟩
theorem OutF_mono {P : Program} {S : Nat → Bool} {E : Env} {dst : Option Tmp} {Q Q' : Nat → D → Option (List D) → Prop} (h : ∀ t d c,Q t d c → Q' t d c) : ∀ s,OutF P S E dst Q s → OutF P S E dst Q' s := by
  intro s hs
  unfold OutF at hs ⊢
  split at hs
  · exact ⟨hs.1,hs.2.1,h _ _ _ hs.2.2⟩
  · exact ⟨hs.1,hs.2.1,hs.2.2.1,h _ _ _ hs.2.2.2⟩
  · obtain ⟨Eo,t,d,a1,a2,a3,a4,a5,a6⟩ := hs
    exact ⟨Eo,t,d,a1,a2,a3,a4,a5,h _ _ _ a6⟩
  · exact hs.elim
theorem pHead_mono {P : Program} {cfg : Cfg} {ops : List Oper} {K K' : Env → Prop} (h : ∀ E,K E → K' E) : ∀ (l : List (Oper × List Nat)) (E : Env),pHead P cfg ops l E K → pHead P cfg ops l E K'
  | [],E,x => h E x
  | (o,fb) :: os,E,x => wpF_mono _ (fun s hs => OutF_mono (fun t d c hK => pHead_mono h os _ hK) s hs) x
theorem pHeadN_mono {P : Program} {cfg : Cfg} {ops : List Oper} {K K' : Env → Prop} (h : ∀ E,K E → K' E) : ∀ (l : List (Oper × Option (List Nat))) (E : Env),pHeadN P cfg ops l E K → pHeadN P cfg ops l E K'
  | [],E,x => h E x
  | (o,some fb) :: os,E,x => wpF_mono _ (fun s hs => OutF_mono (fun t d c hK => pHeadN_mono h os _ hK) s hs) x
  | (o,none) :: os,E,x => wp_mono _ (fun s hs => Done_mono (fun E' hE => pHeadN_mono h os E' hE) s hs) x
theorem pwp_mono {P : Program} {cfg : Cfg} : ∀ (c : Code) (E : Env) {Q Q' : Go.Exit → Env → Prop},(∀ e E,Q e E → Q' e E) → pwp P cfg c E Q → pwp P cfg c E Q' := by
  intro c
  induction c with
  | skip => intro E Q Q' h x; exact h _ _ x
  | seq a b iha ihb =>
    intro E Q Q' h x
    refine iha E ?_ x
    intro e E' hq
    cases e with
    | normal => exact ihb E' h hq
    | _ => exact h _ _ hq
  | region i ops d =>
    intro E Q Q' h x
    cases d with
    | true =>
      rcases x with ⟨hm,⟨n,fs,hk,hx⟩ | ⟨fs,hk,hx⟩⟩
      · exact ⟨hm,.inl ⟨n,fs,hk,pHead_mono (fun E hE => pOps_mono (fun E hE => h _ _ hE) _ _ hE) _ _ hx⟩⟩
      · exact ⟨hm,.inr ⟨fs,hk,pHeadN_mono (fun E hE => h _ _ hE) _ _ hx⟩⟩
    | false => exact pOps_mono (fun E hE => h _ _ hE) _ _ x
  | cond c a b iha ihb =>
    intro E Q Q' h x
    refine wp_mono _ ?_ x
    intro t ht
    split at ht
    · rw [if_pos ‹_›]; exact iha E h ht
    · rw [if_neg ‹_›]; exact ihb E h ht
  | block i a iha =>
    intro E Q Q' h x
    refine iha E ?_ x
    intro e E' hq
    cases e with
    | exit j =>
      simp only [Exit.blk] at hq ⊢
      split at hq
      · rw [if_pos ‹_›]; exact h _ _ hq
      · rw [if_neg ‹_›]; exact h _ _ hq
    | _ => exact h _ _ hq
  | loop a iha =>
    intro E Q Q' h x
    obtain ⟨I,μ,h0,h1⟩ := x
    refine ⟨I,μ,h0,fun E1 hI => iha E1 ?_ (h1 E1 hI)⟩
    intro e E' hq
    cases e with
    | normal => exact hq
    | _ => exact h _ _ hq
  | exit i => intro E Q Q' h x; exact h _ _ x
  | ret => intro E Q Q' h x; exact h _ _ x
  | _ => intro E Q Q' h x; exact x.elim
theorem wrapN {i : Nat} {n : Nat} (h : i < n) (hn : n ≤ 9223372036854775807) : IntKind.i64.wrap ((i : Int) + 1) = ((i + 1 : Nat) : Int) := by
  rw [IntKind.wrap_i64]; omega
theorem wrapI {n : Int} (h : -9223372036854775808 ≤ n ∧ n ≤ 9223372036854775807) : IntKind.i64.wrap n = n := by
  rw [IntKind.wrap_i64]; omega
theorem wrap_0 : IntKind.i64.wrap 0 = 0 := by decide
theorem wrap_1 : IntKind.i64.wrap 1 = 1 := by decide
theorem wrap_2 : IntKind.i64.wrap 2 = 2 := by decide
theorem ofN_lt {m n : Nat} : ((m : Int) < (n : Int)) = (m < n) := by simp
theorem ofN_le {m n : Nat} : ((m : Int) ≤ (n : Int)) = (m ≤ n) := by simp
theorem all_take_succ {α : Type} {l : List α} {p : α → Bool} {i : Nat} {d : α} (h : i < l.length) : (l.take (i + 1)).all p = ((l.take i).all p && p (l.getD i d)) := by
  rw [List.take_succ_eq_append_getElem h,List.all_append]
  simp [List.getD_eq_getElem?_getD,h]
theorem any_take_succ {α : Type} {l : List α} {p : α → Bool} {i : Nat} {d : α} (h : i < l.length) : (l.take (i + 1)).any p = ((l.take i).any p || p (l.getD i d)) := by
  rw [List.take_succ_eq_append_getElem h,List.any_append]
  simp [List.getD_eq_getElem?_getD,h]
theorem all_false_at {α : Type} {l : List α} {p : α → Bool} {i : Nat} {d : α} (h : i < l.length) (hp : p (l.getD i d) = false) : l.all p = false := by
  rw [List.all_eq_false]
  refine ⟨l.getD i d,?_,by rw [hp]; decide⟩
  rw [List.getD_eq_getElem?_getD,List.getElem?_eq_getElem h]
  exact List.getElem_mem h
theorem any_true_at {α : Type} {l : List α} {p : α → Bool} {i : Nat} {d : α} (h : i < l.length) (hp : p (l.getD i d) = true) : l.any p = true := by
  rw [List.any_eq_true]
  refine ⟨l.getD i d,?_,hp⟩
  rw [List.getD_eq_getElem?_getD,List.getElem?_eq_getElem h]
  exact List.getElem_mem h
theorem ev_ks {E : Env} {t : Nat} {d : D} : E.app1 (.ks t d) = { (E.killS t) with sl := (E.killS t).sl.set t (d.mapP fun _ x => killB (fun p => !p.c && p.t == t) x) } := rfl
theorem ev_kp {E : Env} {p : Lf} : E.app1 (.kp p) = E.killP p := rfl
theorem ev_lf {E : Env} {p : Lf} {d : D} : E.app1 (.lf p d) = E.setLeaf p d := rfl
theorem ev_alle {E E' : Env} : E.app1 (.all E') = E' := rfl
theorem mt_tmp {dst : Option Tmp} {t : Nat} {E : Env} {Q : Stp → Prop} : (opMoveT dst (.tmp t)).wp E Q = (bnd (E.sl.getD t .dead) fun | .tup cs => wrS dst (.tup (mvCs t 0 cs)) | d => wrS dst (asMove t d)).wp E Q := id rfl
theorem mt_const {dst : Option Tmp} {v : Value} : opMoveT dst (.const v) = opMove dst (.const v) := id rfl
theorem mt_func {dst : Option Tmp} {v : FuncId} : opMoveT dst (.func v) = opMove dst (.func v) := id rfl
section
variable {α : Type} {S : Nat → Bool} {E : Env} {Q : α → Prop}
theorem ef_slot {t : Nat} {k : D → Rdr α} : (Rdr.slot t k).wpF S E Q = (S t = true ∧ (bnd (E.sl.getD t .dead) k).wpF S E Q) := id rfl
theorem ef_tmp {t : Nat} {k : D → Rdr α} : (opdR (.tmp t) k).wpF S E Q = (S t = true ∧ (bnd (asMove t (E.sl.getD t .dead)) k).wpF S E Q) := id rfl
theorem ef_const {v : Value} {k : D → Rdr α} : (opdR (.const v) k).wpF S E Q = (bnd (constD v) k).wpF S E Q := id rfl
theorem ef_func {f : FuncId} {k : D → Rdr α} : (opdR (.func f) k).wpF S E Q = (k (.clo f [])).wpF S E Q := id rfl
theorem ef_ret {a : α} : (Rdr.ret a).wpF S E Q = Q a := id rfl
theorem ef_chk {p : Prop} {k : Rdr α} : (Rdr.chk p k).wpF S E Q = (p ∧ k.wpF S E Q) := id rfl
theorem ef_asm {p : Prop} {k : Rdr α} : (Rdr.asm p k).wpF S E Q = (p ∧ k.wpF S E Q) := id rfl
theorem ef_fail : (Rdr.fail : Rdr α).wpF S E Q = False := id rfl
theorem ef_len {k : Nat → Rdr α} : (Rdr.len k).wpF S E Q = (k E.ce.length).wpF S E Q := id rfl
theorem ef_cell {t : Nat} {k : Option (List D) → Rdr α} : (Rdr.cell t k).wpF S E Q = (S t = true ∧ (k (E.ce.getD t none)).wpF S E Q) := id rfl
end
theorem mt_tmpF {S : Nat → Bool} {dst : Option Tmp} {t : Nat} {E : Env} {Q : Stp → Prop} : (opMoveT dst (.tmp t)).wpF S E Q = (S t = true ∧ (bnd (E.sl.getD t .dead) fun | .tup cs => wrS dst (.tup (mvCs t 0 cs)) | d => wrS dst (asMove t d)).wpF S E Q) := id rfl
theorem ph_nil {P : Program} {cfg : Cfg} {ops : List Oper} {E : Env} {K : Env → Prop} : pHead P cfg ops [] E K = K E := id rfl
theorem ph_cons {P : Program} {cfg : Cfg} {ops : List Oper} {o : Oper} {fb : List Nat} {os : List (Oper × List Nat)} {E : Env} {K : Env → Prop} : pHead P cfg ops ((o,fb) :: os) E K = (opG cfg ops o).wpF (fbS fb) E (OutF P (fbS fb) E o.dst fun t d c => pHead P cfg ops os (updE E t d c) K) := id rfl
theorem up_n {E : Env} {t : Nat} {d : D} : updE E t d none = ⟨E.sl.set t d,E.ce⟩ := id rfl
theorem up_c {E : Env} {t : Nat} {d : D} {ds : List D} : updE E t d (some ds) = ⟨E.sl.set t d,E.ce.set t (some ds)⟩ := id rfl
theorem of_c {P : Program} {S : Nat → Bool} {E : Env} {dst : Option Tmp} {Q : Nat → D → Option (List D) → Prop} {t u : Nat} {d : D} {ds : List D} : OutF P S E dst Q (.done [.c u (some ds),.s t d]) = (u = t ∧ dst = some t ∧ S t = true ∧ Q t d (some ds)) := id rfl
theorem of_s {P : Program} {S : Nat → Bool} {E : Env} {dst : Option Tmp} {Q : Nat → D → Option (List D) → Prop} {t : Nat} {d : D} : OutF P S E dst Q (.done [.s t d]) = (dst = some t ∧ S t = true ∧ Q t d none) := id rfl
theorem of_call {P : Program} {S : Nat → Bool} {E Ein Eout : Env} {dst : Option Tmp} {Q : Nat → D → Option (List D) → Prop} {f : FuncId} {k : Env → Option (List W)} {t : Nat} {d : D} (h : Sem P f Ein Eout) (hk : k Eout = some [.ca [] [] [],.rw t d]) (hd : dst = some t) (hS : S t = true) (ho : (E.sl.getD t .dead).anyOwn = false) (hq : Q t d none) :
    OutF P S E dst Q (.call f Ein k) := ⟨Eout,t,d,h,hk,hd,hS,ho,hq⟩
theorem draw_intro {P : Program} {cfg : Cfg} {l : List Oper} {E : Env} {K : Env → Prop} (n : Nat) (fs : List (List Nat)) (hm : P.follows .mixedOrders = true) (hok : drawOk l n fs = true) (h : pHead P cfg l ((l.take n).zip fs) E fun E' => pOps P cfg l (l.drop n) E' K) : pDraw P cfg l E K := ⟨hm,.inl ⟨n,fs,hok,h⟩⟩
theorem draw_new {P : Program} {cfg : Cfg} {l : List Oper} {E : Env} {K : Env → Prop} (fs : List (Option (List Nat))) (hm : P.follows .mixedOrders = true) (hok : drawN l fs = true) (h : pHeadN P cfg l (l.zip fs) E K) : pDraw P cfg l E K := ⟨hm,.inr ⟨fs,hok,h⟩⟩
theorem pn_nil {P : Program} {cfg : Cfg} {ops : List Oper} {E : Env} {K : Env → Prop} : pHeadN P cfg ops [] E K = K E := id rfl
theorem pn_some {P : Program} {cfg : Cfg} {ops : List Oper} {o : Oper} {fb : List Nat} {os : List (Oper × Option (List Nat))} {E : Env} {K : Env → Prop} : pHeadN P cfg ops ((o,some fb) :: os) E K = (opG cfg ops o).wpF (fbS fb) E (OutF P (fbS fb) E o.dst fun t d c => pHeadN P cfg ops os (updE E t d c) K) := id rfl
theorem pn_none {P : Program} {cfg : Cfg} {ops : List Oper} {o : Oper} {os : List (Oper × Option (List Nat))} {E : Env} {K : Env → Prop} : pHeadN P cfg ops ((o,none) :: os) E K = (opG cfg ops o).wp E (Done P (fun E' => pHeadN P cfg ops os E' K) E) := id rfl
theorem lf_beq {a a' : Bool} {b b' c c' : Nat} : ((Lf.mk a b c) == (Lf.mk a' b' c')) = (decide (a = a') && (decide (b = b') && decide (c = c'))) := by
  rw [Bool.eq_iff_iff]
  simp [beq_iff_eq]
theorem exists_least (p : Nat → Prop) (h : ∃ n,p n) : ∃ n,p n ∧ ∀ m,p m → n ≤ m := by
  obtain ⟨n,hn⟩ := h
  induction n using Nat.strongRecOn with
  | _ n ih =>
    by_cases hm : ∃ m,p m ∧ m < n
    · obtain ⟨m,h1,h2⟩ := hm
      exact ih m h2 h1
    · exact ⟨n,hn,fun m h => by
        by_cases hlt : m < n
        · exact absurd ⟨m,h,hlt⟩ hm
        · omega⟩
theorem loop_f {P : Program} {cfg : Cfg} {c : Code} {E : Env} {Q : Go.Exit → Env → Prop} {σ : Type} (env : σ → Env) (f : Nat → Bool) (inv : σ → Prop) (μ : σ → Nat) (s0 : σ) (hE : E.forget f = env s0) (h0 : inv s0)
    (h : ∀ s,inv s → pwp P cfg c (env s) (Exit.nx (fun E' => ∃ s',E'.forget f = env s' ∧ inv s' ∧ μ s' < μ s) Q)) : pwp P cfg (.loop c) E Q := by
  let p : Env → Nat → Prop := fun E n => ∃ s,inv s ∧ env s = E ∧ μ s = n
  refine ⟨fun E => ∃ s,inv s ∧ env s = E,fun E => open Classical in if h : ∃ n,p E n then (exists_least (p E) h).choose else 0,⟨env s0,.inr (.inr (.inl ⟨f,hE.symm⟩)),s0,h0,rfl⟩,?_⟩
  rintro E ⟨s,hs,rfl⟩
  have hx : ∃ n,p (env s) n := ⟨_,s,hs,rfl,rfl⟩
  obtain ⟨⟨s1,h1,e1,m1⟩,hle⟩ := (exists_least (p (env s)) hx).choose_spec
  have := h s1 h1
  rw [e1] at this
  refine pwp_mono _ _ ?_ this
  intro e E' hq
  cases e <;> try exact hq
  obtain ⟨s',g1,g2,g3⟩ := hq
  refine ⟨env s',.inr (.inr (.inl ⟨f,g1.symm⟩)),⟨s',g2,rfl⟩,?_⟩
  have hx' : ∃ n,p (env s') n := ⟨_,s',g2,rfl,rfl⟩
  obtain ⟨_,hle'⟩ := (exists_least (p (env s')) hx').choose_spec
  have h3 := hle' (μ s') ⟨s',g2,rfl,rfl⟩
  simp only [hx,hx',dif_pos]
  omega
theorem loop_by {P : Program} {cfg : Cfg} {c : Code} {E : Env} {Q : Go.Exit → Env → Prop} {σ : Type} (env : σ → Env) (m : Nat) (inv : σ → Prop) (μ : σ → Nat) (s0 : σ) (hE : E.forget (fun t => decide (m ≤ t)) = env s0) (h0 : inv s0)
    (h : ∀ s,inv s → pwp P cfg c (env s) (Exit.nx (fun E' => ∃ s',E'.forget (fun t => decide (m ≤ t)) = env s' ∧ inv s' ∧ μ s' < μ s) Q)) : pwp P cfg (.loop c) E Q := loop_f env _ inv μ s0 hE h0 h
theorem loop_on {P : Program} {cfg : Cfg} {c : Code} {E : Env} {Q : Go.Exit → Env → Prop} {σ : Type} (env : σ → Env) (ks : List Nat) (inv : σ → Prop) (μ : σ → Nat) (s0 : σ) (hE : E.forget (fun t => !ks.contains t) = env s0) (h0 : inv s0)
    (h : ∀ s,inv s → pwp P cfg c (env s) (Exit.nx (fun E' => ∃ s',E'.forget (fun t => !ks.contains t) = env s' ∧ inv s' ∧ μ s' < μ s) Q)) : pwp P cfg (.loop c) E Q := loop_f env _ inv μ s0 hE h0 h
theorem lrel_of_rd {P : Program} {E : Env} {args : Array Value} {w : World} {t : T} {v : Value} {p : Lf} (hE : ∀ (t : Nat) (ds : List D),E.ce[t]? ≠ some (some ds)) (h : RdT P w (fun _ => True) t v) : LRel (C0 P E args w) p t.toD v := by
  cases t with
  | v x =>
    cases h with
    | v _ hx => exact .v _ _ hx
  | sl e xs => exact rd_imm hE h
theorem toD_leafy (t : T) : t.toD.leafy = true := by cases t <;> rfl
theorem noE {n : Nat} {ds : List D} : ∀ (t : Nat) (l : List D),(⟨ds,List.replicate n none⟩ : Env).ce[t]? ≠ some (some l) := by
  intro t l h
  have h : (List.replicate n none)[t]? = some (some l) := h
  rw [List.getElem?_replicate] at h
  split at h <;> simp at h
section
variable {H : Type} {enc : TypeId × Value → H} {P : Program} {w : World} {base : Nat} {spare : Nat → Bool} {held : Bool}
theorem arg_agg {t : TypeId} {fa : Array Field} {fs : List Sh} {r : Reach} {b0 : Nat} {v : Value} {d : DataW H} {ps : List MemPlace} (hs : ShT P t fs) (hu : P.underlying t = some (.struct fa)) (h64 : fs.length ≤ 64)
    (hv : Value.okWide P w r b0 t v) (h : DataW.Trod enc P w base spare held t v d ps) :
    ∃ l : List T,WTs fs l ∧ ∀ (n : Nat) (ds : List D) (args : Array Value) (i : Nat),SRel (C0 P ⟨ds,List.replicate n none⟩ args w) i (.agg (l.map T.toD)) v := by
  obtain ⟨cs,rfl,hcs⟩ := WideShapes.okWide_struct hu hv
  obtain ⟨fuel,h⟩ := h
  obtain ⟨l,h1,h2,h3⟩ := read_trod hs h
  have h1 : cs.toList.length = fs.length := h1
  refine ⟨l,h2,fun n ds args i => .comp _ _ rfl (.agg _ _ _ (by simp [h2.1,← h1]) (by simp [h2.1]; omega) fun j x hx => ?_)⟩
  rw [List.getElem?_map] at hx
  cases hj : l[j]? with
  | none => rw [hj] at hx; simp at hx
  | some t0 =>
    rw [hj] at hx
    simp only [Option.map_some,Option.some.injEq] at hx
    subst hx
    obtain ⟨v0,g1,g2,g3⟩ := h3 j t0 hj
    have g1 : cs.toList[j]? = some v0 := g1
    have e : cs.getD j undef = v0 := by
      rw [arrGetD]
      have : cs[j]? = some v0 := by simpa using g1
      rw [this]; rfl
    rw [e]
    exact ⟨toD_leafy _,g2,lrel_of_rd noE g3⟩
theorem arg_one {t : TypeId} {f : Sh} {v : Value} {d : DataW H} {ps : List MemPlace} (hs : ShT P t [f]) (hv : one v = true) (h : DataW.Trod enc P w base spare held t v d ps) :
    ∃ t0 : T,WT f t0 ∧ ∀ (n : Nat) (ds : List D) (args : Array Value) (i : Nat),SRel (C0 P ⟨ds,List.replicate n none⟩ args w) i t0.toD v := by
  obtain ⟨fuel,h⟩ := h
  obtain ⟨l,h1,h2,h3⟩ := read_trod hs h
  obtain ⟨t0,l',rfl,h4,h5⟩ := h2.cons
  obtain rfl := h5.nil
  obtain ⟨v0,g1,g2,g3⟩ := h3 0 t0 rfl
  have ev : v.cells.toList = [v] := by cases v <;> first | rfl | simp [one] at hv
  rw [ev] at g1
  injection g1 with g1
  subst g1
  refine ⟨t0,h4,fun n ds args i => .comp _ _ ?_ (.leaf _ _ _ (toD_leafy _) g2 (lrel_of_rd noE g3))⟩
  cases t0 <;> rfl
end
theorem enter_of {P : Program} {f : FuncId} {fn : Func} (hf : P.funcs[f]? = some fn) (hname : (fn.name == "runtime.NumGoroutine") = false) (hb : fn.body.isNone = false) (args : Array Value) (w : World) : (callFunc f args).run P w = .ok (.enter f args) w := by
  simp only [callFunc,Sem.run_bind,run_program,Result.andThen_ok,hf,hname,hb,Bool.false_eq_true,if_false,Sem.run_pure]
attribute [go_sem] tick_eq toL_ofL wrap_0 wrap_1 wrap_2 Int.sub_zero Int.zero_add Int.add_zero Int.toNat_natCast Int.natCast_nonneg ofN_lt ofN_le
attribute [go_sem] pw_skip pw_seq pw_region pw_draw ef_slot ef_tmp ef_const ef_func ef_ret ef_chk ef_asm ef_fail
attribute [go_sem] ef_len ef_cell mt_tmpF ph_nil ph_cons pn_nil pn_some pn_none of_s of_c up_n up_c fbS List.contains_cons List.zip_cons_cons List.zip_nil_left List.zip_nil_right Option.some.injEq
attribute [go_sem] pw_cond pw_block pw_exit pw_ret nx_normal nx_ret nx_exit blk_normal blk_ret blk_exit po_nil po_cons
attribute [go_sem] opG opR kept Env.pad opAssign opPick opUn unV opConvert opIndex opLen opCall
attribute [go_sem] opdsR opLoad opStore opFieldAddr opBox opAlloc newCell opBuild partsR places TI.fsize opExtract
attribute [go_sem] opNilCheck tmpOf ev_move mt_tmp mt_const mt_func mvCs opBin binR binI binS binB
attribute [go_sem] eqRes wrS ev_slot ev_tmp ev_const ev_func ev_ret ev_chk ev_asm ev_fail ev_all ev_len
attribute [go_sem] ev_cell ev_done ev_app0 ev_app1 ev_s ev_c bnd_v bnd_dead bnd_nil bnd_own bnd_imm bnd_ali
attribute [go_sem] bnd_sub bnd_cref bnd_eref bnd_rptr bnd_agg bnd_tup bnd_clo true_implies as_v as_nil as_dead as_own
attribute [go_sem] as_imm as_ali as_sub as_ela as_cref as_eref as_rptr as_clo as_tup as_agg constD_int constD_bool
attribute [go_sem] constD_str constD_nils constD_nilp mvList mvLeaf mvComp mkD setRange rowsR leafR callR as_cons
attribute [go_sem] as_end ar_v ar_imm ar_rptr ar_nil ar1_ali ar1_nil ar1_agg ar3_cref lendable ll_nil ll_cons
attribute [go_sem] lf_v lf_ali lf_nil lf_imm ar_ali ar_sub ar_ela ar_clo ar_agg ar_cref cl_v cl_nil
attribute [go_sem] cl_imm cl_rptr cl_clo cl_ali cl_sub cl_ela cs_cons cs_cons0 cs_nil coeCapt CallAcc.push CallAcc.ok
attribute [go_sem] distinct K.isStruct condR List.replicate List.getD_nil List.getD_cons_zero List.getD_cons_succ List.set_cons_zero List.set_cons_succ List.getElem?_cons_zero List.getElem?_cons_succ List.take_succ_cons
attribute [go_sem] List.take_zero List.drop_succ_cons List.drop_zero List.cons_append List.nil_append List.append_nil List.length_cons List.length_nil List.any_cons List.any_nil List.all_cons List.all_nil
attribute [go_sem] List.map_cons List.map_nil List.contains_nil List.headD List.tail List.isEmpty D.isTup D.anyOwn D.comps D.leaves1 D.isOwn D.anyOwnish
attribute [go_sem] D.ownish D.pure D.capt D.plainish D.isDead D.mapP Option.getD_some Option.getD_none Option.bind_some Option.map_some Option.map_none Nat.zero_le
attribute [go_sem] Nat.zero_add Nat.add_zero bne_self_eq_false beq_self_eq_true decide_true decide_false Bool.or_false Bool.false_or Bool.or_true Bool.true_or Bool.and_true Bool.true_and
attribute [go_sem] Bool.and_false Bool.false_and Bool.false_eq_true Bool.not_true Bool.not_false if_false if_true true_and and_true false_and and_false ge_iff_le
attribute [go_sem] gt_iff_lt not_false_eq_true not_true_eq_false ite_not Nat.lt_irrefl Nat.le_refl decide_eq_true_eq decide_eq_false_iff_not Int.natCast_zero Int.natCast_one Int.cast_ofNat_Int opBuildSlice
attribute [go_sem] rowsOf toTs D.toT chunk List.range_succ List.range_zero List.flatten_cons List.flatten_nil opSlice boundR opAppend opAppend.fin
attribute [go_sem] srcR opMinMax opMinMax.go opMakeFunc opMakeFunc.go opMakeSlice zeroT opIndexAddr storeOwn stCut stD swapLeaves
attribute [go_sem] cutLeaves assignOwn Env.swap Env.cut Env.leaf Env.mapP mapSl mapCe mapLv mapCs D.mapP1 lf1
attribute [go_sem] killB reB D.re D.leafOf Env.killS Env.killC Env.killP Env.kill Env.setLeaf ev_ks ev_kp ev_lf
attribute [go_sem] ev_alle flatB T.toD T.toE toEs Lf.mk.injEq lf_beq Bool.not_eq_true Bool.not_eq_false Option.isSome and_self Nat.not_lt_zero
attribute [go_sem] ev_ca0 ev_fz0 ev_rw ev_ca1 ev_cag ev_cac wbG wbFind
theorem Z {p q : Prop} (x : q) (e : p = q := by simp only [go_sem,Nat.reduceLeDiff,Nat.reduceLT,Nat.reduceAdd,Nat.reduceSub,Nat.reduceMul,Nat.reduceBEq,Nat.reduceBNe,Nat.reduceEqDiff,reduceCtorEq,reduceIte,Int.reduceLT,Int.reduceLE,Int.reduceAdd,Int.reduceSub,Int.reduceNeg,Int.reduceEq,Int.reduceBEq,Int.reduceBNe,Int.reduceToNat,Nat.reduceDiv,Nat.reduceMod, *]; rfl) : p := e ▸ x
theorem Y {p q : Prop} (x : q) (e : p = q := by simp only [go_sem,Nat.reduceLeDiff,Nat.reduceLT,Nat.reduceAdd,Nat.reduceSub,Nat.reduceMul,Nat.reduceBEq,Nat.reduceBNe,Nat.reduceEqDiff,reduceCtorEq,reduceIte,Int.reduceLT,Int.reduceLE,Int.reduceAdd,Int.reduceSub,Int.reduceNeg,Int.reduceEq,Int.reduceBEq,Int.reduceBNe,Int.reduceToNat,Nat.reduceDiv,Nat.reduceMod]; rfl) : p := e ▸ x
theorem call0 {P : Program} {K : Env → Prop} {E Ein Eout : Env} {f : FuncId} {k : Env → Option (List W)} {ws : List W} {q : Prop} (h : Sem P f Ein Eout) (x : q) (hk : k Eout = some ws := by exact retW0 rfl rfl rfl rfl)
    (e : K (E.app ws) = q := by simp only [go_sem,Nat.reduceLeDiff,Nat.reduceLT,Nat.reduceAdd,Nat.reduceSub,Nat.reduceMul,Nat.reduceBEq,Nat.reduceBNe,Nat.reduceEqDiff,reduceCtorEq,reduceIte,Int.reduceLT,Int.reduceLE,Int.reduceAdd,Int.reduceSub,Int.reduceNeg,Int.reduceEq,Int.reduceBEq,Int.reduceBNe,Int.reduceToNat,Nat.reduceDiv,Nat.reduceMod, *]; rfl) : Done P K E (.call f Ein k) :=
  ev_call h hk (e ▸ x)
theorem callm {P : Program} {K : Env → Prop} {E Ein Eout : Env} {f : FuncId} {k : Env → Option (List W)} {ws : List W} {q : Prop} (h : Sem P f Ein Eout) (x : q) (hk : k Eout = some ws := by exact retWm rfl rfl rfl rfl rfl rfl)
    (e : K (E.app ws) = q := by simp only [go_sem,Nat.reduceLeDiff,Nat.reduceLT,Nat.reduceAdd,Nat.reduceSub,Nat.reduceMul,Nat.reduceBEq,Nat.reduceBNe,Nat.reduceEqDiff,reduceCtorEq,reduceIte,Int.reduceLT,Int.reduceLE,Int.reduceAdd,Int.reduceSub,Int.reduceNeg,Int.reduceEq,Int.reduceBEq,Int.reduceBNe,Int.reduceToNat,Nat.reduceDiv,Nat.reduceMod, *]; rfl) : Done P K E (.call f Ein k) :=
  ev_call h hk (e ▸ x)
theorem call1 {P : Program} {K : Env → Prop} {E Ein Eout : Env} {f : FuncId} {k : Env → Option (List W)} {ws : List W} {q : Prop} (h : Sem P f Ein Eout) (x : q) (hk : k Eout = some ws := by exact retW1 rfl rfl rfl rfl rfl rfl)
    (e : K (E.app ws) = q := by simp only [go_sem,Nat.reduceLeDiff,Nat.reduceLT,Nat.reduceAdd,Nat.reduceSub,Nat.reduceMul,Nat.reduceBEq,Nat.reduceBNe,Nat.reduceEqDiff,reduceCtorEq,reduceIte,Int.reduceLT,Int.reduceLE,Int.reduceAdd,Int.reduceSub,Int.reduceNeg,Int.reduceEq,Int.reduceBEq,Int.reduceBNe,Int.reduceToNat,Nat.reduceDiv,Nat.reduceMod, *]; rfl) : Done P K E (.call f Ein k) :=
  ev_call h hk (e ▸ x)
theorem drawn0 {P : Program} {S : Nat → Bool} {E Ein Eout : Env} {dst : Option Tmp} {Q : Nat → D → Option (List D) → Prop} {f : FuncId} {k : Env → Option (List W)} {t : Nat} {d : D} {q : Prop} (h : Sem P f Ein Eout) (x : q) (hk : k Eout = some [.ca [] [] [],.rw t d] := by exact retW0 rfl rfl rfl rfl) (hd : dst = some t := by rfl) (hS : S t = true := by rfl) (ho : (E.sl.getD t .dead).anyOwn = false := by rfl)
    (e : Q t d none = q := by simp only [go_sem,Nat.reduceLeDiff,Nat.reduceLT,Nat.reduceAdd,Nat.reduceSub,Nat.reduceMul,Nat.reduceBEq,Nat.reduceBNe,Nat.reduceEqDiff,reduceCtorEq,reduceIte,Int.reduceLT,Int.reduceLE,Int.reduceAdd,Int.reduceSub,Int.reduceNeg,Int.reduceEq,Int.reduceBEq,Int.reduceBNe,Int.reduceToNat,Nat.reduceDiv,Nat.reduceMod, *]; rfl) : OutF P S E dst Q (.call f Ein k) :=
  of_call h hk hd hS ho (e ▸ x)
theorem fz {cfg : Cfg} {ts : List RV} {E : Env} {r : D} {x : Go.Exit} (he : x = .normal ∨ x = .ret := by first | exact .inr rfl | exact .inl rfl) (hk : cfg.keep = fun _ => false := by rfl) (hce : E.ce.take cfg.np = List.replicate cfg.np none := by rfl) (hok : shutOk cfg ts E = true := by rfl) (hr : shutR E ts = r := by rfl) :
    Fin cfg ts ⟨List.replicate cfg.np .dead ++ [r],List.replicate cfg.np none⟩ x E := fin0 he hk hce hok hr
def pE (n : Nat) (l : List D) : Env := ⟨l ++ List.replicate (n - l.length) .dead,List.replicate n none⟩
theorem take_rest {α : Type} {l : List α} {n : Nat} : (l.drop n).take (l.length - n) = l.drop n := List.take_of_length_le (by simp)
attribute [go_sem] pE take_rest List.take_length Nat.sub_zero
theorem loopZ {P : Program} {cfg : Cfg} {c : Code} {E : Env} {Q : Go.Exit → Env → Prop} {σ : Type} {q : σ → Prop} (env : σ → Env) (ks : List Nat) (inv : σ → Prop) (μ : σ → Nat) (s0 : σ) (hE : E.forget (fun t => !ks.contains t) = env s0) (h0 : inv s0) (x : ∀ s,inv s → q s)
    (e : ∀ s,pwp P cfg c (env s) (Exit.nx (fun E' => ∃ s',E'.forget (fun t => !ks.contains t) = env s' ∧ inv s' ∧ μ s' < μ s) Q) = q s := by intro s; simp only [go_sem,Nat.reduceLeDiff,Nat.reduceLT,Nat.reduceAdd,Nat.reduceSub,Nat.reduceMul,Nat.reduceBEq,Nat.reduceBNe,Nat.reduceEqDiff,reduceCtorEq,reduceIte,Int.reduceLT,Int.reduceLE,Int.reduceAdd,Int.reduceSub,Int.reduceNeg,Int.reduceEq,Int.reduceBEq,Int.reduceBNe,Int.reduceToNat,Nat.reduceDiv,Nat.reduceMod]; rfl) : pwp P cfg (.loop c) E Q :=
  loop_on env ks inv μ s0 hE h0 fun s hs => e s ▸ x s hs
theorem sid {p q : Prop} (x : q) (h : p := by first | omega | (simp only [List.length_append,List.length_cons,List.length_nil,List.length_take,List.length_drop]; omega)) : p ∧ q := ⟨h,x⟩
theorem bc {p : Prop} (b : Bool) (h1 : b = false → p) (h2 : b = true → p) : p := by cases b; exact h1 rfl; exact h2 rfl
theorem fzs {cfg : Cfg} {ts : List RV} {E : Env} {r : D} {x : Go.Exit} (he : x = .normal ∨ x = .ret := by first | exact .inr rfl | exact .inl rfl) (hk : cfg.keep = fun _ => false := by rfl) (hce : E.ce.take cfg.np = List.replicate cfg.np none := by rfl) (hok : shutOk cfg ts E = true := by rfl) (hr : shutR E ts = r := by first | (simp only [shutR,shutD,List.getD_cons_zero,List.getD_cons_succ,go_sem, *]; done) | (simp only [shutR,shutD,List.getD_cons_zero,List.getD_cons_succ]; simp [*])) :
    Fin cfg ts ⟨List.replicate cfg.np .dead ++ [r],List.replicate cfg.np none⟩ x E := fin0 he hk hce hok hr
theorem X1 {P1 p q : Prop} (a1 : P1) (x : q) (e : P1 → p = q := by intro a1; simp only [go_sem,Nat.reduceLeDiff,Nat.reduceLT,Nat.reduceAdd,Nat.reduceSub,Nat.reduceMul,Nat.reduceBEq,Nat.reduceBNe,Nat.reduceEqDiff,reduceCtorEq,reduceIte,Int.reduceLT,Int.reduceLE,Int.reduceAdd,Int.reduceSub,Int.reduceNeg,Int.reduceEq,Int.reduceBEq,Int.reduceBNe,Int.reduceToNat,Nat.reduceDiv,Nat.reduceMod,a1]; rfl) : p := e a1 ▸ x
theorem X2 {P1 P2 p q : Prop} (a1 : P1) (a2 : P2) (x : q) (e : P1 → P2 → p = q := by intro a1 a2; simp only [go_sem,Nat.reduceLeDiff,Nat.reduceLT,Nat.reduceAdd,Nat.reduceSub,Nat.reduceMul,Nat.reduceBEq,Nat.reduceBNe,Nat.reduceEqDiff,reduceCtorEq,reduceIte,Int.reduceLT,Int.reduceLE,Int.reduceAdd,Int.reduceSub,Int.reduceNeg,Int.reduceEq,Int.reduceBEq,Int.reduceBNe,Int.reduceToNat,Nat.reduceDiv,Nat.reduceMod,a1,a2]; rfl) : p := e a1 a2 ▸ x
theorem X3 {P1 P2 P3 p q : Prop} (a1 : P1) (a2 : P2) (a3 : P3) (x : q) (e : P1 → P2 → P3 → p = q := by intro a1 a2 a3; simp only [go_sem,Nat.reduceLeDiff,Nat.reduceLT,Nat.reduceAdd,Nat.reduceSub,Nat.reduceMul,Nat.reduceBEq,Nat.reduceBNe,Nat.reduceEqDiff,reduceCtorEq,reduceIte,Int.reduceLT,Int.reduceLE,Int.reduceAdd,Int.reduceSub,Int.reduceNeg,Int.reduceEq,Int.reduceBEq,Int.reduceBNe,Int.reduceToNat,Nat.reduceDiv,Nat.reduceMod,a1,a2,a3]; rfl) : p := e a1 a2 a3 ▸ x
theorem X4 {P1 P2 P3 P4 p q : Prop} (a1 : P1) (a2 : P2) (a3 : P3) (a4 : P4) (x : q) (e : P1 → P2 → P3 → P4 → p = q := by intro a1 a2 a3 a4; simp only [go_sem,Nat.reduceLeDiff,Nat.reduceLT,Nat.reduceAdd,Nat.reduceSub,Nat.reduceMul,Nat.reduceBEq,Nat.reduceBNe,Nat.reduceEqDiff,reduceCtorEq,reduceIte,Int.reduceLT,Int.reduceLE,Int.reduceAdd,Int.reduceSub,Int.reduceNeg,Int.reduceEq,Int.reduceBEq,Int.reduceBNe,Int.reduceToNat,Nat.reduceDiv,Nat.reduceMod,a1,a2,a3,a4]; rfl) : p := e a1 a2 a3 a4 ▸ x
theorem X5 {P1 P2 P3 P4 P5 p q : Prop} (a1 : P1) (a2 : P2) (a3 : P3) (a4 : P4) (a5 : P5) (x : q) (e : P1 → P2 → P3 → P4 → P5 → p = q := by intro a1 a2 a3 a4 a5; simp only [go_sem,Nat.reduceLeDiff,Nat.reduceLT,Nat.reduceAdd,Nat.reduceSub,Nat.reduceMul,Nat.reduceBEq,Nat.reduceBNe,Nat.reduceEqDiff,reduceCtorEq,reduceIte,Int.reduceLT,Int.reduceLE,Int.reduceAdd,Int.reduceSub,Int.reduceNeg,Int.reduceEq,Int.reduceBEq,Int.reduceBNe,Int.reduceToNat,Nat.reduceDiv,Nat.reduceMod,a1,a2,a3,a4,a5]; rfl) : p := e a1 a2 a3 a4 a5 ▸ x
theorem X6 {P1 P2 P3 P4 P5 P6 p q : Prop} (a1 : P1) (a2 : P2) (a3 : P3) (a4 : P4) (a5 : P5) (a6 : P6) (x : q) (e : P1 → P2 → P3 → P4 → P5 → P6 → p = q := by intro a1 a2 a3 a4 a5 a6; simp only [go_sem,Nat.reduceLeDiff,Nat.reduceLT,Nat.reduceAdd,Nat.reduceSub,Nat.reduceMul,Nat.reduceBEq,Nat.reduceBNe,Nat.reduceEqDiff,reduceCtorEq,reduceIte,Int.reduceLT,Int.reduceLE,Int.reduceAdd,Int.reduceSub,Int.reduceNeg,Int.reduceEq,Int.reduceBEq,Int.reduceBNe,Int.reduceToNat,Nat.reduceDiv,Nat.reduceMod,a1,a2,a3,a4,a5,a6]; rfl) : p := e a1 a2 a3 a4 a5 a6 ▸ x
theorem X7 {P1 P2 P3 P4 P5 P6 P7 p q : Prop} (a1 : P1) (a2 : P2) (a3 : P3) (a4 : P4) (a5 : P5) (a6 : P6) (a7 : P7) (x : q) (e : P1 → P2 → P3 → P4 → P5 → P6 → P7 → p = q := by intro a1 a2 a3 a4 a5 a6 a7; simp only [go_sem,Nat.reduceLeDiff,Nat.reduceLT,Nat.reduceAdd,Nat.reduceSub,Nat.reduceMul,Nat.reduceBEq,Nat.reduceBNe,Nat.reduceEqDiff,reduceCtorEq,reduceIte,Int.reduceLT,Int.reduceLE,Int.reduceAdd,Int.reduceSub,Int.reduceNeg,Int.reduceEq,Int.reduceBEq,Int.reduceBNe,Int.reduceToNat,Nat.reduceDiv,Nat.reduceMod,a1,a2,a3,a4,a5,a6,a7]; rfl) : p := e a1 a2 a3 a4 a5 a6 a7 ▸ x
theorem X8 {P1 P2 P3 P4 P5 P6 P7 P8 p q : Prop} (a1 : P1) (a2 : P2) (a3 : P3) (a4 : P4) (a5 : P5) (a6 : P6) (a7 : P7) (a8 : P8) (x : q) (e : P1 → P2 → P3 → P4 → P5 → P6 → P7 → P8 → p = q := by intro a1 a2 a3 a4 a5 a6 a7 a8; simp only [go_sem,Nat.reduceLeDiff,Nat.reduceLT,Nat.reduceAdd,Nat.reduceSub,Nat.reduceMul,Nat.reduceBEq,Nat.reduceBNe,Nat.reduceEqDiff,reduceCtorEq,reduceIte,Int.reduceLT,Int.reduceLE,Int.reduceAdd,Int.reduceSub,Int.reduceNeg,Int.reduceEq,Int.reduceBEq,Int.reduceBNe,Int.reduceToNat,Nat.reduceDiv,Nat.reduceMod,a1,a2,a3,a4,a5,a6,a7,a8]; rfl) : p := e a1 a2 a3 a4 a5 a6 a7 a8 ▸ x
theorem X9 {P1 P2 P3 P4 P5 P6 P7 P8 P9 p q : Prop} (a1 : P1) (a2 : P2) (a3 : P3) (a4 : P4) (a5 : P5) (a6 : P6) (a7 : P7) (a8 : P8) (a9 : P9) (x : q) (e : P1 → P2 → P3 → P4 → P5 → P6 → P7 → P8 → P9 → p = q := by intro a1 a2 a3 a4 a5 a6 a7 a8 a9; simp only [go_sem,Nat.reduceLeDiff,Nat.reduceLT,Nat.reduceAdd,Nat.reduceSub,Nat.reduceMul,Nat.reduceBEq,Nat.reduceBNe,Nat.reduceEqDiff,reduceCtorEq,reduceIte,Int.reduceLT,Int.reduceLE,Int.reduceAdd,Int.reduceSub,Int.reduceNeg,Int.reduceEq,Int.reduceBEq,Int.reduceBNe,Int.reduceToNat,Nat.reduceDiv,Nat.reduceMod,a1,a2,a3,a4,a5,a6,a7,a8,a9]; rfl) : p := e a1 a2 a3 a4 a5 a6 a7 a8 a9 ▸ x
theorem cf {P : Program} {K : Env → Prop} {E Ein Eout : Env} {f : FuncId} {k : Env → Option (List W)} {ws : List W} (h : Sem P f Ein Eout) (x : K (E.app ws)) (hk : k Eout = some ws := by exact retW0 rfl rfl rfl rfl) : Done P K E (.call f Ein k) := ev_call h hk x
theorem cY {P : Program} {K : Env → Prop} {E Ein Eout : Env} {f : FuncId} {k : Env → Option (List W)} {ws : List W} {q : Prop} (h : Sem P f Ein Eout) (x : q) (hk : k Eout = some ws := by exact retW0 rfl rfl rfl rfl) (e : K (E.app ws) = q := by simp only [go_sem,Nat.reduceLeDiff,Nat.reduceLT,Nat.reduceAdd,Nat.reduceSub,Nat.reduceMul,Nat.reduceBEq,Nat.reduceBNe,Nat.reduceEqDiff,reduceCtorEq,reduceIte,Int.reduceLT,Int.reduceLE,Int.reduceAdd,Int.reduceSub,Int.reduceNeg,Int.reduceEq,Int.reduceBEq,Int.reduceBNe,Int.reduceToNat,Nat.reduceDiv,Nat.reduceMod]; rfl) : Done P K E (.call f Ein k) := ev_call h hk (e ▸ x)
theorem c1f {P : Program} {K : Env → Prop} {E Ein Eout : Env} {f : FuncId} {k : Env → Option (List W)} {ws : List W} (h : Sem P f Ein Eout) (x : K (E.app ws)) (hk : k Eout = some ws := by exact retW1 rfl rfl rfl rfl rfl rfl) : Done P K E (.call f Ein k) := ev_call h hk x
theorem df {P : Program} {S : Nat → Bool} {E Ein Eout : Env} {dst : Option Tmp} {Q : Nat → D → Option (List D) → Prop} {f : FuncId} {k : Env → Option (List W)} {t : Nat} {d : D} (h : Sem P f Ein Eout) (x : Q t d none) (hk : k Eout = some [.ca [] [] [],.rw t d] := by exact retW0 rfl rfl rfl rfl) (hd : dst = some t := by rfl) (hS : S t = true := by rfl) (ho : (E.sl.getD t .dead).anyOwn = false := by rfl) : OutF P S E dst Q (.call f Ein k) := of_call h hk hd hS ho x
theorem fq {cfg : Cfg} {ts : List RV} {E : Env} {r : D} {x : Go.Exit} (hr : shutR E ts = r) (he : x = .normal ∨ x = .ret := by first | exact .inr rfl | exact .inl rfl) (hk : cfg.keep = fun _ => false := by rfl) (hce : E.ce.take cfg.np = List.replicate cfg.np none := by rfl) (hok : shutOk cfg ts E = true := by rfl) :
    Fin cfg ts ⟨List.replicate cfg.np .dead ++ [r],List.replicate cfg.np none⟩ x E := fin0 he hk hce hok hr
def Hid (p : Prop) : Prop := p
end Go.Proofs.YtplagdnnnkdlnaaGreatDoor.Fw
/- Types of the program, as far as the proof needs them. -/
namespace Go.Proofs.YtplagdnnnkdlnaaGreatDoor.Fw
open Go
open Go.Proofs.Tryz
set_option maxRecDepth 100000
def tb : Tab := fun t => match t with
  | 3 => some ⟨.int .i64,1,8,[.v (.int .i64 0)],[],[0]⟩
  | 4 => some ⟨.bool,1,1,[.v (.bool false)],[],[0]⟩
  | 5 => some ⟨.int .u8,1,1,[.v (.int .u8 0)],[],[0]⟩
  | 9 => some ⟨.str,1,16,[.v (vS [])],[],[0]⟩
  | 22 => some ⟨.slice 52,1,24,[.nil],[],[52]⟩
  | 24 => some ⟨.struct,7,104,[.v (vS []),.v (vS []),.v (.int .i64 0),.v (vS []),.v (.bool false),.nil,.v (vS [])],[0,1,2,3,4,5,6],[0,0,0,0,0,52,0]⟩
  | 26 => some ⟨.slice 45,1,24,[.nil],[],[45]⟩
  | 28 => some ⟨.struct,7,104,[.v (vS []),.v (vS []),.v (.int .i64 0),.v (vS []),.v (.bool false),.nil,.v (vS [])],[0,1,2,3,4,5,6],[0,0,0,0,0,45,0]⟩
  | 37 => some ⟨.struct,5,64,[.v (vS []),.v (.int .i64 0),.v (vS []),.v (vS []),.v (.bool false)],[0,1,2,3,4],[0,0,0,0,0]⟩
  | 45 => some ⟨.struct,2,32,[.v (vS []),.v (vS [])],[0,1],[0,0]⟩
  | 52 => some ⟨.struct,2,32,[.v (vS []),.v (vS [])],[0,1],[0,0]⟩
  | 53 => some ⟨.other,1,8,[.v .nilFunc],[],[0]⟩
  | 62 => some ⟨.slice 9,1,24,[.nil],[],[9]⟩
  | 68 => some ⟨.other,1,8,[.v .nilFunc],[],[0]⟩
  | 80 => some ⟨.slice 5,1,24,[.nil],[],[5]⟩
  | 100 => some ⟨.struct,2,32,[.v (.pointer none),.nil],[0,1],[0,5]⟩
  | _ => none
theorem tbOk : TabOk prog tb := by
  intro t i h
  unfold tb at h
  split at h
  · injection h with h; subst h; exact ⟨underlying3,⟨(prog.info? 3).get rfl,.int .i64 0,rfl,rfl,rfl,rfl,rfl,rfl,rfl⟩,rfl,rfl,fun _ => rfl,by decide⟩
  · injection h with h; subst h; exact ⟨underlying4,⟨(prog.info? 4).get rfl,.bool false,rfl,rfl,rfl,rfl,rfl,rfl,rfl⟩,rfl,rfl,fun _ => rfl,by decide⟩
  · injection h with h; subst h; exact ⟨underlying5,⟨(prog.info? 5).get rfl,.int .u8 0,rfl,rfl,rfl,rfl,rfl,rfl,rfl⟩,rfl,rfl,fun _ => rfl,by decide⟩
  · injection h with h; subst h; exact ⟨underlying9,⟨(prog.info? 9).get rfl,.string ⟨#[]⟩,rfl,rfl,rfl,rfl,rfl,rfl,rfl⟩,rfl,rfl,fun _ => rfl,by decide⟩
  · injection h with h; subst h; exact ⟨⟨underlying22,_,rfl⟩,⟨(prog.info? 22).get rfl,.slice none 0 0,rfl,rfl,rfl,rfl,rfl,rfl,rfl⟩,rfl,rfl,fun _ => rfl,by decide⟩
  · injection h with h; subst h
    refine ⟨⟨_,underlying24,by decide,fun f off h => ?_⟩,⟨(prog.info? 24).get rfl,.agg #[.string ⟨#[]⟩,.string ⟨#[]⟩,.int .i64 0,.string ⟨#[]⟩,.bool false,.slice none 0 0,.string ⟨#[]⟩],rfl,rfl,rfl,rfl,rfl,rfl,rfl⟩,rfl,rfl,fun h => (by cases h),by decide⟩
    match f,h with
    | 0,h => injection h with h; subst h; exact ⟨_,rfl,rfl,_,rfl,by decide,rfl⟩
    | 1,h => injection h with h; subst h; exact ⟨_,rfl,rfl,_,rfl,by decide,rfl⟩
    | 2,h => injection h with h; subst h; exact ⟨_,rfl,rfl,_,rfl,by decide,rfl⟩
    | 3,h => injection h with h; subst h; exact ⟨_,rfl,rfl,_,rfl,by decide,rfl⟩
    | 4,h => injection h with h; subst h; exact ⟨_,rfl,rfl,_,rfl,by decide,rfl⟩
    | 5,h => injection h with h; subst h; exact ⟨_,rfl,rfl,_,rfl,by decide,rfl⟩
    | 6,h => injection h with h; subst h; exact ⟨_,rfl,rfl,_,rfl,by decide,rfl⟩
    | n + 7,h => cases h
  · injection h with h; subst h; exact ⟨⟨underlying26,_,rfl⟩,⟨(prog.info? 26).get rfl,.slice none 0 0,rfl,rfl,rfl,rfl,rfl,rfl,rfl⟩,rfl,rfl,fun _ => rfl,by decide⟩
  · injection h with h; subst h
    refine ⟨⟨_,underlying28,by decide,fun f off h => ?_⟩,⟨(prog.info? 28).get rfl,.agg #[.string ⟨#[]⟩,.string ⟨#[]⟩,.int .i64 0,.string ⟨#[]⟩,.bool false,.slice none 0 0,.string ⟨#[]⟩],rfl,rfl,rfl,rfl,rfl,rfl,rfl⟩,rfl,rfl,fun h => (by cases h),by decide⟩
    match f,h with
    | 0,h => injection h with h; subst h; exact ⟨_,rfl,rfl,_,rfl,by decide,rfl⟩
    | 1,h => injection h with h; subst h; exact ⟨_,rfl,rfl,_,rfl,by decide,rfl⟩
    | 2,h => injection h with h; subst h; exact ⟨_,rfl,rfl,_,rfl,by decide,rfl⟩
    | 3,h => injection h with h; subst h; exact ⟨_,rfl,rfl,_,rfl,by decide,rfl⟩
    | 4,h => injection h with h; subst h; exact ⟨_,rfl,rfl,_,rfl,by decide,rfl⟩
    | 5,h => injection h with h; subst h; exact ⟨_,rfl,rfl,_,rfl,by decide,rfl⟩
    | 6,h => injection h with h; subst h; exact ⟨_,rfl,rfl,_,rfl,by decide,rfl⟩
    | n + 7,h => cases h
  · injection h with h; subst h
    refine ⟨⟨_,underlying37,by decide,fun f off h => ?_⟩,⟨(prog.info? 37).get rfl,.agg #[.string ⟨#[]⟩,.int .i64 0,.string ⟨#[]⟩,.string ⟨#[]⟩,.bool false],rfl,rfl,rfl,rfl,rfl,rfl,rfl⟩,rfl,rfl,fun h => (by cases h),by decide⟩
    match f,h with
    | 0,h => injection h with h; subst h; exact ⟨_,rfl,rfl,_,rfl,by decide,rfl⟩
    | 1,h => injection h with h; subst h; exact ⟨_,rfl,rfl,_,rfl,by decide,rfl⟩
    | 2,h => injection h with h; subst h; exact ⟨_,rfl,rfl,_,rfl,by decide,rfl⟩
    | 3,h => injection h with h; subst h; exact ⟨_,rfl,rfl,_,rfl,by decide,rfl⟩
    | 4,h => injection h with h; subst h; exact ⟨_,rfl,rfl,_,rfl,by decide,rfl⟩
    | n + 5,h => cases h
  · injection h with h; subst h
    refine ⟨⟨_,underlying45,by decide,fun f off h => ?_⟩,⟨(prog.info? 45).get rfl,.agg #[.string ⟨#[]⟩,.string ⟨#[]⟩],rfl,rfl,rfl,rfl,rfl,rfl,rfl⟩,rfl,rfl,fun h => (by cases h),by decide⟩
    match f,h with
    | 0,h => injection h with h; subst h; exact ⟨_,rfl,rfl,_,rfl,by decide,rfl⟩
    | 1,h => injection h with h; subst h; exact ⟨_,rfl,rfl,_,rfl,by decide,rfl⟩
    | n + 2,h => cases h
  · injection h with h; subst h
    refine ⟨⟨_,underlying52,by decide,fun f off h => ?_⟩,⟨(prog.info? 52).get rfl,.agg #[.string ⟨#[]⟩,.string ⟨#[]⟩],rfl,rfl,rfl,rfl,rfl,rfl,rfl⟩,rfl,rfl,fun h => (by cases h),by decide⟩
    match f,h with
    | 0,h => injection h with h; subst h; exact ⟨_,rfl,rfl,_,rfl,by decide,rfl⟩
    | 1,h => injection h with h; subst h; exact ⟨_,rfl,rfl,_,rfl,by decide,rfl⟩
    | n + 2,h => cases h
  · injection h with h; subst h; exact ⟨⟨_,underlying53,trivial⟩,⟨(prog.info? 53).get rfl,.nilFunc,rfl,rfl,rfl,rfl,rfl,rfl,rfl⟩,rfl,rfl,fun _ => rfl,by decide⟩
  · injection h with h; subst h; exact ⟨⟨underlying62,_,rfl⟩,⟨(prog.info? 62).get rfl,.slice none 0 0,rfl,rfl,rfl,rfl,rfl,rfl,rfl⟩,rfl,rfl,fun _ => rfl,by decide⟩
  · injection h with h; subst h; exact ⟨⟨_,underlying68,trivial⟩,⟨(prog.info? 68).get rfl,.nilFunc,rfl,rfl,rfl,rfl,rfl,rfl,rfl⟩,rfl,rfl,fun _ => rfl,by decide⟩
  · injection h with h; subst h; exact ⟨⟨underlying80,_,rfl⟩,⟨(prog.info? 80).get rfl,.slice none 0 0,rfl,rfl,rfl,rfl,rfl,rfl,rfl⟩,rfl,rfl,fun _ => rfl,by decide⟩
  · injection h with h; subst h
    refine ⟨⟨_,underlying100,by decide,fun f off h => ?_⟩,⟨(prog.info? 100).get rfl,.agg #[.pointer none,.slice none 0 0],rfl,rfl,rfl,rfl,rfl,rfl,rfl⟩,rfl,rfl,fun h => (by cases h),by decide⟩
    match f,h with
    | 0,h => injection h with h; subst h; exact ⟨_,rfl,rfl,_,rfl,by decide,rfl⟩
    | 1,h => injection h with h; subst h; exact ⟨_,rfl,rfl,_,rfl,by decide,rfl⟩
    | n + 2,h => cases h
  · cases h
theorem tb_3 : tb 3 = some ⟨.int .i64,1,8,[.v (.int .i64 0)],[],[0]⟩ := rfl
theorem kd_3 : tb.kd 3 = some (.int .i64) := rfl
theorem tb_4 : tb 4 = some ⟨.bool,1,1,[.v (.bool false)],[],[0]⟩ := rfl
theorem kd_4 : tb.kd 4 = some (.bool) := rfl
theorem tb_5 : tb 5 = some ⟨.int .u8,1,1,[.v (.int .u8 0)],[],[0]⟩ := rfl
theorem kd_5 : tb.kd 5 = some (.int .u8) := rfl
theorem tb_9 : tb 9 = some ⟨.str,1,16,[.v (vS [])],[],[0]⟩ := rfl
theorem kd_9 : tb.kd 9 = some (.str) := rfl
theorem tb_22 : tb 22 = some ⟨.slice 52,1,24,[.nil],[],[52]⟩ := rfl
theorem kd_22 : tb.kd 22 = some (.slice 52) := rfl
theorem tb_24 : tb 24 = some ⟨.struct,7,104,[.v (vS []),.v (vS []),.v (.int .i64 0),.v (vS []),.v (.bool false),.nil,.v (vS [])],[0,1,2,3,4,5,6],[0,0,0,0,0,52,0]⟩ := rfl
theorem kd_24 : tb.kd 24 = some (.struct) := rfl
theorem tb_26 : tb 26 = some ⟨.slice 45,1,24,[.nil],[],[45]⟩ := rfl
theorem kd_26 : tb.kd 26 = some (.slice 45) := rfl
theorem tb_28 : tb 28 = some ⟨.struct,7,104,[.v (vS []),.v (vS []),.v (.int .i64 0),.v (vS []),.v (.bool false),.nil,.v (vS [])],[0,1,2,3,4,5,6],[0,0,0,0,0,45,0]⟩ := rfl
theorem kd_28 : tb.kd 28 = some (.struct) := rfl
theorem tb_37 : tb 37 = some ⟨.struct,5,64,[.v (vS []),.v (.int .i64 0),.v (vS []),.v (vS []),.v (.bool false)],[0,1,2,3,4],[0,0,0,0,0]⟩ := rfl
theorem kd_37 : tb.kd 37 = some (.struct) := rfl
theorem tb_45 : tb 45 = some ⟨.struct,2,32,[.v (vS []),.v (vS [])],[0,1],[0,0]⟩ := rfl
theorem kd_45 : tb.kd 45 = some (.struct) := rfl
theorem tb_52 : tb 52 = some ⟨.struct,2,32,[.v (vS []),.v (vS [])],[0,1],[0,0]⟩ := rfl
theorem kd_52 : tb.kd 52 = some (.struct) := rfl
theorem tb_53 : tb 53 = some ⟨.other,1,8,[.v .nilFunc],[],[0]⟩ := rfl
theorem kd_53 : tb.kd 53 = some (.other) := rfl
theorem tb_62 : tb 62 = some ⟨.slice 9,1,24,[.nil],[],[9]⟩ := rfl
theorem kd_62 : tb.kd 62 = some (.slice 9) := rfl
theorem tb_68 : tb 68 = some ⟨.other,1,8,[.v .nilFunc],[],[0]⟩ := rfl
theorem kd_68 : tb.kd 68 = some (.other) := rfl
theorem tb_80 : tb 80 = some ⟨.slice 5,1,24,[.nil],[],[5]⟩ := rfl
theorem kd_80 : tb.kd 80 = some (.slice 5) := rfl
theorem tb_100 : tb 100 = some ⟨.struct,2,32,[.v (.pointer none),.nil],[0,1],[0,5]⟩ := rfl
theorem kd_100 : tb.kd 100 = some (.struct) := rfl
attribute [go_sem] tb_3 kd_3 tb_4 kd_4 tb_5 kd_5 tb_9 kd_9 tb_22 kd_22 tb_24 kd_24 tb_26 kd_26 tb_28 kd_28 tb_37 kd_37 tb_45 kd_45 tb_52 kd_52 tb_53 kd_53 tb_62 kd_62 tb_68 kd_68 tb_80 kd_80 tb_100 kd_100
def pts : FuncId → List TypeId := fun f => match f with
  | 3 => [24,9]
  | 4 => [24,3]
  | 5 => [28,9]
  | 6 => [24]
  | 7 => [28,9]
  | 8 => [28,28]
  | 9 => [28,3]
  | 10 => [28,3]
  | 11 => [22,3]
  | 12 => [9]
  | 13 => [28]
  | 14 => [26,45]
  | 15 => [26]
  | 16 => [37]
  | 17 => [37]
  | 18 => [26,9]
  | 19 => [22]
  | 20 => [9]
  | 21 => [28]
  | 22 => [26,9]
  | 23 => [26,45]
  | 24 => [26]
  | 25 => [37]
  | 26 => [37]
  | 27 => [28]
  | 28 => [26,26]
  | 29 => [26,3]
  | 30 => [26,3]
  | 31 => [52,3]
  | 32 => [9]
  | 33 => [9,5]
  | 34 => [9]
  | 35 => [9]
  | 36 => [9]
  | 37 => [37]
  | 38 => [26]
  | 39 => [26]
  | 40 => [28]
  | 41 => [28]
  | 42 => [28]
  | 43 => [45]
  | 44 => [26,9]
  | 45 => [26]
  | 46 => [62,9]
  | 47 => [37]
  | 48 => [37]
  | 49 => [9]
  | 50 => [26,9]
  | 51 => [52]
  | 52 => [9,68]
  | 53 => [5]
  | 54 => [9,9]
  | 55 => [9]
  | 56 => [9,9]
  | 57 => [9,9]
  | 58 => [9]
  | 59 => [9]
  | 60 => [9]
  | 61 => [37]
  | 62 => [26]
  | 63 => []
  | 64 => [26,9]
  | 65 => [9]
  | 66 => [9]
  | 67 => [3]
  | 68 => [9]
  | 69 => [3]
  | 70 => [28]
  | 71 => [9]
  | 72 => [26,9]
  | 73 => [45]
  | 74 => [26,9]
  | 75 => [26]
  | 76 => [26,53]
  | 77 => [9,9]
  | 78 => [62,9]
  | 79 => [37]
  | 80 => [37]
  | 81 => [45,45]
  | 82 => [3]
  | 83 => [5]
  | 84 => [5]
  | 85 => [3]
  | 86 => [9,5]
  | 87 => [9]
  | 88 => [9]
  | 89 => [9]
  | 90 => [9]
  | 91 => [3]
  | 92 => [45]
  | 93 => [9]
  | 94 => [9,9]
  | 95 => [26,9]
  | 96 => [62,9]
  | 97 => [37]
  | 98 => [26,9]
  | 100 => [5]
  | 106 => [9]
  | 107 => [3,3,3]
  | 108 => [3]
  | 109 => [9,9]
  | 110 => [9,9]
  | 111 => [9,9]
  | 112 => [9]
  | 113 => [62,9]
  | 114 => [9]
  | 115 => [26,9]
  | 116 => [9]
  | 117 => [5]
  | 118 => [98,9]
  | 119 => [3]
  | 120 => [45]
  | 121 => [98]
  | 122 => [9]
  | 123 => [9,9]
  | 124 => [9,9]
  | 125 => [26,9]
  | 126 => [62]
  | 127 => [62]
  | 129 => [9]
  | 130 => [5]
  | 131 => [5]
  | 132 => [5]
  | 133 => [5]
  | 134 => [5]
  | 135 => [9]
  | 137 => [9,5]
  | 145 => [5]
  | 146 => [5]
  | 148 => [5]
  | 149 => [5]
  | 150 => [5]
  | 151 => [5]
  | 154 => [5]
  | 155 => [9]
  | 158 => [9,5]
  | 159 => [9,5]
  | 171 => [9,9]
  | 183 => [9,5]
  | _ => []
theorem pts_3 : pts 3 = [24,9] := rfl
theorem pts_4 : pts 4 = [24,3] := rfl
theorem pts_5 : pts 5 = [28,9] := rfl
theorem pts_6 : pts 6 = [24] := rfl
theorem pts_7 : pts 7 = [28,9] := rfl
theorem pts_8 : pts 8 = [28,28] := rfl
theorem pts_9 : pts 9 = [28,3] := rfl
theorem pts_10 : pts 10 = [28,3] := rfl
theorem pts_11 : pts 11 = [22,3] := rfl
theorem pts_12 : pts 12 = [9] := rfl
theorem pts_13 : pts 13 = [28] := rfl
theorem pts_14 : pts 14 = [26,45] := rfl
theorem pts_15 : pts 15 = [26] := rfl
theorem pts_16 : pts 16 = [37] := rfl
theorem pts_17 : pts 17 = [37] := rfl
theorem pts_18 : pts 18 = [26,9] := rfl
theorem pts_19 : pts 19 = [22] := rfl
theorem pts_20 : pts 20 = [9] := rfl
theorem pts_21 : pts 21 = [28] := rfl
theorem pts_22 : pts 22 = [26,9] := rfl
theorem pts_23 : pts 23 = [26,45] := rfl
theorem pts_24 : pts 24 = [26] := rfl
theorem pts_25 : pts 25 = [37] := rfl
theorem pts_26 : pts 26 = [37] := rfl
theorem pts_27 : pts 27 = [28] := rfl
theorem pts_28 : pts 28 = [26,26] := rfl
theorem pts_29 : pts 29 = [26,3] := rfl
theorem pts_30 : pts 30 = [26,3] := rfl
theorem pts_31 : pts 31 = [52,3] := rfl
theorem pts_32 : pts 32 = [9] := rfl
theorem pts_33 : pts 33 = [9,5] := rfl
theorem pts_34 : pts 34 = [9] := rfl
theorem pts_35 : pts 35 = [9] := rfl
theorem pts_36 : pts 36 = [9] := rfl
theorem pts_37 : pts 37 = [37] := rfl
theorem pts_38 : pts 38 = [26] := rfl
theorem pts_39 : pts 39 = [26] := rfl
theorem pts_40 : pts 40 = [28] := rfl
theorem pts_41 : pts 41 = [28] := rfl
theorem pts_42 : pts 42 = [28] := rfl
theorem pts_43 : pts 43 = [45] := rfl
theorem pts_44 : pts 44 = [26,9] := rfl
theorem pts_45 : pts 45 = [26] := rfl
theorem pts_46 : pts 46 = [62,9] := rfl
theorem pts_47 : pts 47 = [37] := rfl
theorem pts_48 : pts 48 = [37] := rfl
theorem pts_49 : pts 49 = [9] := rfl
theorem pts_50 : pts 50 = [26,9] := rfl
theorem pts_51 : pts 51 = [52] := rfl
theorem pts_52 : pts 52 = [9,68] := rfl
theorem pts_53 : pts 53 = [5] := rfl
theorem pts_54 : pts 54 = [9,9] := rfl
theorem pts_55 : pts 55 = [9] := rfl
theorem pts_56 : pts 56 = [9,9] := rfl
theorem pts_57 : pts 57 = [9,9] := rfl
theorem pts_58 : pts 58 = [9] := rfl
theorem pts_59 : pts 59 = [9] := rfl
theorem pts_60 : pts 60 = [9] := rfl
theorem pts_61 : pts 61 = [37] := rfl
theorem pts_62 : pts 62 = [26] := rfl
theorem pts_63 : pts 63 = [] := rfl
theorem pts_64 : pts 64 = [26,9] := rfl
theorem pts_65 : pts 65 = [9] := rfl
theorem pts_66 : pts 66 = [9] := rfl
theorem pts_67 : pts 67 = [3] := rfl
theorem pts_68 : pts 68 = [9] := rfl
theorem pts_69 : pts 69 = [3] := rfl
theorem pts_70 : pts 70 = [28] := rfl
theorem pts_71 : pts 71 = [9] := rfl
theorem pts_72 : pts 72 = [26,9] := rfl
theorem pts_73 : pts 73 = [45] := rfl
theorem pts_74 : pts 74 = [26,9] := rfl
theorem pts_75 : pts 75 = [26] := rfl
theorem pts_76 : pts 76 = [26,53] := rfl
theorem pts_77 : pts 77 = [9,9] := rfl
theorem pts_78 : pts 78 = [62,9] := rfl
theorem pts_79 : pts 79 = [37] := rfl
theorem pts_80 : pts 80 = [37] := rfl
theorem pts_81 : pts 81 = [45,45] := rfl
theorem pts_82 : pts 82 = [3] := rfl
theorem pts_83 : pts 83 = [5] := rfl
theorem pts_84 : pts 84 = [5] := rfl
theorem pts_85 : pts 85 = [3] := rfl
theorem pts_86 : pts 86 = [9,5] := rfl
theorem pts_87 : pts 87 = [9] := rfl
theorem pts_88 : pts 88 = [9] := rfl
theorem pts_89 : pts 89 = [9] := rfl
theorem pts_90 : pts 90 = [9] := rfl
theorem pts_91 : pts 91 = [3] := rfl
theorem pts_92 : pts 92 = [45] := rfl
theorem pts_93 : pts 93 = [9] := rfl
theorem pts_94 : pts 94 = [9,9] := rfl
theorem pts_95 : pts 95 = [26,9] := rfl
theorem pts_96 : pts 96 = [62,9] := rfl
theorem pts_97 : pts 97 = [37] := rfl
theorem pts_98 : pts 98 = [26,9] := rfl
theorem pts_100 : pts 100 = [5] := rfl
theorem pts_106 : pts 106 = [9] := rfl
theorem pts_107 : pts 107 = [3,3,3] := rfl
theorem pts_108 : pts 108 = [3] := rfl
theorem pts_109 : pts 109 = [9,9] := rfl
theorem pts_110 : pts 110 = [9,9] := rfl
theorem pts_111 : pts 111 = [9,9] := rfl
theorem pts_112 : pts 112 = [9] := rfl
theorem pts_113 : pts 113 = [62,9] := rfl
theorem pts_114 : pts 114 = [9] := rfl
theorem pts_115 : pts 115 = [26,9] := rfl
theorem pts_116 : pts 116 = [9] := rfl
theorem pts_117 : pts 117 = [5] := rfl
theorem pts_118 : pts 118 = [98,9] := rfl
theorem pts_119 : pts 119 = [3] := rfl
theorem pts_120 : pts 120 = [45] := rfl
theorem pts_121 : pts 121 = [98] := rfl
theorem pts_122 : pts 122 = [9] := rfl
theorem pts_123 : pts 123 = [9,9] := rfl
theorem pts_124 : pts 124 = [9,9] := rfl
theorem pts_125 : pts 125 = [26,9] := rfl
theorem pts_126 : pts 126 = [62] := rfl
theorem pts_127 : pts 127 = [62] := rfl
theorem pts_129 : pts 129 = [9] := rfl
theorem pts_130 : pts 130 = [5] := rfl
theorem pts_131 : pts 131 = [5] := rfl
theorem pts_132 : pts 132 = [5] := rfl
theorem pts_133 : pts 133 = [5] := rfl
theorem pts_134 : pts 134 = [5] := rfl
theorem pts_135 : pts 135 = [9] := rfl
theorem pts_137 : pts 137 = [9,5] := rfl
theorem pts_145 : pts 145 = [5] := rfl
theorem pts_146 : pts 146 = [5] := rfl
theorem pts_148 : pts 148 = [5] := rfl
theorem pts_149 : pts 149 = [5] := rfl
theorem pts_150 : pts 150 = [5] := rfl
theorem pts_151 : pts 151 = [5] := rfl
theorem pts_154 : pts 154 = [5] := rfl
theorem pts_155 : pts 155 = [9] := rfl
theorem pts_158 : pts 158 = [9,5] := rfl
theorem pts_159 : pts 159 = [9,5] := rfl
theorem pts_171 : pts 171 = [9,9] := rfl
theorem pts_183 : pts 183 = [9,5] := rfl
def md : FuncId → Nat → Nat := fun f i => match f,i with
  | 9,0 => 1
  | 27,0 => 1
  | 29,0 => 1
  | 96,0 => 1
  | 126,0 => 1
  | 127,0 => 1
  | 171,1 => 3
  | _,_ => 0
theorem md_3_0 : md 3 0 = 0 := rfl
theorem md_3_1 : md 3 1 = 0 := rfl
theorem md_4_0 : md 4 0 = 0 := rfl
theorem md_4_1 : md 4 1 = 0 := rfl
theorem md_5_0 : md 5 0 = 0 := rfl
theorem md_5_1 : md 5 1 = 0 := rfl
theorem md_6_0 : md 6 0 = 0 := rfl
theorem md_7_0 : md 7 0 = 0 := rfl
theorem md_7_1 : md 7 1 = 0 := rfl
theorem md_8_0 : md 8 0 = 0 := rfl
theorem md_8_1 : md 8 1 = 0 := rfl
theorem md_9_0 : md 9 0 = 1 := rfl
theorem md_9_1 : md 9 1 = 0 := rfl
theorem md_10_0 : md 10 0 = 0 := rfl
theorem md_10_1 : md 10 1 = 0 := rfl
theorem md_11_0 : md 11 0 = 0 := rfl
theorem md_11_1 : md 11 1 = 0 := rfl
theorem md_12_0 : md 12 0 = 0 := rfl
theorem md_13_0 : md 13 0 = 0 := rfl
theorem md_14_0 : md 14 0 = 0 := rfl
theorem md_14_1 : md 14 1 = 0 := rfl
theorem md_15_0 : md 15 0 = 0 := rfl
theorem md_16_0 : md 16 0 = 0 := rfl
theorem md_17_0 : md 17 0 = 0 := rfl
theorem md_18_0 : md 18 0 = 0 := rfl
theorem md_18_1 : md 18 1 = 0 := rfl
theorem md_19_0 : md 19 0 = 0 := rfl
theorem md_20_0 : md 20 0 = 0 := rfl
theorem md_21_0 : md 21 0 = 0 := rfl
theorem md_22_0 : md 22 0 = 0 := rfl
theorem md_22_1 : md 22 1 = 0 := rfl
theorem md_23_0 : md 23 0 = 0 := rfl
theorem md_23_1 : md 23 1 = 0 := rfl
theorem md_24_0 : md 24 0 = 0 := rfl
theorem md_25_0 : md 25 0 = 0 := rfl
theorem md_26_0 : md 26 0 = 0 := rfl
theorem md_27_0 : md 27 0 = 1 := rfl
theorem md_28_0 : md 28 0 = 0 := rfl
theorem md_28_1 : md 28 1 = 0 := rfl
theorem md_29_0 : md 29 0 = 1 := rfl
theorem md_29_1 : md 29 1 = 0 := rfl
theorem md_30_0 : md 30 0 = 0 := rfl
theorem md_30_1 : md 30 1 = 0 := rfl
theorem md_31_0 : md 31 0 = 0 := rfl
theorem md_31_1 : md 31 1 = 0 := rfl
theorem md_32_0 : md 32 0 = 0 := rfl
theorem md_33_0 : md 33 0 = 0 := rfl
theorem md_33_1 : md 33 1 = 0 := rfl
theorem md_34_0 : md 34 0 = 0 := rfl
theorem md_35_0 : md 35 0 = 0 := rfl
theorem md_36_0 : md 36 0 = 0 := rfl
theorem md_37_0 : md 37 0 = 0 := rfl
theorem md_38_0 : md 38 0 = 0 := rfl
theorem md_39_0 : md 39 0 = 0 := rfl
theorem md_40_0 : md 40 0 = 0 := rfl
theorem md_41_0 : md 41 0 = 0 := rfl
theorem md_42_0 : md 42 0 = 0 := rfl
theorem md_43_0 : md 43 0 = 0 := rfl
theorem md_44_0 : md 44 0 = 0 := rfl
theorem md_44_1 : md 44 1 = 0 := rfl
theorem md_45_0 : md 45 0 = 0 := rfl
theorem md_46_0 : md 46 0 = 0 := rfl
theorem md_46_1 : md 46 1 = 0 := rfl
theorem md_47_0 : md 47 0 = 0 := rfl
theorem md_48_0 : md 48 0 = 0 := rfl
theorem md_49_0 : md 49 0 = 0 := rfl
theorem md_50_0 : md 50 0 = 0 := rfl
theorem md_50_1 : md 50 1 = 0 := rfl
theorem md_51_0 : md 51 0 = 0 := rfl
theorem md_52_0 : md 52 0 = 0 := rfl
theorem md_52_1 : md 52 1 = 0 := rfl
theorem md_53_0 : md 53 0 = 0 := rfl
theorem md_54_0 : md 54 0 = 0 := rfl
theorem md_54_1 : md 54 1 = 0 := rfl
theorem md_55_0 : md 55 0 = 0 := rfl
theorem md_56_0 : md 56 0 = 0 := rfl
theorem md_56_1 : md 56 1 = 0 := rfl
theorem md_57_0 : md 57 0 = 0 := rfl
theorem md_57_1 : md 57 1 = 0 := rfl
theorem md_58_0 : md 58 0 = 0 := rfl
theorem md_59_0 : md 59 0 = 0 := rfl
theorem md_60_0 : md 60 0 = 0 := rfl
theorem md_61_0 : md 61 0 = 0 := rfl
theorem md_62_0 : md 62 0 = 0 := rfl
theorem md_64_0 : md 64 0 = 0 := rfl
theorem md_64_1 : md 64 1 = 0 := rfl
theorem md_65_0 : md 65 0 = 0 := rfl
theorem md_66_0 : md 66 0 = 0 := rfl
theorem md_67_0 : md 67 0 = 0 := rfl
theorem md_68_0 : md 68 0 = 0 := rfl
theorem md_69_0 : md 69 0 = 0 := rfl
theorem md_70_0 : md 70 0 = 0 := rfl
theorem md_71_0 : md 71 0 = 0 := rfl
theorem md_72_0 : md 72 0 = 0 := rfl
theorem md_72_1 : md 72 1 = 0 := rfl
theorem md_73_0 : md 73 0 = 0 := rfl
theorem md_74_0 : md 74 0 = 0 := rfl
theorem md_74_1 : md 74 1 = 0 := rfl
theorem md_75_0 : md 75 0 = 0 := rfl
theorem md_76_0 : md 76 0 = 0 := rfl
theorem md_76_1 : md 76 1 = 0 := rfl
theorem md_77_0 : md 77 0 = 0 := rfl
theorem md_77_1 : md 77 1 = 0 := rfl
theorem md_78_0 : md 78 0 = 0 := rfl
theorem md_78_1 : md 78 1 = 0 := rfl
theorem md_79_0 : md 79 0 = 0 := rfl
theorem md_80_0 : md 80 0 = 0 := rfl
theorem md_81_0 : md 81 0 = 0 := rfl
theorem md_81_1 : md 81 1 = 0 := rfl
theorem md_82_0 : md 82 0 = 0 := rfl
theorem md_83_0 : md 83 0 = 0 := rfl
theorem md_84_0 : md 84 0 = 0 := rfl
theorem md_85_0 : md 85 0 = 0 := rfl
theorem md_86_0 : md 86 0 = 0 := rfl
theorem md_86_1 : md 86 1 = 0 := rfl
theorem md_87_0 : md 87 0 = 0 := rfl
theorem md_88_0 : md 88 0 = 0 := rfl
theorem md_89_0 : md 89 0 = 0 := rfl
theorem md_90_0 : md 90 0 = 0 := rfl
theorem md_91_0 : md 91 0 = 0 := rfl
theorem md_92_0 : md 92 0 = 0 := rfl
theorem md_93_0 : md 93 0 = 0 := rfl
theorem md_94_0 : md 94 0 = 0 := rfl
theorem md_94_1 : md 94 1 = 0 := rfl
theorem md_95_0 : md 95 0 = 0 := rfl
theorem md_95_1 : md 95 1 = 0 := rfl
theorem md_96_0 : md 96 0 = 1 := rfl
theorem md_96_1 : md 96 1 = 0 := rfl
theorem md_97_0 : md 97 0 = 0 := rfl
theorem md_98_0 : md 98 0 = 0 := rfl
theorem md_98_1 : md 98 1 = 0 := rfl
theorem md_100_0 : md 100 0 = 0 := rfl
theorem md_106_0 : md 106 0 = 0 := rfl
theorem md_107_0 : md 107 0 = 0 := rfl
theorem md_107_1 : md 107 1 = 0 := rfl
theorem md_107_2 : md 107 2 = 0 := rfl
theorem md_108_0 : md 108 0 = 0 := rfl
theorem md_109_0 : md 109 0 = 0 := rfl
theorem md_109_1 : md 109 1 = 0 := rfl
theorem md_110_0 : md 110 0 = 0 := rfl
theorem md_110_1 : md 110 1 = 0 := rfl
theorem md_111_0 : md 111 0 = 0 := rfl
theorem md_111_1 : md 111 1 = 0 := rfl
theorem md_112_0 : md 112 0 = 0 := rfl
theorem md_113_0 : md 113 0 = 0 := rfl
theorem md_113_1 : md 113 1 = 0 := rfl
theorem md_114_0 : md 114 0 = 0 := rfl
theorem md_115_0 : md 115 0 = 0 := rfl
theorem md_115_1 : md 115 1 = 0 := rfl
theorem md_116_0 : md 116 0 = 0 := rfl
theorem md_117_0 : md 117 0 = 0 := rfl
theorem md_118_0 : md 118 0 = 0 := rfl
theorem md_118_1 : md 118 1 = 0 := rfl
theorem md_119_0 : md 119 0 = 0 := rfl
theorem md_120_0 : md 120 0 = 0 := rfl
theorem md_121_0 : md 121 0 = 0 := rfl
theorem md_122_0 : md 122 0 = 0 := rfl
theorem md_123_0 : md 123 0 = 0 := rfl
theorem md_123_1 : md 123 1 = 0 := rfl
theorem md_124_0 : md 124 0 = 0 := rfl
theorem md_124_1 : md 124 1 = 0 := rfl
theorem md_125_0 : md 125 0 = 0 := rfl
theorem md_125_1 : md 125 1 = 0 := rfl
theorem md_126_0 : md 126 0 = 1 := rfl
theorem md_127_0 : md 127 0 = 1 := rfl
theorem md_129_0 : md 129 0 = 0 := rfl
theorem md_130_0 : md 130 0 = 0 := rfl
theorem md_131_0 : md 131 0 = 0 := rfl
theorem md_132_0 : md 132 0 = 0 := rfl
theorem md_133_0 : md 133 0 = 0 := rfl
theorem md_134_0 : md 134 0 = 0 := rfl
theorem md_135_0 : md 135 0 = 0 := rfl
theorem md_137_0 : md 137 0 = 0 := rfl
theorem md_137_1 : md 137 1 = 0 := rfl
theorem md_145_0 : md 145 0 = 0 := rfl
theorem md_146_0 : md 146 0 = 0 := rfl
theorem md_148_0 : md 148 0 = 0 := rfl
theorem md_149_0 : md 149 0 = 0 := rfl
theorem md_150_0 : md 150 0 = 0 := rfl
theorem md_151_0 : md 151 0 = 0 := rfl
theorem md_154_0 : md 154 0 = 0 := rfl
theorem md_155_0 : md 155 0 = 0 := rfl
theorem md_158_0 : md 158 0 = 0 := rfl
theorem md_158_1 : md 158 1 = 0 := rfl
theorem md_159_0 : md 159 0 = 0 := rfl
theorem md_159_1 : md 159 1 = 0 := rfl
theorem md_171_0 : md 171 0 = 0 := rfl
theorem md_171_1 : md 171 1 = 3 := rfl
theorem md_183_0 : md 183 0 = 0 := rfl
theorem md_183_1 : md 183 1 = 0 := rfl
attribute [go_sem] pts_3 pts_4 pts_5 pts_6 pts_7 pts_8 pts_9 pts_10 pts_11 pts_12 pts_13 pts_14 pts_15 pts_16 pts_17 pts_18 pts_19 pts_20 pts_21 pts_22 pts_23 pts_24 pts_25 pts_26 pts_27 pts_28 pts_29 pts_30 pts_31 pts_32 pts_33 pts_34 pts_35 pts_36 pts_37 pts_38 pts_39 pts_40 pts_41 pts_42 pts_43 pts_44 pts_45 pts_46 pts_47 pts_48 pts_49 pts_50 pts_51 pts_52 pts_53 pts_54 pts_55 pts_56 pts_57 pts_58 pts_59 pts_60 pts_61 pts_62 pts_63 pts_64 pts_65 pts_66 pts_67 pts_68 pts_69 pts_70 pts_71 pts_72 pts_73 pts_74 pts_75 pts_76 pts_77 pts_78 pts_79 pts_80 pts_81 pts_82 pts_83 pts_84 pts_85 pts_86 pts_87 pts_88 pts_89 pts_90 pts_91 pts_92 pts_93 pts_94 pts_95 pts_96 pts_97 pts_98 pts_100 pts_106 pts_107 pts_108 pts_109 pts_110 pts_111 pts_112 pts_113 pts_114 pts_115 pts_116 pts_117 pts_118 pts_119 pts_120 pts_121 pts_122 pts_123 pts_124 pts_125 pts_126 pts_127 pts_129 pts_130 pts_131 pts_132 pts_133 pts_134 pts_135 pts_137 pts_145 pts_146 pts_148 pts_149 pts_150 pts_151 pts_154 pts_155 pts_158 pts_159 pts_171 pts_183
attribute [go_sem] md_3_0 md_3_1 md_4_0 md_4_1 md_5_0 md_5_1 md_6_0 md_7_0 md_7_1 md_8_0 md_8_1 md_9_0 md_9_1 md_10_0 md_10_1 md_11_0 md_11_1 md_12_0 md_13_0 md_14_0 md_14_1 md_15_0 md_16_0 md_17_0 md_18_0 md_18_1 md_19_0 md_20_0 md_21_0 md_22_0 md_22_1 md_23_0 md_23_1 md_24_0 md_25_0 md_26_0 md_27_0 md_28_0 md_28_1 md_29_0 md_29_1 md_30_0 md_30_1 md_31_0 md_31_1 md_32_0 md_33_0 md_33_1 md_34_0 md_35_0 md_36_0 md_37_0 md_38_0 md_39_0 md_40_0 md_41_0 md_42_0 md_43_0 md_44_0 md_44_1 md_45_0 md_46_0 md_46_1 md_47_0 md_48_0 md_49_0 md_50_0 md_50_1 md_51_0 md_52_0 md_52_1 md_53_0 md_54_0 md_54_1 md_55_0 md_56_0 md_56_1 md_57_0 md_57_1 md_58_0 md_59_0 md_60_0 md_61_0 md_62_0 md_64_0 md_64_1 md_65_0 md_66_0 md_67_0 md_68_0 md_69_0 md_70_0 md_71_0 md_72_0 md_72_1 md_73_0 md_74_0 md_74_1 md_75_0 md_76_0 md_76_1 md_77_0 md_77_1 md_78_0 md_78_1 md_79_0 md_80_0 md_81_0 md_81_1 md_82_0 md_83_0 md_84_0 md_85_0 md_86_0 md_86_1 md_87_0 md_88_0 md_89_0 md_90_0 md_91_0 md_92_0 md_93_0 md_94_0 md_94_1 md_95_0 md_95_1 md_96_0 md_96_1 md_97_0 md_98_0 md_98_1 md_100_0 md_106_0 md_107_0 md_107_1 md_107_2 md_108_0 md_109_0 md_109_1 md_110_0 md_110_1 md_111_0 md_111_1 md_112_0 md_113_0 md_113_1 md_114_0 md_115_0 md_115_1 md_116_0 md_117_0 md_118_0 md_118_1 md_119_0 md_120_0 md_121_0 md_122_0 md_123_0 md_123_1 md_124_0 md_124_1 md_125_0 md_125_1 md_126_0 md_127_0 md_129_0 md_130_0 md_131_0 md_132_0 md_133_0 md_134_0 md_135_0 md_137_0 md_137_1 md_145_0 md_146_0 md_148_0 md_149_0 md_150_0 md_151_0 md_154_0 md_155_0 md_158_0 md_158_1 md_159_0 md_159_1 md_171_0 md_171_1 md_183_0 md_183_1
theorem mixedOk : prog.follows .mixedOrders = true := by kernel_rfl
def cfg (np : Nat) : Cfg := ⟨np,fun _ => false,tb,pts,md⟩
theorem sb (n : Nat) (ts : List RV) {f : FuncId} {fn : Func} {c : Code} {Ein Eout : Env} {q : Prop} (hf : prog.funcs[f]? = some fn) (x : q) (hname : (fn.name == "runtime.NumGoroutine") = false := by rfl) (hb : fn.body = some c := by rfl) (hres : fn.results = (ts.map RV.toR).toArray := by rfl) (hnp : Ein.sl.length = n := by rfl)
    (e : pwp prog (cfg n) c (Ein.pad (fn.ntmps - n)) (Fin (cfg n) ts Eout) = q := by simp only [go_sem,Nat.reduceLeDiff,Nat.reduceLT,Nat.reduceAdd,Nat.reduceSub,Nat.reduceMul,Nat.reduceBEq,Nat.reduceBNe,Nat.reduceEqDiff,reduceCtorEq,reduceIte,Int.reduceLT,Int.reduceLE,Int.reduceAdd,Int.reduceSub,Int.reduceNeg,Int.reduceEq,Int.reduceBEq,Int.reduceBNe,Int.reduceToNat,Nat.reduceDiv,Nat.reduceMod, *]; rfl) : Sem prog f Ein Eout :=
  sem_fin (cfg := cfg n) (ts := ts) tbOk hf hname hb hres hnp (fun t h => by cases h) (e ▸ x)
theorem sf (n : Nat) (ts : List RV) {f : FuncId} {fn : Func} {c : Code} {Ein Eout : Env} (hf : prog.funcs[f]? = some fn) (x : pwp prog (cfg n) c (Ein.pad (fn.ntmps - n)) (Fin (cfg n) ts Eout)) (hname : (fn.name == "runtime.NumGoroutine") = false := by rfl) (hb : fn.body = some c := by rfl) (hres : fn.results = (ts.map RV.toR).toArray := by rfl) (hnp : Ein.sl.length = n := by rfl) : Sem prog f Ein Eout :=
  sem_fin (cfg := cfg n) (ts := ts) tbOk hf hname hb hres hnp (fun t h => by cases h) x
attribute [go_sem] cfg f3 f4 f5 f6 f7 f8 f9 f10 f11 f12 f13 f14 f15 f16 f17 f18 f19 f20 f21 f22 f23 f24 f25 f26 f27 f28 f29 f30 f31 f32 f33 f34 f35 f36 f37 f38 f39 f40 f41 f42 f43 f44 f45 f46 f47 f48 f49 f50 f51 f52 f53 f55 f58 f59 f60 f61 f62 f63 f64 f65 f66 f67 f68 f69 f70 f71 f72 f73 f74 f75 f76 f77 f79 f80 f81 f82 f83 f84 f85 f86 f87 f88 f89 f90 f91 f92 f93 f94 f95 f96 f97 f98 f100 f107 f108 f112 f114 f115 f116 f117 f120 f122 f123 f124 f125 f129 f130 f131 f132 f133 f134 f135 f137 f145 f146 f148 f149 f150 f151 f154 f155 f158 f159 f171 
end Go.Proofs.YtplagdnnnkdlnaaGreatDoor.Fw
/- Contracts, first part. -/
namespace Go.Proofs.YtplagdnnnkdlnaaGreatDoor.Fw
open Go
open Go.Proofs.Tryz
set_option maxRecDepth 100000
set_option maxHeartbeats 600000
set_option linter.unusedSimpArgs false
set_option linter.unusedVariables false
attribute [local congr] c_bnd c_slot c_cell c_all c_len c_chk c_asm c_opdR c_wp c_pwp c_pOps c_Done c_nx c_blk c_fin c_rowsR c_leafR c_opdsR c_coeLeaf c_coeLeaves c_lendLeaf c_lendLeaves c_coeCapt c_argR c_argsR c_boundR c_partsR c_srcR c_mfgo c_ite c_wpF c_OutF c_pHead c_pDraw
def inB (a b n : Int) : Bool := decide (a ≤ n) && decide (n ≤ b)
def isLowerB (n : Int) : Bool := decide (97 ≤ n) && decide (n ≤ 122)
def isUpperB (n : Int) : Bool := decide (65 ≤ n) && decide (n ≤ 90)
def isDigitB (n : Int) : Bool := decide (48 ≤ n) && decide (n ≤ 57)
theorem c107 (n a b : Int) : Sem prog 107 ⟨[.v (vI n),.v (vI a),.v (vI b)],[none,none,none]⟩ ⟨[.dead,.dead,.dead,.v (vB (inB a b n))],[none,none,none]⟩ := by
  refine sem_fin (cfg := cfg 3) (ts := [.tm 6]) tbOk func107 rfl rfl rfl rfl (fun t h => by cases h) ?_
  simp only [f107,go_sem,cfg,Nat.reduceSub, *]
  repeat' ((first | split) <;> (try simp only [go_sem,Nat.reduceBNe, *]))
  all_goals
    refine fin0 (.inr rfl) rfl rfl rfl ?_
    simp [shutR,shutD,inB, *]
theorem c149 (n : Int) : Sem prog 149 ⟨[.v (vC n)],[none]⟩ ⟨[.dead,.v (vB (isLowerB n))],[none]⟩ := by
  refine sem_fin (cfg := cfg 1) (ts := [.tm 2]) tbOk func149 rfl rfl rfl rfl (fun t h => by cases h) ?_
  simp only [f149,go_sem,cfg,Nat.reduceSub, *]
  repeat' ((first | split) <;> (try simp only [go_sem,Nat.reduceBNe, *]))
  all_goals
    refine fin0 (.inr rfl) rfl rfl rfl ?_
    simp [shutR,shutD,isLowerB, *]
theorem c100 (n : Int) : Sem prog 100 ⟨[.v (vC n)],[none]⟩ ⟨[.dead,.v (vB (isUpperB n))],[none]⟩ := by
  refine sem_fin (cfg := cfg 1) (ts := [.tm 2]) tbOk func100 rfl rfl rfl rfl (fun t h => by cases h) ?_
  simp only [f100,go_sem,cfg,Nat.reduceSub, *]
  repeat' ((first | split) <;> (try simp only [go_sem,Nat.reduceBNe, *]))
  all_goals
    refine fin0 (.inr rfl) rfl rfl rfl ?_
    simp [shutR,shutD,isUpperB, *]
theorem c150 (n : Int) : Sem prog 150 ⟨[.v (vC n)],[none]⟩ ⟨[.dead,.v (vB (isDigitB n))],[none]⟩ := by
  refine sem_fin (cfg := cfg 1) (ts := [.tm 2]) tbOk func150 rfl rfl rfl rfl (fun t h => by cases h) ?_
  simp only [f150,go_sem,cfg,Nat.reduceSub, *]
  repeat' ((first | split) <;> (try simp only [go_sem,Nat.reduceBNe, *]))
  all_goals
    refine fin0 (.inr rfl) rfl rfl rfl ?_
    simp [shutR,shutD,isDigitB, *]
theorem c84 (n : Int) : Sem prog 84 ⟨[.v (vC n)],[none]⟩ ⟨[.dead,.v (vB (isDigitB n))],[none]⟩ := by
  refine sem_fin (cfg := cfg 1) (ts := [.tm 2]) tbOk func84 rfl rfl rfl rfl (fun t h => by cases h) ?_
  simp only [f84,go_sem,cfg,Nat.reduceSub, *]
  repeat' ((first | split) <;> (try simp only [go_sem,Nat.reduceBNe, *]))
  all_goals
    refine fin0 (.inr rfl) rfl rfl rfl ?_
    simp [shutR,shutD,isDigitB, *]
set_option maxRecDepth 100000
set_option maxHeartbeats 600000
theorem c183 (l : List UInt8) (c : Int) (hl : l.length ≤ 9223372036854775807) : Sem prog 183 ⟨[.v (vS l),.v (vC c)],[none,none]⟩ ⟨[.v (vS l),.v (vC c),.v (vI (Lib.indexByte l c.toNat.toUInt8))],[none,none,none]⟩ :=
  sem_indexByteString func183 rfl rfl rfl rfl l c hl
theorem c159 (l : List UInt8) (c : Int) (hl : l.length ≤ 9223372036854775807) : Sem prog 159 ⟨[.v (vS l),.v (vC c)],[none,none]⟩ ⟨[.dead,.dead,.v (vI (Lib.indexByte l c.toNat.toUInt8))],[none,none]⟩ := by
  refine sem_fin (cfg := cfg 2) (ts := [.tm 4]) tbOk func159 rfl rfl rfl rfl (fun t h => by cases h) ?_
  simp only [f159,go_sem,cfg,Nat.reduceSub, *]
  repeat' ((first | refine ev_call (c183 _ _ hl) (retW0 rfl rfl rfl rfl) ?_ | split) <;> (try simp only [go_sem,Nat.reduceAdd,Nat.reduceBNe, *]))
  all_goals
    refine fin0 (.inr rfl) rfl rfl rfl ?_
    first | rfl | simp [shutR,shutD, *]
theorem c137 (l : List UInt8) (c : Int) (hl : l.length ≤ 9223372036854775807) : Sem prog 137 ⟨[.v (vS l),.v (vC c)],[none,none]⟩ ⟨[.dead,.dead,.v (vI (Lib.indexByte l c.toNat.toUInt8))],[none,none]⟩ := by
  refine sem_fin (cfg := cfg 2) (ts := [.tm 4]) tbOk func137 rfl rfl rfl rfl (fun t h => by cases h) ?_
  simp only [f137,go_sem,cfg,Nat.reduceSub, *]
  repeat' ((first | refine ev_call (c159 _ _ hl) (retW0 rfl rfl rfl rfl) ?_ | split) <;> (try simp only [go_sem,Nat.reduceAdd,Nat.reduceBNe, *]))
  all_goals
    refine fin0 (.inr rfl) rfl rfl rfl ?_
    first | rfl | simp [shutR,shutD, *]
def tokSet : List UInt8 := [33,35,36,37,38,39,42,43,45,46,94,95,124,126]
def isTok (n : Int) : Bool := isLowerB n || isUpperB n || isDigitB n || (n == 96) || decide (0 ≤ Lib.indexByte tokSet n.toNat.toUInt8)
theorem c151 (n : Int) : Sem prog 151 ⟨[.v (vC n)],[none]⟩ ⟨[.dead,.v (vB (isTok n))],[none]⟩ := by
  refine sem_fin (cfg := cfg 1) (ts := [.tm 2]) tbOk func151 rfl rfl rfl rfl (fun t h => by cases h) ?_
  simp only [f151,go_sem,cfg,Nat.reduceSub, *]
  repeat' ((first | refine ev_call (c149 _) (retW0 rfl rfl rfl rfl) ?_ | refine ev_call (c100 _) (retW0 rfl rfl rfl rfl) ?_ | refine ev_call (c150 _) (retW0 rfl rfl rfl rfl) ?_ | refine ev_call (c137 tokSet _ (by decide)) (retW0 rfl rfl rfl rfl) ?_ | split) <;> (try simp only [go_sem,Nat.reduceLeDiff,Nat.reduceAdd,Nat.reduceBNe,reduceCtorEq, *]))
  all_goals
    refine fin0 (.inr rfl) rfl rfl rfl ?_
    simp [shutR,shutD,isTok, *]
theorem c52 (l : List UInt8) (f : FuncId) (p : Int → Bool) (hp : pts f = [5]) (hm : md f 0 = 0) (hf : ∀ n : Int,Sem prog f ⟨[.v (vC n)],[none]⟩ ⟨[.dead,.v (vB (p n))],[none]⟩) (hl : l.length ≤ 9223372036854775807) :
    Sem prog 52 ⟨[.v (vS l),.clo f []],[none,none]⟩ ⟨[.dead,.dead,.v (vB (l.all fun b => p b.toNat))],[none,none]⟩ := by
  refine sem_fin (cfg := cfg 2) (ts := [.tm 4]) tbOk func52 rfl rfl rfl rfl (fun t h => by cases h) ?_
  simp only [f52,go_sem,cfg,Nat.reduceSub]
  refine loop_by (fun i : Nat => ⟨[.v (vS l),.clo f [],.dead,.dead,.v (vB false),.v (vI i),.dead,.dead,.dead,.dead,.dead,.dead,.dead,.dead,.dead,.dead,.dead,.dead],List.replicate 18 none⟩) 6 (fun i => i ≤ l.length ∧ (l.take i).all (fun b => p b.toNat) = true) (fun i => l.length - i) 0 rfl ⟨by omega,by simp⟩ ?_
  intro i ⟨hi,hall⟩
  simp only [go_sem]
  intro hlen
  by_cases hc : i < l.length
  · have hw := wrapN hc hl
    simp only [go_sem, *]
    refine ev_call (hf _) (retW0 rfl rfl rfl rfl) ?_
    cases hb : p (l.getD i 0).toNat
    · simp only [go_sem,Nat.reduceAdd, *]
      refine fin0 (.inr rfl) rfl rfl rfl ?_
      simp only [shutR,shutD,List.getD_cons_zero,List.getD_cons_succ]
      rw [all_false_at hc hb]
    · simp only [go_sem,Nat.reduceAdd,Nat.reduceBNe, *]
      exact ⟨i + 1,rfl,⟨hc,by rw [all_take_succ (d := 0) hc,hall,hb]; rfl⟩,by omega⟩
  · simp only [go_sem, *]
    refine fin0 (.inr rfl) rfl rfl rfl ?_
    rw [List.take_of_length_le (by omega)] at hall
    simp [shutR,shutD,hall]
set_option maxRecDepth 100000
set_option maxHeartbeats 600000
def lowI (n : Int) : Int := if 65 ≤ n ∧ n ≤ 90 then IntKind.u8.wrap (n + 32) else n
def hasB (l : List UInt8) (n : Int) : Bool := l.any fun b => (b.toNat : Int) == n
def tchar (n : Int) : Bool := isLowerB (lowI n) || isDigitB n || (n == 96) || hasB tokSet n
def tokenI (l : List UInt8) : Bool := inB 1 4000 l.length && l.all fun b => isTok b.toNat
def tokenS (l : List UInt8) : Bool := decide (l.length ≠ 0) && decide (l.length ≤ 4000) && l.all fun b => tchar b.toNat
theorem c83 (n : Int) : Sem prog 83 ⟨[.v (vC n)],[none]⟩ ⟨[.dead,.v (vC (lowI n))],[none]⟩ := by
  refine sem_fin (cfg := cfg 1) (ts := [.tm 2]) tbOk func83 rfl rfl rfl rfl (fun t h => by cases h) ?_
  simp only [f83,go_sem,cfg,Nat.reduceSub, *]
  repeat' ((first | split) <;> (try simp only [go_sem,Nat.reduceBNe, *]))
  all_goals
    refine fin0 (.inr rfl) rfl rfl rfl ?_
    simp [shutR,shutD,lowI, *]
theorem c158 (l : List UInt8) (n : Int) (hl : l.length ≤ 9223372036854775807) : Sem prog 158 ⟨[.v (vS l),.v (vC n)],[none,none]⟩ ⟨[.dead,.dead,.v (vB (hasB l n))],[none,none]⟩ := by
  refine sem_fin (cfg := cfg 2) (ts := [.tm 4]) tbOk func158 rfl rfl rfl rfl (fun t h => by cases h) ?_
  simp only [f158,go_sem,cfg,Nat.reduceSub]
  refine loop_by (fun i : Nat => ⟨[.v (vS l),.v (vC n),.dead,.dead,.v (vB false),.v (vI i),.dead,.dead,.dead,.dead,.dead,.dead,.dead,.dead,.dead,.dead,.dead],List.replicate 17 none⟩) 6 (fun i => i ≤ l.length ∧ (l.take i).any (fun b => (b.toNat : Int) == n) = false) (fun i => l.length - i) 0 rfl ⟨by omega,by simp⟩ ?_
  intro i ⟨hi,hall⟩
  simp only [go_sem]
  intro hlen
  by_cases hc : i < l.length
  · have hw := wrapN hc hl
    by_cases hb : ((l.getD i 0).toNat : Int) = n
    · have hb' : ((l.getD i 0).toNat : Int) == n := by simpa using hb
      simp only [go_sem, *]
      refine fin0 (.inr rfl) rfl rfl rfl ?_
      simp only [shutR,shutD,List.getD_cons_zero,List.getD_cons_succ,hasB]
      rw [any_true_at hc hb']
    · have hb' : (((l.getD i 0).toNat : Int) == n) = false := by simpa using hb
      simp only [go_sem,Nat.reduceBNe, *]
      exact ⟨i + 1,rfl,⟨hc,by rw [any_take_succ (d := 0) hc,hall,hb']; rfl⟩,by omega⟩
  · simp only [go_sem, *]
    refine fin0 (.inr rfl) rfl rfl rfl ?_
    rw [List.take_of_length_le (by omega)] at hall
    simp [shutR,shutD,hasB,hall]
theorem c132 (n : Int) : Sem prog 132 ⟨[.v (vC n)],[none]⟩ ⟨[.dead,.v (vB (tchar n))],[none]⟩ := by
  refine sem_fin (cfg := cfg 1) (ts := [.tm 2]) tbOk func132 rfl rfl rfl rfl (fun t h => by cases h) ?_
  simp only [f132,go_sem,cfg,Nat.reduceSub, *]
  repeat' ((first | refine ev_call (c83 _) (retW0 rfl rfl rfl rfl) ?_ | refine ev_call (c84 _) (retW0 rfl rfl rfl rfl) ?_ | refine ev_call (c158 tokSet _ (by decide)) (retW0 rfl rfl rfl rfl) ?_ | split) <;> (try simp only [go_sem,Nat.reduceLeDiff,Nat.reduceAdd,Nat.reduceBNe,reduceCtorEq, *]))
  all_goals
    refine fin0 (.inr rfl) rfl rfl rfl ?_
    simp only [shutR,shutD,List.getD_cons_zero,List.getD_cons_succ]
    refine congrArg (fun b => D.v (vB b)) ?_
    grind [tchar,isLowerB]
theorem c89 (l : List UInt8) (hl : l.length ≤ 9223372036854775807) : Sem prog 89 ⟨[.v (vS l)],[none]⟩ ⟨[.dead,.v (vB (tokenS l))],[none]⟩ := by
  refine sem_fin (cfg := cfg 1) (ts := [.tm 2]) tbOk func89 rfl rfl rfl rfl (fun t h => by cases h) ?_
  simp only [f89,go_sem,cfg,Nat.reduceSub]
  repeat' ((first | with_reducible intro _ | split) <;> (try simp only [go_sem,reduceCtorEq, *]))
  all_goals (try (refine fin0 (.inr rfl) rfl rfl rfl ?_; simp only [shutR,shutD,List.getD_cons_zero,List.getD_cons_succ]; refine congrArg (fun b => D.v (vB b)) ?_; grind [tokenS]))
  refine loop_by (fun i : Nat => ⟨[.v (vS l),.dead,.v (vB false),.v (vI i),.dead,.dead,.dead,.dead,.dead,.dead,.dead,.dead,.dead,.dead,.dead,.dead,.dead,.dead,.dead,.dead,.dead,.dead,.dead],List.replicate 23 none⟩) 4 (fun i => i ≤ l.length ∧ (l.take i).all (fun b => tchar b.toNat) = true) (fun i => l.length - i) 0 rfl ⟨by omega,by simp⟩ ?_
  intro i ⟨hi,hall⟩
  simp only [go_sem]
  intro hlen
  by_cases hc : i < l.length
  · have hw := wrapN hc hl
    simp only [go_sem, *]
    refine ev_call (c132 _) (retW0 rfl rfl rfl rfl) ?_
    cases hb : tchar (l.getD i 0).toNat
    · simp only [go_sem,Nat.reduceAdd, *]
      refine fin0 (.inr rfl) rfl rfl rfl ?_
      simp only [shutR,shutD,List.getD_cons_zero,List.getD_cons_succ]
      rw [tokenS,all_false_at hc hb]; simp
    · simp only [go_sem,Nat.reduceAdd,Nat.reduceBNe, *]
      exact ⟨i + 1,rfl,⟨hc,by rw [all_take_succ (d := 0) hc,hall,hb]; rfl⟩,by omega⟩
  · simp only [go_sem, *]
    refine fin0 (.inr rfl) rfl rfl rfl ?_
    simp only [shutR,shutD,List.getD_cons_zero,List.getD_cons_succ]
    rw [List.take_of_length_le (by omega)] at hall
    grind [tokenS]
theorem c116 (l : List UInt8) (hl : l.length ≤ 9223372036854775807) : Sem prog 116 ⟨[.v (vS l)],[none]⟩ ⟨[.dead,.v (vB (tokenI l))],[none]⟩ := by
  refine sem_fin (cfg := cfg 1) (ts := [.tm 2]) tbOk func116 rfl rfl rfl rfl (fun t h => by cases h) ?_
  simp only [f116,go_sem,cfg,Nat.reduceAdd,Nat.reduceSub, *]
  repeat' ((first | refine ev_call (c107 _ _ _) (retW0 rfl rfl rfl rfl) ?_ | refine ev_call (c52 l 151 isTok rfl rfl c151 hl) (retW0 rfl rfl rfl rfl) ?_ | with_reducible intro _ | split) <;> (try simp only [go_sem,Nat.reduceAdd,Nat.reduceBNe, *]))
  all_goals
    refine fin0 (.inr rfl) rfl rfl rfl ?_
    simp only [shutR,shutD,List.getD_cons_zero,List.getD_cons_succ]
    refine congrArg (fun b => D.v (vB b)) ?_
    grind [tokenI]
theorem c71 (l : List UInt8) (hl : l.length ≤ 9223372036854775807) : Sem prog 71 ⟨[.v (vS l)],[none]⟩ ⟨[.dead,.v (vB (tokenI l && decide (l.length ≤ 20)))],[none]⟩ := by
  refine sem_fin (cfg := cfg 1) (ts := [.tm 2]) tbOk func71 rfl rfl rfl rfl (fun t h => by cases h) ?_
  simp only [f71,go_sem,cfg,Nat.reduceSub, *]
  repeat' ((first | refine ev_call (c116 _ hl) (retW0 rfl rfl rfl rfl) ?_ | with_reducible intro _ | split) <;> (try simp only [go_sem,Nat.reduceAdd,Nat.reduceBNe, *]))
  all_goals
    refine fin0 (.inr rfl) rfl rfl rfl ?_
    simp only [shutR,shutD,List.getD_cons_zero,List.getD_cons_succ]
    refine congrArg (fun b => D.v (vB b)) ?_
    grind [tokenI]
theorem c49 (l : List UInt8) (hl : l.length ≤ 9223372036854775807) : Sem prog 49 ⟨[.v (vS l)],[none]⟩ ⟨[.dead,.v (vB (decide (l.length ≤ 20) && tokenS l))],[none]⟩ := by
  refine sem_fin (cfg := cfg 1) (ts := [.tm 2]) tbOk func49 rfl rfl rfl rfl (fun t h => by cases h) ?_
  simp only [f49,go_sem,cfg,Nat.reduceSub, *]
  repeat' ((first | refine ev_call (c89 _ hl) (retW0 rfl rfl rfl rfl) ?_ | with_reducible intro _ | split) <;> (try simp only [go_sem,Nat.reduceAdd,Nat.reduceBNe, *]))
  all_goals
    refine fin0 (.inr rfl) rfl rfl rfl ?_
    simp only [shutR,shutD,List.getD_cons_zero,List.getD_cons_succ]
    refine congrArg (fun b => D.v (vB b)) ?_
    grind
set_option maxRecDepth 100000
set_option maxHeartbeats 600000
def plainB (n : Int) : Bool := (n == 9) || (decide (32 ≤ n) && !(n == 127))
def spB (n : Int) : Bool := (n == 32) || (n == 9)
theorem c117 (n : Int) : Sem prog 117 ⟨[.v (vC n)],[none]⟩ ⟨[.dead,.v (vB (plainB n))],[none]⟩ := by
  refine sem_fin (cfg := cfg 1) (ts := [.tm 2]) tbOk func117 rfl rfl rfl rfl (fun t h => by cases h) ?_
  simp only [f117,go_sem,cfg,Nat.reduceSub, *]
  repeat' ((first | with_reducible intro _ | split) <;> (try simp only [go_sem,Nat.reduceBNe,reduceCtorEq, *]))
  all_goals
    refine fin0 (.inr rfl) rfl rfl rfl ?_
    simp only [shutR,shutD,List.getD_cons_zero,List.getD_cons_succ]
    refine congrArg (fun b => D.v (vB b)) ?_
    grind [plainB]
theorem c133 (n : Int) : Sem prog 133 ⟨[.v (vC n)],[none]⟩ ⟨[.dead,.v (vB (plainB n))],[none]⟩ := by
  refine sem_fin (cfg := cfg 1) (ts := [.tm 2]) tbOk func133 rfl rfl rfl rfl (fun t h => by cases h) ?_
  simp only [f133,go_sem,cfg,Nat.reduceSub, *]
  repeat' ((first | with_reducible intro _ | split) <;> (try simp only [go_sem,Nat.reduceBNe,reduceCtorEq, *]))
  all_goals
    refine fin0 (.inr rfl) rfl rfl rfl ?_
    simp only [shutR,shutD,List.getD_cons_zero,List.getD_cons_succ]
    refine congrArg (fun b => D.v (vB b)) ?_
    grind [plainB]
theorem c154 (n : Int) : Sem prog 154 ⟨[.v (vC n)],[none]⟩ ⟨[.dead,.v (vB (spB n))],[none]⟩ := by
  refine sem_fin (cfg := cfg 1) (ts := [.tm 2]) tbOk func154 rfl rfl rfl rfl (fun t h => by cases h) ?_
  simp only [f154,go_sem,cfg,Nat.reduceSub, *]
  repeat' ((first | with_reducible intro _ | split) <;> (try simp only [go_sem,Nat.reduceBNe,reduceCtorEq, *]))
  all_goals
    refine fin0 (.inr rfl) rfl rfl rfl ?_
    simp only [shutR,shutD,List.getD_cons_zero,List.getD_cons_succ]
    refine congrArg (fun b => D.v (vB b)) ?_
    grind [spB]
theorem c134 (n : Int) : Sem prog 134 ⟨[.v (vC n)],[none]⟩ ⟨[.dead,.v (vB (spB n))],[none]⟩ := by
  refine sem_fin (cfg := cfg 1) (ts := [.tm 2]) tbOk func134 rfl rfl rfl rfl (fun t h => by cases h) ?_
  simp only [f134,go_sem,cfg,Nat.reduceSub, *]
  repeat' ((first | with_reducible intro _ | split) <;> (try simp only [go_sem,Nat.reduceBNe,reduceCtorEq, *]))
  all_goals
    refine fin0 (.inr rfl) rfl rfl rfl ?_
    simp only [shutR,shutD,List.getD_cons_zero,List.getD_cons_succ]
    refine congrArg (fun b => D.v (vB b)) ?_
    grind [spB]
theorem c90 (l : List UInt8) (hl : l.length ≤ 9223372036854775807) : Sem prog 90 ⟨[.v (vS l)],[none]⟩ ⟨[.dead,.v (vB (l.all fun b => plainB b.toNat))],[none]⟩ := by
  refine sem_fin (cfg := cfg 1) (ts := [.tm 2]) tbOk func90 rfl rfl rfl rfl (fun t h => by cases h) ?_
  simp only [f90,go_sem,cfg,Nat.reduceSub]
  refine loop_by (fun i : Nat => ⟨[.v (vS l),.dead,.v (vB false),.v (vI i),.dead,.dead,.dead,.dead,.dead,.dead,.dead,.dead,.dead,.dead,.dead],List.replicate 15 none⟩) 4 (fun i => i ≤ l.length ∧ (l.take i).all (fun b => plainB b.toNat) = true) (fun i => l.length - i) 0 rfl ⟨by omega,by simp⟩ ?_
  intro i ⟨hi,hall⟩
  simp only [go_sem]
  intro hlen
  by_cases hc : i < l.length
  · have hw := wrapN hc hl
    simp only [go_sem, *]
    refine ev_call (c133 _) (retW0 rfl rfl rfl rfl) ?_
    cases hb : plainB (l.getD i 0).toNat
    · simp only [go_sem,Nat.reduceAdd, *]
      refine fin0 (.inr rfl) rfl rfl rfl ?_
      simp only [shutR,shutD,List.getD_cons_zero,List.getD_cons_succ]
      rw [all_false_at hc hb]
    · simp only [go_sem,Nat.reduceAdd,Nat.reduceBNe, *]
      exact ⟨i + 1,rfl,⟨hc,by rw [all_take_succ (d := 0) hc,hall,hb]; rfl⟩,by omega⟩
  · simp only [go_sem, *]
    refine fin0 (.inr rfl) rfl rfl rfl ?_
    simp only [shutR,shutD,List.getD_cons_zero,List.getD_cons_succ]
    rw [List.take_of_length_le (by omega)] at hall
    rw [hall]
def low8 (b : UInt8) : UInt8 := if 65 ≤ b.toNat ∧ b.toNat ≤ 90 then UInt8.ofNat (b.toNat + 32) else b
def foldB (l : List UInt8) : List UInt8 := l.map low8
theorem low8_toNat (b : UInt8) : ((low8 b).toNat : Int) = lowI b.toNat := by
  have h256 : ∀ n,n < 256 → ((if 65 ≤ n ∧ n ≤ 90 then UInt8.ofNat (n + 32) else UInt8.ofNat n).toNat : Int) = lowI (n : Nat) := by decide +kernel
  have h := h256 b.toNat b.toNat_lt
  rw [← h]
  unfold low8
  split
  · rfl
  · simp
theorem bytesRows_getD {l : List UInt8} {i : Nat} (h : i < l.length) : (bytesRows l).getD i [] = [.v (vC (l.getD i 0).toNat)] := by
  simp [bytesRows,List.getD_eq_getElem?_getD,h]
theorem rowsBytes_bytesRows (l : List UInt8) : rowsBytes (bytesRows l) = l := by
  induction l with
  | nil => rfl
  | cons b l ih =>
    simp only [bytesRows,rowsBytes,List.map_cons] at ih ⊢
    rw [ih]
    simp
theorem bytesRows_set {l : List UInt8} {i : Nat} {b : UInt8} : (bytesRows l).set i [.v (vC b.toNat)] = bytesRows (l.set i b) := by simp [bytesRows,List.map_set]
def foldTo (l : List UInt8) (i : Nat) : List UInt8 := (l.take i).map low8 ++ l.drop i
theorem foldTo_length (l : List UInt8) (i : Nat) : (foldTo l i).length = l.length := by simp [foldTo]; omega
theorem foldTo_getD {l : List UInt8} {i : Nat} (h : i < l.length) : (foldTo l i).getD i 0 = l.getD i 0 := by
  unfold foldTo
  rw [List.getD_eq_getElem?_getD,List.getElem?_append_right (by simp; omega)]
  simp [List.getD_eq_getElem?_getD,Nat.min_eq_left (Nat.le_of_lt h)]
theorem foldTo_succ {l : List UInt8} {i : Nat} (h : i < l.length) : (foldTo l i).set i (low8 (l.getD i 0)) = foldTo l (i + 1) := by
  have h1 : l.drop i = l.getD i 0 :: l.drop (i + 1) := by
    rw [List.drop_eq_getElem_cons h]; simp [List.getD_eq_getElem?_getD,h]
  have h2 : l.take (i + 1) = l.take i ++ [l.getD i 0] := by
    rw [List.take_succ_eq_append_getElem h]; simp [List.getD_eq_getElem?_getD,h]
  unfold foldTo
  rw [h2,h1,List.set_append_right _ _ (by simp; omega)]
  simp [Nat.min_eq_left (Nat.le_of_lt h)]
theorem c34 (l : List UInt8) (hl : l.length ≤ 9223372036854775807) : Sem prog 34 ⟨[.v (vS l)],[none]⟩ ⟨[.dead,.v (vS (foldB l))],[none]⟩ := by
  refine sem_fin (cfg := cfg 1) (ts := [.tm 2]) tbOk func34 rfl rfl rfl rfl (fun t h => by cases h) ?_
  simp only [f34,go_sem,cfg,Nat.reduceAdd,Nat.reduceSub,Nat.reduceBNe,Nat.reduceEqDiff,reduceCtorEq,Nat.reduceDiv,Nat.reduceMod]
  refine loop_by (fun i : Nat => ⟨[.v (vS l),.dead,.v (vS []),.own 5 (bytesRows (foldTo l i)),.v (vI i),.dead,.dead,.dead,.dead,.dead,.dead,.dead,.dead,.dead,.dead,.dead,.dead,.dead,.dead,.dead,.dead,.dead,.dead],List.replicate 23 none⟩) 5 (fun i => i ≤ l.length) (fun i => l.length - i) 0 (by simp [foldTo]; rfl) (by omega) ?_
  intro i hi
  simp only [go_sem,Nat.reduceDiv,Nat.reduceMod,bytesRows_length,foldTo_length]
  try (with_reducible intro hlen)
  by_cases hc : i < l.length
  · have hw := wrapN hc hl
    have h1 : (bytesRows (foldTo l i)).getD i [] = [.v (vC (l.getD i 0).toNat)] := by rw [bytesRows_getD (by rw [foldTo_length]; exact hc),foldTo_getD hc]
    have hlo := (low8_toNat (l.getD i 0)).symm
    have hset : (bytesRows (foldTo l i)).set i [T.v (vC (low8 (l.getD i 0)).toNat)] = bytesRows (foldTo l (i + 1)) := by rw [bytesRows_set,foldTo_succ hc]
    simp only [go_sem,Nat.reduceDiv,Nat.reduceMod,bytesRows_length,foldTo_length, *]
    refine ev_call (c83 _) (retW0 rfl rfl rfl rfl) ?_
    simp only [go_sem,Nat.reduceAdd,Nat.reduceBNe,Nat.reduceEqDiff,reduceCtorEq,Nat.reduceDiv,Nat.reduceMod,bytesRows_length,foldTo_length, *]
    first | exact ⟨i + 1,rfl,hc,by omega⟩ | trace_state
  · simp only [go_sem,Nat.reduceBNe,Nat.reduceDiv,Nat.reduceMod, *]
    have he : i = l.length := by omega
    subst he
    have h2 : foldTo l l.length = foldB l := by simp [foldTo,foldB]
    simp only [go_sem,h2,rowsBytes_bytesRows]
    first | exact fin0 (.inr rfl) rfl rfl rfl rfl | trace_state
theorem foldTo_zero {l : List UInt8} : foldTo l 0 = l := by simp [foldTo]
theorem foldTo_same {l : List UInt8} {i : Nat} (h : i < l.length) (hb : low8 (l.getD i 0) = l.getD i 0) : foldTo l (i + 1) = foldTo l i := by
  rw [← foldTo_succ h,hb]
  have h2 : (foldTo l i)[i]? = some (l.getD i 0) := by
    have := foldTo_getD h
    rw [List.getD_eq_getElem?_getD] at this
    rw [List.getElem?_eq_getElem (by rw [foldTo_length]; exact h)] at this ⊢
    rw [← this]; rfl
  apply List.ext_getElem?
  intro j
  by_cases hj : j = i
  · subst hj
    rw [List.getElem?_set_self (by rw [foldTo_length]; exact h),h2]
  · rw [List.getElem?_set_ne (fun e => hj e.symm)]
theorem c55 (l : List UInt8) (hl : l.length ≤ 9223372036854775807) : Sem prog 55 ⟨[.v (vS l)],[none]⟩ ⟨[.dead,.v (vS (foldB l))],[none]⟩ := by
  refine sem_fin (cfg := cfg 1) (ts := [.tm 2]) tbOk func55 rfl rfl rfl rfl (fun t h => by cases h) ?_
  simp only [f55,go_sem,cfg,Nat.reduceAdd,Nat.reduceSub,Nat.reduceBNe,Nat.reduceEqDiff,reduceCtorEq,Nat.reduceDiv,Nat.reduceMod,bytesRows_length]
  repeat' ((first | with_reducible intro _ | split) <;> (try simp only [go_sem, *]))
  refine loop_on (fun i : Nat => ⟨[.v (vS l),.dead,.v (vS []),.own 5 (bytesRows (foldTo l i)),.dead,.dead,.dead,.dead,.ali ⟨false,3,0⟩,.v (vI l.length),.v (vI i),.dead,.dead,.dead,.dead,.dead,.dead,.dead,.dead,.dead,.dead,.dead,.dead,.dead,.dead],List.replicate 25 none⟩) [0,2,3,8,9,10] (fun i => i ≤ l.length) (fun i => l.length - i) 0 (by simp only [foldTo_zero]; rfl) (by omega) ?_
  intro i hi
  simp only [go_sem]
  by_cases hc : i < l.length
  · have hw := wrapN hc hl
    have h1 : (bytesRows (foldTo l i)).getD i [] = [.v (vC (l.getD i 0).toNat)] := by rw [bytesRows_getD (by rw [foldTo_length]; exact hc),foldTo_getD hc]
    simp only [go_sem,Nat.reduceBNe,Nat.reduceDiv,Nat.reduceMod,bytesRows_length,foldTo_length, *]
    refine ev_call (c100 _) (retW0 rfl rfl rfl rfl) ?_
    have hlo := low8_toNat (l.getD i 0)
    unfold lowI at hlo
    cases hu : isUpperB (l.getD i 0).toNat
    · clear hlo
      simp only [go_sem,Nat.reduceAdd, *]
      have hsame : foldTo l (i + 1) = foldTo l i := by
        refine foldTo_same hc ?_
        unfold isUpperB at hu
        unfold low8
        rw [if_neg]
        intro hh
        simp only [Bool.and_eq_false_iff,decide_eq_false_iff_not] at hu
        omega
      exact ⟨i + 1,by rw [hsame]; rfl,hc,by omega⟩
    · have hlo2 : IntKind.u8.wrap (((l.getD i 0).toNat : Int) + 32) = ((low8 (l.getD i 0)).toNat : Int) := by
        rw [hlo,if_pos]
        unfold isUpperB at hu
        simp only [Bool.and_eq_true,decide_eq_true_eq] at hu
        omega
      clear hlo
      have hset : (bytesRows (foldTo l i)).set i [T.v (vC (low8 (l.getD i 0)).toNat)] = bytesRows (foldTo l (i + 1)) := by rw [bytesRows_set,foldTo_succ hc]
      simp only [go_sem,Nat.reduceAdd,Nat.reduceEqDiff,reduceCtorEq,Nat.reduceDiv,Nat.reduceMod,bytesRows_length,foldTo_length, *]
      exact ⟨i + 1,rfl,hc,by omega⟩
  · simp only [go_sem,Nat.reduceBNe,Nat.reduceDiv,Nat.reduceMod, *]
    have he : i = l.length := by omega
    subst he
    have h2 : foldTo l l.length = foldB l := by simp [foldTo,foldB]
    simp only [go_sem,h2,rowsBytes_bytesRows]
    exact fin0 (.inr rfl) rfl rfl rfl rfl
theorem c94 (a b : List UInt8) (ha : a.length ≤ 9223372036854775807) (hb : b.length ≤ 9223372036854775807) : Sem prog 94 ⟨[.v (vS a),.v (vS b)],[none,none]⟩ ⟨[.dead,.dead,.v (vB (foldB a == foldB b))],[none,none]⟩ := by
  refine sem_fin (cfg := cfg 2) (ts := [.tm 4]) tbOk func94 rfl rfl rfl rfl (fun t h => by cases h) ?_
  simp only [f94,go_sem,cfg,Nat.reduceSub, *]
  repeat' ((first | refine ev_call (c34 _ ha) (retW0 rfl rfl rfl rfl) ?_ | refine ev_call (c34 _ hb) (retW0 rfl rfl rfl rfl) ?_ | with_reducible intro _ | split) <;> (try simp only [go_sem,Nat.reduceAdd,Nat.reduceBNe, *]))
  all_goals
    exact fin0 (.inr rfl) rfl rfl rfl rfl
theorem c124 (a b : List UInt8) (ha : a.length ≤ 9223372036854775807) (hb : b.length ≤ 9223372036854775807) : Sem prog 124 ⟨[.v (vS a),.v (vS b)],[none,none]⟩ ⟨[.dead,.dead,.v (vB (foldB a == foldB b))],[none,none]⟩ := by
  refine sem_fin (cfg := cfg 2) (ts := [.tm 4]) tbOk func124 rfl rfl rfl rfl (fun t h => by cases h) ?_
  simp only [f124,go_sem,cfg,Nat.reduceSub, *]
  repeat' ((first | refine ev_call (c55 _ ha) (retW0 rfl rfl rfl rfl) ?_ | refine ev_call (c55 _ hb) (retW0 rfl rfl rfl rfl) ?_ | with_reducible intro _ | split) <;> (try simp only [go_sem,Nat.reduceAdd,Nat.reduceBNe, *]))
  all_goals
    exact fin0 (.inr rfl) rfl rfl rfl rfl
set_option maxRecDepth 100000
set_option maxHeartbeats 600000
def spc (b : UInt8) : Bool := spB b.toNat
def trimR (l : List UInt8) : List UInt8 := (l.reverse.dropWhile spc).reverse
def trimB (l : List UInt8) : List UInt8 := trimR (l.dropWhile spc)
theorem trimR_snoc (l : List UInt8) (b : UInt8) : trimR (l ++ [b]) = if spc b then trimR l else l ++ [b] := by
  unfold trimR
  rw [List.reverse_append]
  simp only [List.reverse_cons,List.reverse_nil,List.nil_append,List.cons_append,List.dropWhile_cons]
  split
  · rfl
  · simp
theorem trimR_nil : trimR [] = [] := rfl
theorem snoc_of {l : List UInt8} (h : l ≠ []) : l = l.take (l.length - 1) ++ [l.getD (l.length - 1) 0] := by
  have hl : 0 < l.length := List.length_pos_iff.2 h
  have := List.take_append_drop (l.length - 1) l
  rw [List.drop_eq_getElem_cons (by omega),List.drop_of_length_le (by omega)] at this
  rw [List.getD_eq_getElem?_getD,List.getElem?_eq_getElem (by omega)]
  exact this.symm
theorem trimR_step {l : List UInt8} (h : l ≠ []) : trimR l = if spc (l.getD (l.length - 1) 0) then trimR (l.take (l.length - 1)) else l := by
  have := snoc_of h
  conv => lhs; rw [this]
  rw [trimR_snoc]
  split
  · rfl
  · exact this.symm
theorem dropW_step {l : List UInt8} (h : l ≠ []) : l.dropWhile spc = if spc (l.getD 0 0) then (l.drop 1).dropWhile spc else l := by
  cases l with
  | nil => exact absurd rfl h
  | cons b l => simp [List.dropWhile_cons]
theorem beq_nil_false {l : List UInt8} (h : l ≠ []) : (l == []) = false := by
  cases l with
  | nil => exact absurd rfl h
  | cons b l => rfl
theorem c122 (l : List UInt8) (hl : l.length ≤ 9223372036854775807) : Sem prog 122 ⟨[.v (vS l)],[none]⟩ ⟨[.dead,.v (vS (trimB l))],[none]⟩ := by
  refine sem_fin (cfg := cfg 1) (ts := [.tm 2]) tbOk func122 rfl rfl rfl rfl (fun t h => by cases h) ?_
  simp only [f122,go_sem,cfg,Nat.reduceSub]
  refine loop_on (fun s : List UInt8 => ⟨[.v (vS s),.dead,.v (vS []),.dead,.dead,.dead,.dead,.dead,.dead,.dead,.dead,.dead,.dead,.dead,.dead,.dead,.dead,.dead,.dead,.dead,.dead,.dead,.dead,.dead,.dead,.dead,.dead,.dead],List.replicate 28 none⟩) [0,2] (fun s => s.length ≤ l.length ∧ s.dropWhile spc = l.dropWhile spc) (fun s => s.length) l rfl ⟨Nat.le_refl _,rfl⟩ ?_
  intro s ⟨hs,h0⟩
  simp only [go_sem]
  by_cases hn : s = []
  · subst hn
    simp only [go_sem]
    have h0 : l.dropWhile spc = [] := h0.symm
    refine loop_on (fun _ : Unit => ⟨[.v (vS []),.dead,.v (vS []),.dead,.dead,.dead,.dead,.dead,.dead,.dead,.dead,.dead,.dead,.dead,.dead,.dead,.dead,.dead,.dead,.dead,.dead,.dead,.dead,.dead,.dead,.dead,.dead,.dead],List.replicate 28 none⟩) [0,2] (fun _ => True) (fun _ => 0) () rfl trivial ?_
    intro _ _
    simp only [go_sem,Nat.reduceBNe]
    refine fin0 (.inr rfl) rfl rfl rfl ?_
    rw [trimB,h0]; rfl
  · have hnb := beq_nil_false hn
    have hlp : 0 < s.length := List.length_pos_iff.2 hn
    have hlp' : (0 : Int) < s.length := by omega
    have hst := dropW_step hn
    simp only [go_sem,Int.reduceLE,Int.reduceToNat, *]
    refine ev_call (c154 _) (retW0 rfl rfl rfl rfl) ?_
    cases hb : spB (s.getD 0 0).toNat
    · have hb' : spc (s.getD 0 0) = false := hb
      rw [hb'] at hst
      have h0 : s = l.dropWhile spc := by rw [← h0,hst]; rfl
      simp only [go_sem,Nat.reduceAdd]
      refine loop_on (fun s : List UInt8 => ⟨[.v (vS s),.dead,.v (vS []),.dead,.dead,.dead,.dead,.dead,.dead,.dead,.dead,.dead,.dead,.dead,.dead,.dead,.dead,.dead,.dead,.dead,.dead,.dead,.dead,.dead,.dead,.dead,.dead,.dead],List.replicate 28 none⟩) [0,2] (fun t => t.length ≤ l.length ∧ trimR t = trimB l) (fun s => s.length) s rfl ⟨hs,by rw [h0]; rfl⟩ ?_
      clear hst hlp hlp' hn hnb hb hb' h0 hs
      intro s ⟨hs,h0⟩
      simp only [go_sem]
      by_cases hn : s = []
      · subst hn
        simp only [go_sem,Nat.reduceBNe]
        refine fin0 (.inr rfl) rfl rfl rfl ?_
        rw [← h0]; rfl
      · have hnb := beq_nil_false hn
        have hlp : 0 < s.length := List.length_pos_iff.2 hn
        have hw : IntKind.i64.wrap ((s.length : Int) - 1) = ((s.length - 1 : Nat) : Int) := by rw [IntKind.wrap_i64]; omega
        have hlt : s.length - 1 < s.length := by omega
        have hst := trimR_step hn
        have hle9 : s.length ≤ 9223372036854775807 := by omega
        simp only [go_sem, *]
        try (with_reducible intro _)
        refine ev_call (c154 _) (retW0 rfl rfl rfl rfl) ?_
        cases hb : spB (s.getD (s.length - 1) 0).toNat
        · have hb' : spc (s.getD (s.length - 1) 0) = false := hb
          simp only [go_sem,Nat.reduceAdd,Nat.reduceBNe]
          refine fin0 (.inr rfl) rfl rfl rfl ?_
          rw [hb',h0] at hst
          rw [show s = trimB l from hst.symm]; rfl
        · have hb' : spc (s.getD (s.length - 1) 0) = true := hb
          have hle : s.length - 1 ≤ s.length := by omega
          simp only [go_sem,Nat.reduceAdd,Nat.reduceBNe,hw,hle,hle9]
          first | exact ⟨s.take (s.length - 1),rfl,⟨by rw [List.length_take]; omega,by rw [← h0,hst,hb']; rfl⟩,by rw [List.length_take]; omega⟩ | trace_state
    · have hb' : spc (s.getD 0 0) = true := hb
      rw [hb'] at hst
      have hle1 : 1 ≤ s.length := by omega
      have e : (s.drop 1).take (s.length - 1) = s.drop 1 := List.take_of_length_le (by simp)
      simp only [go_sem,Nat.reduceAdd,Nat.reduceBNe,Int.reduceLE,Int.reduceToNat,hle1,e]
      first | exact ⟨s.drop 1,by first | rfl | rw [← e]; rfl,⟨by rw [List.length_drop]; omega,by rw [← h0,hst]; rfl⟩,by rw [List.length_drop]; omega⟩ | trace_state
theorem c93 (l : List UInt8) (hl : l.length ≤ 9223372036854775807) : Sem prog 93 ⟨[.v (vS l)],[none]⟩ ⟨[.dead,.v (vS (trimB l))],[none]⟩ := by
  refine sem_fin (cfg := cfg 1) (ts := [.tm 2]) tbOk func93 rfl rfl rfl rfl (fun t h => by cases h) ?_
  simp only [f93,go_sem,cfg,Nat.reduceSub]
  refine loop_on (fun i : Nat => ⟨[.v (vS l),.dead,.v (vS []),.v (vI i),.dead,.dead,.dead,.dead,.dead,.dead,.dead,.dead,.dead,.dead,.dead,.dead,.dead,.dead,.dead,.dead,.dead,.dead,.dead,.dead,.dead,.dead,.dead,.dead,.dead,.dead,.dead,.dead,.dead,.dead,.dead],List.replicate 35 none⟩) [0,2,3] (fun i => i ≤ l.length ∧ (l.drop i).dropWhile spc = l.dropWhile spc) (fun i => l.length - i) 0 rfl ⟨by omega,rfl⟩ ?_
  intro i ⟨hi,h0⟩
  simp only [go_sem]
  try (with_reducible intro hlen)
  by_cases hc : i < l.length
  · have hw := wrapN hc hl
    have hne : l.drop i ≠ [] := by intro h; have := congrArg List.length h; simp at this; omega
    have hst := dropW_step hne
    have hg : (l.drop i).getD 0 0 = l.getD i 0 := by simp [List.getD_eq_getElem?_getD]
    rw [hg,List.drop_drop] at hst
    simp only [go_sem, *]
    refine ev_call (c134 _) (retW0 rfl rfl rfl rfl) ?_
    cases hb : spB (l.getD i 0).toNat
    · have hb' : spc (l.getD i 0) = false := hb
      rw [hb'] at hst
      have h0 : l.drop i = l.dropWhile spc := by rw [← h0,hst]; rfl
      simp only [go_sem,Nat.reduceAdd,Nat.reduceBNe]
      try (with_reducible intro _)
      refine loop_on (fun j : Nat => ⟨[.v (vS l),.dead,.v (vS []),.v (vI i),.v (vI j),.dead,.dead,.dead,.dead,.dead,.dead,.dead,.dead,.dead,.dead,.dead,.dead,.dead,.dead,.dead,.dead,.dead,.dead,.dead,.dead,.dead,.dead,.dead,.dead,.dead,.dead,.dead,.dead,.dead,.dead],List.replicate 35 none⟩) [0,2,3,4] (fun j => i ≤ j ∧ j ≤ l.length ∧ trimR ((l.drop i).take (j - i)) = trimB l) (fun j => j) l.length rfl ⟨hi,Nat.le_refl _,by rw [List.take_of_length_le (by simp),h0]; rfl⟩ ?_
      intro j ⟨hij,hj,hT⟩
      simp only [go_sem]
      by_cases hji : i < j
      · have hw2 : IntKind.i64.wrap ((j : Int) - 1) = ((j - 1 : Nat) : Int) := by rw [IntKind.wrap_i64]; omega
        have hlt : j - 1 < l.length := by omega
        have hne2 : (l.drop i).take (j - i) ≠ [] := by intro h; have := congrArg List.length h; simp at this; omega
        have hl2 : ((l.drop i).take (j - i)).length = j - i := by simp; omega
        have hst2 := trimR_step hne2
        have hg2 : ((l.drop i).take (j - i)).getD (j - i - 1) 0 = l.getD (j - 1) 0 := by
          rw [List.getD_eq_getElem?_getD,List.getElem?_take_of_lt (by omega),List.getElem?_drop,List.getD_eq_getElem?_getD,show i + (j - i - 1) = j - 1 by omega]
        rw [hl2,hg2,List.take_take,show min (j - i - 1) (j - i) = j - 1 - i by omega] at hst2
        simp only [go_sem,hji,hw2,hlt]
        refine ev_call (c134 _) (retW0 rfl rfl rfl rfl) ?_
        cases hb2 : spB (l.getD (j - 1) 0).toNat
        · have hb2' : spc (l.getD (j - 1) 0) = false := hb2
          rw [hb2',hT] at hst2
          have hle : j ≤ l.length := hj
          simp only [go_sem,Nat.reduceAdd,Nat.reduceBNe,hij,hle]
          refine fin0 (.inr rfl) rfl rfl rfl ?_
          rw [show trimB l = (l.drop i).take (j - i) from hst2]; rfl
        · have hb2' : spc (l.getD (j - 1) 0) = true := hb2
          rw [hb2'] at hst2
          simp only [go_sem,Nat.reduceAdd,Nat.reduceBNe,hw2]
          exact ⟨j - 1,rfl,⟨by omega,by omega,by rw [← hT,hst2]; rfl⟩,by omega⟩
      · have hje : j = i := by omega
        subst hje
        simp only [go_sem,Nat.reduceBNe,hji,hj]
        refine fin0 (.inr rfl) rfl rfl rfl ?_
        rw [Nat.sub_self,List.take_zero] at hT
        rw [← hT,Nat.sub_self,List.take_zero]; rfl
    · have hb' : spc (l.getD i 0) = true := hb
      rw [hb'] at hst
      simp only [go_sem,Nat.reduceAdd,Nat.reduceBNe,hw]
      exact ⟨i + 1,rfl,⟨hc,by rw [← h0,hst]; rfl⟩,by omega⟩
  · simp only [go_sem,Nat.reduceBNe,hc]
    try (with_reducible intro _)
    have h0 : l.drop i = l.dropWhile spc := by rw [← h0,List.drop_of_length_le (by omega)]; rfl
    refine loop_on (fun j : Nat => ⟨[.v (vS l),.dead,.v (vS []),.v (vI i),.v (vI j),.dead,.dead,.dead,.dead,.dead,.dead,.dead,.dead,.dead,.dead,.dead,.dead,.dead,.dead,.dead,.dead,.dead,.dead,.dead,.dead,.dead,.dead,.dead,.dead,.dead,.dead,.dead,.dead,.dead,.dead],List.replicate 35 none⟩) [0,2,3,4] (fun j => i ≤ j ∧ j ≤ l.length ∧ trimR ((l.drop i).take (j - i)) = trimB l) (fun j => j) l.length rfl ⟨hi,Nat.le_refl _,by rw [List.take_of_length_le (by simp),h0]; rfl⟩ ?_
    intro j ⟨hij,hj,hT⟩
    simp only [go_sem]
    by_cases hji : i < j
    · have hw2 : IntKind.i64.wrap ((j : Int) - 1) = ((j - 1 : Nat) : Int) := by rw [IntKind.wrap_i64]; omega
      have hlt : j - 1 < l.length := by omega
      have hne2 : (l.drop i).take (j - i) ≠ [] := by intro h; have := congrArg List.length h; simp at this; omega
      have hl2 : ((l.drop i).take (j - i)).length = j - i := by simp; omega
      have hst2 := trimR_step hne2
      have hg2 : ((l.drop i).take (j - i)).getD (j - i - 1) 0 = l.getD (j - 1) 0 := by
        rw [List.getD_eq_getElem?_getD,List.getElem?_take_of_lt (by omega),List.getElem?_drop,List.getD_eq_getElem?_getD,show i + (j - i - 1) = j - 1 by omega]
      rw [hl2,hg2,List.take_take,show min (j - i - 1) (j - i) = j - 1 - i by omega] at hst2
      simp only [go_sem,hji,hw2,hlt]
      refine ev_call (c134 _) (retW0 rfl rfl rfl rfl) ?_
      cases hb2 : spB (l.getD (j - 1) 0).toNat
      · have hb2' : spc (l.getD (j - 1) 0) = false := hb2
        rw [hb2',hT] at hst2
        have hle : j ≤ l.length := hj
        simp only [go_sem,Nat.reduceAdd,Nat.reduceBNe,hij,hle]
        refine fin0 (.inr rfl) rfl rfl rfl ?_
        rw [show trimB l = (l.drop i).take (j - i) from hst2]; rfl
      · have hb2' : spc (l.getD (j - 1) 0) = true := hb2
        rw [hb2'] at hst2
        simp only [go_sem,Nat.reduceAdd,Nat.reduceBNe,hw2]
        exact ⟨j - 1,rfl,⟨by omega,by omega,by rw [← hT,hst2]; rfl⟩,by omega⟩
    · have hje : j = i := by omega
      subst hje
      simp only [go_sem,Nat.reduceBNe,hji,hj]
      refine fin0 (.inr rfl) rfl rfl rfl ?_
      rw [Nat.sub_self,List.take_zero] at hT
      rw [← hT,Nat.sub_self,List.take_zero]; rfl
set_option maxRecDepth 100000
set_option maxHeartbeats 600000
theorem tok256 : ∀ n,n < 256 → isTok (n : Nat) = tchar (n : Nat) := by decide +kernel
theorem tok_eq (b : UInt8) : isTok b.toNat = tchar b.toNat := tok256 b.toNat b.toNat_lt
theorem token_eq (l : List UInt8) : tokenS l = tokenI l := by
  have h : (l.all fun b => isTok b.toNat) = l.all fun b => tchar b.toNat := by
    congr 1
    funext b
    exact tok_eq b
  simp only [tokenI,tokenS,h,inB]
  grind
abbrev Fld := List UInt8 × List UInt8
def fieldB (p : Fld) : Bool := tokenI p.1 && decide (p.1.length ≤ 40) && decide (p.2.length ≤ 190) && (p.2.all fun b => plainB b.toNat) && (trimB p.2 == p.2)
def fieldsB (l : List Fld) : Bool := decide (l.length ≤ 20) && l.all fieldB
def rowF (p : Fld) : List T := [.v (vS p.1),.v (vS p.2)]
def rowsF (l : List Fld) : List (List T) := l.map rowF
theorem rowsF_length (l : List Fld) : (rowsF l).length = l.length := by simp [rowsF]
theorem rowsF_getD {l : List Fld} {i : Nat} (h : i < l.length) : (rowsF l).getD i [] = [.v (vS (l.getD i ([],[])).1),.v (vS (l.getD i ([],[])).2)] := by
  simp [rowsF,rowF,List.getD_eq_getElem?_getD,h]
def Small (l : List Fld) : Prop := l.length ≤ 9223372036854775807 ∧ ∀ p,p ∈ l → p.1.length ≤ 9223372036854775807 ∧ p.2.length ≤ 9223372036854775807
theorem Small.at {l : List Fld} (h : Small l) {i : Nat} (hi : i < l.length) : (l.getD i ([],[])).1.length ≤ 9223372036854775807 ∧ (l.getD i ([],[])).2.length ≤ 9223372036854775807 := by
  refine h.2 _ ?_
  rw [List.getD_eq_getElem?_getD,List.getElem?_eq_getElem hi]
  exact List.getElem_mem hi
theorem c73 (n v : List UInt8) (hn : n.length ≤ 9223372036854775807) (hv : v.length ≤ 9223372036854775807) : Sem prog 73 ⟨[.agg [.v (vS n),.v (vS v)]],[none]⟩ ⟨[.dead,.v (vB (fieldB (n,v)))],[none]⟩ := by
  refine sem_fin (cfg := cfg 1) (ts := [.tm 2]) tbOk func73 rfl rfl rfl rfl (fun t h => by cases h) ?_
  simp only [f73,go_sem,cfg,Nat.reduceLeDiff,Nat.reduceAdd,Nat.reduceSub, *]
  repeat' ((first | refine draw_intro 29 [[4,5,6,7,8,9,10,11,12,13,14,15,16,17,18,19,20,21,22,23,24,25,26,27,28,29,30,2],[5,6,7,8,9,10,11,12,13,14,15,16,17,18,19,20,21,22,23,24,25,26,27,28,29,30,2],[3,6,7,8,9,10,11,12,13,14,15,16,17,18,19,20,21,22,23,24,25,26,27,28,29,30,2],[3,4,7,8,9,10,11,12,13,14,15,16,17,18,19,20,21,22,23,24,25,26,27,28,29,30,2],[3,4,5,8,9,10,11,12,13,14,15,16,17,18,19,20,21,22,23,24,25,26,27,28,29,30,2],[3,4,5,9,10,11,12,13,14,15,16,17,18,19,20,21,22,23,24,25,26,27,28,29,30,2],[3,4,5,7,10,11,12,13,14,15,16,17,18,19,20,21,22,23,24,25,26,27,28,29,30,2],[3,4,5,7,8,11,12,13,14,15,16,17,18,19,20,21,22,23,24,25,26,27,28,29,30,2],[3,4,5,7,8,9,12,13,14,15,16,17,18,19,20,21,22,23,24,25,26,27,28,29,30,2],[3,4,5,7,8,9,10,13,14,15,16,17,18,19,20,21,22,23,24,25,26,27,28,29,30,2],[3,4,5,6,7,8,9,10,11,14,15,16,17,18,19,20,21,22,23,24,25,26,27,28,29,30,2],[3,4,5,6,7,8,9,10,11,15,16,17,18,19,20,21,22,23,24,25,26,27,28,29,30,2],[3,4,5,6,7,8,9,10,11,13,16,17,18,19,20,21,22,23,24,25,26,27,28,29,30,2],[3,4,5,6,7,8,9,10,11,13,14,17,18,19,20,21,22,23,24,25,26,27,28,29,30,2],[3,4,5,6,7,8,9,10,11,13,14,15,18,19,20,21,22,23,24,25,26,27,28,29,30,2],[3,4,5,6,7,8,9,10,11,13,14,15,16,19,20,21,22,23,24,25,26,27,28,29,30,2],[3,4,5,6,7,8,9,10,11,12,13,14,15,16,17,20,21,22,23,24,25,26,27,28,29,30,2],[3,4,5,6,7,8,9,10,11,12,13,14,15,16,17,21,22,23,24,25,26,27,28,29,30,2],[3,4,5,6,7,8,9,10,11,12,13,14,15,16,17,19,22,23,24,25,26,27,28,29,30,2],[3,4,5,6,7,8,9,10,11,12,13,14,15,16,17,19,20,23,24,25,26,27,28,29,30,2],[3,4,5,6,7,8,9,10,11,12,13,14,15,16,17,18,19,20,24,25,26,27,28,29,30,2],[3,4,5,6,7,8,9,10,11,12,13,14,15,16,17,18,19,20,21,22,25,26,27,28,29,30,2],[3,4,5,6,7,8,9,10,11,12,13,14,15,16,17,18,19,20,21,22,26,27,28,29,30,2],[3,4,5,6,7,8,9,10,11,12,13,14,15,16,17,18,19,20,21,22,24,27,28,29,30,2],[3,4,5,6,7,8,9,10,11,12,13,14,15,16,17,18,19,20,21,22,24,25,26,28,29,30,2],[3,4,5,6,7,8,9,10,11,12,13,14,15,16,17,18,19,20,21,22,24,25,26,29,30,2],[3,4,5,6,7,8,9,10,11,12,13,14,15,16,17,18,19,20,21,22,24,25,27,30,2],[3,4,5,6,7,8,9,10,11,12,13,14,15,16,17,18,19,20,21,22,24,25,26,27,28,2],[]] mixedOk rfl ?_ | refine ev_call (c116 _ hn) (retW0 rfl rfl rfl rfl) ?_ | refine of_call (c116 _ hn) (retW0 rfl rfl rfl rfl) rfl rfl rfl ?_ | refine ev_call (c52 v 117 plainB rfl rfl c117 hv) (retW0 rfl rfl rfl rfl) ?_ | refine of_call (c52 v 117 plainB rfl rfl c117 hv) (retW0 rfl rfl rfl rfl) rfl rfl rfl ?_ | refine ev_call (c122 _ hv) (retW0 rfl rfl rfl rfl) ?_ | refine of_call (c122 _ hv) (retW0 rfl rfl rfl rfl) rfl rfl rfl ?_ | with_reducible intro _ | split) <;> (try simp only [go_sem,Nat.reduceLeDiff,Nat.reduceAdd,Nat.reduceBEq,Nat.reduceBNe, *]))
  all_goals
    refine fin0 (.inr rfl) rfl rfl rfl ?_
    simp only [shutR,shutD,List.getD_cons_zero,List.getD_cons_succ]
    refine congrArg (fun b => D.v (vB b)) ?_
    grind [fieldB]
theorem c43 (n v : List UInt8) (hn : n.length ≤ 9223372036854775807) (hv : v.length ≤ 9223372036854775807) : Sem prog 43 ⟨[.agg [.v (vS n),.v (vS v)]],[none]⟩ ⟨[.dead,.v (vB (fieldB (n,v)))],[none]⟩ := by
  have htk := token_eq n
  refine sem_fin (cfg := cfg 1) (ts := [.tm 2]) tbOk func43 rfl rfl rfl rfl (fun t h => by cases h) ?_
  simp only [f43,go_sem,cfg,Nat.reduceLeDiff,Nat.reduceAdd,Nat.reduceSub, *]
  repeat' ((first | refine draw_intro 29 [[4,5,6,7,8,9,10,11,12,13,14,15,16,17,18,19,20,21,22,23,24,25,26,27,28,29,30,2],[5,6,7,8,9,10,11,12,13,14,15,16,17,18,19,20,21,22,23,24,25,26,27,28,29,30,2],[3,6,7,8,9,10,11,12,13,14,15,16,17,18,19,20,21,22,23,24,25,26,27,28,29,30,2],[3,4,7,8,9,10,11,12,13,14,15,16,17,18,19,20,21,22,23,24,25,26,27,28,29,30,2],[3,4,5,8,9,10,11,12,13,14,15,16,17,18,19,20,21,22,23,24,25,26,27,28,29,30,2],[3,4,5,6,9,10,11,12,13,14,15,16,17,18,19,20,21,22,23,24,25,26,27,28,29,30,2],[3,4,5,6,10,11,12,13,14,15,16,17,18,19,20,21,22,23,24,25,26,27,28,29,30,2],[3,4,5,6,8,11,12,13,14,15,16,17,18,19,20,21,22,23,24,25,26,27,28,29,30,2],[3,4,5,6,8,9,12,13,14,15,16,17,18,19,20,21,22,23,24,25,26,27,28,29,30,2],[3,4,5,6,7,8,9,13,14,15,16,17,18,19,20,21,22,23,24,25,26,27,28,29,30,2],[3,4,5,6,7,8,9,10,11,14,15,16,17,18,19,20,21,22,23,24,25,26,27,28,29,30,2],[3,4,5,6,7,8,9,10,11,15,16,17,18,19,20,21,22,23,24,25,26,27,28,29,30,2],[3,4,5,6,7,8,9,10,11,13,16,17,18,19,20,21,22,23,24,25,26,27,28,29,30,2],[3,4,5,6,7,8,9,10,11,13,14,17,18,19,20,21,22,23,24,25,26,27,28,29,30,2],[3,4,5,6,7,8,9,10,11,13,14,15,18,19,20,21,22,23,24,25,26,27,28,29,30,2],[3,4,5,6,7,8,9,10,11,13,14,15,16,19,20,21,22,23,24,25,26,27,28,29,30,2],[3,4,5,6,7,8,9,10,11,12,13,14,15,16,17,20,21,22,23,24,25,26,27,28,29,30,2],[3,4,5,6,7,8,9,10,11,12,13,14,15,16,17,21,22,23,24,25,26,27,28,29,30,2],[3,4,5,6,7,8,9,10,11,12,13,14,15,16,17,19,22,23,24,25,26,27,28,29,30,2],[3,4,5,6,7,8,9,10,11,12,13,14,15,16,17,19,20,23,24,25,26,27,28,29,30,2],[3,4,5,6,7,8,9,10,11,12,13,14,15,16,17,18,19,20,24,25,26,27,28,29,30,2],[3,4,5,6,7,8,9,10,11,12,13,14,15,16,17,18,19,20,21,22,25,26,27,28,29,30,2],[3,4,5,6,7,8,9,10,11,12,13,14,15,16,17,18,19,20,21,22,26,27,28,29,30,2],[3,4,5,6,7,8,9,10,11,12,13,14,15,16,17,18,19,20,21,22,24,27,28,29,30,2],[3,4,5,6,7,8,9,10,11,12,13,14,15,16,17,18,19,20,21,22,24,25,26,28,29,30,2],[3,4,5,6,7,8,9,10,11,12,13,14,15,16,17,18,19,20,21,22,24,25,26,29,30,2],[3,4,5,6,7,8,9,10,11,12,13,14,15,16,17,18,19,20,21,22,24,25,27,30,2],[3,4,5,6,7,8,9,10,11,12,13,14,15,16,17,18,19,20,21,22,24,25,26,27,28,2],[]] mixedOk rfl ?_ | refine ev_call (c89 _ hn) (retW0 rfl rfl rfl rfl) ?_ | refine of_call (c89 _ hn) (retW0 rfl rfl rfl rfl) rfl rfl rfl ?_ | refine ev_call (c90 _ hv) (retW0 rfl rfl rfl rfl) ?_ | refine of_call (c90 _ hv) (retW0 rfl rfl rfl rfl) rfl rfl rfl ?_ | refine ev_call (c93 _ hv) (retW0 rfl rfl rfl rfl) ?_ | refine of_call (c93 _ hv) (retW0 rfl rfl rfl rfl) rfl rfl rfl ?_ | with_reducible intro _ | split) <;> (try simp only [go_sem,Nat.reduceLeDiff,Nat.reduceAdd,Nat.reduceBEq,Nat.reduceBNe, *]))
  all_goals
    refine fin0 (.inr rfl) rfl rfl rfl ?_
    simp only [shutR,shutD,List.getD_cons_zero,List.getD_cons_succ]
    refine congrArg (fun b => D.v (vB b)) ?_
    grind [fieldB]
theorem c51 (n v : List UInt8) : Sem prog 51 ⟨[.agg [.v (vS n),.v (vS v)]],[none]⟩ ⟨[.dead,.agg [.v (vS n),.v (vS v)]],[none]⟩ := by
  refine sem_fin (cfg := cfg 1) (ts := [.ce 2 45]) tbOk func51 rfl rfl rfl rfl (fun t h => by cases h) ?_
  simp only [f51,go_sem,cfg,Nat.reduceLeDiff,Nat.reduceLT,Nat.reduceAdd,Nat.reduceSub, *]
  repeat' ((first | split) <;> (try simp only [f51,go_sem,cfg,Nat.reduceLeDiff,Nat.reduceLT,Nat.reduceAdd,Nat.reduceSub,Nat.reduceMul,Nat.reduceBEq,Nat.reduceBNe,Nat.reduceEqDiff,reduceCtorEq,reduceIte,Int.reduceLT,Int.reduceLE,Int.reduceAdd,Int.reduceSub,Int.reduceNeg,Int.reduceEq,Int.reduceBEq,Int.reduceBNe,Int.reduceToNat,Nat.reduceDiv,Nat.reduceMod, *]))
  all_goals
    exact fin0 (.inr rfl) rfl rfl rfl rfl
theorem c81 (n v n2 v2 : List UInt8) : Sem prog 81 ⟨[.agg [.v (vS n),.v (vS v)],.agg [.v (vS n2),.v (vS v2)]],[none,none]⟩ ⟨[.dead,.dead,.v (vB (((n,v) : Fld) == (n2,v2)))],[none,none]⟩ := by
  refine sem_fin (cfg := cfg 2) (ts := [.tm 4]) tbOk func81 rfl rfl rfl rfl (fun t h => by cases h) ?_
  simp only [f81,go_sem,cfg,Nat.reduceLeDiff,Nat.reduceLT,Nat.reduceAdd,Nat.reduceSub, *]
  repeat' ((first | with_reducible intro _ | split) <;> (try simp only [go_sem,Nat.reduceLeDiff,Nat.reduceAdd, *]))
  all_goals
    refine fin0 (.inr rfl) rfl rfl rfl ?_
    simp only [shutR,shutD,List.getD_cons_zero,List.getD_cons_succ]
    refine congrArg (fun b => D.v (vB b)) ?_
    grind []
set_option maxRecDepth 100000
set_option maxHeartbeats 600000
theorem c62 (l : List Fld) (hl : Small l) : Sem prog 62 ⟨[.imm 45 (rowsF l)],[none]⟩ ⟨[.dead,.v (vB (fieldsB l))],[none]⟩ := by
  refine sem_fin (cfg := cfg 1) (ts := [.tm 2]) tbOk func62 rfl rfl rfl rfl (fun t h => by cases h) ?_
  simp only [f62,go_sem,cfg,Nat.reduceSub,rowsF_length]
  intro hlen
  have hs : l.length ≤ 9223372036854775807 := hl.1
  by_cases h20 : 20 < l.length
  · have h20' : (20 : Int) < (l.length : Int) := by omega
    simp only [go_sem,h20']
    refine fin0 (.inr rfl) rfl rfl rfl ?_
    simp only [shutR,shutD,List.getD_cons_zero,List.getD_cons_succ]
    refine congrArg (fun b => D.v (vB b)) ?_
    grind [fieldsB]
  have h20' : ¬ (20 : Int) < (l.length : Int) := by omega
  simp only [go_sem,rowsF_length,h20',hs]
  refine loop_on (fun i : Nat => ⟨[.imm 45 (rowsF l),.dead,.v (vB false),.dead,.dead,.dead,.dead,.dead,.imm 45 (rowsF l),.v (vI l.length),.v (vI i),.dead,.dead,.dead,.dead,.dead,.dead,.dead],List.replicate 18 none⟩) [0,2,8,9,10] (fun i => i ≤ l.length ∧ (l.take i).all fieldB = true) (fun i => l.length - i) 0 rfl ⟨by omega,by simp⟩ ?_
  intro i ⟨hi,hall⟩
  simp only [go_sem]
  by_cases hc : i < l.length
  · have hw := wrapN hc hs
    have h1 := rowsF_getD hc
    have hsm := hl.at hc
    simp only [go_sem,Nat.reduceLeDiff,Nat.reduceLT,Nat.reduceAdd,rowsF_length,hc,h1]
    refine ev_call (c73 _ _ hsm.1 hsm.2) (retW0 rfl rfl rfl rfl) ?_
    cases hb : fieldB (l.getD i ([],[]))
    · simp only [go_sem,Nat.reduceAdd]
      refine fin0 (.inr rfl) rfl rfl rfl ?_
      simp only [shutR,shutD,List.getD_cons_zero,List.getD_cons_succ]
      rw [fieldsB,all_false_at hc hb]; simp
    · simp only [go_sem,Nat.reduceAdd,hw]
      exact ⟨i + 1,rfl,⟨hc,by rw [all_take_succ (d := ([],[])) hc,hall,hb]; rfl⟩,by omega⟩
  · simp only [go_sem,hc]
    refine fin0 (.inr rfl) rfl rfl rfl ?_
    simp only [shutR,shutD,List.getD_cons_zero,List.getD_cons_succ]
    rw [List.take_of_length_le (by omega)] at hall
    refine congrArg (fun b => D.v (vB b)) ?_
    grind [fieldsB]
theorem c38 (l : List Fld) (hl : Small l) : Sem prog 38 ⟨[.imm 45 (rowsF l)],[none]⟩ ⟨[.dead,.v (vB (fieldsB l))],[none]⟩ := by
  refine sem_fin (cfg := cfg 1) (ts := [.tm 2]) tbOk func38 rfl rfl rfl rfl (fun t h => by cases h) ?_
  simp only [f38,go_sem,cfg,Nat.reduceSub,rowsF_length]
  intro hlen
  have hs : l.length ≤ 9223372036854775807 := hl.1
  by_cases h20 : 20 < l.length
  · have h20' : (20 : Int) < (l.length : Int) := by omega
    simp only [go_sem,h20']
    refine fin0 (.inr rfl) rfl rfl rfl ?_
    simp only [shutR,shutD,List.getD_cons_zero,List.getD_cons_succ]
    refine congrArg (fun b => D.v (vB b)) ?_
    grind [fieldsB]
  have h20' : ¬ (20 : Int) < (l.length : Int) := by omega
  simp only [go_sem,h20']
  refine loop_on (fun i : Nat => ⟨[.imm 45 (rowsF l),.dead,.v (vB false),.v (vI i),.dead,.dead,.dead,.dead,.dead,.dead,.dead,.dead,.dead,.dead,.dead,.dead,.dead,.dead,.dead],List.replicate 19 none⟩) [0,2,3] (fun i => i ≤ l.length ∧ (l.take i).all fieldB = true) (fun i => l.length - i) 0 rfl ⟨by omega,by simp⟩ ?_
  intro i ⟨hi,hall⟩
  simp only [go_sem,rowsF_length]
  try (with_reducible intro _)
  by_cases hc : i < l.length
  · have hw := wrapN hc hs
    have h1 := rowsF_getD hc
    have hsm := hl.at hc
    simp only [go_sem,Nat.reduceAdd,rowsF_length,hc,h1]
    refine ev_call (c43 _ _ hsm.1 hsm.2) (retW0 rfl rfl rfl rfl) ?_
    cases hb : fieldB (l.getD i ([],[]))
    · simp only [go_sem,Nat.reduceAdd]
      refine fin0 (.inr rfl) rfl rfl rfl ?_
      simp only [shutR,shutD,List.getD_cons_zero,List.getD_cons_succ]
      rw [fieldsB,all_false_at hc hb]; simp
    · simp only [go_sem,Nat.reduceAdd,Nat.reduceBNe,hw]
      exact ⟨i + 1,rfl,⟨hc,by rw [all_take_succ (d := ([],[])) hc,hall,hb]; rfl⟩,by omega⟩
  · simp only [go_sem,hc]
    refine fin0 (.inr rfl) rfl rfl rfl ?_
    simp only [shutR,shutD,List.getD_cons_zero,List.getD_cons_succ]
    rw [List.take_of_length_le (by omega)] at hall
    refine congrArg (fun b => D.v (vB b)) ?_
    grind [fieldsB]
def szF (p : Fld) (k : Int) : Int := if k < p.1.length then -1 else if k - p.1.length < p.2.length then -1 else k - p.1.length - p.2.length
def szL : List Fld → Int → Int
  | [],k => k
  | p :: l,k => if szF p k < 0 then -1 else szL l (szF p k)
theorem c31 (p : Fld) (hn : p.1.length ≤ 9223372036854775807) (hv : p.2.length ≤ 9223372036854775807) (k : Int) (h0 : 0 ≤ k) (hk : k ≤ 1048576) : Sem prog 31 ⟨[.agg [.v (vS p.1),.v (vS p.2)],.v (vI k)],[none,none]⟩ ⟨[.dead,.dead,.v (vI (szF p k))],[none,none]⟩ := by
  have hw1 : IntKind.i64.wrap (k - p.1.length) = k - p.1.length := wrapI (by omega)
  have hw2 : ¬ k - p.1.length < 0 → IntKind.i64.wrap (k - p.1.length - p.2.length) = k - p.1.length - p.2.length := fun _ => wrapI (by omega)
  refine sem_fin (cfg := cfg 2) (ts := [.tm 4]) tbOk func31 rfl rfl rfl rfl (fun t h => by cases h) ?_
  simp only [f31,go_sem,cfg,Nat.reduceLeDiff,Nat.reduceAdd,Nat.reduceSub,Nat.reduceBNe,Int.reduceNeg, *]
  repeat' ((first | with_reducible intro _ | split) <;> (try simp only [go_sem,Nat.reduceLeDiff,Nat.reduceAdd,Nat.reduceBNe,Int.reduceNeg, *]))
  all_goals
    refine fin0 (.inr rfl) rfl rfl rfl ?_
    simp only [shutR,shutD,List.getD_cons_zero,List.getD_cons_succ]
    refine congrArg (fun x => D.v (vI x)) ?_
    first | (unfold szF; grind) | trace_state
set_option maxRecDepth 100000
set_option maxHeartbeats 600000
theorem drop_at {α : Type} {l : List α} {i : Nat} {d : α} (h : i < l.length) : l.drop i = l.getD i d :: l.drop (i + 1) := by
  rw [List.drop_eq_getElem_cons h]; simp [List.getD_eq_getElem?_getD,h]
theorem take_at {α : Type} {l : List α} {i : Nat} {d : α} (h : i < l.length) : l.take (i + 1) = l.take i ++ [l.getD i d] := by
  rw [List.take_succ_eq_append_getElem h]; simp [List.getD_eq_getElem?_getD,h]
def zrow : List T := [.v (vS []),.v (vS [])]
def mk (l : List Fld) (i : Nat) : List (List T) := rowsF (l.take i) ++ List.replicate (l.length - i) zrow
theorem mk_length (l : List Fld) (i : Nat) : (mk l i).length = l.length := by simp [mk,rowsF_length]; omega
theorem mk_zero (l : List Fld) : mk l 0 = List.replicate l.length [.v (vS []),.v (vS [])] := by simp [mk,rowsF,zrow]
theorem mk_all (l : List Fld) : mk l l.length = rowsF l := by simp [mk]
theorem mk_getD {l : List Fld} {i : Nat} (h : i < l.length) : (mk l i).getD i [] = [.v (vS []),.v (vS [])] := by
  unfold mk
  rw [List.getD_eq_getElem?_getD,List.getElem?_append_right (by simp [rowsF_length]; omega)]
  simp only [rowsF_length,List.length_take,Nat.min_eq_left (Nat.le_of_lt h),Nat.sub_self]
  rw [List.getElem?_replicate,if_pos (by omega)]; rfl
theorem mk_set {l : List Fld} {i : Nat} (h : i < l.length) : (mk l i).set i [.v (vS (l.getD i ([],[])).1),.v (vS (l.getD i ([],[])).2)] = mk l (i + 1) := by
  unfold mk
  have h1 : l.length - i = (l.length - (i + 1)) + 1 := by omega
  rw [take_at (d := ([],[])) h,h1,List.set_append_right _ _ (by simp [rowsF_length]; omega)]
  simp only [rowsF_length,List.length_take,Nat.min_eq_left (Nat.le_of_lt h),Nat.sub_self,List.replicate_succ,List.set_cons_zero]
  simp [rowsF,rowF]
theorem c11 (l : List Fld) (hl : Small l) (k : Int) (h0 : 0 ≤ k) (hk : k ≤ 1048576) : Sem prog 11 ⟨[.imm 52 (rowsF l),.v (vI k)],[none,none]⟩ ⟨[.dead,.dead,.v (vI (if k < l.length then -1 else szL l (k - l.length)))],[none,none]⟩ := by
  refine sem_fin (cfg := cfg 2) (ts := [.tm 4]) tbOk func11 rfl rfl rfl rfl (fun t h => by cases h) ?_
  have hs : l.length ≤ 9223372036854775807 := hl.1
  have hw0 : IntKind.i64.wrap (k - l.length) = k - l.length := wrapI (by omega)
  simp only [f11,go_sem,cfg,Nat.reduceSub,Nat.reduceBNe,Int.reduceNeg,rowsF_length,hw0]
  refine Or.elim (Classical.em (k < (l.length : Int))) (fun hkl => ?_) fun hkl => ?_
  · rw [if_pos hkl]
    try (with_reducible intro _)
    have hn : k - l.length < 0 := by omega
    simp only [go_sem,Int.reduceNeg,hn]
    exact fin0 (.inr rfl) rfl rfl rfl rfl
  have hn : ¬ k - l.length < 0 := by omega
  rw [if_neg hkl]
  simp only [go_sem,hn]
  try (with_reducible intro _)
  refine loop_on (fun s : Nat × Int => ⟨[.imm 52 (rowsF l),.v (vI s.2),.dead,.dead,.v (vI 0),.v (vI s.1),.dead,.dead,.dead,.dead,.dead,.dead,.dead,.dead,.dead,.dead,.dead,.dead,.dead,.dead,.dead,.dead,.dead,.dead,.dead,.dead,.dead],List.replicate 27 none⟩) [0,1,4,5] (fun s => s.1 ≤ l.length ∧ 0 ≤ s.2 ∧ s.2 ≤ 1048576 ∧ szL (l.drop s.1) s.2 = szL l (k - l.length)) (fun s => l.length - s.1) (0,k - l.length) rfl ⟨by show 0 ≤ _; omega,by show 0 ≤ k - _; omega,by show k - _ ≤ _; omega,rfl⟩ ?_
  intro ⟨i,kk⟩ ⟨hi,hk0,hk1,hsz⟩
  simp only at hi hk0 hk1 hsz
  simp only [go_sem,rowsF_length]
  try (with_reducible intro _)
  by_cases hc : i < l.length
  · have hw := wrapN hc hs
    have h1 := rowsF_getD hc
    have hsm := hl.at hc
    rw [drop_at (d := ([],[])) hc] at hsz
    simp only [go_sem,Nat.reduceAdd,rowsF_length,hc,h1]
    refine ev_call (c31 (l.getD i ([],[])) hsm.1 hsm.2 _ hk0 hk1) (retW0 rfl rfl rfl rfl) ?_
    have hup : szF (l.getD i ([],[])) kk ≤ kk := by unfold szF; split <;> (try split) <;> omega
    have hm1 : szF (l.getD i ([],[])) kk < 0 → szL (l.getD i ([],[]) :: l.drop (i + 1)) kk = -1 := fun h => by rw [szL,if_pos h]
    have hm2 : ¬ szF (l.getD i ([],[])) kk < 0 → szL (l.getD i ([],[]) :: l.drop (i + 1)) kk = szL (l.drop (i + 1)) (szF (l.getD i ([],[])) kk) := fun h => by rw [szL,if_neg h]
    generalize szF (l.getD i ([],[])) kk = z at hup hm1 hm2 ⊢
    simp only [go_sem,Nat.reduceAdd,Nat.reduceBNe]
    refine Or.elim (Classical.em (z < 0)) (fun hz => ?_) fun hz => ?_
    · simp only [go_sem,Int.reduceNeg,hz]
      refine fin0 (.inr rfl) rfl rfl rfl ?_
      simp only [shutR,shutD,List.getD_cons_zero,List.getD_cons_succ]
      rw [hm1 hz] at hsz
      rw [← hsz]
    · simp only [go_sem,Nat.reduceBNe,hz,hw]
      refine ⟨(i + 1,z),rfl,⟨hc,by show 0 ≤ z; omega,by show z ≤ _; omega,?_⟩,by show _ - (i + 1) < _; omega⟩
      rw [hm2 hz] at hsz
      exact hsz
  · simp only [go_sem,Nat.reduceBNe,hc]
    refine fin0 (.inr rfl) rfl rfl rfl ?_
    simp only [shutR,shutD,List.getD_cons_zero,List.getD_cons_succ]
    rw [List.drop_of_length_le (by omega)] at hsz
    rw [← hsz]; rfl
theorem c19 (l : List Fld) (hl : Small l) (hm : l.length ≤ 1048576) : Sem prog 19 ⟨[.imm 52 (rowsF l)],[none]⟩ ⟨[.dead,.own 45 (rowsF l)],[none]⟩ := by
  refine sem_fin (cfg := cfg 1) (ts := [.tm 2]) tbOk func19 rfl rfl rfl rfl (fun t h => by cases h) ?_
  have hs : l.length ≤ 9223372036854775807 := hl.1
  have hb1 : l.length * 32 ≤ 140737488355328 := by omega
  have hs' : (l.length : Int) ≤ 9223372036854775807 := by omega
  simp only [f19,go_sem,cfg,Nat.reduceAdd,Nat.reduceSub,Nat.reduceBNe,Nat.reduceEqDiff,reduceCtorEq,Nat.reduceDiv,Nat.reduceMod,rowsF_length,hb1,hs,hs']
  repeat' ((first | with_reducible intro _ | split) <;> (try simp only [f19,go_sem,cfg,Nat.reduceLeDiff,Nat.reduceLT,Nat.reduceAdd,Nat.reduceSub,Nat.reduceMul,Nat.reduceBEq,Nat.reduceBNe,Nat.reduceEqDiff,reduceCtorEq,reduceIte,Int.reduceLT,Int.reduceLE,Int.reduceAdd,Int.reduceSub,Int.reduceNeg,Int.reduceEq,Int.reduceBEq,Int.reduceBNe,Int.reduceToNat,Nat.reduceDiv,Nat.reduceMod,rowsF_length,mk_length, *]))
  refine loop_on (fun i : Nat => ⟨[.imm 52 (rowsF l),.dead,.nil,.own 45 (mk l i),.v (vI i),.dead,.dead,.dead,.dead,.dead,.dead,.dead,.dead,.dead,.dead,.dead,.dead,.dead,.dead,.dead,.dead,.dead,.dead],List.replicate 23 none⟩) [0,2,3,4] (fun i => i ≤ l.length) (fun i => l.length - i) 0 (by simp only [mk_zero]; rfl) (by omega) ?_
  intro i hi
  simp only [go_sem,rowsF_length]
  try (with_reducible intro _)
  by_cases hc : i < l.length
  · have hw := wrapN hc hs
    have h1 := rowsF_getD hc
    have h2 := mk_getD hc
    have h3 := mk_set hc
    simp only [go_sem,Nat.reduceAdd,rowsF_length,hc,h1]
    refine ev_call (c51 _ _) (retW0 rfl rfl rfl rfl) ?_
    simp only [go_sem,Nat.reduceAdd,Nat.reduceBNe,Nat.reduceEqDiff,reduceCtorEq,Nat.reduceDiv,Nat.reduceMod,mk_length,hc,h2,h3,hw]
    first | exact ⟨i + 1,rfl,hc,by omega⟩ | trace_state
  · have he : i = l.length := by omega
    subst he
    simp only [go_sem,Nat.reduceAdd,Nat.reduceBNe,Nat.reduceEqDiff,reduceCtorEq,Nat.reduceDiv,Nat.reduceMod,hc,mk_all]
    first | exact fin0 (.inr rfl) rfl rfl rfl rfl | trace_state
set_option maxRecDepth 100000
set_option maxHeartbeats 600000
theorem takes_eq_succ {α : Type} {a b : List α} {i : Nat} {d : α} (ha : i < a.length) (hb : i < b.length) (h : a.take i = b.take i) (h2 : a.getD i d = b.getD i d) : a.take (i + 1) = b.take (i + 1) := by
  rw [take_at (d := d) ha,take_at (d := d) hb,h,h2]
theorem ne_at {a b : List Fld} {i : Nat} {d : Fld} (h : (a.getD i d == b.getD i d) = false) : (a == b) = false := by
  rw [beq_eq_false_iff_ne] at h ⊢
  rintro rfl
  exact h rfl
theorem ne_len {a b : List Fld} (h : a.length ≠ b.length) : (a == b) = false := by
  rw [beq_eq_false_iff_ne]
  rintro rfl
  exact h rfl
theorem c28 (a b : List Fld) (ha : a.length ≤ 9223372036854775807) (hb : b.length ≤ 9223372036854775807) : Sem prog 28 ⟨[.imm 45 (rowsF a),.imm 45 (rowsF b)],[none,none]⟩ ⟨[.dead,.dead,.v (vB (a == b))],[none,none]⟩ := by
  refine sem_fin (cfg := cfg 2) (ts := [.tm 4]) tbOk func28 rfl rfl rfl rfl (fun t h => by cases h) ?_
  simp only [f28,go_sem,cfg,Nat.reduceSub,rowsF_length,ha,hb]
  refine Or.elim (Classical.em (a.length = b.length)) (fun hab => ?_) fun hab => ?_
  · have hne : ((a.length : Int) != (b.length : Int)) = false := by rw [hab]; simp
    simp only [go_sem,hne]
    refine loop_on (fun i : Nat => ⟨[.imm 45 (rowsF a),.imm 45 (rowsF b),.dead,.dead,.v (vB false),.v (vI i),.dead,.dead,.dead,.dead,.dead,.dead,.dead,.dead,.dead,.dead,.dead,.dead,.dead,.dead,.dead,.dead,.dead,.dead,.dead,.dead,.dead],List.replicate 27 none⟩) [0,1,4,5] (fun i => i ≤ a.length ∧ a.take i = b.take i) (fun i => a.length - i) 0 rfl ⟨by omega,by simp⟩ ?_
    intro i ⟨hi,heq⟩
    simp only [go_sem,rowsF_length,ha]
    by_cases hc : i < a.length
    · have hw := wrapN hc ha
      have hc2 : i < b.length := by omega
      have h1 := rowsF_getD hc
      have h2 := rowsF_getD hc2
      simp only [go_sem,hc]
      repeat' ((first | with_reducible intro _ | refine draw_intro 10 [[18,19,20,21,22,23,24,25,26],[17,19,20,21,22,23,24,25,26],[20,21,22,23,24,25,26],[17,18,21,22,23,24,25,26],[17,18,19,20,22,23,24,25,26],[17,18,19,20,21,23,24,25,26],[17,18,19,20,24,25,26],[17,18,19,20,21,22,25,26],[17,18,19,21,22,23,26],[17,18,19,20,21,22,23,24]] mixedOk rfl ?_ | split) <;> (try simp only [go_sem,Nat.reduceAdd,Nat.reduceBEq,rowsF_length, *]))
      simp only [go_sem]
      refine of_call (c81 _ _ _ _) (retW0 rfl rfl rfl rfl) rfl rfl rfl ?_
      cases hq : (((a.getD i ([],[])).1,(a.getD i ([],[])).2) : Fld) == ((b.getD i ([],[])).1,(b.getD i ([],[])).2)
      · simp only [go_sem,Nat.reduceAdd,Nat.reduceBEq]
        refine fin0 (.inr rfl) rfl rfl rfl ?_
        simp only [shutR,shutD,List.getD_cons_zero,List.getD_cons_succ]
        rw [ne_at (i := i) (d := ([],[])) hq]
      · simp only [go_sem,Nat.reduceAdd,Nat.reduceBEq,Nat.reduceBNe,hw]
        exact ⟨i + 1,rfl,⟨hc,takes_eq_succ hc hc2 heq (eq_of_beq hq)⟩,by omega⟩
    · simp only [go_sem,hc]
      refine fin0 (.inr rfl) rfl rfl rfl ?_
      simp only [shutR,shutD,List.getD_cons_zero,List.getD_cons_succ]
      rw [List.take_of_length_le (by omega),List.take_of_length_le (by omega)] at heq
      rw [heq]; simp
  · have hne : ((a.length : Int) != (b.length : Int)) = true := by simp; omega
    simp only [go_sem,hne]
    refine fin0 (.inr rfl) rfl rfl rfl ?_
    simp only [shutR,shutD,List.getD_cons_zero,List.getD_cons_succ]
    rw [ne_len hab]
set_option maxRecDepth 100000
set_option maxHeartbeats 600000
def dig (n : Nat) : UInt8 := UInt8.ofNat (48 + n % 10)
def digs (n : Nat) (acc : List UInt8) : List UInt8 := if n = 0 then acc else digs (n / 10) (dig n :: acc)
termination_by n
decreasing_by omega
def markT (n : Nat) : List UInt8 := 109 :: digs n []
theorem dig_toNat (n : Nat) : (dig n).toNat = 48 + n % 10 := by
  have : 48 + n % 10 < 256 := by omega
  simp [dig,UInt8.toNat_ofNat']
  omega
theorem dig_wrap (m : Nat) (_h : m ≤ 4294967296) : IntKind.u8.wrap (IntKind.i64.wrap (48 + (m : Int).tmod 10)) = ((dig m).toNat : Int) := by
  have h1 : (m : Int).tmod 10 = ((m % 10 : Nat) : Int) := by rw [Int.tmod_eq_emod_of_nonneg (by omega)]; omega
  rw [h1,IntKind.wrap_i64,IntKind.wrap_u8,dig_toNat]
  omega
theorem quo_wrap (m : Nat) (_h : m ≤ 4294967296) : IntKind.i64.wrap ((m : Int).tdiv 10) = ((m / 10 : Nat) : Int) := by
  have h1 : (m : Int).tdiv 10 = ((m / 10 : Nat) : Int) := by rw [Int.tdiv_eq_ediv_of_nonneg (by omega)]; omega
  rw [h1,IntKind.wrap_i64]
  omega
theorem rows1 (b : UInt8) : rowsBytes [[.v (.int .u8 (b.toNat : Int))]] = [b] := by simp [rowsBytes]
theorem bytes1 (b : UInt8) : bytesRows [b] = [[.v (.int .u8 (b.toNat : Int))]] := rfl
theorem digs_step {m : Nat} {out : List UInt8} (h : 0 < m) : digs m out = digs (m / 10) (dig m :: out) := by
  rw [digs,if_neg (by omega)]
theorem digs_zero {out : List UInt8} : digs 0 out = out := by rw [digs,if_pos rfl]
theorem c82 (n : Nat) (h1 : 0 < n) (hn : n ≤ 4294967296) : Sem prog 82 ⟨[.v (vI n)],[none]⟩ ⟨[.dead,.v (vS (markT n))],[none]⟩ := by
  refine sem_fin (cfg := cfg 1) (ts := [.tm 2]) tbOk func82 rfl rfl rfl rfl (fun t h => by cases h) ?_
  have hz : ¬ (n : Int) ≤ 0 := by omega
  simp only [f82,go_sem,cfg,Nat.reduceSub,hz]
  refine loop_on (fun s : Nat × List UInt8 => ⟨[.v (vI s.1),.dead,.v (vS []),.v (vS s.2),.dead,.dead,.dead,.dead,.dead,.dead,.dead,.dead,.dead,.dead,.dead,.dead,.dead,.dead,.dead,.dead],List.replicate 20 none⟩) [0,2,3] (fun s => s.2.length + s.1 ≤ n ∧ digs s.1 s.2 = digs n []) (fun s => s.1) (n,[]) rfl ⟨by simp,rfl⟩ ?_
  intro ⟨m,out⟩ ⟨hlen,hd⟩
  simp only at hlen hd
  simp only [go_sem]
  by_cases hm : 0 < m
  · have hm' : (0 : Int) < (m : Int) := by omega
    have hx := dig_wrap m (by omega)
    have hq := quo_wrap m (by omega)
    have hlo : (1 + out.length ≤ 9223372036854775807) := by omega
    have h10 : ¬ (10 : Int) = 0 := by decide
    simp only [go_sem,Nat.reduceLeDiff,Nat.reduceMul,Nat.reduceBNe,Nat.reduceDiv,Nat.reduceMod,hm',hx,hq,rows1,bytes1,hlo,h10,ne_eq]
    first | exact ⟨(m / 10,dig m :: out),rfl,⟨by simp; omega,by rw [← hd,digs_step hm]⟩,by show m / 10 < m; omega⟩ | trace_state
  · have hm0 : m = 0 := by omega
    subst hm0
    have hlo : (1 + out.length ≤ 9223372036854775807) := by omega
    rw [digs_zero] at hd
    simp only [go_sem,Nat.reduceLeDiff,Nat.reduceBNe,Int.reduceLT,hlo]
    refine fin0 (.inr rfl) rfl rfl rfl ?_
    rw [markT,← hd]; rfl
def marks : Nat → Nat → List Fld
  | 0,_ => []
  | n + 1,k => (markT k,markT (k + 1)) :: marks n (k + 2)
theorem marks_length : ∀ (n k : Nat),(marks n k).length = n
  | 0,_ => rfl
  | n + 1,k => by simp [marks,marks_length n]
theorem marks_getD : ∀ (n k i : Nat),i < n → (marks n k).getD i ([],[]) = (markT (k + 2 * i),markT (k + 2 * i + 1))
  | 0,_,_,h => by omega
  | n + 1,k,0,_ => rfl
  | n + 1,k,i + 1,h => by
    have := marks_getD n (k + 2) i (by omega)
    rw [marks,List.getD_cons_succ,this,show k + 2 + 2 * i = k + 2 * (i + 1) by omega]
theorem marks_succ : ∀ (n k : Nat),marks (n + 1) k = marks n k ++ [(markT (k + 2 * n),markT (k + 2 * n + 1))]
  | 0,_ => rfl
  | n + 1,k => by
    have := marks_succ n (k + 2)
    rw [marks,this]
    show _ = (markT k,markT (k + 1)) :: marks n (k + 2) ++ _
    rw [show k + 2 + 2 * n = k + 2 * (n + 1) by omega]; rfl
def mrk (l : List Fld) (k i : Nat) : List Fld := marks i k ++ l.drop i
theorem mrk_length {l : List Fld} {k i : Nat} (h : i ≤ l.length) : (mrk l k i).length = l.length := by simp [mrk,marks_length]; omega
theorem mrk_zero (l : List Fld) (k : Nat) : mrk l k 0 = l := rfl
theorem mrk_all (l : List Fld) (k : Nat) : mrk l k l.length = marks l.length k := by simp [mrk]
theorem mrk_getD {l : List Fld} {k i : Nat} (h : i < l.length) : (mrk l k i).getD i ([],[]) = l.getD i ([],[]) := by
  unfold mrk
  rw [List.getD_eq_getElem?_getD,List.getElem?_append_right (by rw [marks_length]; omega),marks_length,Nat.sub_self,List.getElem?_drop,List.getD_eq_getElem?_getD]; rfl
theorem mrk_set {l : List Fld} {k i : Nat} (h : i < l.length) : (mrk l k i).set i (markT (k + 2 * i),markT (k + 2 * i + 1)) = mrk l k (i + 1) := by
  unfold mrk
  rw [List.set_append_right _ _ (by rw [marks_length]; omega),marks_length,Nat.sub_self,drop_at (d := ([],[])) h,List.set_cons_zero,marks_succ,List.append_assoc]; rfl
theorem rowsF_set {l : List Fld} {i : Nat} {a b : List UInt8} : (rowsF l).set i [.v (vS a),.v (vS b)] = rowsF (l.set i (a,b)) := by simp [rowsF,rowF,List.map_set]
theorem getD_set {l : List Fld} {i : Nat} {p : Fld} (h : i < l.length) : (l.set i p).getD i ([],[]) = p := by simp [List.getD_eq_getElem?_getD,h]
theorem set_set {l : List Fld} {i : Nat} {p q : Fld} : (l.set i p).set i q = l.set i q := by simp
theorem c29 (l : List Fld) (hl : l.length ≤ 1048576) (k : Nat) (h1 : 0 < k) (hk : k ≤ 4) :
    Sem prog 29 ⟨[.own 45 (rowsF l),.v (vI k)],[none,none]⟩ ⟨[.own 45 (rowsF (marks l.length k)),.dead,.v (vI (k + 2 * l.length : Nat))],[none,none]⟩ := by
  refine sem_fin (cfg := ⟨2,fun t => decide (t = 0),tb,pts,md⟩) (ts := [.tm 4]) tbOk func29 rfl rfl rfl rfl (fun t h => by simp at h; subst h; decide) ?_
  simp only [f29,go_sem,Nat.reduceSub,reduceCtorEq,reduceCtorEq]
  refine loop_on (fun i : Nat => ⟨[.own 45 (rowsF (mrk l k i)),.v (vI (k + 2 * i : Nat)),.dead,.dead,.v (vI 0),.v (vI i),.dead,.dead,.dead,.dead,.dead,.dead,.dead,.dead,.dead,.dead,.dead,.dead,.dead,.dead,.dead,.dead,.dead,.dead,.dead,.dead,.dead,.dead,.dead],List.replicate 29 none⟩) [0,1,4,5] (fun i => i ≤ l.length) (fun i => l.length - i) 0 rfl (by omega) ?_
  intro i hi
  have hml := mrk_length (k := k) hi
  have hll : l.length ≤ 9223372036854775807 := by omega
  simp only [go_sem,reduceCtorEq,Nat.reduceDiv,Nat.reduceMod,rowsF_length,reduceCtorEq,hml,hll]
  by_cases hc : i < l.length
  · have hw := wrapN hc hll
    have hcm : i < (mrk l k i).length := by omega
    have hw1 : IntKind.i64.wrap (((k + 2 * i : Nat) : Int) + 1) = ((k + 2 * i + 1 : Nat) : Int) := by rw [IntKind.wrap_i64]; omega
    have hw2 : IntKind.i64.wrap (((k + 2 * i + 1 : Nat) : Int) + 1) = ((k + 2 * (i + 1) : Nat) : Int) := by rw [IntKind.wrap_i64]; omega
    have g1 : (rowsF (mrk l k i)).getD i [] = [.v (vS ((mrk l k i).getD i ([],[])).1),.v (vS ((mrk l k i).getD i ([],[])).2)] := rowsF_getD hcm
    have g2 : ∀ a b,(rowsF (mrk l k i)).set i [.v (vS a),.v (vS b)] = rowsF ((mrk l k i).set i (a,b)) := fun a b => rowsF_set
    have hcs : ∀ p,i < ((mrk l k i).set i p).length := fun p => by rw [List.length_set]; exact hcm
    have g3 : ∀ p : Fld,(rowsF ((mrk l k i).set i p)).getD i [] = [.v (vS p.1),.v (vS p.2)] := fun p => by rw [rowsF_getD (hcs p),getD_set hcm]
    have g4 : ∀ p a b,(rowsF ((mrk l k i).set i p)).set i [.v (vS a),.v (vS b)] = rowsF ((mrk l k i).set i (a,b)) := fun p a b => by rw [rowsF_set,set_set]
    have hlen2 : ∀ p,((mrk l k i).set i p).length = l.length := fun p => by rw [List.length_set]; exact hml
    simp only [go_sem,reduceCtorEq,reduceCtorEq,hc]
    refine ev_call (c82 (k + 2 * i) (by omega) (by omega)) (retW0 rfl rfl rfl rfl) ?_
    simp only [go_sem,Nat.reduceLT,Nat.reduceAdd,Nat.reduceBNe,reduceCtorEq,Nat.reduceDiv,Nat.reduceMod,rowsF_length,reduceCtorEq,hml,hc,g1,g2,hw1]
    refine ev_call (c82 (k + 2 * i + 1) (by omega) (by omega)) (retW0 rfl rfl rfl rfl) ?_
    simp only [go_sem,Nat.reduceAdd,Nat.reduceBNe,reduceCtorEq,Nat.reduceDiv,Nat.reduceMod,rowsF_length,reduceCtorEq,hc,g3,g4,hw2,hw,hlen2,mrk_set hc]
    first | exact ⟨i + 1,rfl,hc,by omega⟩ | trace_state
  · have he : i = l.length := by omega
    subst he
    simp only [go_sem,Nat.reduceBNe,reduceCtorEq,reduceCtorEq,hc,mrk_all]
    first | exact ⟨.inr rfl,_,.inl rfl,rfl,rfl⟩ | trace_state
set_option maxRecDepth 100000
set_option maxHeartbeats 600000
theorem c30 (n : Nat) (hl : n ≤ 1048576) (k : Nat) (h1 : 0 < k) (hk : k ≤ 4) : Sem prog 30 ⟨[.imm 45 (rowsF (marks n k)),.v (vI k)],[none,none]⟩ ⟨[.dead,.dead,.v (vI (k + 2 * n : Nat))],[none,none]⟩ := by
  refine sem_fin (cfg := cfg 2) (ts := [.tm 4]) tbOk func30 rfl rfl rfl rfl (fun t h => by cases h) ?_
  simp only [f30,go_sem,cfg,Nat.reduceSub,Int.reduceNeg]
  refine loop_on (fun i : Nat => ⟨[.imm 45 (rowsF (marks n k)),.v (vI (k + 2 * i : Nat)),.dead,.dead,.v (vI 0),.v (vI i),.dead,.dead,.dead,.dead,.dead,.dead,.dead,.dead,.dead,.dead,.dead,.dead,.dead,.dead,.dead,.dead,.dead,.dead,.dead,.dead,.dead,.dead,.dead,.dead,.dead,.dead,.dead],List.replicate 33 none⟩) [0,1,4,5] (fun i => i ≤ n) (fun i => n - i) 0 rfl (by omega) ?_
  intro i hi
  have hll : n ≤ 9223372036854775807 := by omega
  simp only [go_sem,rowsF_length,marks_length,hll]
  by_cases hc : i < n
  · have hw := wrapN hc hll
    have hcm : i < (marks n k).length := by rw [marks_length]; exact hc
    have hw1 : IntKind.i64.wrap (((k + 2 * i : Nat) : Int) + 1) = ((k + 2 * i + 1 : Nat) : Int) := by rw [IntKind.wrap_i64]; omega
    have hw2 : IntKind.i64.wrap (((k + 2 * i + 1 : Nat) : Int) + 1) = ((k + 2 * (i + 1) : Nat) : Int) := by rw [IntKind.wrap_i64]; omega
    have g1 : (rowsF (marks n k)).getD i [] = [.v (vS (markT (k + 2 * i))),.v (vS (markT (k + 2 * i + 1)))] := by rw [rowsF_getD hcm,marks_getD n k i hc]
    simp only [go_sem,hc]
    refine draw_intro 8 [[13,14,15,16,17,18,19],[12,14,15,16,17,18,19],[15,16,17,18,19],[12,13,16,17,18,19],[12,13,14,17,18,19],[12,13,14,15,16,18,19],[12,13,14,15,16,19],[12,13,14,15,17]] mixedOk rfl ?_
    simp only [go_sem,Nat.reduceLeDiff,Nat.reduceAdd,Nat.reduceBEq,rowsF_length,marks_length,hc,g1]
    refine of_call (c82 (k + 2 * i) (by omega) (by omega)) (retW0 rfl rfl rfl rfl) rfl rfl rfl ?_
    simp only [go_sem,Nat.reduceBEq,Nat.reduceBNe,hw1]
    refine draw_intro 8 [[23,24,25,26,27,28,29],[22,24,25,26,27,28,29],[25,26,27,28,29],[22,23,26,27,28,29],[22,23,24,27,28,29],[22,23,24,25,26,28,29],[22,23,24,25,26,29],[22,23,24,25,27]] mixedOk rfl ?_
    simp only [go_sem,Nat.reduceBEq,rowsF_length,marks_length,hc,g1]
    refine of_call (c82 (k + 2 * i + 1) (by omega) (by omega)) (retW0 rfl rfl rfl rfl) rfl rfl rfl ?_
    simp only [go_sem,Nat.reduceBEq,Nat.reduceBNe,hw2,hw]
    first | exact ⟨i + 1,rfl,hc,by omega⟩ | trace_state
  · have he : i = n := by omega
    subst he
    simp only [go_sem,Nat.reduceBNe,hc]
    first | exact fin0 (.inr rfl) rfl rfl rfl rfl | trace_state
set_option maxRecDepth 100000
set_option maxHeartbeats 600000
def sd (e : TypeId) (xs : List (List T)) : D := match xs with | [] => .nil | x :: l => .own e (x :: l)
theorem sd_nil {e : TypeId} : sd e [] = .nil := rfl
theorem sd_cons {e : TypeId} {x : List T} {l : List (List T)} : sd e (x :: l) = .own e (x :: l) := rfl
theorem sd_snoc {e : TypeId} {x : List T} {l : List (List T)} : sd e (l ++ [x]) = .own e (l ++ [x]) := by cases l <;> rfl
def rowsS (l : List (List UInt8)) : List (List T) := l.map fun s => [.v (vS s)]
def hitB (name : List UInt8) (p : Fld) : Bool := foldB p.1 == foldB name
def valsB (name : List UInt8) (l : List Fld) : List (List UInt8) := (l.filter (hitB name)).map (·.2)
def withoutB (name : List UInt8) (l : List Fld) : List Fld := l.filter fun p => !hitB name p
theorem rowsS_snoc {l : List (List UInt8)} {s : List UInt8} : rowsS (l ++ [s]) = rowsS l ++ [[.v (vS s)]] := by simp [rowsS]
theorem rowsF_snoc {l : List Fld} {p : Fld} : rowsF (l ++ [p]) = rowsF l ++ [[.v (vS p.1),.v (vS p.2)]] := by simp [rowsF,rowF]
theorem vals_hit {l : List Fld} {name : List UInt8} {i : Nat} (h : i < l.length) (hb : hitB name (l.getD i ([],[])) = true) : valsB name (l.take (i + 1)) = valsB name (l.take i) ++ [(l.getD i ([],[])).2] := by
  rw [take_at (d := ([],[])) h,valsB,List.filter_append]; simp only [List.filter_cons,List.filter_nil,hb,if_true,List.map_cons,List.map_nil,List.map_append]; rfl
theorem vals_miss {l : List Fld} {name : List UInt8} {i : Nat} (h : i < l.length) (hb : hitB name (l.getD i ([],[])) = false) : valsB name (l.take (i + 1)) = valsB name (l.take i) := by
  rw [take_at (d := ([],[])) h,valsB,List.filter_append]; simp only [List.filter_cons,List.filter_nil,hb,Bool.false_eq_true,if_false,List.append_nil]; rfl
theorem wo_hit {l : List Fld} {name : List UInt8} {i : Nat} (h : i < l.length) (hb : hitB name (l.getD i ([],[])) = true) : withoutB name (l.take (i + 1)) = withoutB name (l.take i) := by
  rw [take_at (d := ([],[])) h,withoutB,List.filter_append]; simp only [List.filter_cons,List.filter_nil,hb,Bool.false_eq_true,if_false,List.append_nil,Bool.not_true]; rfl
theorem wo_miss {l : List Fld} {name : List UInt8} {i : Nat} (h : i < l.length) (hb : hitB name (l.getD i ([],[])) = false) : withoutB name (l.take (i + 1)) = withoutB name (l.take i) ++ [l.getD i ([],[])] := by
  rw [take_at (d := ([],[])) h,withoutB,List.filter_append]; simp only [List.filter_cons,List.filter_nil,hb,if_true,Bool.not_false]; rfl
theorem vals_le (name : List UInt8) (l : List Fld) (i : Nat) : (rowsS (valsB name (l.take i))).length ≤ i := by
  simp only [rowsS,valsB,List.length_map]
  exact Nat.le_trans (List.length_filter_le _ _) (by simp; omega)
theorem wo_le (name : List UInt8) (l : List Fld) (i : Nat) : (rowsF (withoutB name (l.take i))).length ≤ i := by
  rw [rowsF_length]
  exact Nat.le_trans (List.length_filter_le _ _) (by simp; omega)
theorem fields_len {l : List Fld} (h : fieldsB l = true) : l.length ≤ 20 := by
  simp only [fieldsB,Bool.and_eq_true,decide_eq_true_eq] at h; exact h.1
theorem c98 (l : List Fld) (hl : Small l) (name : List UInt8) (hn : name.length ≤ 9223372036854775807) (h : fieldsB l = true) : Sem prog 98 ⟨[.imm 45 (rowsF l),.v (vS name)],[none,none]⟩ ⟨[.dead,.dead,sd 9 (rowsS (valsB name l))],[none,none]⟩ := by
  refine sem_fin (cfg := cfg 2) (ts := [.tm 4]) tbOk func98 rfl rfl rfl rfl (fun t h => by cases h) ?_
  simp only [f98,go_sem,cfg,Nat.reduceSub,List.nil_append]
  refine ev_call (c38 l hl) (retW0 rfl rfl rfl rfl) ?_
  simp only [go_sem,Nat.reduceAdd,h]
  have hs : l.length ≤ 9223372036854775807 := hl.1
  have h20 := fields_len h
  try simp only [go_sem]
  refine loop_on (fun i : Nat => ⟨[.imm 45 (rowsF l),.v (vS name),.dead,.dead,.nil,sd 9 (rowsS (valsB name (l.take i))),.v (vI i),.dead,.dead,.dead,.dead,.dead,.dead,.dead,.dead,.dead,.dead,.dead,.dead,.dead,.dead,.dead,.dead,.dead,.dead,.dead,.dead,.dead,.dead,.dead,.dead,.dead],List.replicate 32 none⟩) [0,1,4,5,6] (fun i => i ≤ l.length) (fun i => l.length - i) 0 rfl (by omega) ?_
  intro i hi
  have hle := vals_le name l i
  have hmiss := vals_miss (name := name) (l := l) (i := i)
  have hhit := vals_hit (name := name) (l := l) (i := i)
  have hend : i = l.length → valsB name (l.take i) = valsB name l := fun e => by rw [e,List.take_length]
  generalize hacc : rowsS (valsB name (l.take i)) = acc at hle ⊢
  simp only [go_sem,rowsF_length,hs]
  cases acc with
  | nil =>
    try simp only [go_sem]
    by_cases hc : i < l.length
    · have hw := wrapN hc hs
      have h1 := rowsF_getD hc
      have hsm := hl.at hc
      have hhit := hhit hc
      have hmiss := hmiss hc
      simp only [go_sem,Nat.reduceLeDiff,Nat.reduceAdd,rowsF_length,sd_nil,List.nil_append,hc,h1]
      refine ev_call (c94 _ _ hsm.1 hn) (retW0 rfl rfl rfl rfl) ?_
      cases hb : hitB name (l.getD i ([],[]))
      · have hb' : (foldB (l.getD i ([],[])).1 == foldB name) = false := hb
        simp only [go_sem,Nat.reduceAdd,Nat.reduceBNe,hb',hw]
        exact ⟨i + 1,by rw [hmiss hb,hacc]; rfl,hc,by omega⟩
      · have hb' : (foldB (l.getD i ([],[])).1 == foldB name) = true := hb
        simp only [go_sem,Nat.reduceLeDiff,Nat.reduceLT,Nat.reduceAdd,Nat.reduceMul,Nat.reduceBNe,Nat.reduceEqDiff,reduceCtorEq,Nat.reduceDiv,Nat.reduceMod,rowsF_length,List.nil_append,hc,h1,hb',hw]
        have hb1 : (1 : Nat) * 16 ≤ 140737488355328 := by omega
        try simp only [f98,go_sem,cfg,Nat.reduceLeDiff,Nat.reduceLT,Nat.reduceAdd,Nat.reduceSub,Nat.reduceMul,Nat.reduceBEq,Nat.reduceBNe,Nat.reduceEqDiff,reduceCtorEq,reduceIte,Int.reduceLT,Int.reduceLE,Int.reduceAdd,Int.reduceSub,Int.reduceNeg,Int.reduceEq,Int.reduceBEq,Int.reduceBNe,Int.reduceToNat,Nat.reduceDiv,Nat.reduceMod,rowsF_length,sd_nil,sd_cons,List.length_map,List.length_append,List.nil_append,hs,hc,h1,hb',hw,hb1]
        first | exact ⟨i + 1,by rw [hhit hb,rowsS_snoc,hacc]; rfl,hc,by omega⟩ | trace_state
    · have he := hend (by omega)
      rw [he] at hacc
      simp only [go_sem,Nat.reduceBNe,sd_nil,hc]
      first | (refine fin0 (.inr rfl) rfl rfl rfl ?_; rw [hacc]; rfl) | trace_state
  | cons x xs =>
    try simp only [go_sem]
    by_cases hc : i < l.length
    · have hw := wrapN hc hs
      have h1 := rowsF_getD hc
      have hsm := hl.at hc
      have hhit := hhit hc
      have hmiss := hmiss hc
      simp only [go_sem,Nat.reduceLeDiff,Nat.reduceAdd,rowsF_length,sd_cons,List.nil_append,hc,h1]
      refine ev_call (c94 _ _ hsm.1 hn) (retW0 rfl rfl rfl rfl) ?_
      cases hb : hitB name (l.getD i ([],[]))
      · have hb' : (foldB (l.getD i ([],[])).1 == foldB name) = false := hb
        simp only [go_sem,Nat.reduceAdd,Nat.reduceBNe,hb',hw]
        exact ⟨i + 1,by rw [hmiss hb,hacc]; rfl,hc,by omega⟩
      · have hb' : (foldB (l.getD i ([],[])).1 == foldB name) = true := hb
        simp only [go_sem,Nat.reduceLeDiff,Nat.reduceLT,Nat.reduceAdd,Nat.reduceMul,Nat.reduceBNe,Nat.reduceEqDiff,reduceCtorEq,Nat.reduceDiv,Nat.reduceMod,rowsF_length,List.nil_append,hc,h1,hb',hw]
        have hb1 : (xs.length + 1 + 1) * 16 ≤ 140737488355328 := by simp only [List.length_cons] at hle; omega
        try simp only [go_sem,hb1]
        first | exact ⟨i + 1,by rw [hhit hb,rowsS_snoc,hacc]; rfl,hc,by omega⟩ | trace_state
    · have he := hend (by omega)
      rw [he] at hacc
      simp only [go_sem,Nat.reduceAdd,Nat.reduceBNe,Nat.reduceEqDiff,reduceCtorEq,Nat.reduceDiv,Nat.reduceMod,sd_cons,hc]
      first | (refine fin0 (.inr rfl) rfl rfl rfl ?_; rw [hacc]; rfl) | trace_state
theorem c115 (l : List Fld) (hl : Small l) (name : List UInt8) (hn : name.length ≤ 9223372036854775807) (h : fieldsB l = true) : Sem prog 115 ⟨[.imm 45 (rowsF l),.v (vS name)],[none,none]⟩ ⟨[.dead,.dead,sd 9 (rowsS (valsB name l))],[none,none]⟩ := by
  refine sem_fin (cfg := cfg 2) (ts := [.tm 4]) tbOk func115 rfl rfl rfl rfl (fun t h => by cases h) ?_
  simp only [f115,go_sem,cfg,Nat.reduceSub,List.nil_append]
  refine ev_call (c62 l hl) (retW0 rfl rfl rfl rfl) ?_
  simp only [go_sem,Nat.reduceAdd,rowsF_length,h]
  have hs : l.length ≤ 9223372036854775807 := hl.1
  have h20 := fields_len h
  try simp only [go_sem,hs]
  refine loop_on (fun i : Nat => ⟨[.imm 45 (rowsF l),.v (vS name),.dead,.dead,.nil,sd 9 (rowsS (valsB name (l.take i))),.dead,.dead,.dead,.dead,.dead,.imm 45 (rowsF l),.v (vI l.length),.v (vI i),.dead,.dead,.dead,.dead,.dead,.dead,.dead,.dead,.dead,.dead,.dead,.dead,.dead,.dead],List.replicate 28 none⟩) [0,1,4,5,11,12,13] (fun i => i ≤ l.length) (fun i => l.length - i) 0 rfl (by omega) ?_
  intro i hi
  have hle := vals_le name l i
  have hmiss := vals_miss (name := name) (l := l) (i := i)
  have hhit := vals_hit (name := name) (l := l) (i := i)
  have hend : i = l.length → valsB name (l.take i) = valsB name l := fun e => by rw [e,List.take_length]
  generalize hacc : rowsS (valsB name (l.take i)) = acc at hle ⊢
  simp only [go_sem]
  cases acc with
  | nil =>
    try simp only [go_sem]
    by_cases hc : i < l.length
    · have hw := wrapN hc hs
      have h1 := rowsF_getD hc
      have hsm := hl.at hc
      have hhit := hhit hc
      have hmiss := hmiss hc
      simp only [go_sem,Nat.reduceLeDiff,Nat.reduceLT,Nat.reduceAdd,rowsF_length,sd_nil,List.nil_append,hc,h1]
      refine ev_call (c124 _ _ hsm.1 hn) (retW0 rfl rfl rfl rfl) ?_
      cases hb : hitB name (l.getD i ([],[]))
      · have hb' : (foldB (l.getD i ([],[])).1 == foldB name) = false := hb
        simp only [go_sem,Nat.reduceAdd,hb',hw]
        exact ⟨i + 1,by rw [hmiss hb,hacc]; rfl,hc,by omega⟩
      · have hb' : (foldB (l.getD i ([],[])).1 == foldB name) = true := hb
        simp only [go_sem,Nat.reduceLeDiff,Nat.reduceLT,Nat.reduceAdd,Nat.reduceMul,Nat.reduceBNe,Nat.reduceEqDiff,reduceCtorEq,Nat.reduceDiv,Nat.reduceMod,List.nil_append,hb',hw]
        have hb1 : (1 : Nat) * 16 ≤ 140737488355328 := by omega
        try simp only [f115,go_sem,cfg,Nat.reduceLeDiff,Nat.reduceLT,Nat.reduceAdd,Nat.reduceSub,Nat.reduceMul,Nat.reduceBEq,Nat.reduceBNe,Nat.reduceEqDiff,reduceCtorEq,reduceIte,Int.reduceLT,Int.reduceLE,Int.reduceAdd,Int.reduceSub,Int.reduceNeg,Int.reduceEq,Int.reduceBEq,Int.reduceBNe,Int.reduceToNat,Nat.reduceDiv,Nat.reduceMod,rowsF_length,sd_nil,sd_cons,List.length_map,List.length_append,List.nil_append,hs,hc,h1,hb',hw,hb1]
        first | exact ⟨i + 1,by rw [hhit hb,rowsS_snoc,hacc]; rfl,hc,by omega⟩ | trace_state
    · have he := hend (by omega)
      rw [he] at hacc
      simp only [go_sem,Nat.reduceBNe,sd_nil,hc]
      first | (refine fin0 (.inr rfl) rfl rfl rfl ?_; rw [hacc]; rfl) | trace_state
  | cons x xs =>
    try simp only [go_sem]
    by_cases hc : i < l.length
    · have hw := wrapN hc hs
      have h1 := rowsF_getD hc
      have hsm := hl.at hc
      have hhit := hhit hc
      have hmiss := hmiss hc
      simp only [go_sem,Nat.reduceLeDiff,Nat.reduceLT,Nat.reduceAdd,rowsF_length,sd_cons,List.nil_append,hc,h1]
      refine ev_call (c124 _ _ hsm.1 hn) (retW0 rfl rfl rfl rfl) ?_
      cases hb : hitB name (l.getD i ([],[]))
      · have hb' : (foldB (l.getD i ([],[])).1 == foldB name) = false := hb
        simp only [go_sem,Nat.reduceAdd,hb',hw]
        exact ⟨i + 1,by rw [hmiss hb,hacc]; rfl,hc,by omega⟩
      · have hb' : (foldB (l.getD i ([],[])).1 == foldB name) = true := hb
        simp only [go_sem,Nat.reduceLeDiff,Nat.reduceLT,Nat.reduceAdd,Nat.reduceMul,Nat.reduceBNe,Nat.reduceEqDiff,reduceCtorEq,Nat.reduceDiv,Nat.reduceMod,List.nil_append,hb',hw]
        have hb1 : (xs.length + 1 + 1) * 16 ≤ 140737488355328 := by simp only [List.length_cons] at hle; omega
        try simp only [go_sem,hb1]
        first | exact ⟨i + 1,by rw [hhit hb,rowsS_snoc,hacc]; rfl,hc,by omega⟩ | trace_state
    · have he := hend (by omega)
      rw [he] at hacc
      simp only [go_sem,Nat.reduceAdd,Nat.reduceBNe,Nat.reduceEqDiff,reduceCtorEq,Nat.reduceDiv,Nat.reduceMod,sd_cons,hc]
      first | (refine fin0 (.inr rfl) rfl rfl rfl ?_; rw [hacc]; rfl) | trace_state
theorem c44 (l : List Fld) (hl : Small l) (name : List UInt8) (hn : name.length ≤ 9223372036854775807) (h : fieldsB l = true) : Sem prog 44 ⟨[.imm 45 (rowsF l),.v (vS name)],[none,none]⟩ ⟨[.dead,.dead,sd 45 (rowsF (withoutB name l))],[none,none]⟩ := by
  refine sem_fin (cfg := cfg 2) (ts := [.tm 4]) tbOk func44 rfl rfl rfl rfl (fun t h => by cases h) ?_
  simp only [f44,go_sem,cfg,Nat.reduceSub,List.nil_append]
  refine ev_call (c38 l hl) (retW0 rfl rfl rfl rfl) ?_
  simp only [go_sem,Nat.reduceAdd,h]
  have hs : l.length ≤ 9223372036854775807 := hl.1
  have h20 := fields_len h
  try simp only [go_sem]
  refine loop_on (fun i : Nat => ⟨[.imm 45 (rowsF l),.v (vS name),.dead,.dead,.nil,sd 45 (rowsF (withoutB name (l.take i))),.v (vI i),.dead,.dead,.dead,.dead,.dead,.dead,.dead,.dead,.dead,.dead,.dead,.dead,.dead,.dead,.dead,.dead,.dead,.dead,.dead,.dead,.dead,.dead,.dead,.dead,.dead],List.replicate 32 none⟩) [0,1,4,5,6] (fun i => i ≤ l.length) (fun i => l.length - i) 0 rfl (by omega) ?_
  intro i hi
  have hle := wo_le name l i
  have hmiss := wo_miss (name := name) (l := l) (i := i)
  have hhit := wo_hit (name := name) (l := l) (i := i)
  have hend : i = l.length → withoutB name (l.take i) = withoutB name l := fun e => by rw [e,List.take_length]
  generalize hacc : rowsF (withoutB name (l.take i)) = acc at hle ⊢
  simp only [go_sem,rowsF_length,hs]
  cases acc with
  | nil =>
    try simp only [go_sem]
    by_cases hc : i < l.length
    · have hw := wrapN hc hs
      have h1 := rowsF_getD hc
      have hsm := hl.at hc
      have hhit := hhit hc
      have hmiss := hmiss hc
      simp only [go_sem,Nat.reduceLeDiff,Nat.reduceAdd,rowsF_length,sd_nil,List.nil_append,hc,h1]
      refine ev_call (c94 _ _ hsm.1 hn) (retW0 rfl rfl rfl rfl) ?_
      cases hb : hitB name (l.getD i ([],[]))
      · have hb' : (foldB (l.getD i ([],[])).1 == foldB name) = false := hb
        simp only [go_sem,Nat.reduceLeDiff,Nat.reduceLT,Nat.reduceAdd,Nat.reduceMul,Nat.reduceBNe,Nat.reduceEqDiff,reduceCtorEq,Nat.reduceDiv,Nat.reduceMod,rowsF_length,List.nil_append,hc,h1,hb',hw]
        have hb1 : (1 : Nat) * 32 ≤ 140737488355328 := by omega
        try simp only [f44,go_sem,cfg,Nat.reduceLeDiff,Nat.reduceLT,Nat.reduceAdd,Nat.reduceSub,Nat.reduceMul,Nat.reduceBEq,Nat.reduceBNe,Nat.reduceEqDiff,reduceCtorEq,reduceIte,Int.reduceLT,Int.reduceLE,Int.reduceAdd,Int.reduceSub,Int.reduceNeg,Int.reduceEq,Int.reduceBEq,Int.reduceBNe,Int.reduceToNat,Nat.reduceDiv,Nat.reduceMod,rowsF_length,sd_nil,sd_cons,List.length_map,List.length_append,List.nil_append,hs,hc,h1,hb',hw,hb1]
        first | exact ⟨i + 1,by rw [hmiss hb,rowsF_snoc,hacc]; rfl,hc,by omega⟩ | trace_state
      · have hb' : (foldB (l.getD i ([],[])).1 == foldB name) = true := hb
        simp only [go_sem,Nat.reduceAdd,Nat.reduceBNe,hb',hw]
        exact ⟨i + 1,by rw [hhit hb,hacc]; rfl,hc,by omega⟩
    · have he := hend (by omega)
      rw [he] at hacc
      simp only [go_sem,Nat.reduceBNe,sd_nil,hc]
      first | (refine fin0 (.inr rfl) rfl rfl rfl ?_; rw [hacc]; rfl) | trace_state
  | cons x xs =>
    try simp only [go_sem]
    by_cases hc : i < l.length
    · have hw := wrapN hc hs
      have h1 := rowsF_getD hc
      have hsm := hl.at hc
      have hhit := hhit hc
      have hmiss := hmiss hc
      simp only [go_sem,Nat.reduceLeDiff,Nat.reduceAdd,rowsF_length,sd_cons,List.nil_append,hc,h1]
      refine ev_call (c94 _ _ hsm.1 hn) (retW0 rfl rfl rfl rfl) ?_
      cases hb : hitB name (l.getD i ([],[]))
      · have hb' : (foldB (l.getD i ([],[])).1 == foldB name) = false := hb
        simp only [go_sem,Nat.reduceLeDiff,Nat.reduceLT,Nat.reduceAdd,Nat.reduceMul,Nat.reduceBNe,Nat.reduceEqDiff,reduceCtorEq,Nat.reduceDiv,Nat.reduceMod,rowsF_length,List.nil_append,hc,h1,hb',hw]
        have hb1 : (xs.length + 1 + 1) * 32 ≤ 140737488355328 := by simp only [List.length_cons] at hle; omega
        try simp only [go_sem,hb1]
        first | exact ⟨i + 1,by rw [hmiss hb,rowsF_snoc,hacc]; rfl,hc,by omega⟩ | trace_state
      · have hb' : (foldB (l.getD i ([],[])).1 == foldB name) = true := hb
        simp only [go_sem,Nat.reduceAdd,Nat.reduceBNe,hb',hw]
        exact ⟨i + 1,by rw [hhit hb,hacc]; rfl,hc,by omega⟩
    · have he := hend (by omega)
      rw [he] at hacc
      simp only [go_sem,Nat.reduceAdd,Nat.reduceBNe,Nat.reduceEqDiff,reduceCtorEq,Nat.reduceDiv,Nat.reduceMod,sd_cons,hc]
      first | (refine fin0 (.inr rfl) rfl rfl rfl ?_; rw [hacc]; rfl) | trace_state
set_option maxRecDepth 100000
set_option maxHeartbeats 600000
theorem c123 (a name : List UInt8) (ha : a.length ≤ 9223372036854775807) (hn : name.length ≤ 9223372036854775807) : Sem prog 123 ⟨[.v (vS a),.rptr [.v (vS name)]],[none,none]⟩ ⟨[.dead,.dead,.v (vB (!(foldB a == foldB name)))],[none,none]⟩ := by
  refine sem_fin (cfg := cfg 2) (ts := [.tm 3]) tbOk func123 rfl rfl rfl rfl (fun t h => by cases h) ?_
  simp only [go_sem,Nat.reduceSub,f123,cfg, *]
  repeat' ((first | refine ev_call (c124 _ _ ha hn) (retW0 rfl rfl rfl rfl) ?_ | with_reducible intro _ | split) <;> (try simp only [go_sem,Nat.reduceAdd,Nat.reduceBNe, *]))
  all_goals
    exact fin0 (.inr rfl) rfl rfl rfl rfl
theorem c76 (l : List Fld) (hl : Small l) (name : List UInt8) (hn : name.length ≤ 9223372036854775807) (h : fieldsB l = true) : Sem prog 76 ⟨[.imm 45 (rowsF l),.clo 123 [.rptr [.v (vS name)]]],[none,none]⟩ ⟨[.dead,.dead,sd 45 (rowsF (withoutB name l))],[none,none]⟩ := by
  refine sem_fin (cfg := cfg 2) (ts := [.tm 4]) tbOk func76 rfl rfl rfl rfl (fun t h => by cases h) ?_
  simp only [go_sem,Nat.reduceSub,f76,cfg,List.nil_append]
  refine ev_call (c62 l hl) (retW0 rfl rfl rfl rfl) ?_
  simp only [go_sem,Nat.reduceAdd,rowsF_length,h]
  have hs : l.length ≤ 9223372036854775807 := hl.1
  have h20 := fields_len h
  try simp only [go_sem,hs]
  refine loop_on (fun i : Nat => ⟨[.imm 45 (rowsF l),.clo 123 [.rptr [.v (vS name)]],.dead,.dead,.nil,sd 45 (rowsF (withoutB name (l.take i))),.dead,.dead,.dead,.dead,.dead,.imm 45 (rowsF l),.v (vI l.length),.v (vI i),.dead,.dead,.dead,.dead,.dead,.dead,.dead,.dead,.dead,.dead,.dead,.dead,.dead],List.replicate 27 none⟩) [0,1,4,5,11,12,13] (fun i => i ≤ l.length) (fun i => l.length - i) 0 rfl (by omega) ?_
  intro i hi
  have hle := wo_le name l i
  have hmiss := wo_miss (name := name) (l := l) (i := i)
  have hhit := wo_hit (name := name) (l := l) (i := i)
  have hend : i = l.length → withoutB name (l.take i) = withoutB name l := fun e => by rw [e,List.take_length]
  generalize hacc : rowsF (withoutB name (l.take i)) = acc at hle ⊢
  simp only [go_sem]
  cases acc with
  | nil =>
    try simp only [go_sem]
    by_cases hc : i < l.length
    · have hw := wrapN hc hs
      have h1 := rowsF_getD hc
      have hsm := hl.at hc
      have hhit := hhit hc
      have hmiss := hmiss hc
      simp only [go_sem,Nat.reduceLeDiff,Nat.reduceLT,Nat.reduceAdd,rowsF_length,sd_nil,List.nil_append,hc,h1]
      refine ev_call (c123 _ _ hsm.1 hn) (retW0 rfl rfl rfl rfl) ?_
      cases hb : hitB name (l.getD i ([],[]))
      · have hb' : (foldB (l.getD i ([],[])).1 == foldB name) = false := hb
        simp only [go_sem,Nat.reduceLeDiff,Nat.reduceLT,Nat.reduceAdd,Nat.reduceMul,Nat.reduceBNe,Nat.reduceEqDiff,reduceCtorEq,Nat.reduceDiv,Nat.reduceMod,List.nil_append,hb',hw]
        have hb1 : (1 : Nat) * 32 ≤ 140737488355328 := by omega
        try simp only [go_sem,Nat.reduceLeDiff,Nat.reduceLT,Nat.reduceAdd,Nat.reduceSub,Nat.reduceMul,Nat.reduceBEq,Nat.reduceBNe,Nat.reduceEqDiff,reduceCtorEq,reduceIte,Int.reduceLT,Int.reduceLE,Int.reduceAdd,Int.reduceSub,Int.reduceNeg,Int.reduceEq,Int.reduceBEq,Int.reduceBNe,Int.reduceToNat,Nat.reduceDiv,Nat.reduceMod,f76,cfg,rowsF_length,sd_nil,sd_cons,List.length_map,List.length_append,List.nil_append,hs,hc,h1,hb',hw,hb1]
        first | exact ⟨i + 1,by rw [hmiss hb,rowsF_snoc,hacc]; rfl,hc,by omega⟩ | trace_state
      · have hb' : (foldB (l.getD i ([],[])).1 == foldB name) = true := hb
        simp only [go_sem,Nat.reduceAdd,hb',hw]
        exact ⟨i + 1,by rw [hhit hb,hacc]; rfl,hc,by omega⟩
    · have he := hend (by omega)
      rw [he] at hacc
      simp only [go_sem,Nat.reduceBNe,sd_nil,hc]
      first | (refine fin0 (.inr rfl) rfl rfl rfl ?_; rw [hacc]; rfl) | trace_state
  | cons x xs =>
    try simp only [go_sem]
    by_cases hc : i < l.length
    · have hw := wrapN hc hs
      have h1 := rowsF_getD hc
      have hsm := hl.at hc
      have hhit := hhit hc
      have hmiss := hmiss hc
      simp only [go_sem,Nat.reduceLeDiff,Nat.reduceLT,Nat.reduceAdd,rowsF_length,sd_cons,List.nil_append,hc,h1]
      refine ev_call (c123 _ _ hsm.1 hn) (retW0 rfl rfl rfl rfl) ?_
      cases hb : hitB name (l.getD i ([],[]))
      · have hb' : (foldB (l.getD i ([],[])).1 == foldB name) = false := hb
        simp only [go_sem,Nat.reduceLeDiff,Nat.reduceLT,Nat.reduceAdd,Nat.reduceMul,Nat.reduceBNe,Nat.reduceEqDiff,reduceCtorEq,Nat.reduceDiv,Nat.reduceMod,List.nil_append,hb',hw]
        have hb1 : (xs.length + 1 + 1) * 32 ≤ 140737488355328 := by simp only [List.length_cons] at hle; omega
        try simp only [go_sem,hb1]
        first | exact ⟨i + 1,by rw [hmiss hb,rowsF_snoc,hacc]; rfl,hc,by omega⟩ | trace_state
      · have hb' : (foldB (l.getD i ([],[])).1 == foldB name) = true := hb
        simp only [go_sem,Nat.reduceAdd,hb',hw]
        exact ⟨i + 1,by rw [hhit hb,hacc]; rfl,hc,by omega⟩
    · have he := hend (by omega)
      rw [he] at hacc
      simp only [go_sem,Nat.reduceAdd,Nat.reduceBNe,Nat.reduceEqDiff,reduceCtorEq,Nat.reduceDiv,Nat.reduceMod,sd_cons,hc]
      first | (refine fin0 (.inr rfl) rfl rfl rfl ?_; rw [hacc]; rfl) | trace_state
theorem c74 (l : List Fld) (hl : Small l) (name : List UInt8) (hn : name.length ≤ 9223372036854775807) (h : fieldsB l = true) : Sem prog 74 ⟨[.imm 45 (rowsF l),.v (vS name)],[none,none]⟩ ⟨[.dead,.dead,sd 45 (rowsF (withoutB name l))],[none,none]⟩ := by
  refine sem_fin (cfg := cfg 2) (ts := [.tm 4]) tbOk func74 rfl rfl rfl rfl (fun t h => by cases h) ?_
  simp only [go_sem,Nat.reduceLeDiff,Nat.reduceLT,Nat.reduceAdd,Nat.reduceSub,f74,cfg,List.nil_append]
  have h67 := c76 l hl name hn h
  cases hr : rowsF (withoutB name l) with
  | nil =>
    rw [hr] at h67
    refine ev_call h67 (retW0 rfl rfl rfl rfl) ?_
    simp only [go_sem,Nat.reduceAdd,Nat.reduceBNe,sd_nil]
    first | exact fin0 (.inr rfl) rfl rfl rfl rfl | trace_state
  | cons x xs =>
    rw [hr] at h67
    refine ev_call h67 (retW0 rfl rfl rfl rfl) ?_
    simp only [go_sem,Nat.reduceAdd,Nat.reduceBNe,Nat.reduceEqDiff,reduceCtorEq,Nat.reduceDiv,Nat.reduceMod,sd_cons]
    first | exact fin0 (.inr rfl) rfl rfl rfl rfl | trace_state
def withB (l : List Fld) (f : Fld) : Option (List Fld) := if fieldsB l && fieldB f && decide ((withoutB f.1 l).length + 1 ≤ 20) then some (withoutB f.1 l ++ [f]) else none
def optD : Option (List Fld) → D
  | none => .nil
  | some l => .own 45 (rowsF l)
theorem wo_len (name : List UInt8) (l : List Fld) : (withoutB name l).length ≤ l.length := List.length_filter_le _ _
theorem c23 (l : List Fld) (hl : Small l) (f : Fld) (h1 : f.1.length ≤ 9223372036854775807) (h2 : f.2.length ≤ 9223372036854775807) : Sem prog 23 ⟨[.imm 45 (rowsF l),.agg [.v (vS f.1),.v (vS f.2)]],[none,none]⟩ ⟨[.dead,.dead,optD (withB l f)],[none,none]⟩ := by
  refine sem_fin (cfg := cfg 2) (ts := [.tm 4]) tbOk func23 rfl rfl rfl rfl (fun t h => by cases h) ?_
  simp only [go_sem,Nat.reduceLeDiff,Nat.reduceLT,Nat.reduceAdd,Nat.reduceSub,f23,cfg,List.nil_append]
  refine ev_call (c62 l hl) (retW0 rfl rfl rfl rfl) ?_
  cases hf : fieldsB l
  · have hw : withB l f = none := by unfold withB; rw [hf]; rfl
    rw [hw]
    simp only [go_sem,Nat.reduceAdd,reduceCtorEq]
    first | exact fin0 (.inr rfl) rfl rfl rfl rfl | trace_state
  simp only [go_sem,Nat.reduceAdd,List.nil_append]
  refine ev_call (c73 f.1 f.2 h1 h2) (retW0 rfl rfl rfl rfl) ?_
  cases hff : fieldB f
  · have hw : withB l f = none := by unfold withB; rw [hff]; simp
    rw [hw]
    have hff' : fieldB (f.1,f.2) = false := hff
    simp only [go_sem,Nat.reduceAdd]
    first | exact fin0 (.inr rfl) rfl rfl rfl rfl | trace_state
  have hff' : fieldB (f.1,f.2) = true := hff
  have h20 := fields_len hf
  have hwl := wo_len f.1 l
  simp only [go_sem,Nat.reduceAdd]
  refine draw_intro 6 [[15,16,17,18,19],[14,16,17,18,19],[14,17,18,19],[15,18,19],[14,15,16,17,19],[14,15,16,17]] mixedOk rfl ?_
  simp only [go_sem,Nat.reduceLeDiff,Nat.reduceAdd,Nat.reduceMul,Nat.reduceBEq,List.nil_append]
  have hwo := c74 l hl f.1 h1 hf
  have hrl : (rowsF (withoutB f.1 l)).length = (withoutB f.1 l).length := rowsF_length _
  have hsn : rowsF (withoutB f.1 l ++ [f]) = rowsF (withoutB f.1 l) ++ [[.v (vS f.1),.v (vS f.2)]] := rowsF_snoc
  have hwb : withB l f = if (withoutB f.1 l).length + 1 ≤ 20 then some (withoutB f.1 l ++ [f]) else none := by unfold withB; rw [hf,hff]; simp
  have hod : ∀ x : List Fld,optD (some x) = .own 45 (rowsF x) := fun _ => rfl
  have hlc : (withoutB f.1 l).length + 1 ≤ 20 → ¬ (20 : Int) < (((withoutB f.1 l).length : Int) + 1) := fun h => by omega
  cases hr : rowsF (withoutB f.1 l) with
  | nil =>
    rw [hr] at hwo hrl hsn
    have hz : (withoutB f.1 l).length = 0 := hrl.symm
    rw [hwb,hz,if_pos (by omega),hod,hsn]
    refine of_call hwo (retW0 rfl rfl rfl rfl) rfl rfl rfl ?_
    simp only [go_sem,Nat.reduceLeDiff,Nat.reduceLT,Nat.reduceAdd,Nat.reduceMul,Nat.reduceBEq,Nat.reduceBNe,Nat.reduceEqDiff,reduceCtorEq,Int.reduceLT,Nat.reduceDiv,Nat.reduceMod,sd_nil,List.nil_append]
    first | exact fin0 (.inr rfl) rfl rfl rfl rfl | trace_state
  | cons x xs =>
    rw [hr] at hwo hrl hsn
    have hlx : xs.length + 1 = (withoutB f.1 l).length := hrl
    have hb32 : (xs.length + 1 + 1) * 32 ≤ 140737488355328 := by omega
    have hb9 : xs.length + 1 + 1 ≤ 9223372036854775807 := by omega
    refine of_call hwo (retW0 rfl rfl rfl rfl) rfl rfl rfl ?_
    refine Or.elim (Classical.em ((withoutB f.1 l).length + 1 ≤ 20)) (fun hc => ?_) fun hc => ?_
    · have hc' : ¬ (20 : Int) < ((xs.length + 1 + 1 : Nat) : Int) := by omega
      rw [hwb,if_pos hc,hod,hsn]
      simp only [go_sem,Nat.reduceLT,Nat.reduceAdd,Nat.reduceMul,Nat.reduceBEq,Nat.reduceBNe,Nat.reduceEqDiff,reduceCtorEq,Nat.reduceDiv,Nat.reduceMod,sd_cons,List.length_append,List.nil_append,hb32,hb9,hc']
      first | exact fin0 (.inr rfl) rfl rfl rfl rfl | trace_state
    · have hc' : (20 : Int) < ((xs.length + 1 + 1 : Nat) : Int) := by omega
      rw [hwb,if_neg hc]
      simp only [go_sem,Nat.reduceLT,Nat.reduceAdd,Nat.reduceMul,Nat.reduceBEq,Nat.reduceBNe,Nat.reduceEqDiff,reduceCtorEq,Nat.reduceDiv,Nat.reduceMod,sd_cons,List.length_append,List.nil_append,hb32,hb9,hc']
      first | exact fin0 (.inr rfl) rfl rfl rfl rfl | trace_state
theorem c14 (l : List Fld) (hl : Small l) (f : Fld) (h1 : f.1.length ≤ 9223372036854775807) (h2 : f.2.length ≤ 9223372036854775807) : Sem prog 14 ⟨[.imm 45 (rowsF l),.agg [.v (vS f.1),.v (vS f.2)]],[none,none]⟩ ⟨[.dead,.dead,optD (withB l f)],[none,none]⟩ := by
  refine sem_fin (cfg := cfg 2) (ts := [.tm 4]) tbOk func14 rfl rfl rfl rfl (fun t h => by cases h) ?_
  simp only [go_sem,Nat.reduceLeDiff,Nat.reduceLT,Nat.reduceAdd,Nat.reduceSub,f14,cfg,List.nil_append]
  refine ev_call (c38 l hl) (retW0 rfl rfl rfl rfl) ?_
  cases hf : fieldsB l
  · have hw : withB l f = none := by unfold withB; rw [hf]; rfl
    rw [hw]
    simp only [go_sem,Nat.reduceAdd,reduceCtorEq]
    first | exact fin0 (.inr rfl) rfl rfl rfl rfl | trace_state
  simp only [go_sem,Nat.reduceAdd,List.nil_append]
  refine ev_call (c43 f.1 f.2 h1 h2) (retW0 rfl rfl rfl rfl) ?_
  cases hff : fieldB f
  · have hw : withB l f = none := by unfold withB; rw [hff]; simp
    rw [hw]
    have hff' : fieldB (f.1,f.2) = false := hff
    simp only [go_sem,Nat.reduceAdd]
    first | exact fin0 (.inr rfl) rfl rfl rfl rfl | trace_state
  have hff' : fieldB (f.1,f.2) = true := hff
  have h20 := fields_len hf
  have hwl := wo_len f.1 l
  simp only [go_sem,Nat.reduceAdd]
  refine draw_intro 6 [[15,16,17,18,19],[14,16,17,18,19],[14,17,18,19],[15,18,19],[14,15,16,17,19],[14,15,16,17]] mixedOk rfl ?_
  simp only [go_sem,Nat.reduceLeDiff,Nat.reduceAdd,Nat.reduceMul,Nat.reduceBEq,List.nil_append]
  have hwo := c44 l hl f.1 h1 hf
  have hrl : (rowsF (withoutB f.1 l)).length = (withoutB f.1 l).length := rowsF_length _
  have hsn : rowsF (withoutB f.1 l ++ [f]) = rowsF (withoutB f.1 l) ++ [[.v (vS f.1),.v (vS f.2)]] := rowsF_snoc
  have hwb : withB l f = if (withoutB f.1 l).length + 1 ≤ 20 then some (withoutB f.1 l ++ [f]) else none := by unfold withB; rw [hf,hff]; simp
  have hod : ∀ x : List Fld,optD (some x) = .own 45 (rowsF x) := fun _ => rfl
  have hlc : (withoutB f.1 l).length + 1 ≤ 20 → ¬ (20 : Int) < (((withoutB f.1 l).length : Int) + 1) := fun h => by omega
  cases hr : rowsF (withoutB f.1 l) with
  | nil =>
    rw [hr] at hwo hrl hsn
    have hz : (withoutB f.1 l).length = 0 := hrl.symm
    rw [hwb,hz,if_pos (by omega),hod,hsn]
    refine of_call hwo (retW0 rfl rfl rfl rfl) rfl rfl rfl ?_
    simp only [go_sem,Nat.reduceLeDiff,Nat.reduceLT,Nat.reduceAdd,Nat.reduceMul,Nat.reduceBEq,Nat.reduceBNe,Nat.reduceEqDiff,reduceCtorEq,Int.reduceLT,Nat.reduceDiv,Nat.reduceMod,sd_nil,List.nil_append]
    first | exact fin0 (.inr rfl) rfl rfl rfl rfl | trace_state
  | cons x xs =>
    rw [hr] at hwo hrl hsn
    have hlx : xs.length + 1 = (withoutB f.1 l).length := hrl
    have hb32 : (xs.length + 1 + 1) * 32 ≤ 140737488355328 := by omega
    have hb9 : xs.length + 1 + 1 ≤ 9223372036854775807 := by omega
    refine of_call hwo (retW0 rfl rfl rfl rfl) rfl rfl rfl ?_
    refine Or.elim (Classical.em ((withoutB f.1 l).length + 1 ≤ 20)) (fun hc => ?_) fun hc => ?_
    · have hc' : ¬ (20 : Int) < ((xs.length + 1 + 1 : Nat) : Int) := by omega
      rw [hwb,if_pos hc,hod,hsn]
      simp only [go_sem,Nat.reduceLT,Nat.reduceAdd,Nat.reduceMul,Nat.reduceBEq,Nat.reduceBNe,Nat.reduceEqDiff,reduceCtorEq,Nat.reduceDiv,Nat.reduceMod,sd_cons,List.length_append,List.nil_append,hb32,hb9,hc']
      first | exact fin0 (.inr rfl) rfl rfl rfl rfl | trace_state
    · have hc' : (20 : Int) < ((xs.length + 1 + 1 : Nat) : Int) := by omega
      rw [hwb,if_neg hc]
      simp only [go_sem,Nat.reduceLT,Nat.reduceAdd,Nat.reduceMul,Nat.reduceBEq,Nat.reduceBNe,Nat.reduceEqDiff,reduceCtorEq,Nat.reduceDiv,Nat.reduceMod,sd_cons,List.length_append,List.nil_append,hb32,hb9,hc']
      first | exact fin0 (.inr rfl) rfl rfl rfl rfl | trace_state
end Go.Proofs.YtplagdnnnkdlnaaGreatDoor.Fw
