/- Texts of the proof: FwOk FwSem FwExt FwCall FwRow FwRead FwE1 FwE2 FwE3 FwArg FwSet FwY FbA FbB FbC FbD FcA FcB FcC FcD FcE FcF FcG FcH FcI FcJ FcK FcL FcM FdA FdB FdC FdD. -/
import Derived.Laws.Externs
import Derived.Lib.Bytealg
import Derived.Below
import Derived.Deep.Slices
import Derived.ChangeArms
import Derived.ChangeShapes
import Derived.Test.YtbdfdfhamlmodaaGreatDoorProg
import Derived.Shelf.Strings.OnBuilder
import Derived.Test.YtbdfdfhamlmodaaGreatDoorM2
set_option linter.unusedSimpArgs false
set_option linter.unusedVariables false
/- Framework, part Ok: every operation does what is computed of it. -/
namespace Go.Proofs.YtbdfdfhamlmodaaGreatDoor.Fw
open Go
theorem opdsR_wp {w0:World} {L:Nat→Nat→Prop} {C:Ctx} (R:Rel w0 L C) {α:Type}:∀ (xs:List Operand) {acc:List D} {vs:List Value} {k:List D→Rdr α} {Q:α→Prop},acc.length=vs.length →
  (∀ (i:Nat) (d:D),acc[i]? = some d→d.isTup=false→VRel C d (vs.getD i undef))→(opdsR xs acc k).wp C.E Q →
  ∃ ds,(k ds).wp C.E Q∧ds.length=(vs++xs.map C.a.eval).length∧∀ (i:Nat) (d:D),ds[i]? = some d→d.isTup=false→VRel C d ((vs++xs.map C.a.eval).getD i undef)
 | [],acc,vs,k,Q,hl,hv,h=>⟨acc,h,by simpa using hl,by simpa using hv⟩
 | x::xs,acc,vs,k,Q,hl,hv,h=>by
  replace h:=opdR_wp R h
  obtain ⟨d,h,hd⟩:=h
  obtain ⟨ds,h1,h2,h3⟩:=opdsR_wp R xs (acc:=acc++[d]) (vs:=vs++[C.a.eval x]) (by simp [hl]) (by
   intro i d' hd' ht
   by_cases hi:i<acc.length
   ·rw [List.getElem?_append_left hi] at hd'
    rw [gDg,List.getElem?_append_left (by omega),←gDg]
    exact hv i d' hd' ht
   ·have h1:=(gSm hd').1
    simp at h1
    have:i=acc.length:=by omega
    subst this
    simp at hd'
    subst hd'
    rw [gDg,hl]
    simpa using hd ht) h
  exact ⟨ds,h1,by simpa using h2,by simpa using h3⟩
theorem call_run {P:Program} {a:Act} {o:Oper} {w:World} {c:Call} {x:Operand} {f:FuncId} {caps:Array Value} (ho:o.op = .call c) (hc:c.callee = .value x) (hx:a.eval x = .func (.func f) #[] caps) :
  (execOp a.eval o).run P w=(callFunc f ((c.args.map a.eval)++caps)).run P w:=by
 simp only [execOp,ho,resolve,hc,hx,Deferred.ofValue,Sem.run_bind,Sem.run_pure,Result.andThen_ok,invoke,Array.empty_append]
theorem op_ok {P:Program} {cfg:Cfg} (hT:TabOk P cfg.tb):OpOk P cfg:=by
 intro w0 L C R hP K next hn Q o h
 subst hP
 unfold opR at h
 split at h
 ·rename_i ho; exact snd_moveT R hn ho h
 ·rename_i ho; exact snd_assign R hn ho h
 ·rename_i ho; exact snd_pick R hn ho h
 ·rename_i ho; exact snd_alloc R hn hT ho h
 ·rename_i ho; exact snd_box R hn ho h
 ·rename_i ho; exact snd_build R hn hT ho h
 ·rename_i ho; exact snd_buildSlice R hn hT ho h
 ·rename_i ho; exact snd_load R hn hT ho h
 ·rename_i ho; exact snd_store R hn hT ho h
 ·rename_i ho; exact snd_nilCheck R hn ho h
 ·rename_i ho; exact snd_bin R hn hT ho h
 ·rename_i ho; exact snd_un R hn ho h
 ·rename_i ho; exact snd_convert R hn hT ho h
 ·rename_i ho; exact snd_makeFunc R hn ho h
 ·rename_i ho; exact snd_makeSlice R hn hT ho h
 ·rename_i ho; exact snd_slice R hn hT ho h
 ·rename_i ho; exact snd_fieldAddr R hn hT ho h
 ·rename_i ho; exact snd_indexAddr R hn hT ho h
 ·rename_i ho; exact snd_index R hn hT ho h
 ·rename_i ho; exact snd_extract R hn ho h
 ·rename_i ho; exact snd_field R hn hT ho h
 ·rename_i ho; exact snd_makeMap R hn hT ho h
 ·rename_i ho; exact snd_lookup R hn hT ho h
 ·rename_i ho; exact snd_mapUpdate R hn hT ho h
 ·rename_i c ho
  unfold opCall at h
  split at h
  ·rename_i hc
   split at h
   ·rename_i x t hx ht
    refine snd_len R hn hT (fun v n hv hr => ?_) h
    have e1:c.args = #[x]:=by cases hca:c.args with | mk l=>rw [hca] at hx; simp at hx; rw [hx]
    have e2:c.argTypes = #[t]:=by cases hca:c.argTypes with | mk l=>rw [hca] at ht; simp at ht; rw [ht]
    simp [execOp,ho,resolve,hc,invoke,builtin,e1,e2,hv,hr]
   ·exact h.elim
  ·rename_i hc
   split at h
   ·rename_i s x t tx hx ht
    refine snd_append R hn hT (fun v hr => ?_) h
    have e1:c.args = #[s,x]:=by cases hca:c.args with | mk l=>rw [hca] at hx; simp at hx; rw [hx]
    have e2:c.argTypes = #[t,tx]:=by cases hca:c.argTypes with | mk l=>rw [hca] at ht; simp at ht; rw [ht]
    simp [execOp,ho,resolve,hc,invoke,builtin,e1,e2,hr]
   ·exact h.elim
  ·rename_i hc
   refine snd_minmax R hn (fun v vs n hv hr => ?_) h
   simp only [Bool.false_eq_true,if_false] at hr
   simp [execOp,ho,resolve,hc,invoke,builtin,Builtin.min_,hv,hr]
  ·rename_i hc
   refine snd_minmax R hn (fun v vs n hv hr => ?_) h
   simp only [if_true] at hr
   simp [execOp,ho,resolve,hc,invoke,builtin,Builtin.max_,hv,hr]
  ·exact h.elim
  ·rename_i f hc
   obtain ⟨ds,h,h1,h2⟩:=opdsR_wp R c.args.toList (acc:=[]) (vs:=[]) rfl (fun i d hd=>by simp at hd) h
   refine snd_callR R hn (ws:=c.args.toList.map C.a.eval) (by simpa using h1) (by simpa using h2) ?_ h
   rw [call_run (f:=f) (caps := #[]) ho hc rfl]
   congr 2
   apply Array.ext'
   simp
  ·rename_i x hnf hc
   replace h:=opdR_wp R h
   obtain ⟨d,h,hd⟩:=h
   split at h
   ·rename_i f cs
    have hl:=((hd rfl).lf rfl (by simp)).1
    generalize hxv:C.a.eval x=xv at hl
    cases hl with
    | clo _ _ caps g1 g2 g3 =>
     obtain ⟨ds,h,h1,h2⟩:=opdsR_wp R c.args.toList (acc:=[]) (vs:=[]) rfl (fun i d hd=>by simp at hd) h
     refine snd_callR R hn (ws:=c.args.toList.map C.a.eval++caps.toList) (by simp at h1 ⊢; omega) ?_ ?_ h
     ·intro i d hid ht
      by_cases hi:i<ds.length
      ·rw [List.getElem?_append_left hi] at hid
       rw [gDg,List.getElem?_append_left (by simp at h1 ⊢; omega),←gDg]
       simpa using h2 i d hid ht
      ·rw [List.getElem?_append_right (by omega)] at hid
       rw [gDg,List.getElem?_append_right (by simp at h1 ⊢; omega),←gDg]
       have e:i-(c.args.toList.map C.a.eval).length=i-ds.length:=by simp at h1 ⊢; omega
       rw [e,arr_list_getD]
       have hcap:=g2 _ _ hid
       have hlr:=g3 _ _ hid
       have hone:one (caps.getD (i-ds.length) undef)=true:=by
        generalize caps.getD (i-ds.length) undef=cv at hlr
        cases hlr<;>first | rfl | (exact scal_one (by assumption)) | (simp [D.capt] at hcap; done) | (rename_i hr; exact hr.one)
       exact VRel.leaf (by cases d<;>first | rfl | simp [D.capt] at hcap) hone (by cases d<;>first | rfl | simp [D.capt] at hcap) fun p=>hlr.any (by cases d<;>first | rfl | simp [D.capt] at hcap) p
     ·rw [call_run (f:=f) (caps:=caps) ho hc hxv]
      congr 2
      apply Array.ext'
      simp
   ·exact h.elim
  ·exact h.elim
 ·exact h.elim
theorem getD_pad {α:Type} (l:List α) (m:Nat) (d:α) (t:Nat):(l++List.replicate m d).getD t d=l.getD t d:=by
 rw [gDg,gDg]
 by_cases h:t<l.length
 ·rw [List.getElem?_append_left h]
 ·rw [List.getElem?_append_right (by omega),List.getElem?_replicate,List.getElem?_eq_none (by omega)]
  split<;>rfl
theorem some_pad {α:Type} {l:List (Option α)} {m t:Nat} {x:α}:(l++List.replicate m none)[t]? = some (some x)↔l[t]? = some (some x):=by
 by_cases h:t<l.length
 ·rw [List.getElem?_append_left h]
 ·rw [List.getElem?_append_right (by omega),List.getElem?_replicate,List.getElem?_eq_none (by omega)]
  split<;>simp
theorem arr_pad (a:Array Value) (m t:Nat):(a++Array.replicate m undef).getD t undef=a.getD t undef:=by
 rw [arrGetD,arrGetD]
 by_cases h:t<a.size
 ·rw [Array.getElem?_append_left h]
 ·rw [Array.getElem?_append_right (by omega),Array.getElem?_replicate,Array.getElem?_eq_none (by omega)]
  split<;>rfl
def Env.pad (E:Env) (m:Nat):Env:=⟨E.sl++List.replicate m .dead,E.ce++List.replicate m none⟩
theorem Rel.pad {w0:World} {L:Nat→Nat→Prop} {C:Ctx} (R:Rel w0 L C) (m:Nat):Rel w0 L { C with E:=C.E.pad m,a:={ tmps:=C.a.tmps++Array.replicate m undef,defers:=[] } }:=by
 have hleaf:∀ p,(C.E.pad m).leaf p=C.E.leaf p:=by
  rintro ⟨c,t,k⟩
  cases c with
  | false=>show ((C.E.sl++List.replicate m D.dead).getD t .dead).leafOf k=_; rw [getD_pad]; rfl
  | true=>show (((C.E.ce++List.replicate m none).getD t none).getD []).getD k .dead=_; rw [getD_pad]; rfl
 have hcv:∀ p,Ctx.cv { C with E:=C.E.pad m,a:={ tmps:=C.a.tmps++Array.replicate m undef,defers:=[] } } p=C.cv p:=by
  rintro ⟨c,t,k⟩
  cases c with
  | false=>show vleafOf ((C.a.tmps++Array.replicate m undef).getD t undef) k=_; rw [arr_pad]; rfl
  | true=>rfl
 have hlive:∀ t ds,({ C with E:=C.E.pad m,a:={ tmps:=C.a.tmps++Array.replicate m undef,defers:=[] } }:Ctx).live t ds↔C.live t ds:=fun t ds=>some_pad
 have hown:∀ b,({ C with E:=C.E.pad m,a:={ tmps:=C.a.tmps++Array.replicate m undef,defers:=[] } }:Ctx).Owned b→C.Owned b:=by
  rintro b (⟨p,hp⟩ | ⟨t,ds,hl,hb⟩)
  ·exact .inl ⟨p,hp⟩
  ·exact .inr ⟨t,ds,(hlive t ds).1 hl,hb⟩
 have s:Same C { C with E:=C.E.pad m,a:={ tmps:=C.a.tmps++Array.replicate m undef,defers:=[] } } (fun q=>q) (fun _=>False) (fun _=>False) :=
  ⟨rfl,fun b hb _=>⟨fun h=>hb (hown b h),rfl⟩,fun q e xs _ hl=>⟨xs,(hleaf q).trans hl,rfl,hcv q,fun i j e' ys hg=>⟨hg,fun b o n cap v _ hv=>hv⟩⟩,fun t ds _ hl=>⟨ds,(hlive t ds).2 hl,rfl,rfl⟩,fun _ h=>h⟩
 have go1:∀ p d v,LRel C p d v→LRel { C with E:=C.E.pad m,a:={ tmps:=C.a.tmps++Array.replicate m undef,defers:=[] } } p d v:=by
  intro p d v hv
  by_cases ho:d.isOwn=true
  ·cases d<;>simp [D.isOwn] at ho
   cases hv with
   | own _ _ _ h=>exact .own _ _ _ _ h
  ·have:=LRel.same s hv p (by simpa using ho) ⟨fun q h=>by simp,fun t ht=>by simp⟩
   rwa [D.re_id] at this
 refine ⟨?_,rfl,?_,?_,R.disj,?_,?_,R.fbound,R.flent,?_,R.frame,R.mnew,R.mL,R.glob⟩
 ·show (C.a.tmps++Array.replicate m undef).size=(C.E.sl++List.replicate m D.dead).length
  simp [R.tmps]
 ·intro t d hd
  have hd:(C.E.sl++List.replicate m D.dead)[t]? = some d:=hd
  show SRel _ t d ((C.a.tmps++Array.replicate m undef).getD t undef)
  rw [arr_pad]
  by_cases h:t<C.E.sl.length
  ·rw [List.getElem?_append_left h] at hd
   exact (R.slot t d hd).tr' fun k x v _ hv=>go1 _ _ _ hv
  ·rw [List.getElem?_append_right (by omega),List.getElem?_replicate] at hd
   split at hd
   ·injection hd with hd; subst hd
    exact .comp _ _ rfl (.dead _ _)
   ·cases hd
 ·intro t ds hl
  obtain ⟨cs,e,fr,a1,a2,a3,a4⟩:=(R.cell t ds ((hlive t ds).1 hl)).out
  refine ⟨cs,e,fr,a1,a2,a3,fun i d hd => ?_⟩
  obtain ⟨b1,b2,b3⟩:=a4 i d hd
  exact ⟨b1,b2,go1 _ _ _ b3⟩
 ·intro t ds t' ds' h1 h2 he
  exact R.cdisj t ds t' ds' ((hlive _ _).1 h1) ((hlive _ _).1 h2) he
 ·intro t ds p h1 hp
  exact R.fcd t ds p ((hlive _ _).1 h1) hp
 ·intro t ds h1 hb i hi
  exact R.clent t ds ((hlive _ _).1 h1) hb i hi
inductive RV where
 | tm (t:Nat)
 | ce (c:Nat) (ty:TypeId)
 deriving DecidableEq
def RV.toR:RV→ResultVar | .tm x => .tmp x | .ce x y => .cell x y
def RV.isC:RV→Bool | .tm _=>false | .ce _ _=>true
def RV.n:RV→Nat | .tm x=>x | .ce x _=>x
def ownOnly:D→D | .own e xs => .own e xs | _ => .dead
def shutP (keep:Nat→Bool) (E:Env) (i:Nat):D:=if keep i then (match E.sl.getD i .dead with | .agg ds => .agg (ds.map ownOnly) | d=>ownOnly d) else .dead
def shutD (E:Env):RV→D
 | .tm t=>E.sl.getD t .dead
 | .ce c _ => .agg ((E.ce.getD c none).getD [])
def shutR (E:Env):List RV→D
 | [t]=>shutD E t
 | ts => .tup (ts.map (shutD E))
def shut (cfg:Cfg) (ts:List RV) (E:Env):Env :=
 ⟨(List.range cfg.np).map (shutP cfg.keep E)++[shutR E ts],(List.range cfg.np).map (fun i=>E.ce.getD i none)⟩
def resOk (cfg:Cfg) (E:Env):RV→Bool
 | .tm t => !cfg.keep t && !(E.sl.getD t .dead).isTup&&(E.sl.getD t .dead).leaves1.all D.resLeaf&&decide (t<E.sl.length)
 | .ce c ty=>match E.sl.getD c .dead,cfg.tb ty,E.ce.getD c none with
  | .cref c' 0,some i,some ds=>decide (c'=c)&&decide (cfg.np≤c)&&decide (ds.length=i.size)&&i.k.isStruct&&ds.all D.resLeaf&&decide (c<E.sl.length)
  | _,_,_=>false
def shutOk (cfg:Cfg) (ts:List RV) (E:Env):Bool :=
 distinct (ts.map fun r=>(r.isC,r.n))&&ts.all (resOk cfg E) &&
 (List.range cfg.np).all fun i=>match E.ce.getD i none with | some ds=>ds.all D.resLeaf | none=>true
def shutV1 (C:Ctx):RV→Value
 | .tm t=>C.a.tmps.getD t undef
 | .ce c _ => .agg ((List.range ((C.E.ce.getD c none).getD []).length).map fun j=>(C.w.cell? ⟨(C.loc c).1,(C.loc c).2+j,none⟩).getD undef).toArray
def shutV (C:Ctx):List RV→Value
 | [t]=>shutV1 C t
 | ts => .tuple (ts.map (shutV1 C)).toArray
def shutF (cfg:Cfg) (ts:List RV) (F:Lf→Nat→Prop) (p:Lf) (b:Nat):Prop :=
 (p.c=false∧p.t<cfg.np∧cfg.keep p.t=true∧F p b)∨(p.c=true∧p.t<cfg.np∧F p b)∨(p.c=false∧p.t=cfg.np∧∃ t:RV,ts[p.k / 64]? = some t∧F ⟨t.isC,t.n,p.k % 64⟩ b)
theorem resOk_t {cfg:Cfg} {E:Env} {t:Nat} (h:resOk cfg E (.tm t)=true):((cfg.keep t=false∧(E.sl.getD t .dead).isTup=false)∧∀ x,x∈(E.sl.getD t .dead).leaves1→x.resLeaf=true)∧t<E.sl.length:=by
 simpa [resOk] using h
theorem resOk_c {cfg:Cfg} {E:Env} {c:Nat} {ty:TypeId} (h:resOk cfg E (.ce c ty)=true):E.sl.getD c .dead = .cref c 0∧c<E.sl.length∧cfg.np≤c∧∃ i ds,cfg.tb ty=some i∧E.ce.getD c none=some ds∧ds.length=i.size∧i.k.isStruct=true∧∀ x,x∈ds→x.resLeaf=true:=by
 unfold resOk at h
 simp only at h
 split at h
 ·rename_i c' i ds h1 h2 h3
  simp only [Bool.and_eq_true,decide_eq_true_eq,List.all_eq_true] at h
  obtain ⟨⟨⟨⟨⟨rfl,a2⟩,a3⟩,a4⟩,a5⟩,a6⟩:=h
  exact ⟨h1,a6,a2,i,ds,h2,h3,a3,a4,a5⟩
 ·cases h
theorem Rel.shut {w0:World} {L:Nat→Nat→Prop} {C:Ctx} (R:Rel w0 L C) {cfg:Cfg} (hT:TabOk C.P cfg.tb) {ts:List RV} (hok:shutOk cfg ts C.E=true) {args:Array Value} (hsz:args.size=cfg.np)
  (hk:∀ t,cfg.keep t=true→C.a.tmps.getD t undef=args.getD t undef) :
  Rel w0 L { C with E:=Fw.shut cfg ts C.E,a:={ tmps:=args.push (shutV C ts),defers:=[] },F:=shutF cfg ts C.F }:=by
 simp only [shutOk,Bool.and_eq_true,List.all_eq_true] at hok
 obtain ⟨⟨o1,o2⟩,o3⟩:=hok
 have hF:∀ p b,shutF cfg ts C.F p b→∃ q,C.F q b:=by
  rintro p b (⟨_,_,_,h⟩ | ⟨_,_,h⟩ | ⟨_,_,t,_,h⟩)
  ·exact ⟨_,h⟩
  ·exact ⟨_,h⟩
  ·exact ⟨_,h⟩
 have hlive:∀ t ds,({ C with E:=Fw.shut cfg ts C.E,a:={ tmps:=args.push (shutV C ts),defers:=[] },F:=shutF cfg ts C.F }:Ctx).live t ds→t<cfg.np∧C.live t ds:=by
  intro t ds h
  have h:((List.range cfg.np).map (fun i=>C.E.ce.getD i none))[t]? = some (some ds):=h
  rw [List.getElem?_map] at h
  by_cases ht:t<cfg.np
  ·rw [List.getElem?_range ht] at h
   simp only [Option.map_some,Option.some.injEq] at h
   refine ⟨ht,?_⟩
   show C.E.ce[t]? = _
   rw [gDg] at h
   cases hx:C.E.ce[t]? with
   | none=>rw [hx] at h; cases h
   | some y=>rw [hx] at h; simp at h; rw [h]
  ·rw [List.getElem?_eq_none (by simpa using ht)] at h; cases h
 have hRd:∀ b,C.Rd b→({ C with E:=Fw.shut cfg ts C.E,a:={ tmps:=args.push (shutV C ts),defers:=[] },F:=shutF cfg ts C.F }:Ctx).Rd b:=by
  rintro b ⟨h1,h2⟩
  refine ⟨?_,h2⟩
  rintro (⟨p,hp⟩ | ⟨t,ds,hl,hb⟩)
  ·obtain ⟨q,hq⟩:=hF p b hp
   exact h1 (.inl ⟨q,hq⟩)
  ·exact h1 (.inr ⟨t,ds,(hlive t ds hl).2,hb⟩)
 have go:∀ p p' d v,LRel C p d v→d.resLeaf=true→d.leafy=true→one v=true→(∀ b,C.F p b→shutF cfg ts C.F p' b)→LRel { C with E:=Fw.shut cfg ts C.E,a:={ tmps:=args.push (shutV C ts),defers:=[] },F:=shutF cfg ts C.F } p' d v:=by
  intro p p' d v hv h1 h2 h3 h4
  refine RL.rel (C:={ C with E:=Fw.shut cfg ts C.E,a:={ tmps:=args.push (shutV C ts),defers:=[] },F:=shutF cfg ts C.F }) (hv.rl h1 h2 h3) (fun e xs b _ hb _=>hRd b hb) (fun e xs _ b hb=>h4 b hb)
 have compOf:∀ (j:Nat) (t:RV),ts[j]? = some t→(shutD C.E t).isTup=false∧CRel { C with E:=Fw.shut cfg ts C.E,a:={ tmps:=args.push (shutV C ts),defers:=[] },F:=shutF cfg ts C.F } cfg.np (64*j) (shutD C.E t) (shutV1 C t):=by
  intro j t hj
  have hFk:∀ k b,k<64→C.F ⟨t.isC,t.n,k⟩ b→shutF cfg ts C.F ⟨false,cfg.np,64*j+k⟩ b:=by
   intro k b hk64 hb
   refine .inr (.inr ⟨rfl,rfl,t,?_,?_⟩)
   ·show ts[(64*j+k) / 64]? = some t
    rw [(mul_div64 j k hk64).1]; exact hj
   ·show C.F ⟨t.isC,t.n,(64*j+k) % 64⟩ b
    rw [(mul_div64 j k hk64).2]; exact hb
  have hr:=o2 t (List.mem_of_getElem? hj)
  cases t with
  | tm t =>
   obtain ⟨⟨⟨q1,q2⟩,q3⟩,q4⟩:=resOk_t hr
   refine ⟨q2,?_⟩
   have hs:=R.slot t (C.E.sl.getD t .dead) (by rw [gDg,gEg q4]; rfl)
   show CRel _ cfg.np (64*j) (C.E.sl.getD t .dead) (C.a.tmps.getD t undef)
   generalize C.E.sl.getD t .dead=d at hs q2 q3
   generalize C.a.tmps.getD t undef=vv at hs
   cases hs with
   | tup=>simp [D.isTup] at q2
   | comp _ _ _ hc =>
    cases hc with
    | dead=>exact .dead _ _
    | agg ds xs hl h64 h =>
     refine .agg _ _ _ hl h64 fun i x hx => ?_
     obtain ⟨a1,a2,a3⟩:=h i x hx
     have hi:i<64:=by have:=(gSm hx).1; omega
     rw [Nat.zero_add] at a3
     exact ⟨a1,a2,go _ _ _ _ a3 (q3 x (List.mem_of_getElem? hx)) a1 a2 (fun b hb=>hFk i b hi (show C.F ⟨false,t,i⟩ b from hb))⟩
    | leaf _ _ a b c =>
     have hr:=q3 d (by rw [leafy_leaves1 a]; simp)
     exact .leaf _ _ _ a b (go _ _ _ _ c hr a b (fun b hb=>by have:=hFk 0 b (by omega) hb; simpa using this))
  | ce c ty =>
   obtain ⟨q1,q2,q3,i,ds,q4,q5,q6,q7,q8⟩:=resOk_c hr
   refine ⟨rfl,?_⟩
   have hl:C.live c ds:=by
    show C.E.ce[c]? = _
    rw [gDg] at q5
    cases hx:C.E.ce[c]? with
    | none=>rw [hx] at q5; cases q5
    | some y=>rw [hx] at q5; simp at q5; rw [q5]
   obtain ⟨cs,e,fr,a1,a2,a3,a4⟩:=(R.cell c ds hl).out
   have e1:shutD C.E (.ce c ty) = .agg ds:=by show D.agg ((C.E.ce.getD c none).getD [])=_; rw [q5]; rfl
   have e5:shutV1 C (.ce c ty) = .agg ((List.range ds.length).map fun j=>(C.w.cell? ⟨(C.loc c).1,(C.loc c).2+j,none⟩).getD undef).toArray:=by
    show Value.agg ((List.range ((C.E.ce.getD c none).getD []).length).map _).toArray=_
    rw [q5]; rfl
   rw [e1,e5]
   have e2:∀ j,j<ds.length→(C.w.cell? ⟨(C.loc c).1,(C.loc c).2+j,none⟩).getD undef=cs.getD ((C.loc c).2+j) undef:=by
    intro j hj
    rw [cell_of a1,getD_get? (by omega)]; rfl
   refine .agg _ _ _ (by simp) (by rw [q6]; exact (hT ty i q4).small) fun k d hd => ?_
   have hk':k<ds.length:=(gSm hd).1
   obtain ⟨b1,b2,b3⟩:=a4 k d hd
   have hk64:k<64:=by have:=(hT ty i q4).small; omega
   have e3:(((List.range ds.length).map fun j=>(C.w.cell? ⟨(C.loc c).1,(C.loc c).2+j,none⟩).getD undef).toArray).getD k undef=cs.getD ((C.loc c).2+k) undef:=by
    rw [arrGetD]
    simp only [List.getElem?_toArray,List.getElem?_map,List.getElem?_range hk',Option.map_some]
    exact e2 k hk'
   rw [e3]
   exact ⟨b1,b2,go _ _ _ _ b3 (q8 d (List.mem_of_getElem? hd)) b1 b2 (fun b hb=>hFk k b hk64 hb)⟩
 refine ⟨by simp [Fw.shut,hsz],rfl,?_,?_,?_,?_,?_,?_,?_,?_,R.frame,R.mnew,R.mL,R.glob⟩
 ·intro t d hd
  have hd:((List.range cfg.np).map (shutP cfg.keep C.E)++[shutR C.E ts])[t]? = some d:=hd
  show SRel _ t d ((args.push (shutV C ts)).getD t undef)
  by_cases ht:t<cfg.np
  ·rw [List.getElem?_append_left (by simpa using ht),List.getElem?_map,List.getElem?_range ht] at hd
   simp only [Option.map_some,Option.some.injEq] at hd
   subst hd
   have ev:(args.push (shutV C ts)).getD t undef=args.getD t undef:=by
    rw [arrGetD,arrGetD,Array.getElem?_push,if_neg (by omega)]
   rw [ev]
   unfold shutP
   cases hkt:cfg.keep t with
   | false=>exact .comp _ _ rfl (.dead _ _)
   | true =>
    simp only [if_true]
    have hownL:∀ (k:Nat) (x:D) (vx:Value),x.leafy=true→one vx=true→LRel C ⟨false,t,k⟩ x vx→(ownOnly x).leafy=true∧LRel { C with E:=Fw.shut cfg ts C.E,a:={ tmps:=args.push (shutV C ts),defers:=[] },F:=shutF cfg ts C.F } ⟨false,t,k⟩ (ownOnly x) vx:=by
     intro k x vx h1 h2 h3
     cases x with
     | own e xs =>
      refine ⟨rfl,?_⟩
      cases h3 with
      | own _ _ _ h=>exact .own _ _ _ _ (h.mono (fun b hb => .inl ⟨rfl,ht,hkt,hb⟩) (fun _ _ _=>rfl))
     | _=>exact ⟨rfl,.dead _ _⟩
    have hlt2:C.E.sl.getD t .dead ≠ .dead→C.E.sl[t]? = some (C.E.sl.getD t .dead):=by
     intro hne
     rw [gDg] at hne ⊢
     cases hx:C.E.sl[t]? with
     | none=>rw [hx] at hne; exact absurd rfl hne
     | some y=>rfl
    by_cases hdd:C.E.sl.getD t .dead = .dead
    ·rw [hdd]; exact .comp _ _ rfl (.dead _ _)
    ·have hs:=R.slot t _ (hlt2 hdd)
     rw [hk t hkt] at hs
     generalize C.E.sl.getD t .dead=d at hs hdd
     generalize args.getD t undef=vv at hs
     cases hs with
     | tup=>exact .comp _ _ rfl (.dead _ _)
     | comp _ _ hnt hc =>
      cases hc with
      | dead=>exact .comp _ _ rfl (.dead _ _)
      | agg ds xs hl h64 h =>
       refine .comp _ _ rfl (.agg _ _ _ (by simpa using hl) (by simpa using h64) fun i x hx => ?_)
       rw [List.getElem?_map] at hx
       cases hy:ds[i]? with
       | none=>rw [hy] at hx; simp at hx
       | some y =>
        rw [hy] at hx
        simp only [Option.map_some,Option.some.injEq] at hx
        subst hx
        obtain ⟨a1,a2,a3⟩:=h i y hy
        obtain ⟨b1,b2⟩:=hownL _ y _ a1 a2 a3
        exact ⟨b1,a2,b2⟩
      | leaf _ _ a b c =>
       obtain ⟨b1,b2⟩:=hownL _ d vv a b c
       cases d with
       | agg=>simp [D.leafy] at a
       | tup=>simp [D.leafy] at a
       | own e xs=>exact .comp _ _ rfl (.leaf _ _ _ b1 b b2)
       | _=>exact .comp _ _ rfl (.dead _ _)
  ·have hlt:=(gSm hd).1
   simp at hlt
   have:t=cfg.np:=by omega
   subst this
   rw [List.getElem?_append_right (by simp)] at hd
   simp at hd
   subst hd
   have ev:(args.push (shutV C ts)).getD cfg.np undef=shutV C ts:=by
    rw [arrGetD,Array.getElem?_push,if_pos hsz.symm]; rfl
   rw [ev]
   have tupc:SRel { C with E:=Fw.shut cfg ts C.E,a:={ tmps:=args.push (shutV C ts),defers:=[] },F:=shutF cfg ts C.F } cfg.np (.tup (ts.map (shutD C.E))) (.tuple (ts.map (shutV1 C)).toArray):=by
    refine .tup _ _ (by simp) fun i d hd => ?_
    rw [List.getElem?_map] at hd
    cases hx:ts[i]? with
    | none=>rw [hx] at hd; simp at hd
    | some t =>
     rw [hx] at hd
     simp only [Option.map_some,Option.some.injEq] at hd
     subst hd
     have e:(ts.map (shutV1 C)).toArray.getD i undef=shutV1 C t:=by
      rw [arrGetD]; simp [hx]
     rw [e]
     exact compOf i t hx
   match ts,tupc,compOf with
   | [],tupc,_=>exact tupc
   | [t],_,compOf=>exact .comp _ _ (compOf 0 t rfl).1 (compOf 0 t rfl).2
   | _::_::_,tupc,_=>exact tupc
 ·intro t ds hl
  obtain ⟨ht,hlc⟩:=hlive t ds hl
  obtain ⟨cs,e,fr,a1,a2,a3,a4⟩:=(R.cell t ds hlc).out
  refine ⟨cs,e,fr,a1,a2,a3,fun i d hd => ?_⟩
  obtain ⟨b1,b2,b3⟩:=a4 i d hd
  have hr:=o3 t (List.mem_range.2 ht)
  rw [show C.E.ce.getD t none=some ds from getD_some hlc] at hr
  have hr:ds.all D.resLeaf=true:=hr
  exact ⟨b1,b2,go _ _ _ _ b3 (List.all_eq_true.1 hr d (List.mem_of_getElem? hd)) b1 b2 (fun b hb => .inr (.inl ⟨rfl,ht,hb⟩))⟩
 ·intro p q b h1 h2
  obtain ⟨pc,pt,pk⟩:=p
  obtain ⟨qc,qt,qk⟩:=q
  have res:∀ (k k':Nat) (t t':RV),ts[k / 64]? = some t→ts[k' / 64]? = some t'→C.F ⟨t.isC,t.n,k % 64⟩ b→C.F ⟨t'.isC,t'.n,k' % 64⟩ b→k=k':=by
   intro k k' t t' h1 h2 g1 g2
   have:=R.disj _ _ _ g1 g2
   injection this with e0 e1 e2
   have hnd:=distinct_nodup o1
   have e3:k / 64=k' / 64:=by
    refine (List.getElem?_inj (l:=ts.map fun r=>(r.isC,r.n)) ?_ hnd).1 ?_
    ·have:=(gSm h1).1
     simpa using this
    ·rw [List.getElem?_map,List.getElem?_map,h1,h2]
     simp [e0,e1]
   omega
  have resk:∀ (k:Nat) (t:RV) (i j:Nat),ts[k / 64]? = some t→C.F ⟨t.isC,t.n,k % 64⟩ b→cfg.keep i=true→C.F ⟨false,i,j⟩ b→False:=by
   intro k t i j h1 g1 hki g2
   have:=R.disj _ _ _ g1 g2
   injection this with e0 e1 _
   have hr:=o2 t (List.mem_of_getElem? h1)
   cases t with
   | tm t =>
    have e1:t=i:=e1
    subst e1
    have:=(resOk_t hr).1.1.1
    rw [hki] at this; cases this
   | ce c ty=>cases e0
  have resc:∀ (k:Nat) (t:RV) (i j:Nat),ts[k / 64]? = some t→i<cfg.np→C.F ⟨t.isC,t.n,k % 64⟩ b→C.F ⟨true,i,j⟩ b→False:=by
   intro k t i j h1 hi g1 g2
   have:=R.disj _ _ _ g1 g2
   injection this with e0 e1 _
   have hr:=o2 t (List.mem_of_getElem? h1)
   cases t with
   | tm t=>cases e0
   | ce c ty =>
    have e1:c=i:=e1
    have:=(resOk_c hr).2.2.1
    omega
  rcases h1 with ⟨a1,a2,a3,a4⟩ | ⟨a1,a2,a4⟩ | ⟨a1,a2,t,a3,a4⟩
  ·rcases h2 with ⟨c1,c2,c3,c4⟩ | ⟨c1,c2,c4⟩ | ⟨c1,c2,t',c3,c4⟩
   ·exact R.disj _ _ _ a4 c4
   ·exact R.disj _ _ _ a4 c4
   ·simp only at a1 a2 a3 a4 c1 c2 c3 c4; subst a1; exact (resk _ _ _ _ c3 c4 a3 a4).elim
  ·rcases h2 with ⟨c1,c2,c3,c4⟩ | ⟨c1,c2,c4⟩ | ⟨c1,c2,t',c3,c4⟩
   ·exact R.disj _ _ _ a4 c4
   ·exact R.disj _ _ _ a4 c4
   ·simp only at a1 a2 a4 c3; subst a1; exact (resc _ _ _ _ c3 a2 c4 a4).elim
  ·rcases h2 with ⟨c1,c2,c3,c4⟩ | ⟨c1,c2,c4⟩ | ⟨c1,c2,t',c3,c4⟩
   ·simp only at c1 c2 c3 c4; subst c1; exact (resk _ _ _ _ a3 a4 c3 c4).elim
   ·simp only at c1 c2 c4 a3; subst c1; exact (resc _ _ _ _ a3 c2 a4 c4).elim
   ·simp only at a1 a2 a3 a4 c1 c2 c3 c4
    have:=res pk qk t t' a3 c3 a4 c4
    rw [a1,a2,c1,c2,this]
 ·intro t ds t' ds' h1 h2 he
  exact R.cdisj t ds t' ds' (hlive _ _ h1).2 (hlive _ _ h2).2 he
 ·intro t ds p h1 hp
  obtain ⟨q,hq⟩:=hF p _ hp
  exact R.fcd t ds q (hlive _ _ h1).2 hq
 ·intro p b hp; obtain ⟨q,hq⟩:=hF p b hp; exact R.fbound q b hq
 ·intro p b hp; obtain ⟨q,hq⟩:=hF p b hp; exact R.flent q b hq
 ·intro t ds h1 hb i hi
  exact R.clent t ds (hlive _ _ h1).2 hb i hi
theorem run_loadVar_cells {P:Program} {w:World} {t:TypeId} {i:TI} (hT:TIok P t i) (hs:i.k.isStruct=true) {a:Addr} (cs:List Value) (hl:cs.length=i.size) (hc:∀ j v,cs[j]? = some v→w.cell? (a.add j)=some v) :
  (loadVar t a).run P w = .ok (.agg cs.toArray) w:=by
 have hload:=run_loadCells_list (P:=P) w a cs hc
 have hz:=hT.sizeOf w
 have hk:=hT.k
 unfold KOk at hk
 split at hk<;>rename_i hik<;>try (rw [hik] at hs; cases hs)
 obtain ⟨fs,hu,_⟩:=hk
 have hagg:(isAgg t).run P w = .ok true w:=by simp [isAgg,run_underlying hu]
 rw [←hl] at hz
 simp [loadVar,hagg,hz,hload]
theorem run_results {P:Program} {cfg:Cfg} {fn:Func} {ts:List RV} (h:fn.results=(ts.map RV.toR).toArray) {w0:World} {L:Nat→Nat→Prop} {C:Ctx} (R:Rel w0 L C) (hP:C.P=P) (hT:TabOk P cfg.tb)
  (hok:∀ t,t∈ts→resOk cfg C.E t=true):(results fn C.a.tmps).run P C.w = .ok (shutV C ts) C.w:=by
 have key:∀ (l:List RV),(∀ t,t∈l→resOk cfg C.E t=true)→((l.map RV.toR).mapM fun x=>(match x with
   | .tmp t=>pure (C.a.tmps.getD t undef)
   | .cell c t=>do loadVar t (←asAddr (C.a.tmps.getD c undef)):Go.Sem Value)).run P C.w = .ok (l.map (shutV1 C)) C.w:=by
  intro l hl
  induction l with
  | nil=>rfl
  | cons t l ih =>
   have ih:=ih (fun x hx=>hl x (List.mem_cons_of_mem _ hx))
   have h0:=hl t List.mem_cons_self
   have h1:((match RV.toR t with
    | .tmp t=>pure (C.a.tmps.getD t undef)
    | .cell c t=>do loadVar t (←asAddr (C.a.tmps.getD c undef)):Go.Sem Value)).run P C.w = .ok (shutV1 C t) C.w:=by
    cases t with
    | tm t=>rfl
    | ce c ty =>
     obtain ⟨q1,q2,q3,i,ds,q4,q5,q6,q7,q8⟩:=resOk_c h0
     have hl:C.live c ds:=by
      show C.E.ce[c]? = _
      rw [gDg] at q5
      cases hx:C.E.ce[c]? with
      | none=>rw [hx] at q5; cases q5
      | some y=>rw [hx] at q5; simp at q5; rw [q5]
     obtain ⟨cs,e,fr,a1,a2,a3,a4⟩:=(R.cell c ds hl).out
     have hs:=R.slot c (.cref c 0) (by rw [←q1,gDg,gEg q2]; rfl)
     have ev:C.a.tmps.getD c undef = .pointer (some ⟨(C.loc c).1,(C.loc c).2,none⟩):=by
      generalize C.a.tmps.getD c undef=vv at hs
      cases hs with
      | comp _ _ _ hc =>
       cases hc with
       | leaf _ _ a b c=>cases c; rfl
     show (do loadVar ty (←asAddr (C.a.tmps.getD c undef)):Go.Sem Value).run P C.w=_
     rw [ev]
     have e0:∀ j,j<ds.length→(C.w.cell? ⟨(C.loc c).1,(C.loc c).2+j,none⟩)=some (cs.getD ((C.loc c).2+j) undef):=by
      intro j hj
      rw [cell_of a1,getD_get? (by omega)]
     have hr:=run_loadVar_cells (w:=C.w) (hT ty i q4) q7 (a:=⟨(C.loc c).1,(C.loc c).2,none⟩) ((List.range ds.length).map fun j=>(C.w.cell? ⟨(C.loc c).1,(C.loc c).2+j,none⟩).getD undef) (by simp [q6]) (by
      intro j v hj
      rw [List.getElem?_map] at hj
      by_cases hlt:j<ds.length
      ·rw [List.getElem?_range hlt] at hj
       simp only [Option.map_some,Option.some.injEq] at hj
       rw [add_plain,←hj,e0 j hlt]; rfl
      ·rw [List.getElem?_eq_none (by simpa using hlt)] at hj; simp at hj)
     have e5:shutV1 C (.ce c ty) = .agg ((List.range ds.length).map fun j=>(C.w.cell? ⟨(C.loc c).1,(C.loc c).2+j,none⟩).getD undef).toArray:=by
      show Value.agg ((List.range ((C.E.ce.getD c none).getD []).length).map _).toArray=_
      rw [q5]; rfl
     rw [e5]
     simpa [asAddr] using hr
   simp only [List.map_cons,List.mapM_cons,Sem.run_bind,h1,Result.andThen_ok,ih,Sem.run_pure]
 unfold results
 rw [h]
 simp only [List.mapM_toArray,bind_pure_comp,Sem.run_map]
 refine (congrArg (fun r:Result (List Value)=>((r.andThen fun a w'=>Result.ok a.toArray w').andThen fun a w'=>Result.ok (if h:a.size=1 then a[0] else Value.tuple a) w')) (key ts hok)).trans ?_
 match ts with
 | []=>rfl
 | [t]=>rfl
 | t::u::r=>simp [shutV]
theorem sem_intro {P:Program} {cfg:Cfg} {f:FuncId} {fn:Func} {c:Code} {ts:List RV} (hT:TabOk P cfg.tb) (hf:P.funcs[f]? = some fn) (hname:(fn.name == "runtime.NumGoroutine")=false) (hb:fn.body=some c)
  (hres:fn.results=(ts.map RV.toR).toArray) {Ein Eout:Env} (hnp:Ein.sl.length=cfg.np) (hkeep:∀ t,cfg.keep t=true→t<cfg.np)
  (h:pwp P cfg c (Ein.pad (fn.ntmps-cfg.np)) fun e E=>(e = .normal∨e = .ret)∧∃ E',Wk E E'∧shutOk cfg ts E'=true∧shut cfg ts E'=Eout):Sem P f Ein Eout:=by
 intro w a F loc M R
 refine .inl ⟨by simp only [callFunc,Sem.run_bind,run_program,Result.andThen_ok,hf,hname,hb,Option.isNone_some,Bool.false_eq_true,if_false,Sem.run_pure],?_⟩
 have hsz:a.tmps.size=cfg.np:=by have:=R.tmps; rw [←hnp]; exact this
 have R1:=R.pad (fn.ntmps-cfg.np)
 refine calls_of_wp hf hb ?_
 rw [hsz]
 refine pwp_sound (op_ok hT) c _ _ _ R1 rfl h ?_
 rintro e C' R' hP' hl' hk' ⟨he,E',hw,hok,hE⟩
 obtain ⟨F2,R2⟩:=R'.weak' hw
 have hT2:TabOk C'.P cfg.tb:=by rw [show C'.P=P from hP']; exact hT
 have hres1:=run_results hres R2 hP' hT (fun t ht=>by
  have hok2:=hok
  simp only [shutOk,Bool.and_eq_true,List.all_eq_true] at hok2
  exact hok2.1.2 t ht)
 have R3:=R2.shut hT2 hok (args:=a.tmps) hsz (by
  intro t ht
  have:=hk'.1 t ht
  show C'.a.tmps.getD t undef=_
  rw [this]
  exact arr_pad a.tmps _ t)
 have fin:C'.a.defers=[]∧∃ v,(results fn C'.a.tmps).run P C'.w = .ok v C'.w∧(∃ v',Ending.returned v = .returned v'∧∃ F' loc',(∀ t,t<Ein.sl.length→loc' t=loc t) ∧
   Rel w (lentOf Ein F loc) ⟨P,Eout,{ tmps:=a.tmps.push v',defers:=[] },C'.w,F',loc',M⟩):=by
  refine ⟨R'.defers,_,hres1,_,rfl,shutF cfg ts F2,C'.loc,fun t ht=>hl' t (by rw [←hnp]; exact ht),?_⟩
  have hM:C'.M=M:=hk'.2
  clear hres1 R2
  obtain ⟨P1,E1,a1,w1,F1,l1,M1⟩:=C'
  simp only at hP' hM R3 hE
  subst hP'; subst hM
  rw [hE] at R3
  exact R3
 rcases he with rfl | rfl
 ·exact fin
 ·exact fin
theorem set_push (a:Array Value) (r:Value):(a++Array.replicate 1 undef).setIfInBounds a.size r=a.push r:=by
 cases a with
 | mk l =>
  apply Array.ext'
  simp [List.set_append_right]
theorem sem_ext {P:Program} {f:FuncId} {fn:Func} {e:Array Value→Go.Sem Value} {xs:List Value} {r:Value} (hf:P.funcs[f]? = some fn) (hname:(fn.name == "runtime.NumGoroutine")=false)
  (hb:fn.body.isNone=true) (hn:Extern.findNext fn=none) (he:Extern.find fn=some e) (hx:∀ w,(e xs.toArray).run P w = .ok r w) (hs:scal r=true) (hsx:xs.all scal=true) (ho:one r=true) {ce:List (Option (List D))} (hce:ce.length=xs.length) :
  Sem P f ⟨xs.map .v,ce⟩ ⟨xs.map .v++[.v r],ce++[none]⟩:=by
 intro w a F loc M R
 have hl:a.tmps.size=xs.length:=by have:=R.tmps; simpa using this
 have ha:a.tmps=xs.toArray:=by
  apply Array.ext
  ·simpa using hl
  ·intro i h1 h2
   have hi:i<xs.length:=by omega
   have hd:(xs.map D.v)[i]? = some (.v xs[i]):=by rw [List.getElem?_map,gEg hi]; rfl
   have:=R.slot i _ hd
   have ev:a.tmps.getD i undef=a.tmps[i]:=by simp [Array.getD,h1]
   have this:SRel _ i (.v xs[i]) (a.tmps.getD i undef):=this
   rw [ev] at this
   generalize a.tmps[i]=v0 at this
   generalize hx0:xs[i]=x0 at this
   cases this with
   | comp _ _ _ hc=>cases hc with | leaf _ _ _ _ c=>cases c; simp [hx0]
 refine .inr ⟨r,w,?_,F,loc,fun _ _=>rfl,?_⟩
 ·have hm:=hx w
  rw [←ha] at hm
  simp only [callFunc,Sem.run_bind,run_program,Result.andThen_ok,hf,hname,hb,hn,he,Bool.false_eq_true,if_false,if_true,run_mark,bind_pure_comp,Sem.run_map,hm]
 ·have R1:=R.pad 1
  have hlen:(xs.map D.v).length=xs.length:=by simp
  have R2:=R1.put1 xs.length (.v r) r (by
   show ((xs.map D.v++List.replicate 1 D.dead).getD xs.length .dead).anyOwn=false
   rw [gDg,List.getElem?_append_right (by simp)]
   simp [D.anyOwn,D.comps,D.leaves1,D.isOwn]) (.comp _ _ rfl (.leaf _ _ _ rfl ho (.v _ _ hs)))
  have e1:(xs.map D.v++List.replicate 1 D.dead).set xs.length (.v r)=xs.map D.v++[.v r]:=by
   rw [List.set_append_right _ _ (by simp)]
   simp
  have e2:(a.tmps++Array.replicate 1 undef).setIfInBounds xs.length r=a.tmps.push r:=by
   rw [←hl]
   exact set_push a.tmps r
  have R3:Rel w (lentOf ⟨xs.map .v,ce⟩ F loc) { P:=P,E:=⟨(xs.map D.v++List.replicate 1 D.dead).set xs.length (.v r),ce++List.replicate 1 none⟩,a:={ tmps:=(a.tmps++Array.replicate 1 undef).setIfInBounds xs.length r,defers:=[] },w:=w,F:=F,loc:=loc,M:=M }:=R2
  rw [e1,e2] at R3
  exact R3
theorem sem_indexByteString {P:Program} {f:FuncId} {fn:Func} (hf:P.funcs[f]? = some fn) (hname:(fn.name == "runtime.NumGoroutine")=false)
  (hb:fn.body.isNone=true) (hn:Extern.findNext fn=none) (he:Extern.find fn=some Extern.BytealgIndexByte.indexByte) (l:List UInt8) (c:Int) (hl:l.length≤9223372036854775807) :
  Sem P f ⟨[.v (vS l),.v (vC c)],[none,none]⟩ ⟨[.v (vS l),.v (vC c),.v (vI (Lib.indexByte l c.toNat.toUInt8))],[none,none,none]⟩ :=
 sem_ext (xs:=[vS l,vC c]) hf hname hb hn he (fun w=>Lib.run_indexByteString (ofL l) c w) rfl (by simp [scal,vS,vC]; exact hl) rfl rfl
theorem sem_calls {P:Program} {f:FuncId} {Ein:Env} {r:Value} (hent:∀ args w,(callFunc f args).run P w = .ok (.enter f args) w) (hce:Ein.ce.length=Ein.sl.length) (hs:scal r=true) (ho:one r=true)
  (h:∀ (w:World) (a:Act) (F:Lf→Nat→Prop) (loc:Nat→Nat × Nat) (M:Nat→Prop),Rel w (lentOf Ein F loc) ⟨P,Ein,a,w,F,loc,M⟩→Calls P f a.tmps w fun e w'=>e = .returned r∧RowKit.Below w.heap.size w w') :
  Sem P f Ein ⟨Ein.sl++[.v r],Ein.ce++[none]⟩:=by
 intro w a F loc M R
 refine .inl ⟨hent _ _,(h w a F loc M R).mono ?_⟩
 rintro e w' ⟨rfl,hb⟩
 refine ⟨r,rfl,F,loc,fun _ _=>rfl,?_⟩
 have hl:a.tmps.size=Ein.sl.length:=R.tmps
 have R0:=R.drew (w':=w') ⟨hb.os,hb.tape,hb.output,hb.size,hb.block⟩
 have R1:=R0.pad 1
 have R2:=R1.put1 Ein.sl.length (.v r) r (by
  show ((Ein.sl++List.replicate 1 D.dead).getD Ein.sl.length .dead).anyOwn=false
  rw [gDg,List.getElem?_append_right (Nat.le_refl _)]
  simp [D.anyOwn,D.comps,D.leaves1,D.isOwn]) (.comp _ _ rfl (.leaf _ _ _ rfl ho (.v _ _ hs)))
 have e1:(Ein.sl++List.replicate 1 D.dead).set Ein.sl.length (.v r)=Ein.sl++[.v r]:=by
  rw [List.set_append_right _ _ (Nat.le_refl _)]
  simp
 have e2:(a.tmps++Array.replicate 1 undef).setIfInBounds Ein.sl.length r=a.tmps.push r:=by
  rw [←hl]
  exact set_push a.tmps r
 have R3:Rel w (lentOf Ein F loc) { P:=P,E:=⟨(Ein.sl++List.replicate 1 D.dead).set Ein.sl.length (.v r),Ein.ce++List.replicate 1 none⟩,a:={ tmps:=(a.tmps++Array.replicate 1 undef).setIfInBounds Ein.sl.length r,defers:=[] },w:=w',F:=F,loc:=loc,M:=M }:=R2
 rw [e1,e2] at R3
 exact R3
theorem strs_of {P:Program} {w:World} {S:Nat→Prop} {e:TypeId} {vs:List (List UInt8)} {v:Value} (he:P.cellsOf e=1) (h:RdT P w S (.sl e (vs.map fun s=>[T.v (vS s)])) v) :
  (vs=[]∧∃ base cap,v = .slice base 0 cap)∨∃ b o cap,v = .slice (some ⟨b,o,none⟩) (vs.map ofL).length cap∧b<w.heap.size∧(vs.map ofL).length≤cap∧∀ (j:Nat) x,(vs.map ofL)[j]? = some x→w.cell? ⟨b,o+j,none⟩=some (.string x):=by
 generalize hx:vs.map (fun s=>[T.v (vS s)])=xs at h
 cases h with
 | mp l es r ck h1 h2 h3 h4 =>
  exfalso
  match vs,hx with
  | [s],hx=>simp [mapV] at hx
 | emp _ base cap hc =>
  left
  refine ⟨?_,base,cap,rfl⟩
  cases vs with
  | nil=>rfl
  | cons=>simp at hx
 | row _ _ b o cap cs ce fr X h1 h2 h3 h4 h5 h6 h7 h8 =>
  right
  have hlen:(vs.map ofL).length=xs.length:=by rw [←hx]; simp
  refine ⟨b,o,cap,by rw [hlen],(Array.getElem?_eq_some_iff.1 h1).1,by rw [hlen]; exact h3,fun j x hj => ?_⟩
  rw [List.getElem?_map] at hj
  cases hv:vs[j]? with
  | none=>rw [hv] at hj; simp at hj
  | some s =>
   rw [hv] at hj
   simp only [Option.map_some,Option.some.injEq] at hj
   subst hj
   have hg:T.get? xs j 0=some (.v (vS s)):=by
    unfold T.get?
    rw [←hx,List.getElem?_map,hv]; rfl
   have a1:=h6 j 0 _ hg
   have a2:=h7 j 0 _ hg
   rw [he,Nat.mul_one,Nat.add_zero] at a1
   have e:X j 0=vS s:=by
    generalize X j 0=y at a2
    cases a2; rfl
   rw [cell_of h1,a1,e]
theorem slot_of {P:Program} {Ein:Env} {a:Act} {w w0:World} {F:Lf→Nat→Prop} {loc:Nat→Nat × Nat} {M:Nat→Prop} {L:Nat→Nat→Prop} (R:Rel w0 L ⟨P,Ein,a,w,F,loc,M⟩) {i:Nat} {d:D} (h:Ein.sl[i]? = some d) (hd:d.leafy=true) (hn:d ≠ .dead) :
  LRel ⟨P,Ein,a,w,F,loc,M⟩ ⟨false,i,0⟩ d (a.tmps.getD i undef):=by
 have:=R.slot i d h
 have this:SRel _ i d (a.tmps.getD i undef):=this
 generalize a.tmps.getD i undef=v at this
 cases this with
 | tup=>simp [D.leafy] at hd
 | comp _ _ _ hc =>
  cases hc with
  | dead=>exact absurd rfl hn
  | agg=>simp [D.leafy] at hd
  | leaf _ _ a b c=>exact c
def C0 (P:Program) (E:Env) (args:Array Value) (w:World):Ctx:={ P,E,a:={ tmps:=args,defers:=[] },w,F:=fun _ _=>False,loc:=fun _=>(0,0),M:=fun _=>True }
theorem GlobOk.same {P:Program} {w w':World} (h:GlobOk P w) (hw:∀ b,b<w.heap.size→w'.heap[b]? = w.heap[b]?):GlobOk P w':=by
 refine ⟨?_,?_⟩
 ·intro x hx hn
  have:=h.1 x hx hn
  unfold Lib.TabIs World.var? at this ⊢
  cases hg:P.globalNamed (tabName x.1) with
  | none=>exact absurd hg hn
  | some g =>
   rw [hg] at this
   simp only [Option.bind_some] at this ⊢
   have hlt:g<w.heap.size:=by
    rcases Nat.lt_or_ge g w.heap.size with h | h
    ·exact h
    ·rw [Array.getElem?_eq_none h] at this; cases this
   rw [hw g hlt]
   exact this
 ·intro x hx g hg
  obtain ⟨v,hv,hp⟩:=h.2 x hx g hg
  refine ⟨v,?_,hp⟩
  have hlt:g<w.heap.size:=by
   rcases Nat.lt_or_ge g w.heap.size with h | h
   ·exact h
   ·unfold World.cell? at hv
    simp only [Array.getElem?_eq_none h] at hv
    cases hv
  unfold World.cell? at hv ⊢
  simp only [hw g hlt]
  exact hv
theorem glob_start {P:Program} {w:World} {L:Nat→Nat→Prop} (h:GlobOk P w) (hL:∀ b o,¬ L b o):Glob P w L :=
 ⟨w.heap.size,Nat.le_refl _,fun b o hl=>absurd hl (hL b o),fun _ hw=>h.same hw⟩
theorem Rel.start {P:Program} {ds:List D} {args:Array Value} {w:World} (hl:args.size=ds.length) (h:∀ (i:Nat) (d:D),ds[i]? = some d→SRel (C0 P ⟨ds,List.replicate ds.length none⟩ args w) i d (args.getD i undef)) (hg:GlobOk P w) :
  Rel w (lentOf ⟨ds,List.replicate ds.length none⟩ (fun _ _=>False) (fun _=>(0,0))) (C0 P ⟨ds,List.replicate ds.length none⟩ args w):=by
 have hnl:∀ t ds',¬ (C0 P ⟨ds,List.replicate ds.length none⟩ args w).live t ds':=by
  intro t ds' h
  have h:(List.replicate ds.length none)[t]? = some (some ds'):=h
  rw [List.getElem?_replicate] at h
  split at h<;>simp at h
 refine ⟨hl,rfl,h,fun t ds' hl=>absurd hl (hnl t ds'),fun _ _ _ h=>h.elim,fun _ _ _ _ h=>absurd h (hnl _ _),fun _ _ _ _ h=>h.elim,fun _ _ h=>h.elim,fun _ _ h=>h.elim,
  fun _ _ h=>absurd h (hnl _ _),⟨rfl,rfl,rfl,Nat.le_refl _,fun _ _ _=>rfl,fun b cs e fr h=>⟨cs,h,rfl,fun _ _=>rfl⟩⟩,fun _ _=>trivial,fun _ _ _=>trivial,glob_start hg fun b o => ?_⟩
 rintro (⟨p,hp⟩ | ⟨t,ds',h,_⟩)
 ·exact hp
 ·exact hnl t ds' h
theorem rd_imm {P:Program} {E:Env} {args:Array Value} {w:World} {e:TypeId} {xs:List (List T)} {v:Value} {p:Lf} (hE:∀ (t:Nat) (ds:List D),E.ce[t]? ≠ some (some ds)) (h:RdT P w (fun _=>True) (.sl e xs) v):LRel (C0 P E args w) p (.imm e xs) v:=by
 refine .imm _ _ _ _ (h.mono fun b _ hb=>⟨⟨?_,trivial⟩,rfl⟩)
 rintro (⟨p,hp⟩ | ⟨t,ds,hl,_⟩)
 ·exact hp
 ·exact hE t ds hl
theorem calls_of_sem {P:Program} {f:FuncId} {ds:List D} {args:Array Value} {w:World} {Eout:Env} {r:Value} (hs:Sem P f ⟨ds,List.replicate ds.length none⟩ Eout) (hent:∀ args w,(callFunc f args).run P w = .ok (.enter f args) w) (hg:GlobOk P w)
  (hl:args.size=ds.length) (h:∀ (i:Nat) (d:D),ds[i]? = some d→SRel (C0 P ⟨ds,List.replicate ds.length none⟩ args w) i d (args.getD i undef)) (hr:Eout.sl[ds.length]? = some (.v r)) :
  Calls P f args w fun e w'=>e = .returned r∧RowKit.Below w.heap.size w w':=by
 have:=hs w { tmps:=args,defers:=[] } (fun _ _=>False) (fun _=>(0,0)) (fun _=>True) (Rel.start hl h hg)
 rcases this with ⟨_,hc⟩ | ⟨v,w',hx,_⟩
 ·refine Calls.mono hc ?_
  rintro e w' ⟨v,rfl,F',loc',hloc,R⟩
  have hnl:∀ b o,¬ lentOf ⟨ds,List.replicate ds.length none⟩ (fun _ _=>False) (fun _=>(0,0)) b o:=by
   rintro b o (⟨p,hp⟩ | ⟨t,ds',h,_⟩)
   ·exact hp
   ·have h:(List.replicate ds.length none)[t]? = some (some ds'):=h
    rw [List.getElem?_replicate] at h
    split at h<;>simp at h
  refine ⟨?_,R.frame.os,R.frame.tape,R.frame.output,R.frame.size,fun b hb=>R.frame.kept b hb (hnl b)⟩
  have hv:=R.slot _ _ hr
  have ev:({ tmps:=args.push v,defers:=[] }:Act).tmps.getD ds.length undef=v:=by
   show (args.push v).getD ds.length undef=v
   rw [←hl,arrGetD]; simp
  have hv:SRel _ ds.length (.v r) (({ tmps:=args.push v,defers:=[] }:Act).tmps.getD ds.length undef):=hv
  rw [ev] at hv
  cases hv with
  | comp _ _ _ hc=>cases hc with | leaf _ _ a b c=>cases c; rfl
 ·rw [hent] at hx; cases hx
inductive Sh where
 | int (k:IntKind)
 | bool
 | str
 | sl (e:TypeId) (fs:List Sh)
def Sh.isSl:Sh→Bool | .sl _ _=>true | _=>false
inductive ShT (P:Program):TypeId→List Sh→Prop
 | int (t:TypeId) (k:IntKind):P.underlying t=some (.int k)→P.cellsOf t=1→ShT P t [.int k]
 | bool (t:TypeId):P.underlying t=some .bool→P.cellsOf t=1→ShT P t [.bool]
 | str (t:TypeId):P.underlying t=some .string→P.cellsOf t=1→ShT P t [.str]
 | slice (t e:TypeId) (fs:List Sh):P.underlying t=some (.slice e)→P.cellsOf t=1→0<fs.length→(flatP P e=true→fs.all (fun s => !s.isSl)=true)→ShT P e fs→ShT P t [.sl e fs]
 | struct (t:TypeId) (fs:Array Field) (shs:List (List Sh)):P.underlying t=some (.struct fs)→P.cellsOf t=shs.flatten.length→shs.length=fs.size →
   (∀ (i:Nat) (f:Field) (s:List Sh),fs[i]? = some f→shs[i]? = some s→f.offset=(shs.take i).flatten.length∧P.cellsOf f.type=s.length) →
   (∀ (i:Nat) (f:Field) (s:List Sh),fs[i]? = some f→shs[i]? = some s→ShT P f.type s)→ShT P t shs.flatten
inductive WT:Sh→T→Prop
 | int (k:IntKind) (n:Int):(Lit.int k n).wf=true→WT (.int k) (.v (.int k n))
 | bool (b:Bool):WT .bool (.v (.bool b))
 | str (s:ByteArray):s.size≤maxLen→WT .str (.v (.string s))
 | sl (e:TypeId) (fs:List Sh) (xs:List (List T)):xs.length≤maxLen→(∀ (i:Nat) (r:List T),xs[i]? = some r→r.length=fs.length) →
   (∀ (i j:Nat) (r:List T) (f:Sh) (t:T),xs[i]? = some r→fs[j]? = some f→r[j]? = some t→WT f t)→WT (.sl e fs) (.sl e xs)
def WTs (fs:List Sh) (r:List T):Prop:=r.length=fs.length∧∀ (j:Nat) (f:Sh) (t:T),fs[j]? = some f→r[j]? = some t→WT f t
theorem WTs.cons {f:Sh} {fs:List Sh} {r:List T} (h:WTs (f::fs) r):∃ t r',r=t::r'∧WT f t∧WTs fs r':=by
 obtain ⟨h1,h2⟩:=h
 cases r with
 | nil=>simp at h1
 | cons t r'=>exact ⟨t,r',rfl,h2 0 f t rfl rfl,by simpa using h1,fun j f t hf ht=>h2 (j+1) f t hf ht⟩
theorem WTs.nil {r:List T} (h:WTs [] r):r=[]:=List.eq_nil_of_length_eq_zero h.1
theorem WT.int_inv {k:IntKind} {t:T} (h:WT (.int k) t):∃ n,t = .v (.int k n)∧(Lit.int k n).wf=true:=by cases h; exact ⟨_,rfl,by assumption⟩
theorem WT.sl_inv {e:TypeId} {fs:List Sh} {t:T} (h:WT (.sl e fs) t):∃ xs,t = .sl e xs∧xs.length≤9223372036854775807∧∀ r,r∈xs→WTs fs r:=by
 cases h with
 | sl _ _ xs h1 h2 h3 =>
  refine ⟨xs,rfl,h1,fun r hr => ?_⟩
  obtain ⟨i,hi,rfl⟩:=List.mem_iff_getElem.1 hr
  have:=gEg hi
  exact ⟨h2 i _ this,fun j f t hf ht=>h3 i j _ f t this hf ht⟩
def CRd (P:Program) (w:World) (fs:List Sh) (cs:List Value) (r:List T):Prop :=
 cs.length=fs.length∧WTs fs r∧∀ (j:Nat) (t:T),r[j]? = some t→∃ v,cs[j]? = some v∧one v=true∧RdT P w (fun _=>True) t v
theorem crd1 {P:Program} {w:World} {f:Sh} {v:Value} {t:T} (h1:WT f t) (h2:one v=true) (h3:RdT P w (fun _=>True) t v):CRd P w [f] [v] [t]:=by
 refine ⟨rfl,⟨rfl,fun j g s hg hs => ?_⟩,fun j s hs => ?_⟩
 ·match j,hg,hs with
  | 0,hg,hs=>injection hg with hg; injection hs with hs; subst hg; subst hs; exact h1
 ·match j,hs with
  | 0,hs=>injection hs with hs; subst hs; exact ⟨v,rfl,h2,h3⟩
theorem chooseL {α:Type} [Inhabited α] {n:Nat} {p:Nat→α→Prop} (h:∀ i,i<n→∃ x,p i x):∃ l:List α,l.length=n∧∀ (i:Nat) (x:α),l[i]? = some x→p i x:=by
 induction n with
 | zero=>exact ⟨[],rfl,fun i x hx=>by simp at hx⟩
 | succ n ih =>
  obtain ⟨l,h1,h2⟩:=ih fun i hi=>h i (by omega)
  obtain ⟨x,hx⟩:=h n (by omega)
  refine ⟨l++[x],by simp [h1],fun i y hy => ?_⟩
  by_cases hi:i<l.length
  ·rw [List.getElem?_append_left hi] at hy; exact h2 i y hy
  ·rw [List.getElem?_append_right (by omega)] at hy
   have:i-l.length=0:=by
    by_cases hz:i-l.length=0
    ·exact hz
    ·rw [List.getElem?_eq_none (by simp; omega)] at hy; cases hy
   rw [this] at hy
   injection hy with hy; subst hy
   have:i=n:=by omega
   subst this; exact hx
theorem flat_get {α:Type}:∀ (ls:List (List α)) (k:Nat) (x:α),ls.flatten[k]? = some x→∃ (i j:Nat) (l:List α),ls[i]? = some l∧l[j]? = some x∧k=(ls.take i).flatten.length+j
 | [],k,x,h=>by simp at h
 | l::ls,k,x,h=>by
  rw [List.flatten_cons] at h
  by_cases hk:k<l.length
  ·rw [List.getElem?_append_left hk] at h
   exact ⟨0,k,l,rfl,h,by simp⟩
  ·rw [List.getElem?_append_right (by omega)] at h
   obtain ⟨i,j,l',h1,h2,h3⟩:=flat_get ls (k-l.length) x h
   exact ⟨i+1,j,l',h1,h2,by rw [List.take_succ_cons,List.flatten_cons,List.length_append]; omega⟩
theorem flat_at {α:Type}:∀ (ls:List (List α)) (i j:Nat) (l:List α) (x:α),ls[i]? = some l→l[j]? = some x→ls.flatten[(ls.take i).flatten.length+j]? = some x
 | [],i,j,l,x,h,_=>by simp at h
 | m::ls,0,j,l,x,h,hx=>by
  injection h with h; subst h
  rw [List.flatten_cons]
  have:j<m.length:=(gSm hx).1
  simp only [List.take_zero,List.flatten_nil,List.length_nil,Nat.zero_add]
  rw [List.getElem?_append_left this]; exact hx
 | m::ls,i+1,j,l,x,h,hx=>by
  rw [List.flatten_cons,List.take_succ_cons,List.flatten_cons,List.length_append,Nat.add_assoc,List.getElem?_append_right (by omega),Nat.add_sub_cancel_left]
  exact flat_at ls i j l x h hx
theorem take_len_eq {α β:Type}:∀ (a:List (List α)) (b:List (List β)) (n:Nat),a.length=b.length→(∀ (i:Nat) (x:List α) (y:List β),a[i]? = some x→b[i]? = some y→x.length=y.length)→(a.take n).flatten.length=(b.take n).flatten.length
 | [],[],n,_,_=>by simp
 | [],_::_,n,h,_=>by simp at h
 | _::_,[],n,h,_=>by simp at h
 | x::a,y::b,0,_,_=>by simp
 | x::a,y::b,n+1,h,h2=>by
  simp only [List.take_succ_cons,List.flatten_cons,List.length_append]
  rw [h2 0 x y rfl rfl,take_len_eq a b n (by simpa using h) fun i x y hx hy=>h2 (i+1) x y hx hy]
theorem read_trod {H:Type} {enc:TypeId × Value→H} {P:Program} {w:World} {base:Nat} {spare:Nat→Bool} {held:Bool} {t:TypeId} {fs:List Sh} (hs:ShT P t fs) :
  ∀ {fuel:Nat} {cs:List Value} {x:DataW H × List MemPlace},DataW.trod enc P w base spare held fuel t cs=some x→∃ r,CRd P w fs cs r:=by
 induction hs with
 | int t k hu hc =>
  intro fuel cs x h
  obtain ⟨n,rfl,_,hw⟩:=DataW.trod_int hu h
  exact ⟨[.v (.int k n)],crd1 (.int k n hw) rfl (.v _ rfl)⟩
 | bool t hu hc =>
  intro fuel cs x h
  obtain ⟨b,rfl,_⟩:=DataW.trod_bool hu h
  exact ⟨[.v (.bool b)],crd1 (.bool b) rfl (.v _ rfl)⟩
 | str t hu hc =>
  intro fuel cs x h
  obtain ⟨s,rfl,_,hw⟩:=DataW.trod_string hu h
  exact ⟨[.v (.string s)],crd1 (.str s hw) rfl (.v _ (by simp only [scal,decide_eq_true_eq]; unfold maxLen at hw; omega))⟩
 | slice t e fs hu hc hpos hfl hsh ih =>
  intro fuel cs x h
  rcases Deep.open_slice hu h with ⟨rfl,_⟩ | ⟨a,len,cap,m,n,D,Pl,rfl,hb,hlc,hcm,hm,_,hx⟩
  ·exact ⟨[.sl e []],crd1 (.sl e fs [] (by simp) (fun i r h=>by simp at h) (fun i j r f t h=>by simp at h)) rfl (.emp e none 0 (by omega))⟩
  ·have hcap:cap≤9223372036854775807:=by unfold maxLen at hcm; omega
   by_cases h0:len=0
   ·subst h0
    exact ⟨[.sl e []],crd1 (.sl e fs [] (by simp) (fun i r h=>by simp at h) (fun i j r f t h=>by simp at h)) rfl (.emp e (some a) cap hcap)⟩
   ·have hrow:∀ i,i<len→∃ r:List T,∃ cs',w.cells? base (a.add (i*P.cellsOf e)) (P.cellsOf e)=some cs'∧CRd P w fs cs' r:=by
     intro i hi
     obtain ⟨cs',h1,h2⟩:=hx i (by rw [hm]; split<;>omega)
     obtain ⟨r,hr⟩:=ih h2
     exact ⟨r,cs',h1,hr⟩
    obtain ⟨xs,hxl,hxs⟩:=chooseL hrow
    subst hxl
    have hsz:P.cellsOf e=fs.length:=by
     obtain ⟨r,cs',h1,h2⟩:=hrow 0 (by omega)
     have:=(World.cells?_some h1).2.1
     rw [←this,h2.1]
    have hfst:∃ v,w.cell? a=some v:=by
     obtain ⟨r,cs',h1,h2⟩:=hrow 0 (by omega)
     obtain ⟨_,g1,g2⟩:=World.cells?_some h1
     have:=g2 0 (by omega)
     have e0:(a.add (0*P.cellsOf e)).add 0=a:=by simp [Addr.add]
     rw [e0] at this
     rw [this]
     exact ⟨_,gEg (by omega)⟩
    obtain ⟨v0,hv0⟩:=hfst
    have hspot:=World.cell?_spot hv0
    obtain ⟨b,o,sp⟩:=a
    have hspot:sp=none:=hspot
    subst hspot
    have hblk:∃ ca ce fr,w.heap[b]? = some (.cells ca ce fr):=by
     unfold World.cell? at hv0
     split at hv0
     ·rename_i ca ce fr hh
      exact ⟨ca,ce,fr,hh⟩
     ·cases hv0
    obtain ⟨ca,ce,fr,hblk⟩:=hblk
    have hcell:∀ (i j:Nat) (t:T),T.get? xs i j=some t→∃ v,ca[o+i*P.cellsOf e+j]? = some v∧RdT P w (fun _=>True) t v:=by
     intro i j t ht
     obtain ⟨r,hr,hj⟩:∃ r,xs[i]? = some r∧r[j]? = some t:=by
      unfold T.get? at ht
      cases hh:xs[i]? with
      | none=>rw [hh] at ht; cases ht
      | some r=>rw [hh] at ht; exact ⟨r,rfl,ht⟩
     obtain ⟨cs',g1,g2⟩:=hxs i r hr
     obtain ⟨v,hv,_,hrd⟩:=g2.2.2 j t hj
     refine ⟨v,?_,hrd⟩
     have hjl:j<cs'.length:=(gSm hv).1
     obtain ⟨_,k1,k2⟩:=World.cells?_some g1
     have:=k2 j (by omega)
     rw [hv] at this
     have e1:((⟨b,o,none⟩:Addr).add (i*P.cellsOf e)).add j=⟨b,o+i*P.cellsOf e+j,none⟩:=by rw [add_plain,add_plain]
     rw [e1,cell_of hblk] at this
     exact this
    have hval:∀ i j,∃ v,∀ t,T.get? xs i j=some t→ca[o+i*P.cellsOf e+j]? = some v∧RdT P w (fun _=>True) t v:=by
     intro i j
     cases hh:T.get? xs i j with
     | none=>exact ⟨undef,fun t ht=>by cases ht⟩
     | some t =>
      obtain ⟨v,hv⟩:=hcell i j t hh
      exact ⟨v,fun s hs=>by injection hs with hs; subst hs; exact hv⟩
    refine ⟨[.sl e xs],crd1 (.sl e fs xs (by unfold maxLen at hcm ⊢; omega) (fun i r hr => ?_) (fun i j r f t hr hf ht => ?_)) rfl
     (.row e xs b o cap ca ce fr (fun i j=>(hval i j).choose) hblk trivial hlc hcap (fun i r hr => ?_) (fun i j t ht=>((hval i j).choose_spec t ht).1) (fun i j t ht=>((hval i j).choose_spec t ht).2) ?_)⟩
    ·obtain ⟨cs',_,g⟩:=hxs i r hr; exact g.2.1.1
    ·obtain ⟨cs',_,g⟩:=hxs i r hr; exact g.2.1.2 j f t hf ht
    ·obtain ⟨cs',_,g⟩:=hxs i r hr; rw [hsz]; exact g.2.1.1
    ·intro hf i j t ht
     obtain ⟨r,hr,hj⟩:∃ r,xs[i]? = some r∧r[j]? = some t:=by
      unfold T.get? at ht
      cases hh:xs[i]? with
      | none=>rw [hh] at ht; cases ht
      | some r=>rw [hh] at ht; exact ⟨r,rfl,ht⟩
     obtain ⟨cs',_,g⟩:=hxs i r hr
     have hjl:j<fs.length:=by have:=(gSm hj).1; rw [g.2.1.1] at this; exact this
     have hw:=g.2.1.2 j _ t (gEg hjl) hj
     have hns:=List.all_eq_true.1 (hfl hf) _ (List.getElem_mem hjl)
     generalize fs[j]=f at hw hns
     cases hw<;>first | rfl | simp [Sh.isSl] at hns
 | struct t fa shs hu hc hl hoff hsh ih =>
  intro fuel cs x h
  obtain ⟨xs,n,_,_,hcl,hxl,hf⟩:=DataW.trod_struct hu h
  have hrow:∀ i,i<shs.length→∃ r:List T,∃ s f,shs[i]? = some s∧fa[i]? = some f∧CRd P w s ((cs.drop f.offset).take (P.cellsOf f.type)) r:=by
   intro i hi
   have h1:=gEg hi
   have h2:fa[i]? = some fa[i]:=Array.getElem?_eq_getElem (by omega)
   have h3:=hf i _ h2
   rw [gEg (by omega)] at h3
   obtain ⟨r,hr⟩:=ih i _ _ h2 h1 h3
   exact ⟨r,_,_,h1,h2,hr⟩
  obtain ⟨rs,hrl,hrs⟩:=chooseL hrow
  have hlen:∀ (i:Nat) (x:List T) (y:List Sh),rs[i]? = some x→shs[i]? = some y→x.length=y.length:=by
   intro i x y hx hy
   obtain ⟨s,f,g1,g2,g3⟩:=hrs i x hx
   rw [hy] at g1; injection g1 with g1; subst g1
   exact g3.2.1.1
  have hall:rs.flatten.length=shs.flatten.length:=by
   have:=take_len_eq rs shs rs.length hrl hlen
   rw [List.take_length,hrl,List.take_length] at this
   exact this
  refine ⟨rs.flatten,by rw [hcl,hc],⟨hall,fun j f t hj ht => ?_⟩,fun j t ht => ?_⟩
  ·obtain ⟨i,k,r,g1,g2,g3⟩:=flat_get rs j t ht
   obtain ⟨s,fd,k1,k2,k3⟩:=hrs i r g1
   have hks:k<s.length:=by have:=(gSm g2).1; rw [k3.2.1.1] at this; exact this
   have:=flat_at shs i k s _ k1 (gEg hks)
   rw [←take_len_eq rs shs i hrl hlen,←g3,hj] at this
   injection this with this
   rw [this]
   exact k3.2.1.2 k _ t (gEg hks) g2
  ·obtain ⟨i,k,r,g1,g2,g3⟩:=flat_get rs j t ht
   obtain ⟨s,fd,k1,k2,k3⟩:=hrs i r g1
   obtain ⟨v,hv,hv1,hv2⟩:=k3.2.2 k t g2
   refine ⟨v,?_,hv1,hv2⟩
   obtain ⟨o1,o2⟩:=hoff i fd s k2 k1
   have hkl:k<P.cellsOf fd.type:=by
    have:=(gSm hv).1
    simp at this; omega
   rw [List.getElem?_take_of_lt hkl,List.getElem?_drop,o1,←take_len_eq rs shs i hrl hlen,←g3] at hv
   exact hv
def bnd {α:Type} (d:D) (k:D→Rdr α):Rdr α:=k d
theorem bnd_v {α:Type} {x:Value} {k:D→Rdr α}:bnd (.v x) k=k (.v x):=id rfl
theorem bnd_dead {α:Type} {k:D→Rdr α}:bnd .dead k=k .dead:=id rfl
theorem bnd_nil {α:Type} {k:D→Rdr α}:bnd .nil k=k .nil:=id rfl
theorem bnd_own {α:Type} {e:TypeId} {xs:List (List T)} {k:D→Rdr α}:bnd (.own e xs) k=k (.own e xs):=id rfl
theorem bnd_imm {α:Type} {e:TypeId} {xs:List (List T)} {k:D→Rdr α}:bnd (.imm e xs) k=k (.imm e xs):=id rfl
theorem bnd_ali {α:Type} {p:Lf} {k:D→Rdr α}:bnd (.ali p) k=k (.ali p):=id rfl
theorem bnd_sub {α:Type} {p:Lf} {a b:Nat} {k:D→Rdr α}:bnd (.sub p a b) k=k (.sub p a b):=id rfl
theorem bnd_cref {α:Type} {a b:Nat} {k:D→Rdr α}:bnd (.cref a b) k=k (.cref a b):=id rfl
theorem bnd_eref {α:Type} {p:Lf} {a b:Nat} {k:D→Rdr α}:bnd (.eref p a b) k=k (.eref p a b):=id rfl
theorem bnd_rptr {α:Type} {ds:List D} {k:D→Rdr α}:bnd (.rptr ds) k=k (.rptr ds):=id rfl
theorem bnd_agg {α:Type} {ds:List D} {k:D→Rdr α}:bnd (.agg ds) k=k (.agg ds):=id rfl
theorem bnd_tup {α:Type} {ds:List D} {k:D→Rdr α}:bnd (.tup ds) k=k (.tup ds):=id rfl
theorem bnd_clo {α:Type} {f:FuncId} {ds:List D} {k:D→Rdr α}:bnd (.clo f ds) k=k (.clo f ds):=id rfl
theorem all_congr {α:Type} {k:Env→Rdr α}:Rdr.all k=Rdr.all k:=rfl
theorem len_congr {α:Type} {k:Nat→Rdr α}:Rdr.len k=Rdr.len k:=rfl
theorem opdR_congr {α:Type} {x:Operand} {k:D→Rdr α}:opdR x k=opdR x k:=rfl
theorem ev_slot {α:Type} {E:Env} {t:Nat} {k:D→Rdr α} {Q:α→Prop}:(Rdr.slot t k).wp E Q=(bnd (E.sl.getD t .dead) k).wp E Q:=id rfl
theorem ev_tmp {α:Type} {E:Env} {t:Nat} {k:D→Rdr α} {Q:α→Prop}:(opdR (.tmp t) k).wp E Q=(bnd (asMove t (E.sl.getD t .dead)) k).wp E Q:=id rfl
theorem ev_const {α:Type} {E:Env} {v:Value} {k:D→Rdr α} {Q:α→Prop}:(opdR (.const v) k).wp E Q=(bnd (constD v) k).wp E Q:=id rfl
theorem ev_func {α:Type} {E:Env} {f:FuncId} {k:D→Rdr α} {Q:α→Prop}:(opdR (.func f) k).wp E Q=(k (.clo f [])).wp E Q:=id rfl
theorem ev_ret {α:Type} {E:Env} {a:α} {Q:α→Prop}:(Rdr.ret a).wp E Q=Q a:=id rfl
theorem ev_chk {α:Type} {E:Env} {p:Prop} {k:Rdr α} {Q:α→Prop}:(Rdr.chk p k).wp E Q=(p∧k.wp E Q):=id rfl
theorem ev_asm {α:Type} {E:Env} {p:Prop} {k:Rdr α} {Q:α→Prop}:(Rdr.asm p k).wp E Q=(p→k.wp E Q):=id rfl
theorem ev_all {α:Type} {E:Env} {k:Env→Rdr α} {Q:α→Prop}:(Rdr.all k).wp E Q=(k E).wp E Q:=id rfl
theorem ev_len {α:Type} {E:Env} {k:Nat→Rdr α} {Q:α→Prop}:(Rdr.len k).wp E Q=(k E.ce.length).wp E Q:=id rfl
theorem ev_cell {α:Type} {E:Env} {t:Nat} {k:Option (List D)→Rdr α} {Q:α→Prop}:(Rdr.cell t k).wp E Q=(k (E.ce.getD t none)).wp E Q:=id rfl
theorem ev_done {P:Program} {K:Env→Prop} {E:Env} {ws:List W}:Done P K E (.done ws)=K (E.app ws):=id rfl
theorem ev_move {dst:Option Tmp} {x:Operand}:opMove dst x=opdR x fun d=>if d.isTup then .fail else wrS dst d:=id rfl
theorem ev_app0 {E:Env}:E.app []=E:=id rfl
theorem ev_app1 {E:Env} {w:W} {ws:List W}:E.app (w::ws)=(E.app1 w).app ws:=id rfl
theorem ev_s {l:List D} {ce:List (Option (List D))} {t:Nat} {d:D}:(Env.mk l ce).app1 (.s t d)=⟨l.set t d,ce⟩:=id rfl
theorem ev_c {l:List D} {ce:List (Option (List D))} {t:Nat} {d:Option (List D)}:(Env.mk l ce).app1 (.c t d)=⟨l,ce.set t d⟩:=id rfl
theorem as_v {t:Nat} {x:Value}:asMove t (.v x) = .v x:=id rfl
theorem as_nil {t:Nat}:asMove t .nil = .nil:=id rfl
theorem as_own {t:Nat} {e:TypeId} {xs:List (List T)}:asMove t (.own e xs) = .ali ⟨false,t,0⟩:=id rfl
theorem as_imm {t:Nat} {e:TypeId} {xs:List (List T)}:asMove t (.imm e xs) = .imm e xs:=id rfl
theorem as_ali {t:Nat} {p:Lf}:asMove t (.ali p) = .ali p:=id rfl
theorem as_cref {t:Nat} {a b:Nat}:asMove t (.cref a b) = .cref a b:=id rfl
theorem as_eref {t:Nat} {p:Lf} {a b:Nat}:asMove t (.eref p a b) = .eref p a b:=id rfl
theorem as_rptr {t:Nat} {ds:List D}:asMove t (.rptr ds) = .rptr ds:=id rfl
theorem as_clo {t:Nat} {f:FuncId} {ds:List D}:asMove t (.clo f ds) = .clo f ds:=id rfl
theorem as_agg {t:Nat} {ds:List D}:asMove t (.agg ds) = .agg (mvList false t 0 ds):=id rfl
theorem constD_int {k:IntKind} {n:Int}:constD (.int k n) = .v (.int k n):=rfl
theorem constD_bool {b:Bool}:constD (.bool b) = .v (.bool b):=rfl
theorem constD_str {l:List UInt8} (h:decide (l.length≤9223372036854775807)=true):constD (.string ⟨l.toArray⟩) = .v (vS l):=by
 have h2:scal (.string ⟨l.toArray⟩)=true:=h
 simp only [constD,constLeaf,h2,if_true]
 rfl
theorem constD_nils:constD (.slice none 0 0) = .nil:=rfl
theorem constD_nilp:constD (.pointer none) = .v (.pointer none):=rfl
section
variable {α:Type} {tb:Tab} {pt e:TypeId} {acc:CallAcc} {k:CallAcc→Rdr Stp} {k2:D→List Lf→Rdr α}
theorem ar_v {x:Value}:argR tb pt 0 (.v x) acc k=k (acc.push (.v x) [] []):=id rfl
theorem ar_imm {e:TypeId} {xs:List (List T)}:argR tb pt 0 (.imm e xs) acc k=k (acc.push (.imm e xs) [] []):=id rfl
theorem ar_nil:argR tb pt 0 .nil acc k=(match tb.kd pt with | some (.slice e)=>k (acc.push (if e==0 then .nil else .imm e []) [] []) | _=>k (acc.push .nil [] [])):=by
 unfold argR coeLeaf
 cases tb.kd pt with
 | none=>rfl
 | some x=>cases x<;>rfl
theorem ar1_agg {ds:List D}:argR tb pt 1 (.agg ds) acc k=(match tb pt with | some i=>lendLeaves acc.args.length 0 i.les ds fun ds' w bs=>k { acc.push (.agg ds') bs [] with wb:=acc.wb++w } | none => .fail):=id rfl
theorem ar3_cref {c j : Nat} : argR tb pt 3 (.cref c j) acc k = (.cell c fun
      | none => .fail
      | some ls =>
        if ((ls.drop j).take (ls.length - j)).all lendable && decide (j + (ls.length - j) ≤ ls.length) && decide (0 < ls.length - j) then
          k { acc with args := acc.args ++ [.cref acc.args.length 0],ce := acc.ce ++ [some ((ls.drop j).take (ls.length - j))],wc := acc.wc ++ [(c,j,ls.length - j,acc.args.length)] }
        else .fail) := id rfl
theorem ar_ali {p:Lf}:argR tb pt 0 (.ali p) acc k=rowsR (.ali p) fun e' xs=>k (acc.push (.imm e' xs) [p] []):=id rfl
theorem ar_clo {f:FuncId} {cs:List D}:argR tb pt 0 (.clo f cs) acc k=coeCapt cs fun cs' bs bc=>k (acc.push (.clo f cs') bs bc):=id rfl
theorem ar_agg {ds:List D}:argR tb pt 0 (.agg ds) acc k=(match tb pt with | some i=>coeLeaves i.les ds fun ds' bs=>k (acc.push (.agg ds') bs []) | none => .fail):=id rfl
theorem cl_v {x:Value}:coeLeaf e (.v x) k2=k2 (.v x) []:=id rfl
theorem cl_nil:coeLeaf e .nil k2=k2 (if e==0 then .nil else .imm e []) []:=id rfl
theorem cl_imm {e':TypeId} {xs:List (List T)}:coeLeaf e (.imm e' xs) k2=k2 (.imm e' xs) []:=id rfl
theorem cl_ali {p:Lf}:coeLeaf e (.ali p) k2=rowsR (.ali p) fun e' xs=>k2 (.imm e' xs) [p]:=id rfl
theorem cs_cons {e:TypeId} {es:List TypeId} {d:D} {ds:List D} {k:List D→List Lf→Rdr α}:coeLeaves (e::es) (d::ds) k=coeLeaf e d fun d bs=>coeLeaves es ds fun ds bs'=>k (d::ds) (bs++bs'):=id rfl
theorem cs_nil {es:List TypeId} {k:List D→List Lf→Rdr α}:coeLeaves es [] k=k [] []:=by cases es<;>rfl
theorem as_cons {md:Nat→Nat} {pts:List TypeId} {d:D} {ds:List D}:argsR tb md (pt::pts) (d::ds) acc k=argR tb pt (md acc.args.length) d acc fun acc=>argsR tb md pts ds acc k:=id rfl
theorem as_end {md:Nat→Nat}:argsR tb md [] [] acc k=k acc:=id rfl
end
theorem ev_fz0 {E:Env}:E.app1 (.fz [])=E:=id rfl
theorem ev_rw {l:List D} {ce:List (Option (List D))} {t:Nat} {d:D} (h:(l.getD t .dead).anyOwn=false):(Env.mk l ce).app1 (.rw t d)=⟨l.set t d,ce⟩:=by
 show (if (l.getD t .dead).anyOwn then _ else _)=_
 rw [h]; rfl
theorem ev_call {P:Program} {K:Env→Prop} {E Ein Eout:Env} {f:FuncId} {k:Env→Option (List W)} {ws:List W} (h:Sem P f Ein Eout) (hk:k Eout=some ws) (h2:K (E.app ws)):Done P K E (.call f Ein k):=⟨Eout,h,ws,hk,h2⟩
theorem retW0 {dst:Option Tmp} {args:List D} {ce:List (Option (List D))} {bor:List Lf} {borc:List Nat} {Eout:Env} {r:D} (h1:Eout.sl.length=args.length+1) (h2:Eout.sl.getD args.length .dead=r) (h3:r.anyL (fun d => !d.resLeaf)=false) (h4:r.anyL D.isImm=false) :
  retW ⟨args,ce,[],[],bor,borc⟩ dst Eout=some (.ca [] [] []::(match dst with | none=>[] | some t=>[.rw t r])):=by
 have hg:gones Eout []=[]:=rfl
 simp only [retW,wbs,wcs,retIm,h2,h3,h4,h1,hg]
 simp
 cases dst<;>rfl
theorem retWi {dst:Option Tmp} {args:List D} {ce:List (Option (List D))} {Eout:Env} {r:D} (h1:Eout.sl.length=args.length+1) (h2:Eout.sl.getD args.length .dead=r) (h3:r.anyL (fun d => !d.resLeaf)=false) (h4:r.anyL D.isImm=true) :
  retW ⟨args,ce,[],[],[],[]⟩ dst Eout=some (.fz [] :: .ca [] [] []::(match dst with | none=>[] | some t=>[.rw t r])):=by
 have hg:gones Eout []=[]:=rfl
 simp only [retW,wbs,wcs,retIm,h2,h3,h4,h1,hg]
 simp
 cases dst<;>rfl
theorem retWc {dst:Option Tmp} {args:List D} {ce:List (Option (List D))} {bor:List Lf} {borc:List Nat} {Eout:Env} {r:D} {c j n i:Nat} {ls:List D} (h5:Eout.ce.getD i none=some ls) (h6:ls.length=n) (h7:ls.all D.resLeaf=true) (h8:ls.any D.isImm=false)
  (h1:Eout.sl.length=args.length+1) (h2:Eout.sl.getD args.length .dead=r) (h3:r.anyL (fun d => !d.resLeaf)=false) (h4:r.anyL D.isImm=false) :
  retW ⟨args,ce,[],[(c,j,n,i)],bor,borc⟩ dst Eout=some (.ca [] [] [(c,j,ls)]::(match dst with | none=>[] | some t=>[.rw t r])):=by
 have hg:gones Eout []=[]:=rfl
 simp only [retW,wbs,wcs,retIm,h2,h3,h4,h1,h5,h6,h7,hg]
 simp [h8]
 cases dst<;>rfl
theorem ev_cac {E:Env} {c j:Nat} {ls:List D}:E.app1 (.ca [] [] [(c,j,ls)])={ (E.killC c j ls.length) with ce:=(E.killC c j ls.length).ce.set c (((E.killC c j ls.length).ce.getD c none).map fun ds=>setRange ds j ls) }:=by
 show setCs ((E.kill fun p=>inWc [(c,j,ls)] p || ([]:List Lf).contains p).mapP (wbG [])) [(c,j,ls)]=_
 have e2:wbG []=fun _ d=>d:=by
  funext p d
  simp only [wbG,wbFind]
  cases d<;>simp
 have e1:(fun p=>inWc [(c,j,ls)] p || ([]:List Lf).contains p)=fun p=>p.c&&p.t==c&&decide (j≤p.k)&&decide (p.k<j+ls.length):=by
  funext p
  simp only [inWc,Bool.or_false,List.contains_nil]
 rw [e1,e2,Env.mapP_id]
 rfl
theorem ev_ca1 {E:Env} {wb:List (Lf × TypeId × List (List T))}:E.app1 (.ca [] wb [])=E.mapP (wbG wb):=by
 show (E.mapP fun p d=>if (fun p=>inWc [] p || ([]:List Lf).contains p) p then .dead else killB (fun p=>inWc [] p || ([]:List Lf).contains p) d).mapP (wbG wb)=_
 have e1:(fun (p:Lf) (d:D)=>if (fun p=>inWc [] p || ([]:List Lf).contains p) p then .dead else killB (fun p=>inWc [] p || ([]:List Lf).contains p) d)=fun _ d=>d:=by
  funext p d
  show (if (inWc [] p || ([]:List Lf).contains p)=true then D.dead else killB _ d)=d
  simp only [inWc,List.contains_nil,Bool.or_false,Bool.false_eq_true,if_false]
  cases d<;>simp [killB]
 rw [e1,Env.mapP_id]
def Fin (cfg:Cfg) (ts:List RV) (Eout:Env) (e:Go.Exit) (E:Env):Prop:=(e = .normal∨e = .ret)∧∃ E',Wk E E'∧shutOk cfg ts E'=true∧shut cfg ts E'=Eout
theorem shutP_none {cfg:Cfg} (hk:cfg.keep=fun _=>false) {E:Env} {i:Nat}:shutP cfg.keep E i = .dead:=by rw [hk]; rfl
theorem map_const_range {α:Type} (n:Nat) (f:Nat→α) (x:α) (h:∀ i,i<n→f i=x):(List.range n).map f=List.replicate n x:=by
 induction n with
 | zero=>rfl
 | succ n ih =>
  rw [List.range_succ,List.map_append,ih fun i hi=>h i (by omega),List.replicate_succ']
  simp [h n (by omega)]
theorem fin0 {cfg:Cfg} {ts:List RV} {E:Env} {r:D} {e:Go.Exit} (he:e = .normal∨e = .ret) (hk:cfg.keep=fun _=>false) (hce:E.ce.take cfg.np=List.replicate cfg.np none) (hok:shutOk cfg ts E=true) (hr:shutR E ts=r) :
  Fin cfg ts ⟨List.replicate cfg.np .dead++[r],List.replicate cfg.np none⟩ e E:=by
 refine ⟨he,E,.inl rfl,hok,?_⟩
 unfold shut
 rw [hr,map_const_range cfg.np (shutP cfg.keep E) .dead fun i _=>shutP_none hk,map_const_range cfg.np (fun i=>E.ce.getD i none) none]
 intro i hi
 have:(E.ce.take cfg.np)[i]? = some none:=by rw [hce,List.getElem?_replicate,if_pos hi]
 rw [List.getElem?_take_of_lt hi] at this
 rw [gDg,this]; rfl
theorem sem_fin {P:Program} {cfg:Cfg} {f:FuncId} {fn:Func} {c:Code} {ts:List RV} (hT:TabOk P cfg.tb) (hf:P.funcs[f]? = some fn) (hname:(fn.name == "runtime.NumGoroutine")=false) (hb:fn.body=some c)
  (hres:fn.results=(ts.map RV.toR).toArray) {Ein Eout:Env} (hnp:Ein.sl.length=cfg.np) (hkeep:∀ t,cfg.keep t=true→t<cfg.np)
  (h:pwp P cfg c (Ein.pad (fn.ntmps-cfg.np)) (Fin cfg ts Eout)):Sem P f Ein Eout:=sem_intro hT hf hname hb hres hnp hkeep h
def tick:Prop:=True
theorem tick_eq:tick=True:=propext ⟨fun _=>trivial,fun _=>trivial⟩
section
variable {q:Prop} {α:Type}
theorem c_bnd {d d':D} {k:D→Rdr α} (h:d=d') (ht:tick=q):bnd d k=bnd d' k:=by rw [h]
theorem c_slot {t t':Nat} {k:D→Rdr α} (h:t=t') (ht:tick=q):Rdr.slot t k=Rdr.slot t' k:=by rw [h]
theorem c_cell {t t':Nat} {k:Option (List D)→Rdr α} (h:t=t') (ht:tick=q):Rdr.cell t k=Rdr.cell t' k:=by rw [h]
theorem c_all {k:Env→Rdr α} (ht:tick=q):Rdr.all k=Rdr.all k:=rfl
theorem c_len {k:Nat→Rdr α} (ht:tick=q):Rdr.len k=Rdr.len k:=rfl
theorem c_chk {p p':Prop} {k:Rdr α} (h:p=p') (ht:tick=q):Rdr.chk p k=Rdr.chk p' k:=by rw [h]
theorem c_asm {p p':Prop} {k:Rdr α} (h:p=p') (ht:tick=q):Rdr.asm p k=Rdr.asm p' k:=by rw [h]
theorem c_opdR {x:Operand} {k:D→Rdr α} (ht:tick=q):opdR x k=opdR x k:=rfl
theorem c_wp {E E':Env} {r r':Rdr α} {Q:α→Prop} (h:E=E') (h2:r=r') (ht:tick=q):r.wp E Q=r'.wp E' Q:=by rw [h,h2]
theorem c_pwp {P:Program} {cfg:Cfg} {c:Code} {E E':Env} {Q:Go.Exit→Env→Prop} (h:E=E') (ht:tick=q):pwp P cfg c E Q=pwp P cfg c E' Q:=by rw [h]
theorem c_pOps {P:Program} {cfg:Cfg} {ops l:List Oper} {E E':Env} {K:Env→Prop} (h:E=E') (ht:tick=q):pOps P cfg ops l E K=pOps P cfg ops l E' K:=by rw [h]
theorem c_Done {P:Program} {K:Env→Prop} {E E':Env} {s s':Stp} (h:E=E') (h2:s=s') (ht:tick=q):Done P K E s=Done P K E' s':=by rw [h,h2]
theorem c_nx {K:Env→Prop} {Q:Go.Exit→Env→Prop} {e e':Go.Exit} {E E':Env} (h:E=E') (h2:e=e') (ht:tick=q):Exit.nx K Q e E=Exit.nx K Q e' E':=by rw [h,h2]
theorem c_blk {Q:Go.Exit→Env→Prop} {e e':Go.Exit} {i:Nat} {E E':Env} (h:E=E') (h2:e=e') (ht:tick=q):Exit.blk i Q e E=Exit.blk i Q e' E':=by rw [h,h2]
theorem c_fin {cfg:Cfg} {ts:List RV} {Eout:Env} {e:Go.Exit} {E E':Env} (h:E=E') (ht:tick=q):Fin cfg ts Eout e E=Fin cfg ts Eout e E':=by rw [h]
theorem c_coeLeaf {e e':TypeId} {d d':D} {k:D→List Lf→Rdr α} (h:e=e') (h2:d=d') (ht:tick=q):coeLeaf e d k=coeLeaf e' d' k:=by rw [h,h2]
theorem c_coeLeaves {e e':List TypeId} {d d':List D} {k:List D→List Lf→Rdr α} (h:e=e') (h2:d=d') (ht:tick=q):coeLeaves e d k=coeLeaves e' d' k:=by rw [h,h2]
theorem c_argR {tb:Tab} {pt pt':TypeId} {m m':Nat} {d d':D} {acc acc':CallAcc} {k:CallAcc→Rdr Stp} (h:pt=pt') (h1:m=m') (h2:d=d') (h3:acc=acc') (ht:tick=q):argR tb pt m d acc k=argR tb pt' m' d' acc' k:=by rw [h,h1,h2,h3]
theorem c_argsR {tb:Tab} {md:Nat→Nat} {pts pts':List TypeId} {ds ds':List D} {acc acc':CallAcc} {k:CallAcc→Rdr Stp} (h:pts=pts') (h2:ds=ds') (h3:acc=acc') (ht:tick=q):argsR tb md pts ds acc k=argsR tb md pts' ds' acc' k:=by rw [h,h2,h3]
theorem c_partsR {z z':List D} {ps ps':List (Nat × Nat × Operand)} {k:List D→Rdr Stp} (h:z=z') (h2:ps=ps') (ht:tick=q):partsR z ps k=partsR z' ps' k:=by rw [h,h2]
theorem c_wpF {S:Nat→Bool} {E E':Env} {r r':Rdr α} {Q:α→Prop} (h:E=E') (h2:r=r') (ht:tick=q):r.wpF S E Q=r'.wpF S E' Q:=by rw [h,h2]
theorem c_OutF {P:Program} {S:Nat→Bool} {E E':Env} {dst:Option Tmp} {Q:Nat→D→Option (Nat × List D)→Prop} {s s':Stp} (h:E=E') (h2:s=s') (ht:tick=q):OutF P S E dst Q s=OutF P S E' dst Q s':=by rw [h,h2]
theorem c_pHeadN {P:Program} {cfg:Cfg} {ops:List Oper} {l l':List (Oper × Option (List Nat))} {E E':Env} {K:Env→Prop} (h:l=l') (h2:E=E') (ht:tick=q):pHeadN P cfg ops l E K=pHeadN P cfg ops l' E' K:=by rw [h,h2]
theorem c_pHead {P:Program} {cfg:Cfg} {ops:List Oper} {l l':List (Oper × List Nat)} {E E':Env} {K:Env→Prop} (h:l=l') (h2:E=E') (ht:tick=q):pHead P cfg ops l E K=pHead P cfg ops l' E' K:=by rw [h,h2]
theorem c_pDraw {P:Program} {cfg:Cfg} {ops:List Oper} {E E':Env} {K:Env→Prop} (h2:E=E') (ht:tick=q):pDraw P cfg ops E K=pDraw P cfg ops E' K:=by rw [h2]
theorem c_ite {c c':Prop} [Decidable c] [Decidable c'] {x y:α} (h:c=c') (ht:tick=q):ite c x y=ite c' x y:=by subst h; congr
end
section
variable {P:Program} {cfg:Cfg} {E:Env} {Q:Go.Exit→Env→Prop}
theorem pw_skip:pwp P cfg .skip E Q=Q .normal E:=id rfl
theorem pw_seq {x y:Code}:pwp P cfg (.seq x y) E Q=pwp P cfg x E (Exit.nx (fun E'=>pwp P cfg y E' Q) Q):=id rfl
theorem pw_region {i:Nat} {l:List Oper}:pwp P cfg (.region i l.toArray false) E Q=pOps P cfg l l E (Q .normal):=by
 show (if false=true then _ else pOps P cfg l.toArray.toList l.toArray.toList E (Q .normal))=_
 simp
theorem pw_draw {i:Nat} {l:List Oper}:pwp P cfg (.region i l.toArray true) E Q=pDraw P cfg l E (Q .normal):=by
 show (if true=true then pDraw P cfg l.toArray.toList E (Q .normal) else _)=_
 simp
theorem pw_cond {c:Operand} {x y:Code}:pwp P cfg (.cond c x y) E Q=(condR c).wp E fun b=>if b=true then pwp P cfg x E Q else pwp P cfg y E Q:=id rfl
theorem pw_block {i:Nat} {c:Code}:pwp P cfg (.block i c) E Q=pwp P cfg c E (Exit.blk i Q):=id rfl
theorem pw_exit {i:Nat}:pwp P cfg (.exit i) E Q=Q (.exit i) E:=id rfl
theorem pw_ret:pwp P cfg .ret E Q=Q .ret E:=id rfl
theorem nx_normal {K:Env→Prop}:Exit.nx K Q .normal E=K E:=id rfl
theorem nx_ret {K:Env→Prop}:Exit.nx K Q .ret E=Q .ret E:=id rfl
theorem nx_exit {K:Env→Prop} {i:Nat}:Exit.nx K Q (.exit i) E=Q (.exit i) E:=id rfl
theorem blk_normal {i:Nat}:Exit.blk i Q .normal E=Q .normal E:=id rfl
theorem blk_ret {i:Nat}:Exit.blk i Q .ret E=Q .ret E:=id rfl
theorem blk_exit {i j:Nat}:Exit.blk i Q (.exit j) E=if j=i then Q .normal E else Q (.exit j) E:=id rfl
theorem po_nil {ops:List Oper} {K:Env→Prop}:pOps P cfg ops [] E K=K E:=id rfl
theorem po_cons {ops:List Oper} {o:Oper} {os:List Oper} {K:Env→Prop}:pOps P cfg ops (o::os) E K=(opG cfg ops o).wp E (Done P (fun E'=>pOps P cfg ops os E' K) E):=id rfl
end
theorem pOps_mono {P:Program} {cfg:Cfg} {ops:List Oper} {K K':Env→Prop} (h:∀ E,K E→K' E):∀ (l:List Oper) (E:Env),pOps P cfg ops l E K→pOps P cfg ops l E K'
 | [],E,x=>h E x
 | o::os,E,x=>wp_mono _ (fun s hs=>Done_mono (fun E' hE=>pOps_mono h os E' hE) s hs) x
theorem wpF_mono {α:Type} {S:Nat→Bool} {E:Env} {Q Q':α→Prop}:∀ (r:Rdr α),(∀ a,Q a→Q' a)→r.wpF S E Q→r.wpF S E Q'
 | .ret a,h,x=>h a x
 | .fail,h,x=>x
 | .slot t k,h,x=>⟨x.1,wpF_mono (k _) h x.2⟩
 | .cell t k,h,x=>⟨x.1,x.2.1,wpF_mono (k _) h x.2.2⟩
 | .all k,h,x=>x
 | .len k,h,x=>wpF_mono (k _) h x
 | .chk p k,h,x=>⟨x.1,wpF_mono k h x.2⟩
 | .asm p k,h,x=>⟨x.1,wpF_mono k h x.2⟩
theorem OutF_mono {P:Program} {S:Nat→Bool} {E:Env} {dst:Option Tmp} {Q Q':Nat→D→Option (Nat × List D)→Prop} (h:∀ t d c,Q t d c→Q' t d c):∀ s,OutF P S E dst Q s→OutF P S E dst Q' s:=by
 intro s hs
 unfold OutF at hs ⊢
 split at hs
 ·exact ⟨hs.1,hs.2.1,h _ _ _ hs.2.2⟩
 ·exact ⟨hs.1,hs.2.1,hs.2.2.1,h _ _ _ hs.2.2.2⟩
 ·exact ⟨hs.1,hs.2.1,h _ _ _ hs.2.2⟩
 ·obtain ⟨Eo,t,d,a1,a2,a3,a4,a5⟩:=hs
  refine ⟨Eo,t,d,a1,a2,a3,a4,?_⟩
  rcases a5 with ⟨a5,a6⟩ | ⟨u,ls,a5,a6,a7⟩
  ·exact .inl ⟨a5,h _ _ _ a6⟩
  ·exact .inr ⟨u,ls,a5,a6,h _ _ _ a7⟩
 ·exact hs.elim
theorem pHead_mono {P:Program} {cfg:Cfg} {ops:List Oper} {K K':Env→Prop} (h:∀ E,K E→K' E):∀ (l:List (Oper × List Nat)) (E:Env),pHead P cfg ops l E K→pHead P cfg ops l E K'
 | [],E,x=>h E x
 | (o,fb)::os,E,x=>wpF_mono _ (fun s hs=>OutF_mono (fun t d c hK=>pHead_mono h os _ hK) s hs) x
theorem pHeadN_mono {P:Program} {cfg:Cfg} {ops:List Oper} {K K':Env→Prop} (h:∀ E,K E→K' E):∀ (l:List (Oper × Option (List Nat))) (E:Env),pHeadN P cfg ops l E K→pHeadN P cfg ops l E K'
 | [],E,x=>h E x
 | (o,some fb)::os,E,x=>wpF_mono _ (fun s hs=>OutF_mono (fun t d c hK=>pHeadN_mono h os _ hK) s hs) x
 | (o,none)::os,E,x=>wp_mono _ (fun s hs=>Done_mono (fun E' hE=>pHeadN_mono h os E' hE) s hs) x
theorem pwp_mono {P:Program} {cfg:Cfg}:∀ (c:Code) (E:Env) {Q Q':Go.Exit→Env→Prop},(∀ e E,Q e E→Q' e E)→pwp P cfg c E Q→pwp P cfg c E Q':=by
 intro c
 induction c with
 | skip=>intro E Q Q' h x; exact h _ _ x
 | seq a b iha ihb =>
  intro E Q Q' h x
  refine iha E ?_ x
  intro e E' hq
  cases e with
  | normal=>exact ihb E' h hq
  | _=>exact h _ _ hq
 | region i ops d =>
  intro E Q Q' h x
  cases d with
  | true =>
   rcases x with ⟨hm,E0,hw,⟨n,fs,hk,hx⟩ | ⟨fs,hk,hx⟩⟩
   ·exact ⟨hm,E0,hw,.inl ⟨n,fs,hk,pHead_mono (fun E hE=>pOps_mono (fun E hE=>h _ _ hE) _ _ hE) _ _ hx⟩⟩
   ·exact ⟨hm,E0,hw,.inr ⟨fs,hk,pHeadN_mono (fun E hE=>h _ _ hE) _ _ hx⟩⟩
  | false=>exact pOps_mono (fun E hE=>h _ _ hE) _ _ x
 | cond c a b iha ihb =>
  intro E Q Q' h x
  refine wp_mono _ ?_ x
  intro t ht
  split at ht
  ·rw [if_pos ‹_›]; exact iha E h ht
  ·rw [if_neg ‹_›]; exact ihb E h ht
 | block i a iha =>
  intro E Q Q' h x
  refine iha E ?_ x
  intro e E' hq
  cases e with
  | exit j =>
   simp only [Exit.blk] at hq ⊢
   split at hq
   ·rw [if_pos ‹_›]; exact h _ _ hq
   ·rw [if_neg ‹_›]; exact h _ _ hq
  | _=>exact h _ _ hq
 | loop a iha =>
  intro E Q Q' h x
  obtain ⟨I,μ,h0,h1⟩:=x
  refine ⟨I,μ,h0,fun E1 hI=>iha E1 ?_ (h1 E1 hI)⟩
  intro e E' hq
  cases e with
  | normal=>exact hq
  | _=>exact h _ _ hq
 | exit i=>intro E Q Q' h x; exact h _ _ x
 | ret=>intro E Q Q' h x; exact h _ _ x
 | _=>intro E Q Q' h x; exact x.elim
theorem wrapN {i:Nat} {n:Nat} (h:i<n) (hn:n≤9223372036854775807):IntKind.i64.wrap ((i:Int)+1)=((i+1:Nat):Int):=by
 rw [IntKind.wrap_i64]; omega
theorem wrapI {n:Int} (h:-9223372036854775808≤n∧n≤9223372036854775807):IntKind.i64.wrap n=n:=by
 rw [IntKind.wrap_i64]; omega
theorem wrap_1:IntKind.i64.wrap 1=1:=by decide
theorem ofN_lt {m n:Nat}:((m:Int)<(n:Int))=(m<n):=by simp
theorem ofN_le {m n:Nat}:((m:Int)≤(n:Int))=(m≤n):=by simp
theorem all_take_succ {α:Type} {l:List α} {p:α→Bool} {i:Nat} {d:α} (h:i<l.length):(l.take (i+1)).all p=((l.take i).all p&&p (l.getD i d)):=by
 rw [List.take_succ_eq_append_getElem h,List.all_append]
 simp [gDg,h]
theorem any_take_succ {α:Type} {l:List α} {p:α→Bool} {i:Nat} {d:α} (h:i<l.length):(l.take (i+1)).any p=((l.take i).any p || p (l.getD i d)):=by
 rw [List.take_succ_eq_append_getElem h,List.any_append]
 simp [gDg,h]
theorem all_false_at {α:Type} {l:List α} {p:α→Bool} {i:Nat} {d:α} (h:i<l.length) (hp:p (l.getD i d)=false):l.all p=false:=by
 rw [List.all_eq_false]
 refine ⟨l.getD i d,?_,by rw [hp]; decide⟩
 rw [gDg,gEg h]
 exact List.getElem_mem h
theorem any_true_at {α:Type} {l:List α} {p:α→Bool} {i:Nat} {d:α} (h:i<l.length) (hp:p (l.getD i d)=true):l.any p=true:=by
 rw [List.any_eq_true]
 refine ⟨l.getD i d,?_,hp⟩
 rw [gDg,gEg h]
 exact List.getElem_mem h
theorem ev_ks {E:Env} {t:Nat} {d:D}:E.app1 (.ks t d)={ (E.killS t) with sl:=(E.killS t).sl.set t (d.mapP fun _ x=>killB (fun p => !p.c&&p.t==t) x) }:=rfl
theorem ev_kp {E:Env} {p:Lf}:E.app1 (.kp p)=E.killP p:=rfl
theorem ev_lf {E:Env} {p:Lf} {d:D}:E.app1 (.lf p d)=E.setLeaf p d:=rfl
theorem ev_alle {E E':Env}:E.app1 (.all E')=E':=rfl
theorem mt_tmp {dst:Option Tmp} {t:Nat} {E:Env} {Q:Stp→Prop}:(opMoveT dst (.tmp t)).wp E Q=(bnd (E.sl.getD t .dead) fun | .tup cs=>wrS dst (.tup (mvCs t 0 cs)) | d=>wrS dst (asMove t d)).wp E Q:=id rfl
theorem mt_const {dst:Option Tmp} {v:Value}:opMoveT dst (.const v)=opMove dst (.const v):=id rfl
section
variable {α:Type} {S:Nat→Bool} {E:Env} {Q:α→Prop}
theorem ef_slot {t:Nat} {k:D→Rdr α}:(Rdr.slot t k).wpF S E Q=(S t=true∧(bnd (E.sl.getD t .dead) k).wpF S E Q):=id rfl
theorem ef_tmp {t:Nat} {k:D→Rdr α}:(opdR (.tmp t) k).wpF S E Q=(S t=true∧(bnd (asMove t (E.sl.getD t .dead)) k).wpF S E Q):=id rfl
theorem ef_const {v:Value} {k:D→Rdr α}:(opdR (.const v) k).wpF S E Q=(bnd (constD v) k).wpF S E Q:=id rfl
theorem ef_func {f:FuncId} {k:D→Rdr α}:(opdR (.func f) k).wpF S E Q=(k (.clo f [])).wpF S E Q:=id rfl
theorem ef_ret {a:α}:(Rdr.ret a).wpF S E Q=Q a:=id rfl
theorem ef_chk {p:Prop} {k:Rdr α}:(Rdr.chk p k).wpF S E Q=(p∧k.wpF S E Q):=id rfl
theorem ef_asm {p:Prop} {k:Rdr α}:(Rdr.asm p k).wpF S E Q=(p∧k.wpF S E Q):=id rfl
theorem ef_len {k:Nat→Rdr α}:(Rdr.len k).wpF S E Q=(k E.ce.length).wpF S E Q:=id rfl
theorem ef_cell {t:Nat} {k:Option (List D)→Rdr α}:(Rdr.cell t k).wpF S E Q=(S t=true∧S (t+1000)=true∧(k (E.ce.getD t none)).wpF S E Q):=id rfl
end
theorem mt_tmpF {S:Nat→Bool} {dst:Option Tmp} {t:Nat} {E:Env} {Q:Stp→Prop}:(opMoveT dst (.tmp t)).wpF S E Q=(S t=true∧(bnd (E.sl.getD t .dead) fun | .tup cs=>wrS dst (.tup (mvCs t 0 cs)) | d=>wrS dst (asMove t d)).wpF S E Q):=id rfl
theorem ph_nil {P:Program} {cfg:Cfg} {ops:List Oper} {E:Env} {K:Env→Prop}:pHead P cfg ops [] E K=K E:=id rfl
theorem ph_cons {P:Program} {cfg:Cfg} {ops:List Oper} {o:Oper} {fb:List Nat} {os:List (Oper × List Nat)} {E:Env} {K:Env→Prop}:pHead P cfg ops ((o,fb)::os) E K=(opG cfg ops o).wpF (fbS fb) E (OutF P (fbS fb) E (numOf o) fun t d c=>pHead P cfg ops os (updE E t d c) K):=id rfl
theorem up_n {E:Env} {t:Nat} {d:D}:updE E t d none=⟨E.sl.set t d,E.ce⟩:=id rfl
theorem up_c {E:Env} {t u:Nat} {d:D} {ds:List D}:updE E t d (some (u,ds))=⟨E.sl.set t d,E.ce.set u (some ds)⟩:=id rfl
theorem of_c {P:Program} {S:Nat→Bool} {E:Env} {dst:Option Tmp} {Q:Nat→D→Option (Nat × List D)→Prop} {t u:Nat} {d:D} {ds:List D}:OutF P S E dst Q (.done [.c u (some ds),.s t d])=(u=t∧dst=some t∧S t=true∧Q t d (some (t,ds))):=id rfl
theorem of_st {P:Program} {S:Nat→Bool} {E:Env} {dst:Option Tmp} {Q:Nat→D→Option (Nat × List D)→Prop} {u:Nat} {ds:List D}:OutF P S E dst Q (.done [.c u (some ds)])=(dst=some u∧S u=true∧Q u (E.sl.getD u .dead) (some (u,ds))):=id rfl
theorem num_d {t:Tmp} {op:Op} {ty:TypeId} {pos:String} {af:Array Edge} {g:Option (Nat × Bool)}:numOf { dst:=some t,op:=op,type:=ty,pos:=pos,after:=af,guard:=g }=some t:=id rfl
theorem num_s {t:Tmp} {e:TypeId} {x:Operand} {ty:TypeId} {pos:String} {af:Array Edge} {g:Option (Nat × Bool)}:numOf { dst:=none,op := .store e (.tmp t) x,type:=ty,pos:=pos,after:=af,guard:=g }=some t:=id rfl
theorem of_s {P:Program} {S:Nat→Bool} {E:Env} {dst:Option Tmp} {Q:Nat→D→Option (Nat × List D)→Prop} {t:Nat} {d:D}:OutF P S E dst Q (.done [.s t d])=(dst=some t∧S t=true∧Q t d none):=id rfl
theorem of_call {P:Program} {S:Nat→Bool} {E Ein Eout:Env} {dst:Option Tmp} {Q:Nat→D→Option (Nat × List D)→Prop} {f:FuncId} {k:Env→Option (List W)} {t:Nat} {d:D} (h:Sem P f Ein Eout) (hk:k Eout=some [.ca [] [] [],.rw t d]) (hd:dst=some t) (hS:S t=true) (ho:(E.sl.getD t .dead).anyOwn=false) (hq:Q t d none) :
  OutF P S E dst Q (.call f Ein k):=⟨Eout,t,d,h,hd,hS,ho,.inl ⟨hk,hq⟩⟩
theorem of_lent {P:Program} {S:Nat→Bool} {E Ein Eout:Env} {dst:Option Tmp} {Q:Nat→D→Option (Nat × List D)→Prop} {f:FuncId} {k:Env→Option (List W)} {t u:Nat} {d:D} {ls:List D} (h:Sem P f Ein Eout) (hk:k Eout=some [.fz [],.ca [] [] [(u,0,ls)],.rw t d]) (hd:dst=some t) (hS:S t=true) (ho:(E.sl.getD t .dead).anyOwn=false) (hl:LentF S E u ls) (hq:Q t d (some (u,ls))) :
  OutF P S E dst Q (.call f Ein k):=⟨Eout,t,d,h,hd,hS,ho,.inr ⟨u,ls,hk,hl,hq⟩⟩
theorem draw_intro {P:Program} {cfg:Cfg} {l:List Oper} {E:Env} {K:Env→Prop} (n:Nat) (fs:List (List Nat)) (hm:P.follows .mixedOrders=true) (hok:drawOk l n fs=true) (h:pHead P cfg l ((l.take n).zip fs) E fun E'=>pOps P cfg l (l.drop n) E' K):pDraw P cfg l E K:=⟨hm,E,.refl E,.inl ⟨n,fs,hok,h⟩⟩
theorem draw_new {P:Program} {cfg:Cfg} {l:List Oper} {E:Env} {K:Env→Prop} (fs:List (Option (List Nat))) (hm:P.follows .mixedOrders=true) (hok:drawN l fs=true) (h:pHeadN P cfg l (l.zip fs) E K):pDraw P cfg l E K:=⟨hm,E,.refl E,.inr ⟨fs,hok,h⟩⟩
theorem draw_frz {P:Program} {cfg:Cfg} {l:List Oper} {E E0:Env} {K:Env→Prop} (q:Lf) (fs:List (Option (List Nat))) (hm:P.follows .mixedOrders=true) (he:E.frz q=some E0) (hok:drawN l fs=true) (h:pHeadN P cfg l (l.zip fs) E0 K):pDraw P cfg l E K:=⟨hm,E0,.step (.inr (.inr (.inr (.inl ⟨q,he⟩)))) (.refl E0),.inr ⟨fs,hok,h⟩⟩
theorem pn_nil {P:Program} {cfg:Cfg} {ops:List Oper} {E:Env} {K:Env→Prop}:pHeadN P cfg ops [] E K=K E:=id rfl
theorem pn_some {P:Program} {cfg:Cfg} {ops:List Oper} {o:Oper} {fb:List Nat} {os:List (Oper × Option (List Nat))} {E:Env} {K:Env→Prop}:pHeadN P cfg ops ((o,some fb)::os) E K=(opG cfg ops o).wpF (fbS fb) E (OutF P (fbS fb) E (numOf o) fun t d c=>pHeadN P cfg ops os (updE E t d c) K):=id rfl
theorem pn_none {P:Program} {cfg:Cfg} {ops:List Oper} {o:Oper} {os:List (Oper × Option (List Nat))} {E:Env} {K:Env→Prop}:pHeadN P cfg ops ((o,none)::os) E K=(opG cfg ops o).wp E (Done P (fun E'=>pHeadN P cfg ops os E' K) E):=id rfl
theorem lf_beq {a a':Bool} {b b' c c':Nat}:((Lf.mk a b c)==(Lf.mk a' b' c'))=(decide (a=a')&&(decide (b=b')&&decide (c=c'))):=by
 rw [Bool.eq_iff_iff]
 simp [beq_iff_eq]
theorem exists_least (p:Nat→Prop) (h:∃ n,p n):∃ n,p n∧∀ m,p m→n≤m:=by
 obtain ⟨n,hn⟩:=h
 induction n using Nat.strongRecOn with
 | _ n ih =>
  by_cases hm:∃ m,p m∧m<n
  ·obtain ⟨m,h1,h2⟩:=hm
   exact ih m h2 h1
  ·exact ⟨n,hn,fun m h=>by
    by_cases hlt:m<n
    ·exact absurd ⟨m,h,hlt⟩ hm
    ·omega⟩
theorem loop_f {P:Program} {cfg:Cfg} {c:Code} {E:Env} {Q:Go.Exit→Env→Prop} {σ:Type} (env:σ→Env) (f:Nat→Bool) (inv:σ→Prop) (μ:σ→Nat) (s0:σ) (hE:E.forget f=env s0) (h0:inv s0)
  (h:∀ s,inv s→pwp P cfg c (env s) (Exit.nx (fun E'=>∃ s',E'.forget f=env s'∧inv s'∧μ s'<μ s) Q)):pwp P cfg (.loop c) E Q:=by
 let p:Env→Nat→Prop:=fun E n=>∃ s,inv s∧env s=E∧μ s=n
 refine ⟨fun E=>∃ s,inv s∧env s=E,fun E=>open Classical in if h:∃ n,p E n then (exists_least (p E) h).choose else 0,⟨env s0,.inr (.inr (.inl ⟨f,hE.symm⟩)),s0,h0,rfl⟩,?_⟩
 rintro E ⟨s,hs,rfl⟩
 have hx:∃ n,p (env s) n:=⟨_,s,hs,rfl,rfl⟩
 obtain ⟨⟨s1,h1,e1,m1⟩,hle⟩:=(exists_least (p (env s)) hx).choose_spec
 have:=h s1 h1
 rw [e1] at this
 refine pwp_mono _ _ ?_ this
 intro e E' hq
 cases e<;>try exact hq
 obtain ⟨s',g1,g2,g3⟩:=hq
 refine ⟨env s',.inr (.inr (.inl ⟨f,g1.symm⟩)),⟨s',g2,rfl⟩,?_⟩
 have hx':∃ n,p (env s') n:=⟨_,s',g2,rfl,rfl⟩
 obtain ⟨_,hle'⟩:=(exists_least (p (env s')) hx').choose_spec
 have h3:=hle' (μ s') ⟨s',g2,rfl,rfl⟩
 simp only [hx,hx',dif_pos]
 omega
theorem loop_by {P:Program} {cfg:Cfg} {c:Code} {E:Env} {Q:Go.Exit→Env→Prop} {σ:Type} (env:σ→Env) (m:Nat) (inv:σ→Prop) (μ:σ→Nat) (s0:σ) (hE:E.forget (fun t=>decide (m≤t))=env s0) (h0:inv s0)
  (h:∀ s,inv s→pwp P cfg c (env s) (Exit.nx (fun E'=>∃ s',E'.forget (fun t=>decide (m≤t))=env s'∧inv s'∧μ s'<μ s) Q)):pwp P cfg (.loop c) E Q:=loop_f env _ inv μ s0 hE h0 h
theorem loop_on {P:Program} {cfg:Cfg} {c:Code} {E:Env} {Q:Go.Exit→Env→Prop} {σ:Type} (env:σ→Env) (ks:List Nat) (inv:σ→Prop) (μ:σ→Nat) (s0:σ) (hE:E.forget (fun t => !ks.contains t)=env s0) (h0:inv s0)
  (h:∀ s,inv s→pwp P cfg c (env s) (Exit.nx (fun E'=>∃ s',E'.forget (fun t => !ks.contains t)=env s'∧inv s'∧μ s'<μ s) Q)):pwp P cfg (.loop c) E Q:=loop_f env _ inv μ s0 hE h0 h
theorem lrel_of_rd {P:Program} {E:Env} {args:Array Value} {w:World} {t:T} {v:Value} {p:Lf} (hE:∀ (t:Nat) (ds:List D),E.ce[t]? ≠ some (some ds)) (h:RdT P w (fun _=>True) t v):LRel (C0 P E args w) p t.toD v:=by
 cases t with
 | v x =>
  cases h with
  | v _ hx=>exact .v _ _ hx
 | sl e xs=>exact rd_imm hE h
theorem toD_leafy (t:T):t.toD.leafy=true:=by cases t<;>rfl
theorem noE {n:Nat} {ds:List D}:∀ (t:Nat) (l:List D),(⟨ds,List.replicate n none⟩:Env).ce[t]? ≠ some (some l):=by
 intro t l h
 have h:(List.replicate n none)[t]? = some (some l):=h
 rw [List.getElem?_replicate] at h
 split at h<;>simp at h
section
variable {H:Type} {enc:TypeId × Value→H} {P:Program} {w:World} {base:Nat} {spare:Nat→Bool} {held:Bool}
theorem arg_one {t:TypeId} {f:Sh} {v:Value} {d:DataW H} {ps:List MemPlace} (hs:ShT P t [f]) (hv:one v=true) (h:DataW.Trod enc P w base spare held t v d ps) :
  ∃ t0:T,WT f t0∧∀ (n:Nat) (ds:List D) (args:Array Value) (i:Nat),SRel (C0 P ⟨ds,List.replicate n none⟩ args w) i t0.toD v:=by
 obtain ⟨fuel,h⟩:=h
 obtain ⟨l,h1,h2,h3⟩:=read_trod hs h
 obtain ⟨t0,l',rfl,h4,h5⟩:=h2.cons
 obtain rfl:=h5.nil
 obtain ⟨v0,g1,g2,g3⟩:=h3 0 t0 rfl
 have ev:v.cells.toList=[v]:=by cases v<;>first | rfl | simp [one] at hv
 rw [ev] at g1
 injection g1 with g1
 subst g1
 refine ⟨t0,h4,fun n ds args i => .comp _ _ ?_ (.leaf _ _ _ (toD_leafy _) g2 (lrel_of_rd noE g3))⟩
 cases t0<;>rfl
end
theorem enter_of {P:Program} {f:FuncId} {fn:Func} (hf:P.funcs[f]? = some fn) (hname:(fn.name == "runtime.NumGoroutine")=false) (hb:fn.body.isNone=false) (args:Array Value) (w:World):(callFunc f args).run P w = .ok (.enter f args) w:=by
 simp only [callFunc,Sem.run_bind,run_program,Result.andThen_ok,hf,hname,hb,Bool.false_eq_true,if_false,Sem.run_pure]
attribute [go_sem] tick_eq toL_ofL wrap_1 Int.sub_zero Int.zero_add Int.add_zero Int.toNat_natCast Int.natCast_nonneg ofN_lt ofN_le
attribute [go_sem] pw_skip pw_seq pw_region pw_draw ef_slot ef_tmp ef_const ef_func ef_ret ef_chk ef_asm
attribute [go_sem] ef_len ef_cell mt_tmpF ph_nil ph_cons pn_nil pn_some pn_none of_s of_c of_st num_d num_s up_n up_c fbS List.contains_cons List.zip_cons_cons List.zip_nil_left List.zip_nil_right Option.some.injEq
attribute [go_sem] pw_cond pw_block pw_exit pw_ret nx_normal nx_ret nx_exit blk_normal blk_ret blk_exit po_nil po_cons
attribute [go_sem] opG opR kept Env.pad opAssign opPick opUn unV opConvert opIndex opLen opCall
attribute [go_sem] opdsR opLoad opStore opFieldAddr opBox opAlloc newCell opBuild partsR places TI.fsize opExtract opField opMakeMap opLookup opMapUpdate mapR zeroV Tab.strMap mapD_mapV K.isStruct
attribute [go_sem] strL TI.strS opNilCheck tmpOf ev_move mt_tmp mt_const mvCs opBin binR binI binS binB
attribute [go_sem] eqRes wrS ev_slot ev_tmp ev_const ev_func ev_ret ev_chk ev_asm ev_all ev_len
attribute [go_sem] ev_cell ev_done ev_app0 ev_app1 ev_s ev_c bnd_v bnd_dead bnd_nil bnd_own bnd_imm bnd_ali
attribute [go_sem] bnd_sub bnd_cref bnd_eref bnd_rptr bnd_agg bnd_tup bnd_clo true_implies as_v as_nil as_own
attribute [go_sem] as_imm as_ali as_cref as_eref as_rptr as_clo as_agg constD_int constD_bool
attribute [go_sem] constD_str constD_nils constD_nilp mvList mvLeaf mvComp mkD setRange rowsR leafR callR as_cons
attribute [go_sem] as_end ar_v ar_imm ar_nil ar1_agg ar3_cref lendable
attribute [go_sem] ar_ali ar_clo ar_agg cl_v cl_nil
attribute [go_sem] cl_imm cl_ali cs_cons cs_nil coeCapt CallAcc.push CallAcc.ok
attribute [go_sem] distinct K.isStruct condR List.replicate List.getD_nil List.getD_cons_zero List.getD_cons_succ List.set_cons_zero List.set_cons_succ List.getElem?_cons_zero List.getElem?_cons_succ List.take_succ_cons
attribute [go_sem] List.take_zero List.drop_succ_cons List.drop_zero List.cons_append List.nil_append List.append_nil List.length_cons List.length_nil List.any_cons List.any_nil List.all_cons List.all_nil
attribute [go_sem] List.map_cons List.map_nil List.contains_nil List.headD List.tail List.isEmpty D.isTup D.anyOwn D.comps D.leaves1 D.isOwn D.anyOwnish
attribute [go_sem] D.ownish D.pure D.capt D.plainish D.isDead D.mapP Option.getD_some Option.getD_none Option.bind_some Option.map_some Option.map_none Nat.zero_le
attribute [go_sem] Nat.zero_add Nat.add_zero bne_self_eq_false beq_self_eq_true decide_true decide_false Bool.or_false Bool.false_or Bool.or_true Bool.true_or Bool.and_true Bool.true_and
attribute [go_sem] Bool.and_false Bool.false_and Bool.false_eq_true Bool.not_true Bool.not_false if_false if_true true_and and_true false_and and_false ge_iff_le
attribute [go_sem] gt_iff_lt not_false_eq_true not_true_eq_false ite_not Nat.lt_irrefl Nat.le_refl decide_eq_true_eq decide_eq_false_iff_not Int.natCast_zero Int.natCast_one Int.cast_ofNat_Int opBuildSlice
attribute [go_sem] rowsOf toTs D.toT chunk List.range_succ List.range_zero List.flatten_cons List.flatten_nil opSlice boundR opAppend opAppend.fin
attribute [go_sem] srcR opMinMax opMinMax.go opMakeFunc opMakeFunc.go opMakeSlice zeroT opIndexAddr storeOwn stCut stD swapLeaves
attribute [go_sem] cutLeaves assignOwn Env.swap Env.cut Env.leaf Env.mapP mapSl mapCe mapLv mapCs D.mapP1 lf1
attribute [go_sem] killB reB D.re D.leafOf Env.killS Env.killC Env.killP Env.kill Env.setLeaf ev_ks ev_kp ev_lf
attribute [go_sem] ev_alle flatB T.toD T.toE toEs Lf.mk.injEq lf_beq Bool.not_eq_true Bool.not_eq_false Option.isSome and_self Nat.not_lt_zero
attribute [go_sem] ev_fz0 ev_rw ev_ca1 ev_cac wbG wbFind
theorem Z {p q:Prop} (x:q) (e:p=q:=by simp only [go_sem,Nat.reduceLeDiff,Nat.reduceLT,Nat.reduceAdd,Nat.reduceSub,Nat.reduceMul,Nat.reduceBEq,Nat.reduceBNe,Nat.reduceEqDiff,reduceCtorEq,reduceIte,Int.reduceLT,Int.reduceLE,Int.reduceAdd,Int.reduceSub,Int.reduceNeg,Int.reduceEq,Int.reduceBEq,Int.reduceBNe,Int.reduceToNat,Nat.reduceDiv,Nat.reduceMod, *]; rfl):p:=e▸x
theorem call0 {P:Program} {K:Env→Prop} {E Ein Eout:Env} {f:FuncId} {k:Env→Option (List W)} {ws:List W} {q:Prop} (h:Sem P f Ein Eout) (x:q) (hk:k Eout=some ws:=by exact retW0 rfl rfl rfl rfl)
  (e:K (E.app ws)=q:=by simp only [go_sem,Nat.reduceLeDiff,Nat.reduceLT,Nat.reduceAdd,Nat.reduceSub,Nat.reduceMul,Nat.reduceBEq,Nat.reduceBNe,Nat.reduceEqDiff,reduceCtorEq,reduceIte,Int.reduceLT,Int.reduceLE,Int.reduceAdd,Int.reduceSub,Int.reduceNeg,Int.reduceEq,Int.reduceBEq,Int.reduceBNe,Int.reduceToNat,Nat.reduceDiv,Nat.reduceMod, *]; rfl):Done P K E (.call f Ein k) :=
 ev_call h hk (e▸x)
theorem calli {P:Program} {K:Env→Prop} {E Ein Eout:Env} {f:FuncId} {k:Env→Option (List W)} {ws:List W} {q:Prop} (h:Sem P f Ein Eout) (x:q) (hk:k Eout=some ws:=by exact retWi rfl rfl rfl rfl)
  (e:K (E.app ws)=q:=by simp only [go_sem,Nat.reduceLeDiff,Nat.reduceLT,Nat.reduceAdd,Nat.reduceSub,Nat.reduceMul,Nat.reduceBEq,Nat.reduceBNe,Nat.reduceEqDiff,reduceCtorEq,reduceIte,Int.reduceLT,Int.reduceLE,Int.reduceAdd,Int.reduceSub,Int.reduceNeg,Int.reduceEq,Int.reduceBEq,Int.reduceBNe,Int.reduceToNat,Nat.reduceDiv,Nat.reduceMod, *]; rfl):Done P K E (.call f Ein k) :=
 ev_call h hk (e▸x)
theorem drawn0 {P:Program} {S:Nat→Bool} {E Ein Eout:Env} {dst:Option Tmp} {Q:Nat→D→Option (Nat × List D)→Prop} {f:FuncId} {k:Env→Option (List W)} {t:Nat} {d:D} {q:Prop} (h:Sem P f Ein Eout) (x:q) (hk:k Eout=some [.ca [] [] [],.rw t d]:=by exact retW0 rfl rfl rfl rfl) (hd:dst=some t:=by rfl) (hS:S t=true:=by rfl) (ho:(E.sl.getD t .dead).anyOwn=false:=by rfl)
  (e:Q t d none=q:=by simp only [go_sem,Nat.reduceLeDiff,Nat.reduceLT,Nat.reduceAdd,Nat.reduceSub,Nat.reduceMul,Nat.reduceBEq,Nat.reduceBNe,Nat.reduceEqDiff,reduceCtorEq,reduceIte,Int.reduceLT,Int.reduceLE,Int.reduceAdd,Int.reduceSub,Int.reduceNeg,Int.reduceEq,Int.reduceBEq,Int.reduceBNe,Int.reduceToNat,Nat.reduceDiv,Nat.reduceMod, *]; rfl):OutF P S E dst Q (.call f Ein k) :=
 of_call h hk hd hS ho (e▸x)
theorem fz {cfg:Cfg} {ts:List RV} {E:Env} {r:D} {x:Go.Exit} (he:x = .normal∨x = .ret:=by first | exact .inr rfl | exact .inl rfl) (hk:cfg.keep=fun _=>false:=by rfl) (hce:E.ce.take cfg.np=List.replicate cfg.np none:=by rfl) (hok:shutOk cfg ts E=true:=by rfl) (hr:shutR E ts=r:=by rfl) :
  Fin cfg ts ⟨List.replicate cfg.np .dead++[r],List.replicate cfg.np none⟩ x E:=fin0 he hk hce hok hr
def pE (n:Nat) (l:List D):Env:=⟨l++List.replicate (n-l.length) .dead,List.replicate n none⟩
theorem take_rest {α:Type} {l:List α} {n:Nat}:(l.drop n).take (l.length-n)=l.drop n:=List.take_of_length_le (by simp)
attribute [go_sem] pE take_rest List.take_length Nat.sub_zero
def pC (n:Nat) (l:List D) (c:List (Option (List D))):Env:=⟨l++List.replicate (n-l.length) .dead,c++List.replicate (n-c.length) none⟩
attribute [go_sem] pC
theorem loopZ {P:Program} {cfg:Cfg} {c:Code} {E:Env} {Q:Go.Exit→Env→Prop} {σ:Type} {q:σ→Prop} (env:σ→Env) (ks:List Nat) (inv:σ→Prop) (μ:σ→Nat) (s0:σ) (hE:E.forget (fun t => !ks.contains t)=env s0) (h0:inv s0) (x:∀ s,inv s→q s)
  (e:∀ s,pwp P cfg c (env s) (Exit.nx (fun E'=>∃ s',E'.forget (fun t => !ks.contains t)=env s'∧inv s'∧μ s'<μ s) Q)=q s:=by intro s; simp only [go_sem,Nat.reduceLeDiff,Nat.reduceLT,Nat.reduceAdd,Nat.reduceSub,Nat.reduceMul,Nat.reduceBEq,Nat.reduceBNe,Nat.reduceEqDiff,reduceCtorEq,reduceIte,Int.reduceLT,Int.reduceLE,Int.reduceAdd,Int.reduceSub,Int.reduceNeg,Int.reduceEq,Int.reduceBEq,Int.reduceBNe,Int.reduceToNat,Nat.reduceDiv,Nat.reduceMod]; rfl):pwp P cfg (.loop c) E Q :=
 loop_on env ks inv μ s0 hE h0 fun s hs=>e s▸x s hs
theorem sid {p q:Prop} (x:q) (h:p:=by first | omega | (simp only [List.length_append,List.length_cons,List.length_nil,List.length_take,List.length_drop]; omega)):p∧q:=⟨h,x⟩
theorem bc {p:Prop} (b:Bool) (h1:b=false→p) (h2:b=true→p):p:=by cases b; exact h1 rfl; exact h2 rfl
theorem fzs {cfg:Cfg} {ts:List RV} {E:Env} {r:D} {x:Go.Exit} (he:x = .normal∨x = .ret:=by first | exact .inr rfl | exact .inl rfl) (hk:cfg.keep=fun _=>false:=by rfl) (hce:E.ce.take cfg.np=List.replicate cfg.np none:=by rfl) (hok:shutOk cfg ts E=true:=by rfl) (hr:shutR E ts=r:=by first | (simp only [shutR,shutD,List.getD_cons_zero,List.getD_cons_succ,go_sem, *]; done) | (simp only [shutR,shutD,List.getD_cons_zero,List.getD_cons_succ]; simp [*])) :
  Fin cfg ts ⟨List.replicate cfg.np .dead++[r],List.replicate cfg.np none⟩ x E:=fin0 he hk hce hok hr
theorem X1 {P1 p q:Prop} (a1:P1) (x:q) (e:P1→p=q:=by intro a1; simp only [go_sem,Nat.reduceLeDiff,Nat.reduceLT,Nat.reduceAdd,Nat.reduceSub,Nat.reduceMul,Nat.reduceBEq,Nat.reduceBNe,Nat.reduceEqDiff,reduceCtorEq,reduceIte,Int.reduceLT,Int.reduceLE,Int.reduceAdd,Int.reduceSub,Int.reduceNeg,Int.reduceEq,Int.reduceBEq,Int.reduceBNe,Int.reduceToNat,Nat.reduceDiv,Nat.reduceMod,a1]; rfl):p:=e a1▸x
theorem X2 {P1 P2 p q:Prop} (a1:P1) (a2:P2) (x:q) (e:P1→P2→p=q:=by intro a1 a2; simp only [go_sem,Nat.reduceLeDiff,Nat.reduceLT,Nat.reduceAdd,Nat.reduceSub,Nat.reduceMul,Nat.reduceBEq,Nat.reduceBNe,Nat.reduceEqDiff,reduceCtorEq,reduceIte,Int.reduceLT,Int.reduceLE,Int.reduceAdd,Int.reduceSub,Int.reduceNeg,Int.reduceEq,Int.reduceBEq,Int.reduceBNe,Int.reduceToNat,Nat.reduceDiv,Nat.reduceMod,a1,a2]; rfl):p:=e a1 a2▸x
theorem X4 {P1 P2 P3 P4 p q:Prop} (a1:P1) (a2:P2) (a3:P3) (a4:P4) (x:q) (e:P1→P2→P3→P4→p=q:=by intro a1 a2 a3 a4; simp only [go_sem,Nat.reduceLeDiff,Nat.reduceLT,Nat.reduceAdd,Nat.reduceSub,Nat.reduceMul,Nat.reduceBEq,Nat.reduceBNe,Nat.reduceEqDiff,reduceCtorEq,reduceIte,Int.reduceLT,Int.reduceLE,Int.reduceAdd,Int.reduceSub,Int.reduceNeg,Int.reduceEq,Int.reduceBEq,Int.reduceBNe,Int.reduceToNat,Nat.reduceDiv,Nat.reduceMod,a1,a2,a3,a4]; rfl):p:=e a1 a2 a3 a4▸x
theorem X5 {P1 P2 P3 P4 P5 p q:Prop} (a1:P1) (a2:P2) (a3:P3) (a4:P4) (a5:P5) (x:q) (e:P1→P2→P3→P4→P5→p=q:=by intro a1 a2 a3 a4 a5; simp only [go_sem,Nat.reduceLeDiff,Nat.reduceLT,Nat.reduceAdd,Nat.reduceSub,Nat.reduceMul,Nat.reduceBEq,Nat.reduceBNe,Nat.reduceEqDiff,reduceCtorEq,reduceIte,Int.reduceLT,Int.reduceLE,Int.reduceAdd,Int.reduceSub,Int.reduceNeg,Int.reduceEq,Int.reduceBEq,Int.reduceBNe,Int.reduceToNat,Nat.reduceDiv,Nat.reduceMod,a1,a2,a3,a4,a5]; rfl):p:=e a1 a2 a3 a4 a5▸x
theorem X8 {P1 P2 P3 P4 P5 P6 P7 P8 p q:Prop} (a1:P1) (a2:P2) (a3:P3) (a4:P4) (a5:P5) (a6:P6) (a7:P7) (a8:P8) (x:q) (e:P1→P2→P3→P4→P5→P6→P7→P8→p=q:=by intro a1 a2 a3 a4 a5 a6 a7 a8; simp only [go_sem,Nat.reduceLeDiff,Nat.reduceLT,Nat.reduceAdd,Nat.reduceSub,Nat.reduceMul,Nat.reduceBEq,Nat.reduceBNe,Nat.reduceEqDiff,reduceCtorEq,reduceIte,Int.reduceLT,Int.reduceLE,Int.reduceAdd,Int.reduceSub,Int.reduceNeg,Int.reduceEq,Int.reduceBEq,Int.reduceBNe,Int.reduceToNat,Nat.reduceDiv,Nat.reduceMod,a1,a2,a3,a4,a5,a6,a7,a8]; rfl):p:=e a1 a2 a3 a4 a5 a6 a7 a8▸x
theorem cf {P:Program} {K:Env→Prop} {E Ein Eout:Env} {f:FuncId} {k:Env→Option (List W)} {ws:List W} (h:Sem P f Ein Eout) (x:K (E.app ws)) (hk:k Eout=some ws:=by exact retW0 rfl rfl rfl rfl):Done P K E (.call f Ein k):=ev_call h hk x
theorem df {P:Program} {S:Nat→Bool} {E Ein Eout:Env} {dst:Option Tmp} {Q:Nat→D→Option (Nat × List D)→Prop} {f:FuncId} {k:Env→Option (List W)} {t:Nat} {d:D} (h:Sem P f Ein Eout) (x:Q t d none) (hk:k Eout=some [.ca [] [] [],.rw t d]:=by exact retW0 rfl rfl rfl rfl) (hd:dst=some t:=by rfl) (hS:S t=true:=by rfl) (ho:(E.sl.getD t .dead).anyOwn=false:=by rfl):OutF P S E dst Q (.call f Ein k):=of_call h hk hd hS ho x
theorem fq {cfg:Cfg} {ts:List RV} {E:Env} {r:D} {x:Go.Exit} (hr:shutR E ts=r) (he:x = .normal∨x = .ret:=by first | exact .inr rfl | exact .inl rfl) (hk:cfg.keep=fun _=>false:=by rfl) (hce:E.ce.take cfg.np=List.replicate cfg.np none:=by rfl) (hok:shutOk cfg ts E=true:=by rfl) :
  Fin cfg ts ⟨List.replicate cfg.np .dead++[r],List.replicate cfg.np none⟩ x E:=fin0 he hk hce hok hr
def Hid (p:Prop):Prop:=p
theorem fqs {cfg:Cfg} {ts:List RV} {E:Env} {r:D} {x:Go.Exit} {q:Prop} (y:q) (e:(shutR E ts=r)=q:=by simp only [shutR,shutD,List.getD_cons_zero,List.getD_cons_succ]; rfl) (he:x = .normal ∨ x = .ret:=by first | exact .inr rfl | exact .inl rfl) (hk:cfg.keep=fun _=>false:=by rfl) (hce:E.ce.take cfg.np=List.replicate cfg.np none:=by rfl) (hok:shutOk cfg ts E=true:=by rfl):
  Fin cfg ts ⟨List.replicate cfg.np .dead++[r],List.replicate cfg.np none⟩ x E:=fin0 he hk hce hok (e ▸ y)
end Go.Proofs.YtbdfdfhamlmodaaGreatDoor.Fw
namespace Go.Proofs.YtbdfdfhamlmodaaGreatDoor.Fw
open Go
open Go.Proofs.Tryz
set_option maxRecDepth 100000
def tb:Tab:=fun t=>match t with
 | 3=>some ⟨.int .i64,1,8,[.v (.int .i64 0)],[],[0]⟩
 | 4=>some ⟨.bool,1,1,[.v (.bool false)],[],[0]⟩
 | 5=>some ⟨.int .u8,1,1,[.v (.int .u8 0)],[],[0]⟩
 | 9=>some ⟨.str,1,16,[.v (vS [])],[],[0]⟩
 | 22=>some ⟨.slice 5,1,24,[.nil],[],[5]⟩
 | 23=>some ⟨.slice 105,1,24,[.nil],[],[105]⟩
 | 25=>some ⟨.struct,7,104,[.v (vS []),.v (vS []),.v (.int .i64 0),.v (vS []),.v (.bool false),.nil,.v (vS [])],[0,1,2,3,4,5,6],[0,0,0,0,0,105,0]⟩
 | 35=>some ⟨.slice 67,1,24,[.nil],[],[67]⟩
 | 39=>some ⟨.slice 71,1,24,[.nil],[],[71]⟩
 | 44=>some ⟨.struct,5,40,[.v (.int .i64 0),.v (.int .i64 0),.v (.int .i64 0),.v (.int .i64 0),.v (.int .i64 0)],[0,1,2,3,4],[0,0,0,0,0]⟩
 | 51=>some ⟨.slice 94,1,24,[.nil],[],[94]⟩
 | 57=>some ⟨.ptr 110,1,8,[.v (.pointer none)],[],[0]⟩
 | 67=>some ⟨.struct,6,72,[.v (.int .i64 0),.v (.int .i64 0),.v (.int .i64 0),.v (vS []),.v (vS []),.v (vS [])],[0,1,2,3,4,5],[0,0,0,0,0,0]⟩
 | 69=>some ⟨.slice 3,1,24,[.nil],[],[3]⟩
 | 71=>some ⟨.struct,6,72,[.v (.int .i64 0),.v (.int .i64 0),.v (.int .i64 0),.v (vS []),.v (vS []),.v (vS [])],[0,1,2,3,4,5],[0,0,0,0,0,0]⟩
 | 79=>some ⟨.map 9 4,1,8,[.v (.map none)],[],[0]⟩
 | 84=>some ⟨.other,1,8,[.v .nilFunc],[],[0]⟩
 | 87=>some ⟨.slice 9,1,24,[.nil],[],[9]⟩
 | 89=>some ⟨.struct,5,64,[.v (vS []),.v (.int .i64 0),.v (vS []),.v (vS []),.v (.bool false)],[0,1,2,3,4],[0,0,0,0,0]⟩
 | 94=>some ⟨.struct,3,32,[.v (vS []),.v (.int .i64 0),.v (.int .i64 0)],[0,1,2],[0,0,0]⟩
 | 98=>some ⟨.other,1,8,[.v .nilFunc],[],[0]⟩
 | 105=>some ⟨.struct,2,32,[.v (vS []),.v (vS [])],[0,1],[0,0]⟩
 | 110=>some ⟨.struct,3,40,[.nil,.v (.int .i64 0),.v (.int .i64 0)],[0,1,2],[5,0,0]⟩
 | 115=>some ⟨.struct,2,32,[.v (.pointer none),.nil],[0,1],[0,5]⟩
 | 125=>some ⟨.struct,2,24,[.v (vS []),.v (.int .i64 0)],[0,1],[0,0]⟩
 | 146=>some ⟨.other,1,8,[.v .nilFunc],[],[0]⟩
 | 149=>some ⟨.int .u64,1,8,[.v (.int .u64 0)],[],[0]⟩
 | _=>none
theorem tbOk:TabOk prog tb:=by
 intro t i h
 unfold tb at h
 split at h
 ·injection h with h; subst h; exact ⟨underlying3,⟨(prog.info? 3).get rfl,.int .i64 0,rfl,rfl,rfl,rfl,rfl,rfl,rfl⟩,rfl,rfl,fun _=>rfl,by decide,by decide,fun _=>zone_of (j0:=(prog.info? 3).get rfl) rfl rfl rfl,fun h=>(by cases h)⟩
 ·injection h with h; subst h; exact ⟨underlying4,⟨(prog.info? 4).get rfl,.bool false,rfl,rfl,rfl,rfl,rfl,rfl,rfl⟩,rfl,rfl,fun _=>rfl,by decide,by decide,fun _=>zone_of (j0:=(prog.info? 4).get rfl) rfl rfl rfl,fun h=>(by cases h)⟩
 ·injection h with h; subst h; exact ⟨underlying5,⟨(prog.info? 5).get rfl,.int .u8 0,rfl,rfl,rfl,rfl,rfl,rfl,rfl⟩,rfl,rfl,fun _=>rfl,by decide,by decide,fun _=>zone_of (j0:=(prog.info? 5).get rfl) rfl rfl rfl,fun h=>(by cases h)⟩
 ·injection h with h; subst h; exact ⟨underlying9,⟨(prog.info? 9).get rfl,.string ⟨#[]⟩,rfl,rfl,rfl,rfl,rfl,rfl,rfl⟩,rfl,rfl,fun _=>rfl,by decide,by decide,fun _=>zone_of (j0:=(prog.info? 9).get rfl) rfl rfl rfl,fun h=>(by cases h)⟩
 ·injection h with h; subst h; exact ⟨⟨underlying22,⟨_,rfl⟩,by decide⟩,⟨(prog.info? 22).get rfl,.slice none 0 0,rfl,rfl,rfl,rfl,rfl,rfl,rfl⟩,rfl,rfl,fun _=>rfl,by decide,by decide,fun _=>zone_of (j0:=(prog.info? 22).get rfl) rfl rfl rfl,fun h=>(by cases h)⟩
 ·injection h with h; subst h; exact ⟨⟨underlying23,⟨_,rfl⟩,by decide⟩,⟨(prog.info? 23).get rfl,.slice none 0 0,rfl,rfl,rfl,rfl,rfl,rfl,rfl⟩,rfl,rfl,fun _=>rfl,by decide,by decide,fun _=>zone_of (j0:=(prog.info? 23).get rfl) rfl rfl rfl,fun h=>(by cases h)⟩
 ·injection h with h; subst h
  refine ⟨⟨_,underlying25,by decide,fun f off h => ?_⟩,⟨(prog.info? 25).get rfl,.agg #[.string ⟨#[]⟩,.string ⟨#[]⟩,.int .i64 0,.string ⟨#[]⟩,.bool false,.slice none 0 0,.string ⟨#[]⟩],rfl,rfl,rfl,rfl,rfl,rfl,rfl⟩,rfl,rfl,fun h=>(by cases h),by decide,by decide,fun h=>(by cases h),fun h=>(by cases h)⟩
  iterate 7 (rcases f with _ | f; · injection h with h; subst h; exact ⟨_,rfl,rfl,_,rfl,by decide,rfl⟩)
  cases h
 ·injection h with h; subst h; exact ⟨⟨underlying35,⟨_,rfl⟩,by decide⟩,⟨(prog.info? 35).get rfl,.slice none 0 0,rfl,rfl,rfl,rfl,rfl,rfl,rfl⟩,rfl,rfl,fun _=>rfl,by decide,by decide,fun _=>zone_of (j0:=(prog.info? 35).get rfl) rfl rfl rfl,fun h=>(by cases h)⟩
 ·injection h with h; subst h; exact ⟨⟨underlying39,⟨_,rfl⟩,by decide⟩,⟨(prog.info? 39).get rfl,.slice none 0 0,rfl,rfl,rfl,rfl,rfl,rfl,rfl⟩,rfl,rfl,fun _=>rfl,by decide,by decide,fun _=>zone_of (j0:=(prog.info? 39).get rfl) rfl rfl rfl,fun h=>(by cases h)⟩
 ·injection h with h; subst h
  refine ⟨⟨_,underlying44,by decide,fun f off h => ?_⟩,⟨(prog.info? 44).get rfl,.agg #[.int .i64 0,.int .i64 0,.int .i64 0,.int .i64 0,.int .i64 0],rfl,rfl,rfl,rfl,rfl,rfl,rfl⟩,rfl,rfl,fun h=>(by cases h),by decide,by decide,fun h=>(by cases h),fun h=>(by cases h)⟩
  iterate 5 (rcases f with _ | f; · injection h with h; subst h; exact ⟨_,rfl,rfl,_,rfl,by decide,rfl⟩)
  cases h
 ·injection h with h; subst h; exact ⟨⟨underlying51,⟨_,rfl⟩,by decide⟩,⟨(prog.info? 51).get rfl,.slice none 0 0,rfl,rfl,rfl,rfl,rfl,rfl,rfl⟩,rfl,rfl,fun _=>rfl,by decide,by decide,fun _=>zone_of (j0:=(prog.info? 51).get rfl) rfl rfl rfl,fun h=>(by cases h)⟩
 ·injection h with h; subst h; exact ⟨underlying57,⟨(prog.info? 57).get rfl,.pointer none,rfl,rfl,rfl,rfl,rfl,rfl,rfl⟩,rfl,rfl,fun _=>rfl,by decide,by decide,fun _=>zone_of (j0:=(prog.info? 57).get rfl) rfl rfl rfl,fun h=>(by cases h)⟩
 ·injection h with h; subst h
  refine ⟨⟨_,underlying67,by decide,fun f off h => ?_⟩,⟨(prog.info? 67).get rfl,.agg #[.int .i64 0,.int .i64 0,.int .i64 0,.string ⟨#[]⟩,.string ⟨#[]⟩,.string ⟨#[]⟩],rfl,rfl,rfl,rfl,rfl,rfl,rfl⟩,rfl,rfl,fun h=>(by cases h),by decide,by decide,fun h=>(by cases h),fun h=>(by cases h)⟩
  iterate 6 (rcases f with _ | f; · injection h with h; subst h; exact ⟨_,rfl,rfl,_,rfl,by decide,rfl⟩)
  cases h
 ·injection h with h; subst h; exact ⟨⟨underlying69,⟨_,rfl⟩,by decide⟩,⟨(prog.info? 69).get rfl,.slice none 0 0,rfl,rfl,rfl,rfl,rfl,rfl,rfl⟩,rfl,rfl,fun _=>rfl,by decide,by decide,fun _=>zone_of (j0:=(prog.info? 69).get rfl) rfl rfl rfl,fun h=>(by cases h)⟩
 ·injection h with h; subst h
  refine ⟨⟨_,underlying71,by decide,fun f off h => ?_⟩,⟨(prog.info? 71).get rfl,.agg #[.int .i64 0,.int .i64 0,.int .i64 0,.string ⟨#[]⟩,.string ⟨#[]⟩,.string ⟨#[]⟩],rfl,rfl,rfl,rfl,rfl,rfl,rfl⟩,rfl,rfl,fun h=>(by cases h),by decide,by decide,fun h=>(by cases h),fun h=>(by cases h)⟩
  iterate 6 (rcases f with _ | f; · injection h with h; subst h; exact ⟨_,rfl,rfl,_,rfl,by decide,rfl⟩)
  cases h
 ·injection h with h; subst h; exact ⟨underlying79,⟨(prog.info? 79).get rfl,.map none,rfl,rfl,rfl,rfl,rfl,rfl,rfl⟩,rfl,rfl,fun _=>rfl,by decide,by decide,fun _=>zone_of (j0:=(prog.info? 79).get rfl) rfl rfl rfl,fun h=>(by cases h)⟩
 ·injection h with h; subst h; exact ⟨⟨_,underlying84,trivial⟩,⟨(prog.info? 84).get rfl,.nilFunc,rfl,rfl,rfl,rfl,rfl,rfl,rfl⟩,rfl,rfl,fun _=>rfl,by decide,by decide,fun _=>zone_of (j0:=(prog.info? 84).get rfl) rfl rfl rfl,fun h=>(by cases h)⟩
 ·injection h with h; subst h; exact ⟨⟨underlying87,⟨_,rfl⟩,by decide⟩,⟨(prog.info? 87).get rfl,.slice none 0 0,rfl,rfl,rfl,rfl,rfl,rfl,rfl⟩,rfl,rfl,fun _=>rfl,by decide,by decide,fun _=>zone_of (j0:=(prog.info? 87).get rfl) rfl rfl rfl,fun h=>(by cases h)⟩
 ·injection h with h; subst h
  refine ⟨⟨_,underlying89,by decide,fun f off h => ?_⟩,⟨(prog.info? 89).get rfl,.agg #[.string ⟨#[]⟩,.int .i64 0,.string ⟨#[]⟩,.string ⟨#[]⟩,.bool false],rfl,rfl,rfl,rfl,rfl,rfl,rfl⟩,rfl,rfl,fun h=>(by cases h),by decide,by decide,fun h=>(by cases h),fun h=>(by cases h)⟩
  iterate 5 (rcases f with _ | f; · injection h with h; subst h; exact ⟨_,rfl,rfl,_,rfl,by decide,rfl⟩)
  cases h
 ·injection h with h; subst h
  refine ⟨⟨_,underlying94,by decide,fun f off h => ?_⟩,⟨(prog.info? 94).get rfl,.agg #[.string ⟨#[]⟩,.int .i64 0,.int .i64 0],rfl,rfl,rfl,rfl,rfl,rfl,rfl⟩,rfl,rfl,fun h=>(by cases h),by decide,by decide,fun h=>(by cases h),fun h=>(by cases h)⟩
  iterate 3 (rcases f with _ | f; · injection h with h; subst h; exact ⟨_,rfl,rfl,_,rfl,by decide,rfl⟩)
  cases h
 ·injection h with h; subst h; exact ⟨⟨_,underlying98,trivial⟩,⟨(prog.info? 98).get rfl,.nilFunc,rfl,rfl,rfl,rfl,rfl,rfl,rfl⟩,rfl,rfl,fun _=>rfl,by decide,by decide,fun _=>zone_of (j0:=(prog.info? 98).get rfl) rfl rfl rfl,fun h=>(by cases h)⟩
 ·injection h with h; subst h
  refine ⟨⟨_,underlying105,by decide,fun f off h => ?_⟩,⟨(prog.info? 105).get rfl,.agg #[.string ⟨#[]⟩,.string ⟨#[]⟩],rfl,rfl,rfl,rfl,rfl,rfl,rfl⟩,rfl,rfl,fun h=>(by cases h),by decide,by decide,fun h=>(by cases h),fun _=>⟨_,underlying105,stoodInHeld105,eqGuardType105,rfl,fun i f h=>(match i,h with | 0,h=>by injection h with h; subst h; exact ⟨by decide,rfl,underlying9⟩ | 1,h=>by injection h with h; subst h; exact ⟨by decide,rfl,underlying9⟩ | n+2,h=>by cases h)⟩⟩
  iterate 2 (rcases f with _ | f; · injection h with h; subst h; exact ⟨_,rfl,rfl,_,rfl,by decide,rfl⟩)
  cases h
 ·injection h with h; subst h
  refine ⟨⟨_,underlying110,by decide,fun f off h => ?_⟩,⟨(prog.info? 110).get rfl,.agg #[.slice none 0 0,.int .i64 0,.int .i64 0],rfl,rfl,rfl,rfl,rfl,rfl,rfl⟩,rfl,rfl,fun h=>(by cases h),by decide,by decide,fun h=>(by cases h),fun h=>(by cases h)⟩
  iterate 3 (rcases f with _ | f; · injection h with h; subst h; exact ⟨_,rfl,rfl,_,rfl,by decide,rfl⟩)
  cases h
 ·injection h with h; subst h
  refine ⟨⟨_,underlying115,by decide,fun f off h => ?_⟩,⟨(prog.info? 115).get rfl,.agg #[.pointer none,.slice none 0 0],rfl,rfl,rfl,rfl,rfl,rfl,rfl⟩,rfl,rfl,fun h=>(by cases h),by decide,by decide,fun h=>(by cases h),fun h=>(by cases h)⟩
  iterate 2 (rcases f with _ | f; · injection h with h; subst h; exact ⟨_,rfl,rfl,_,rfl,by decide,rfl⟩)
  cases h
 ·injection h with h; subst h
  refine ⟨⟨_,underlying125,by decide,fun f off h => ?_⟩,⟨(prog.info? 125).get rfl,.agg #[.string ⟨#[]⟩,.int .i64 0],rfl,rfl,rfl,rfl,rfl,rfl,rfl⟩,rfl,rfl,fun h=>(by cases h),by decide,by decide,fun h=>(by cases h),fun h=>(by cases h)⟩
  iterate 2 (rcases f with _ | f; · injection h with h; subst h; exact ⟨_,rfl,rfl,_,rfl,by decide,rfl⟩)
  cases h
 ·injection h with h; subst h; exact ⟨⟨_,underlying146,trivial⟩,⟨(prog.info? 146).get rfl,.nilFunc,rfl,rfl,rfl,rfl,rfl,rfl,rfl⟩,rfl,rfl,fun _=>rfl,by decide,by decide,fun _=>zone_of (j0:=(prog.info? 146).get rfl) rfl rfl rfl,fun h=>(by cases h)⟩
 ·injection h with h; subst h; exact ⟨underlying149,⟨(prog.info? 149).get rfl,.int .u64 0,rfl,rfl,rfl,rfl,rfl,rfl,rfl⟩,rfl,rfl,fun _=>rfl,by decide,by decide,fun _=>zone_of (j0:=(prog.info? 149).get rfl) rfl rfl rfl,fun h=>(by cases h)⟩
 ·cases h
theorem tb_all:tb 3=some ⟨.int .i64,1,8,[.v (.int .i64 0)],[],[0]⟩∧tb 4=some ⟨.bool,1,1,[.v (.bool false)],[],[0]⟩∧tb 5=some ⟨.int .u8,1,1,[.v (.int .u8 0)],[],[0]⟩∧tb 9=some ⟨.str,1,16,[.v (vS [])],[],[0]⟩∧tb 22=some ⟨.slice 5,1,24,[.nil],[],[5]⟩∧tb 23=some ⟨.slice 105,1,24,[.nil],[],[105]⟩∧tb 25=some ⟨.struct,7,104,[.v (vS []),.v (vS []),.v (.int .i64 0),.v (vS []),.v (.bool false),.nil,.v (vS [])],[0,1,2,3,4,5,6],[0,0,0,0,0,105,0]⟩∧tb 35=some ⟨.slice 67,1,24,[.nil],[],[67]⟩∧tb 39=some ⟨.slice 71,1,24,[.nil],[],[71]⟩∧tb 44=some ⟨.struct,5,40,[.v (.int .i64 0),.v (.int .i64 0),.v (.int .i64 0),.v (.int .i64 0),.v (.int .i64 0)],[0,1,2,3,4],[0,0,0,0,0]⟩∧tb 51=some ⟨.slice 94,1,24,[.nil],[],[94]⟩∧tb 57=some ⟨.ptr 110,1,8,[.v (.pointer none)],[],[0]⟩∧tb 67=some ⟨.struct,6,72,[.v (.int .i64 0),.v (.int .i64 0),.v (.int .i64 0),.v (vS []),.v (vS []),.v (vS [])],[0,1,2,3,4,5],[0,0,0,0,0,0]⟩∧tb 69=some ⟨.slice 3,1,24,[.nil],[],[3]⟩∧tb 71=some ⟨.struct,6,72,[.v (.int .i64 0),.v (.int .i64 0),.v (.int .i64 0),.v (vS []),.v (vS []),.v (vS [])],[0,1,2,3,4,5],[0,0,0,0,0,0]⟩∧tb 79=some ⟨.map 9 4,1,8,[.v (.map none)],[],[0]⟩∧tb 84=some ⟨.other,1,8,[.v .nilFunc],[],[0]⟩∧tb 87=some ⟨.slice 9,1,24,[.nil],[],[9]⟩∧tb 89=some ⟨.struct,5,64,[.v (vS []),.v (.int .i64 0),.v (vS []),.v (vS []),.v (.bool false)],[0,1,2,3,4],[0,0,0,0,0]⟩∧tb 94=some ⟨.struct,3,32,[.v (vS []),.v (.int .i64 0),.v (.int .i64 0)],[0,1,2],[0,0,0]⟩∧tb 98=some ⟨.other,1,8,[.v .nilFunc],[],[0]⟩∧tb 105=some ⟨.struct,2,32,[.v (vS []),.v (vS [])],[0,1],[0,0]⟩∧tb 110=some ⟨.struct,3,40,[.nil,.v (.int .i64 0),.v (.int .i64 0)],[0,1,2],[5,0,0]⟩∧tb 115=some ⟨.struct,2,32,[.v (.pointer none),.nil],[0,1],[0,5]⟩∧tb 125=some ⟨.struct,2,24,[.v (vS []),.v (.int .i64 0)],[0,1],[0,0]⟩∧tb 146=some ⟨.other,1,8,[.v .nilFunc],[],[0]⟩∧tb 149=some ⟨.int .u64,1,8,[.v (.int .u64 0)],[],[0]⟩:=⟨rfl,rfl,rfl,rfl,rfl,rfl,rfl,rfl,rfl,rfl,rfl,rfl,rfl,rfl,rfl,rfl,rfl,rfl,rfl,rfl,rfl,rfl,rfl,rfl,rfl,rfl,rfl⟩
attribute [go_sem] tb_all
theorem kd_all:tb.kd 3=some (.int .i64)∧tb.kd 4=some (.bool)∧tb.kd 5=some (.int .u8)∧tb.kd 9=some (.str)∧tb.kd 22=some (.slice 5)∧tb.kd 23=some (.slice 105)∧tb.kd 25=some (.struct)∧tb.kd 35=some (.slice 67)∧tb.kd 39=some (.slice 71)∧tb.kd 44=some (.struct)∧tb.kd 51=some (.slice 94)∧tb.kd 57=some (.ptr 110)∧tb.kd 67=some (.struct)∧tb.kd 69=some (.slice 3)∧tb.kd 71=some (.struct)∧tb.kd 79=some (.map 9 4)∧tb.kd 84=some (.other)∧tb.kd 87=some (.slice 9)∧tb.kd 89=some (.struct)∧tb.kd 94=some (.struct)∧tb.kd 98=some (.other)∧tb.kd 105=some (.struct)∧tb.kd 110=some (.struct)∧tb.kd 115=some (.struct)∧tb.kd 125=some (.struct)∧tb.kd 146=some (.other)∧tb.kd 149=some (.int .u64):=⟨rfl,rfl,rfl,rfl,rfl,rfl,rfl,rfl,rfl,rfl,rfl,rfl,rfl,rfl,rfl,rfl,rfl,rfl,rfl,rfl,rfl,rfl,rfl,rfl,rfl,rfl,rfl⟩
attribute [go_sem] kd_all
def ptsL:List (List TypeId):=[[],[],[],[22],[35,3],[35],[35,3],[35,3,9],[35],[22],[25],[25],[],[9],[25,25],[9,4],[35,3],[39,3],[35],[39,3],[39,39],[39],[39],[44,44],[39,3],[39,3],[39,3,9],[39,3,9],[39],[39],[51,51],[39,3],[51,3],[51,3],[57],[22],[25],[25],[23],[23],[25],[25],[25],[9],[3,4],[9,4,4],[23,23],[67,3],[3],[39,3],[67],[3],[39,3],[71,71],[39],[9],[39],[9],[9],[25],[3,4],[9],[3],[71],[3,3,3],[9],[9],[3],[71],[9],[87,9],[9],[51,9,98],[94,9],[9,9],[51,3,51],[94,94],[3],[57],[57,3],[57,3],[57,9],[57,69],[57,3,9],[23],[],[23,9],[9],[9],[3],[9],[3],[113,9],[3],[105],[113],[105],[9],[9],[9],[9],[3],[3],[105],[125],[9,9],[9],[125],[125,3],[3],[9,4],[23,4,4],[23,84],[9],[87,9],[9],[3,3,3],[71],[9],[71],[9,9],[9,4,4],[3],[89],[71],[3,3],[89],[3],[9,5],[9],[9],[89],[87,9],[9,146],[5],[9,9],[9,9],[9],[9],[9],[89],[],[51,51],[51,3],[57],[57],[105],[23,9],[9],[5],[],[],[9],[5],[5],[5],[125],[],[5],[9],[9,4],[23,9],[23],[],[5],[],[9,4],[23,4,4],[9,3,3],[23,9],[89],[9,4],[89],[89],[5],[9,5],[9],[9],[],[],[],[],[9],[3],[9,9],[9,9],[9,9],[9],[87,9],[9],[],[51,3],[9],[9,9],[5],[],[],[5],[9,5],[5],[9,9],[9],[23,9],[9,5],[],[],[],[125],[9],[9],[9],[23,9],[23,9],[9],[9,9],[89],[89],[9],[5],[5],[9,5],[],[],[],[],[],[5],[],[5],[5],[51],[5],[],[],[],[],[],[9,9],[9,5],[],[125],[23,9],[9],[23,9],[125],[125,3],[],[],[],[],[],[],[],[],[],[],[],[],[],[],[],[],[],[],[],[],[],[],[],[],[],[],[],[],[],[],[],[],[],[],[],[],[],[],[],[],[25]]
def pts (f:FuncId):List TypeId:=ptsL.getD f []
theorem pts_all:pts 3=[22]∧pts 4=[35,3]∧pts 5=[35]∧pts 6=[35,3]∧pts 7=[35,3,9]∧pts 8=[35]∧pts 9=[22]∧pts 10=[25]∧pts 11=[25]∧pts 13=[9]∧pts 14=[25,25]∧pts 15=[9,4]∧pts 16=[35,3]∧pts 17=[39,3]∧pts 18=[35]∧pts 19=[39,3]∧pts 20=[39,39]∧pts 21=[39]∧pts 22=[39]∧pts 23=[44,44]∧pts 24=[39,3]∧pts 25=[39,3]∧pts 26=[39,3,9]∧pts 27=[39,3,9]∧pts 28=[39]∧pts 29=[39]∧pts 30=[51,51]∧pts 31=[39,3]∧pts 32=[51,3]∧pts 33=[51,3]∧pts 34=[57]∧pts 35=[22]∧pts 36=[25]∧pts 37=[25]∧pts 38=[23]∧pts 39=[23]∧pts 40=[25]∧pts 41=[25]∧pts 42=[25]∧pts 43=[9]∧pts 44=[3,4]∧pts 45=[9,4,4]∧pts 46=[23,23]∧pts 47=[67,3]∧pts 48=[3]∧pts 49=[39,3]∧pts 50=[67]∧pts 51=[3]∧pts 52=[39,3]∧pts 53=[71,71]∧pts 54=[39]∧pts 55=[9]∧pts 56=[39]∧pts 57=[9]∧pts 58=[9]∧pts 59=[25]∧pts 60=[3,4]∧pts 61=[9]∧pts 62=[3]∧pts 63=[71]∧pts 64=[3,3,3]∧pts 65=[9]∧pts 66=[9]∧pts 67=[3]∧pts 68=[71]∧pts 69=[9]∧pts 70=[87,9]∧pts 71=[9]∧pts 72=[51,9,98]∧pts 73=[94,9]∧pts 74=[9,9]∧pts 75=[51,3,51]∧pts 76=[94,94]∧pts 77=[3]∧pts 78=[57]∧pts 79=[57,3]∧pts 80=[57,3]∧pts 81=[57,9]∧pts 82=[57,69]∧pts 83=[57,3,9]∧pts 84=[23]∧pts 86=[23,9]∧pts 87=[9]∧pts 88=[9]∧pts 89=[3]∧pts 90=[9]∧pts 91=[3]∧pts 92=[113,9]∧pts 93=[3]∧pts 94=[105]∧pts 95=[113]∧pts 96=[105]∧pts 97=[9]∧pts 98=[9]∧pts 99=[9]∧pts 100=[9]∧pts 101=[3]∧pts 102=[3]∧pts 103=[105]∧pts 104=[125]∧pts 105=[9,9]∧pts 106=[9]∧pts 107=[125]∧pts 108=[125,3]∧pts 109=[3]∧pts 110=[9,4]∧pts 111=[23,4,4]∧pts 112=[23,84]∧pts 113=[9]∧pts 114=[87,9]∧pts 115=[9]∧pts 116=[3,3,3]∧pts 117=[71]∧pts 118=[9]∧pts 119=[71]∧pts 120=[9,9]∧pts 121=[9,4,4]∧pts 122=[3]∧pts 123=[89]∧pts 124=[71]∧pts 125=[3,3]∧pts 126=[89]∧pts 127=[3]∧pts 128=[9,5]∧pts 129=[9]∧pts 130=[9]∧pts 131=[89]∧pts 132=[87,9]∧pts 133=[9,146]∧pts 134=[5]∧pts 135=[9,9]∧pts 136=[9,9]∧pts 137=[9]∧pts 138=[9]∧pts 139=[9]∧pts 140=[89]∧pts 142=[51,51]∧pts 143=[51,3]∧pts 144=[57]∧pts 145=[57]∧pts 146=[105]∧pts 147=[23,9]∧pts 148=[9]∧pts 149=[5]∧pts 152=[9]∧pts 153=[5]∧pts 154=[5]∧pts 155=[5]∧pts 156=[125]∧pts 158=[5]∧pts 159=[9]∧pts 160=[9,4]∧pts 161=[23,9]∧pts 162=[23]∧pts 164=[5]∧pts 166=[9,4]∧pts 167=[23,4,4]∧pts 168=[9,3,3]∧pts 169=[23,9]∧pts 170=[89]∧pts 171=[9,4]∧pts 172=[89]∧pts 173=[89]∧pts 174=[5]∧pts 175=[9,5]∧pts 176=[9]∧pts 177=[9]∧pts 182=[9]∧pts 183=[3]∧pts 184=[9,9]∧pts 185=[9,9]∧pts 186=[9,9]∧pts 187=[9]∧pts 188=[87,9]∧pts 189=[9]∧pts 191=[51,3]∧pts 192=[9]∧pts 193=[9,9]∧pts 194=[5]∧pts 197=[5]∧pts 198=[9,5]∧pts 199=[5]∧pts 200=[9,9]∧pts 201=[9]∧pts 202=[23,9]∧pts 203=[9,5]∧pts 207=[125]∧pts 208=[9]∧pts 209=[9]∧pts 210=[9]∧pts 211=[23,9]∧pts 212=[23,9]∧pts 213=[9]∧pts 214=[9,9]∧pts 215=[89]∧pts 216=[89]∧pts 217=[9]∧pts 218=[5]∧pts 219=[5]∧pts 220=[9,5]∧pts 226=[5]∧pts 228=[5]∧pts 229=[5]∧pts 230=[51]∧pts 231=[5]∧pts 237=[9,9]∧pts 238=[9,5]∧pts 240=[125]∧pts 241=[23,9]∧pts 242=[9]∧pts 243=[23,9]∧pts 244=[125]∧pts 245=[125,3]∧pts 286=[25]:=⟨rfl,rfl,rfl,rfl,rfl,rfl,rfl,rfl,rfl,rfl,rfl,rfl,rfl,rfl,rfl,rfl,rfl,rfl,rfl,rfl,rfl,rfl,rfl,rfl,rfl,rfl,rfl,rfl,rfl,rfl,rfl,rfl,rfl,rfl,rfl,rfl,rfl,rfl,rfl,rfl,rfl,rfl,rfl,rfl,rfl,rfl,rfl,rfl,rfl,rfl,rfl,rfl,rfl,rfl,rfl,rfl,rfl,rfl,rfl,rfl,rfl,rfl,rfl,rfl,rfl,rfl,rfl,rfl,rfl,rfl,rfl,rfl,rfl,rfl,rfl,rfl,rfl,rfl,rfl,rfl,rfl,rfl,rfl,rfl,rfl,rfl,rfl,rfl,rfl,rfl,rfl,rfl,rfl,rfl,rfl,rfl,rfl,rfl,rfl,rfl,rfl,rfl,rfl,rfl,rfl,rfl,rfl,rfl,rfl,rfl,rfl,rfl,rfl,rfl,rfl,rfl,rfl,rfl,rfl,rfl,rfl,rfl,rfl,rfl,rfl,rfl,rfl,rfl,rfl,rfl,rfl,rfl,rfl,rfl,rfl,rfl,rfl,rfl,rfl,rfl,rfl,rfl,rfl,rfl,rfl,rfl,rfl,rfl,rfl,rfl,rfl,rfl,rfl,rfl,rfl,rfl,rfl,rfl,rfl,rfl,rfl,rfl,rfl,rfl,rfl,rfl,rfl,rfl,rfl,rfl,rfl,rfl,rfl,rfl,rfl,rfl,rfl,rfl,rfl,rfl,rfl,rfl,rfl,rfl,rfl,rfl,rfl,rfl,rfl,rfl,rfl,rfl,rfl,rfl,rfl,rfl,rfl,rfl,rfl,rfl,rfl,rfl,rfl,rfl,rfl,rfl,rfl,rfl,rfl,rfl,rfl,rfl,rfl,rfl⟩
attribute [go_sem] pts_all
def md:FuncId→Nat→Nat:=fun f i=>match f,i with
 | 31,0=>1
 | 32,0=>1
 | 34,0=>2
 | 70,0=>1
 | 75,0=>1
 | 75,2=>1
 | 78,0=>2
 | 79,0=>2
 | 80,0=>2
 | 81,0=>2
 | 82,0=>2
 | 83,0=>2
 | 144,0=>2
 | 145,0=>2
 | 237,1=>3
 | 286,0=>1
 | _,_=>0
theorem md_all:md 3 0=0∧md 4 0=0∧md 4 1=0∧md 5 0=0∧md 6 0=0∧md 6 1=0∧md 7 0=0∧md 7 1=0∧md 7 2=0∧md 8 0=0∧md 9 0=0∧md 10 0=0∧md 11 0=0∧md 13 0=0∧md 14 0=0∧md 14 1=0∧md 15 0=0∧md 15 1=0∧md 16 0=0∧md 16 1=0∧md 17 0=0∧md 17 1=0∧md 18 0=0∧md 19 0=0∧md 19 1=0∧md 20 0=0∧md 20 1=0∧md 21 0=0∧md 22 0=0∧md 23 0=0∧md 23 1=0∧md 24 0=0∧md 24 1=0∧md 25 0=0∧md 25 1=0∧md 26 0=0∧md 26 1=0∧md 26 2=0∧md 27 0=0∧md 27 1=0∧md 27 2=0∧md 28 0=0∧md 29 0=0∧md 30 0=0∧md 30 1=0∧md 31 0=1∧md 31 1=0∧md 32 0=1∧md 32 1=0∧md 33 0=0∧md 33 1=0∧md 34 0=2∧md 35 0=0∧md 36 0=0∧md 37 0=0∧md 38 0=0∧md 39 0=0∧md 40 0=0∧md 41 0=0∧md 42 0=0∧md 43 0=0∧md 44 0=0∧md 44 1=0∧md 45 0=0∧md 45 1=0∧md 45 2=0∧md 46 0=0∧md 46 1=0∧md 47 0=0∧md 47 1=0∧md 48 0=0∧md 49 0=0∧md 49 1=0∧md 50 0=0∧md 51 0=0∧md 52 0=0∧md 52 1=0∧md 53 0=0∧md 53 1=0∧md 54 0=0∧md 55 0=0∧md 56 0=0∧md 57 0=0∧md 58 0=0∧md 59 0=0∧md 60 0=0∧md 60 1=0∧md 61 0=0∧md 62 0=0∧md 63 0=0∧md 64 0=0∧md 64 1=0∧md 64 2=0∧md 65 0=0∧md 66 0=0∧md 67 0=0∧md 68 0=0∧md 69 0=0∧md 70 0=1∧md 70 1=0∧md 71 0=0∧md 72 0=0∧md 72 1=0∧md 72 2=0∧md 73 0=0∧md 73 1=0∧md 74 0=0∧md 74 1=0∧md 75 0=1∧md 75 1=0∧md 75 2=1∧md 76 0=0∧md 76 1=0∧md 77 0=0∧md 78 0=2∧md 79 0=2∧md 79 1=0∧md 80 0=2∧md 80 1=0∧md 81 0=2∧md 81 1=0∧md 82 0=2∧md 82 1=0∧md 83 0=2∧md 83 1=0∧md 83 2=0∧md 84 0=0∧md 86 0=0∧md 86 1=0∧md 87 0=0∧md 88 0=0∧md 89 0=0∧md 90 0=0∧md 91 0=0∧md 92 0=0∧md 92 1=0∧md 93 0=0∧md 94 0=0∧md 95 0=0∧md 96 0=0∧md 97 0=0∧md 98 0=0∧md 99 0=0∧md 100 0=0∧md 101 0=0∧md 102 0=0∧md 103 0=0∧md 104 0=0∧md 105 0=0∧md 105 1=0∧md 106 0=0∧md 107 0=0∧md 108 0=0∧md 108 1=0∧md 109 0=0∧md 110 0=0∧md 110 1=0∧md 111 0=0∧md 111 1=0∧md 111 2=0∧md 112 0=0∧md 112 1=0∧md 113 0=0∧md 114 0=0∧md 114 1=0∧md 115 0=0∧md 116 0=0∧md 116 1=0∧md 116 2=0∧md 117 0=0∧md 118 0=0∧md 119 0=0∧md 120 0=0∧md 120 1=0∧md 121 0=0∧md 121 1=0∧md 121 2=0∧md 122 0=0∧md 123 0=0∧md 124 0=0∧md 125 0=0∧md 125 1=0∧md 126 0=0∧md 127 0=0∧md 128 0=0∧md 128 1=0∧md 129 0=0∧md 130 0=0∧md 131 0=0∧md 132 0=0∧md 132 1=0∧md 133 0=0∧md 133 1=0∧md 134 0=0∧md 135 0=0∧md 135 1=0∧md 136 0=0∧md 136 1=0∧md 137 0=0∧md 138 0=0∧md 139 0=0∧md 140 0=0∧md 142 0=0∧md 142 1=0∧md 143 0=0∧md 143 1=0∧md 144 0=2∧md 145 0=2∧md 146 0=0∧md 147 0=0∧md 147 1=0∧md 148 0=0∧md 149 0=0∧md 152 0=0∧md 153 0=0∧md 154 0=0∧md 155 0=0∧md 156 0=0∧md 158 0=0∧md 159 0=0∧md 160 0=0∧md 160 1=0∧md 161 0=0∧md 161 1=0∧md 162 0=0∧md 164 0=0∧md 166 0=0∧md 166 1=0∧md 167 0=0∧md 167 1=0∧md 167 2=0∧md 168 0=0∧md 168 1=0∧md 168 2=0∧md 169 0=0∧md 169 1=0∧md 170 0=0∧md 171 0=0∧md 171 1=0∧md 172 0=0∧md 173 0=0∧md 174 0=0∧md 175 0=0∧md 175 1=0∧md 176 0=0∧md 177 0=0∧md 182 0=0∧md 183 0=0∧md 184 0=0∧md 184 1=0∧md 185 0=0∧md 185 1=0∧md 186 0=0∧md 186 1=0∧md 187 0=0∧md 188 0=0∧md 188 1=0∧md 189 0=0∧md 191 0=0∧md 191 1=0∧md 192 0=0∧md 193 0=0∧md 193 1=0∧md 194 0=0∧md 197 0=0∧md 198 0=0∧md 198 1=0∧md 199 0=0∧md 200 0=0∧md 200 1=0∧md 201 0=0∧md 202 0=0∧md 202 1=0∧md 203 0=0∧md 203 1=0∧md 207 0=0∧md 208 0=0∧md 209 0=0∧md 210 0=0∧md 211 0=0∧md 211 1=0∧md 212 0=0∧md 212 1=0∧md 213 0=0∧md 214 0=0∧md 214 1=0∧md 215 0=0∧md 216 0=0∧md 217 0=0∧md 218 0=0∧md 219 0=0∧md 220 0=0∧md 220 1=0∧md 226 0=0∧md 228 0=0∧md 229 0=0∧md 230 0=0∧md 231 0=0∧md 237 0=0∧md 237 1=3∧md 238 0=0∧md 238 1=0∧md 240 0=0∧md 241 0=0∧md 241 1=0∧md 242 0=0∧md 243 0=0∧md 243 1=0∧md 244 0=0∧md 245 0=0∧md 245 1=0∧md 286 0=1:=⟨rfl,rfl,rfl,rfl,rfl,rfl,rfl,rfl,rfl,rfl,rfl,rfl,rfl,rfl,rfl,rfl,rfl,rfl,rfl,rfl,rfl,rfl,rfl,rfl,rfl,rfl,rfl,rfl,rfl,rfl,rfl,rfl,rfl,rfl,rfl,rfl,rfl,rfl,rfl,rfl,rfl,rfl,rfl,rfl,rfl,rfl,rfl,rfl,rfl,rfl,rfl,rfl,rfl,rfl,rfl,rfl,rfl,rfl,rfl,rfl,rfl,rfl,rfl,rfl,rfl,rfl,rfl,rfl,rfl,rfl,rfl,rfl,rfl,rfl,rfl,rfl,rfl,rfl,rfl,rfl,rfl,rfl,rfl,rfl,rfl,rfl,rfl,rfl,rfl,rfl,rfl,rfl,rfl,rfl,rfl,rfl,rfl,rfl,rfl,rfl,rfl,rfl,rfl,rfl,rfl,rfl,rfl,rfl,rfl,rfl,rfl,rfl,rfl,rfl,rfl,rfl,rfl,rfl,rfl,rfl,rfl,rfl,rfl,rfl,rfl,rfl,rfl,rfl,rfl,rfl,rfl,rfl,rfl,rfl,rfl,rfl,rfl,rfl,rfl,rfl,rfl,rfl,rfl,rfl,rfl,rfl,rfl,rfl,rfl,rfl,rfl,rfl,rfl,rfl,rfl,rfl,rfl,rfl,rfl,rfl,rfl,rfl,rfl,rfl,rfl,rfl,rfl,rfl,rfl,rfl,rfl,rfl,rfl,rfl,rfl,rfl,rfl,rfl,rfl,rfl,rfl,rfl,rfl,rfl,rfl,rfl,rfl,rfl,rfl,rfl,rfl,rfl,rfl,rfl,rfl,rfl,rfl,rfl,rfl,rfl,rfl,rfl,rfl,rfl,rfl,rfl,rfl,rfl,rfl,rfl,rfl,rfl,rfl,rfl,rfl,rfl,rfl,rfl,rfl,rfl,rfl,rfl,rfl,rfl,rfl,rfl,rfl,rfl,rfl,rfl,rfl,rfl,rfl,rfl,rfl,rfl,rfl,rfl,rfl,rfl,rfl,rfl,rfl,rfl,rfl,rfl,rfl,rfl,rfl,rfl,rfl,rfl,rfl,rfl,rfl,rfl,rfl,rfl,rfl,rfl,rfl,rfl,rfl,rfl,rfl,rfl,rfl,rfl,rfl,rfl,rfl,rfl,rfl,rfl,rfl,rfl,rfl,rfl,rfl,rfl,rfl,rfl,rfl,rfl,rfl,rfl,rfl,rfl,rfl,rfl,rfl,rfl,rfl,rfl,rfl,rfl,rfl,rfl,rfl,rfl,rfl,rfl,rfl,rfl,rfl,rfl,rfl,rfl,rfl,rfl,rfl,rfl⟩
attribute [go_sem] md_all
theorem mixedOk:prog.follows .mixedOrders=true:=by kernel_rfl
def cfg (np:Nat):Cfg:=⟨np,fun _=>false,tb,pts,md⟩
abbrev Q1 (f:FuncId) (a r:D):Prop:=Sem prog f ⟨[a],[none]⟩ ⟨[.dead,r],[none]⟩
abbrev Q2 (f:FuncId) (a b r:D):Prop:=Sem prog f ⟨[a,b],[none,none]⟩ ⟨[.dead,.dead,r],[none,none]⟩
abbrev Q3 (f:FuncId) (a b c r:D):Prop:=Sem prog f ⟨[a,b,c],[none,none,none]⟩ ⟨[.dead,.dead,.dead,r],[none,none,none]⟩
theorem sb (n:Nat) (ts:List RV) {f:FuncId} {fn:Func} {c:Code} {Ein Eout:Env} {q:Prop} (hf:prog.funcs[f]? = some fn) (x:q) (hname:(fn.name == "runtime.NumGoroutine")=false:=by rfl) (hb:fn.body=some c:=by rfl) (hres:fn.results=(ts.map RV.toR).toArray:=by rfl) (hnp:Ein.sl.length=n:=by rfl)
  (e:pwp prog (cfg n) c (Ein.pad (fn.ntmps-n)) (Fin (cfg n) ts Eout)=q:=by simp only [go_sem,Nat.reduceLeDiff,Nat.reduceLT,Nat.reduceAdd,Nat.reduceSub,Nat.reduceMul,Nat.reduceBEq,Nat.reduceBNe,Nat.reduceEqDiff,reduceCtorEq,reduceIte,Int.reduceLT,Int.reduceLE,Int.reduceAdd,Int.reduceSub,Int.reduceNeg,Int.reduceEq,Int.reduceBEq,Int.reduceBNe,Int.reduceToNat,Nat.reduceDiv,Nat.reduceMod, *]; rfl):Sem prog f Ein Eout :=
 sem_fin (cfg:=cfg n) (ts:=ts) tbOk hf hname hb hres hnp (fun t h=>by cases h) (e▸x)
theorem sf (n:Nat) (ts:List RV) {f:FuncId} {fn:Func} {c:Code} {Ein Eout:Env} (hf:prog.funcs[f]? = some fn) (x:pwp prog (cfg n) c (Ein.pad (fn.ntmps-n)) (Fin (cfg n) ts Eout)) (hname:(fn.name == "runtime.NumGoroutine")=false:=by rfl) (hb:fn.body=some c:=by rfl) (hres:fn.results=(ts.map RV.toR).toArray:=by rfl) (hnp:Ein.sl.length=n:=by rfl):Sem prog f Ein Eout :=
 sem_fin (cfg:=cfg n) (ts:=ts) tbOk hf hname hb hres hnp (fun t h=>by cases h) x
attribute [go_sem] cfg f3 f4 f5 f6 f7 f8 f9 f10 f11 f12 f13 f14 f15 f16 f17 f18 f19 f20 f21 f22 f23 f24 f25 f26 f27 f28 f29 f30 f31 f32 f33 f34 f35 f36 f37 f38 f39 f40 f41 f42 f43 f44 f45 f46 f47 f48 f49 f50 f51 f52 f53 f54 f55 f56 f57 f58 f59 f60 f61 f62 f63 f64 f65 f66 f67 f68 f69 f70 f71 f72 f73 f75 f76 f77 f78 f79 f80 f81 f82 f83 f84 f85 f86 f87 f88 f89 f90 f91 f94 f96 f97 f98 f99 f100 f101 f102 f103 f104 f106 f107 f108 f109 f110 f111 f112 f113 f115 f116 f117 f118 f119 f121 f122 f123 f124 f125 f126 f127 f128 f129 f130 f131 f132 f133 f134 f137 f138 f139 f140 f142 f143 f144 f145 f146 f147 f148 f149 f152 f153 f154 f155 f156 f158 f159 f160 f161 f162 f164 f166 f167 f168 f169 f170 f171 f172 f173 f174 f175 f176 f177 f183 f187 f189 f191 f192 f193 f194 f197 f198 f199 f201 f202 f203 f207 f208 f209 f210 f211 f212 f213 f214 f215 f216 f217 f218 f219 f220 f226 f228 f229 f230 f231 f237 f240 f241 f242 f243 f244 f245 f286
end Go.Proofs.YtbdfdfhamlmodaaGreatDoor.Fw
namespace Go.Proofs.YtbdfdfhamlmodaaGreatDoor.Fw
open Go
open Go.Proofs.Tryz
set_option maxRecDepth 100000
set_option maxHeartbeats 4000000
attribute [local congr] c_bnd c_slot c_cell c_all c_len c_chk c_asm c_opdR c_wp c_pwp c_pOps c_Done c_nx c_blk c_fin c_coeLeaf c_coeLeaves c_argR c_argsR c_partsR c_ite c_wpF c_OutF c_pHead c_pDraw
def inB (a b n:Int):Bool:=decide (a≤n)&&decide (n≤b)
def isLowerB (n:Int):Bool:=decide (97≤n)&&decide (n≤122)
def isUpperB (n:Int):Bool:=decide (65≤n)&&decide (n≤90)
def isDigitB (n:Int):Bool:=decide (48≤n)&&decide (n≤57)
theorem c116 (n a b:Int):Q3 116 (.v (vI n)) (.v (vI a)) (.v (vI b)) (.v (vB (inB a b n))):=by
 refine sf 3 [.tm 6] func116 ?_
 simp only [f116,go_sem,cfg,Nat.reduceSub, *]
 repeat' ((first | split)<;>(try simp only [go_sem,Nat.reduceBNe, *]))
 all_goals
  refine fq ?_
  simp [shutR,shutD,inB, *]
theorem c229 (n:Int):Q1 229 (.v (vC n)) (.v (vB (isLowerB n))):=by
 refine sf 1 [.tm 2] func229 ?_
 simp only [f229,go_sem,cfg,Nat.reduceSub, *]
 repeat' ((first | split)<;>(try simp only [go_sem,Nat.reduceBNe, *]))
 all_goals
  refine fq ?_
  simp [shutR,shutD,isLowerB, *]
theorem c164 (n:Int):Q1 164 (.v (vC n)) (.v (vB (isUpperB n))):=by
 refine sf 1 [.tm 2] func164 ?_
 simp only [f164,go_sem,cfg,Nat.reduceSub, *]
 repeat' ((first | split)<;>(try simp only [go_sem,Nat.reduceBNe, *]))
 all_goals
  refine fq ?_
  simp [shutR,shutD,isUpperB, *]
theorem c199 (n:Int):Q1 199 (.v (vC n)) (.v (vB (isDigitB n))):=by
 refine sf 1 [.tm 2] func199 ?_
 simp only [f199,go_sem,cfg,Nat.reduceSub, *]
 repeat' ((first | split)<;>(try simp only [go_sem,Nat.reduceBNe, *]))
 all_goals
  refine fq ?_
  simp [shutR,shutD,isDigitB, *]
theorem c174 (n:Int):Q1 174 (.v (vC n)) (.v (vB (isDigitB n))):=by
 refine sf 1 [.tm 2] func174 ?_
 simp only [f174,go_sem,cfg,Nat.reduceSub, *]
 repeat' ((first | split)<;>(try simp only [go_sem,Nat.reduceBNe, *]))
 all_goals
  refine fq ?_
  simp [shutR,shutD,isDigitB, *]
theorem c238 (l:List UInt8) (c:Int) (hl:l.length≤9223372036854775807):Sem prog 238 ⟨[.v (vS l),.v (vC c)],[none,none]⟩ ⟨[.v (vS l),.v (vC c),.v (vI (Lib.indexByte l c.toNat.toUInt8))],[none,none,none]⟩ :=
 sem_indexByteString func238 rfl rfl rfl rfl l c hl
theorem c203 (l:List UInt8) (c:Int) (hl:l.length≤9223372036854775807):Q2 203 (.v (vS l)) (.v (vC c)) (.v (vI (Lib.indexByte l c.toNat.toUInt8))):=by
 refine sf 2 [.tm 4] func203 ?_
 simp only [f203,go_sem,cfg,Nat.reduceSub, *]
 repeat' ((first | refine cf (c238 _ _ hl) ?_ | split)<;>(try simp only [go_sem,Nat.reduceAdd,Nat.reduceBNe, *]))
 all_goals
  refine fq ?_
  first | rfl | simp [shutR,shutD, *]
theorem c220 (l:List UInt8) (c:Int) (hl:l.length≤9223372036854775807):Q2 220 (.v (vS l)) (.v (vC c)) (.v (vI (Lib.indexByte l c.toNat.toUInt8))):=by
 refine sf 2 [.tm 4] func220 ?_
 simp only [f220,go_sem,cfg,Nat.reduceSub, *]
 repeat' ((first | refine cf (c203 _ _ hl) ?_ | split)<;>(try simp only [go_sem,Nat.reduceAdd,Nat.reduceBNe, *]))
 all_goals
  refine fq ?_
  first | rfl | simp [shutR,shutD, *]
def tokSet:List UInt8:=[33,35,36,37,38,39,42,43,45,46,94,95,124,126]
def isTok (n:Int):Bool:=isLowerB n || isUpperB n || isDigitB n || (n==96) || decide (0≤Lib.indexByte tokSet n.toNat.toUInt8)
theorem c194 (n:Int):Q1 194 (.v (vC n)) (.v (vB (isTok n))):=by
 refine sf 1 [.tm 2] func194 ?_
 simp only [f194,go_sem,cfg,Nat.reduceSub, *]
 repeat' ((first | refine cf (c229 _) ?_ | refine cf (c164 _) ?_ | refine cf (c199 _) ?_ | refine cf (c220 tokSet _ (by decide)) ?_ | split)<;>(try simp only [go_sem,Nat.reduceLeDiff,Nat.reduceAdd,Nat.reduceBNe,reduceCtorEq, *]))
 all_goals
  refine fq ?_
  simp [shutR,shutD,isTok, *]
theorem c133 (l:List UInt8) (f:FuncId) (p:Int→Bool) (hp:pts f=[5]) (hm:md f 0=0) (hf:∀ n:Int,Sem prog f ⟨[.v (vC n)],[none]⟩ ⟨[.dead,.v (vB (p n))],[none]⟩) (hl:l.length≤9223372036854775807) :
  Q2 133 (.v (vS l)) (.clo f []) (.v (vB (l.all fun b=>p b.toNat))):=by
 refine sf 2 [.tm 4] func133 ?_
 simp only [f133,go_sem,cfg,Nat.reduceSub]
 refine loop_by (fun i:Nat=>pE 18 [.v (vS l),.clo f [],.dead,.dead,.v (vB false),.v (vI i)]) 6 (fun i=>i≤l.length∧(l.take i).all (fun b=>p b.toNat)=true) (fun i=>l.length-i) 0 rfl ⟨by omega,by simp⟩ ?_
 intro i ⟨hi,hall⟩
 simp only [go_sem]
 intro hlen
 by_cases hc:i<l.length
 ·have hw:=wrapN hc hl
  simp only [go_sem, *]
  refine cf (hf _) ?_
  cases hb:p (l.getD i 0).toNat
  ·simp only [go_sem,Nat.reduceAdd, *]
   refine fqs ?_
   rw [all_false_at hc hb]
  ·simp only [go_sem,Nat.reduceAdd,Nat.reduceBNe, *]
   exact ⟨i+1,rfl,⟨hc,by rw [all_take_succ (d:=0) hc,hall,hb]; rfl⟩,by omega⟩
 ·simp only [go_sem, *]
  refine fq ?_
  rw [List.take_of_length_le (by omega)] at hall
  simp [shutR,shutD,hall]
def lowI (n:Int):Int:=if 65≤n∧n≤90 then IntKind.u8.wrap (n+32) else n
def hasB (l:List UInt8) (n:Int):Bool:=l.any fun b=>(b.toNat:Int)==n
def tchar (n:Int):Bool:=isLowerB (lowI n) || isDigitB n || (n==96) || hasB tokSet n
def tokenI (l:List UInt8):Bool:=inB 1 4000 l.length&&l.all fun b=>isTok b.toNat
def tokenS (l:List UInt8):Bool:=decide (l.length≠0)&&decide (l.length≤4000)&&l.all fun b=>tchar b.toNat
theorem c153 (n:Int):Q1 153 (.v (vC n)) (.v (vC (lowI n))):=by
 refine sf 1 [.tm 2] func153 ?_
 simp only [f153,go_sem,cfg,Nat.reduceSub, *]
 repeat' ((first | split)<;>(try simp only [go_sem,Nat.reduceBNe, *]))
 all_goals
  refine fq ?_
  simp [shutR,shutD,lowI, *]
theorem c198 (l:List UInt8) (n:Int) (hl:l.length≤9223372036854775807):Q2 198 (.v (vS l)) (.v (vC n)) (.v (vB (hasB l n))):=by
 refine sf 2 [.tm 4] func198 ?_
 simp only [f198,go_sem,cfg,Nat.reduceSub]
 refine loop_by (fun i:Nat=>pE 17 [.v (vS l),.v (vC n),.dead,.dead,.v (vB false),.v (vI i)]) 6 (fun i=>i≤l.length∧(l.take i).any (fun b=>(b.toNat:Int)==n)=false) (fun i=>l.length-i) 0 rfl ⟨by omega,by simp⟩ ?_
 intro i ⟨hi,hall⟩
 simp only [go_sem]
 intro hlen
 by_cases hc:i<l.length
 ·have hw:=wrapN hc hl
  by_cases hb:((l.getD i 0).toNat:Int)=n
  ·have hb':((l.getD i 0).toNat:Int)==n:=by simpa using hb
   simp only [go_sem, *]
   refine fq ?_
   simp only [shutR,shutD,List.getD_cons_zero,List.getD_cons_succ,hasB]
   rw [any_true_at hc hb']
  ·have hb':(((l.getD i 0).toNat:Int)==n)=false:=by simpa using hb
   simp only [go_sem,Nat.reduceBNe, *]
   exact ⟨i+1,rfl,⟨hc,by rw [any_take_succ (d:=0) hc,hall,hb']; rfl⟩,by omega⟩
 ·simp only [go_sem, *]
  refine fq ?_
  rw [List.take_of_length_le (by omega)] at hall
  simp [shutR,shutD,hasB,hall]
theorem c154 (n:Int):Q1 154 (.v (vC n)) (.v (vB (tchar n))):=by
 refine sf 1 [.tm 2] func154 ?_
 simp only [f154,go_sem,cfg,Nat.reduceSub, *]
 repeat' ((first | refine cf (c153 _) ?_ | refine cf (c174 _) ?_ | refine cf (c198 tokSet _ (by decide)) ?_ | split)<;>(try simp only [go_sem,Nat.reduceLeDiff,Nat.reduceAdd,Nat.reduceBNe,reduceCtorEq, *]))
 all_goals
  refine fqs ?_
  refine congrArg (fun b=>D.v (vB b)) ?_
  grind [tchar,isLowerB]
theorem c98 (l:List UInt8) (hl:l.length≤9223372036854775807):Q1 98 (.v (vS l)) (.v (vB (tokenS l))):=by
 refine sf 1 [.tm 2] func98 ?_
 simp only [f98,go_sem,cfg,Nat.reduceSub]
 repeat' ((first | with_reducible intro _ | split)<;>(try simp only [go_sem,reduceCtorEq, *]))
 all_goals (try (refine fq ?_; simp only [shutR,shutD,List.getD_cons_zero,List.getD_cons_succ]; refine congrArg (fun b=>D.v (vB b)) ?_; grind [tokenS]))
 refine loop_by (fun i:Nat=>pE 23 [.v (vS l),.dead,.v (vB false),.v (vI i)]) 4 (fun i=>i≤l.length∧(l.take i).all (fun b=>tchar b.toNat)=true) (fun i=>l.length-i) 0 rfl ⟨by omega,by simp⟩ ?_
 intro i ⟨hi,hall⟩
 simp only [go_sem]
 intro hlen
 by_cases hc:i<l.length
 ·have hw:=wrapN hc hl
  simp only [go_sem, *]
  refine cf (c154 _) ?_
  cases hb:tchar (l.getD i 0).toNat
  ·simp only [go_sem,Nat.reduceAdd, *]
   refine fqs ?_
   rw [tokenS,all_false_at hc hb]; simp
  ·simp only [go_sem,Nat.reduceAdd,Nat.reduceBNe, *]
   exact ⟨i+1,rfl,⟨hc,by rw [all_take_succ (d:=0) hc,hall,hb]; rfl⟩,by omega⟩
 ·simp only [go_sem, *]
  refine fqs ?_
  rw [List.take_of_length_le (by omega)] at hall
  grind [tokenS]
theorem c148 (l:List UInt8) (hl:l.length≤9223372036854775807):Q1 148 (.v (vS l)) (.v (vB (tokenI l))):=by
 refine sf 1 [.tm 2] func148 ?_
 simp only [f148,go_sem,cfg,Nat.reduceAdd,Nat.reduceSub, *]
 repeat' ((first | refine cf (c116 _ _ _) ?_ | refine cf (c133 l 194 isTok rfl rfl c194 hl) ?_ | with_reducible intro _ | split)<;>(try simp only [go_sem,Nat.reduceAdd,Nat.reduceBNe, *]))
 all_goals
  refine fqs ?_
  refine congrArg (fun b=>D.v (vB b)) ?_
  grind [tokenI]
def plainB (n:Int):Bool:=(n==9) || (decide (32≤n) && !(n==127))
def spB (n:Int):Bool:=(n==32) || (n==9)
theorem c149 (n:Int):Q1 149 (.v (vC n)) (.v (vB (plainB n))):=by
 refine sf 1 [.tm 2] func149 ?_
 simp only [f149,go_sem,cfg,Nat.reduceSub, *]
 repeat' ((first | with_reducible intro _ | split)<;>(try simp only [go_sem,Nat.reduceBNe,reduceCtorEq, *]))
 all_goals
  refine fqs ?_
  refine congrArg (fun b=>D.v (vB b)) ?_
  grind [plainB]
theorem c155 (n:Int):Q1 155 (.v (vC n)) (.v (vB (plainB n))):=by
 refine sf 1 [.tm 2] func155 ?_
 simp only [f155,go_sem,cfg,Nat.reduceSub, *]
 repeat' ((first | with_reducible intro _ | split)<;>(try simp only [go_sem,Nat.reduceBNe,reduceCtorEq, *]))
 all_goals
  refine fqs ?_
  refine congrArg (fun b=>D.v (vB b)) ?_
  grind [plainB]
theorem c231 (n:Int):Q1 231 (.v (vC n)) (.v (vB (spB n))):=by
 refine sf 1 [.tm 2] func231 ?_
 simp only [f231,go_sem,cfg,Nat.reduceSub, *]
 repeat' ((first | with_reducible intro _ | split)<;>(try simp only [go_sem,Nat.reduceBNe,reduceCtorEq, *]))
 all_goals
  refine fqs ?_
  refine congrArg (fun b=>D.v (vB b)) ?_
  grind [spB]
theorem c197 (n:Int):Q1 197 (.v (vC n)) (.v (vB (spB n))):=by
 refine sf 1 [.tm 2] func197 ?_
 simp only [f197,go_sem,cfg,Nat.reduceSub, *]
 repeat' ((first | with_reducible intro _ | split)<;>(try simp only [go_sem,Nat.reduceBNe,reduceCtorEq, *]))
 all_goals
  refine fqs ?_
  refine congrArg (fun b=>D.v (vB b)) ?_
  grind [spB]
theorem c100 (l:List UInt8) (hl:l.length≤9223372036854775807):Q1 100 (.v (vS l)) (.v (vB (l.all fun b=>plainB b.toNat))):=by
 refine sf 1 [.tm 2] func100 ?_
 simp only [f100,go_sem,cfg,Nat.reduceSub]
 refine loop_by (fun i:Nat=>pE 15 [.v (vS l),.dead,.v (vB false),.v (vI i)]) 4 (fun i=>i≤l.length∧(l.take i).all (fun b=>plainB b.toNat)=true) (fun i=>l.length-i) 0 rfl ⟨by omega,by simp⟩ ?_
 intro i ⟨hi,hall⟩
 simp only [go_sem]
 intro hlen
 by_cases hc:i<l.length
 ·have hw:=wrapN hc hl
  simp only [go_sem, *]
  refine cf (c155 _) ?_
  cases hb:plainB (l.getD i 0).toNat
  ·simp only [go_sem,Nat.reduceAdd, *]
   refine fqs ?_
   rw [all_false_at hc hb]
  ·simp only [go_sem,Nat.reduceAdd,Nat.reduceBNe, *]
   exact ⟨i+1,rfl,⟨hc,by rw [all_take_succ (d:=0) hc,hall,hb]; rfl⟩,by omega⟩
 ·simp only [go_sem, *]
  refine fqs ?_
  rw [List.take_of_length_le (by omega)] at hall
  rw [hall]
def low8 (b:UInt8):UInt8:=if 65≤b.toNat∧b.toNat≤90 then UInt8.ofNat (b.toNat+32) else b
def foldB (l:List UInt8):List UInt8:=l.map low8
theorem low8_toNat (b:UInt8):((low8 b).toNat:Int)=lowI b.toNat:=by
 have h256:∀ n,n<256→((if 65≤n∧n≤90 then UInt8.ofNat (n+32) else UInt8.ofNat n).toNat:Int)=lowI (n:Nat):=by decide +kernel
 have h:=h256 b.toNat b.toNat_lt
 rw [←h]
 unfold low8
 split
 ·rfl
 ·simp
theorem bytesRows_getD {l:List UInt8} {i:Nat} (h:i<l.length):(bytesRows l).getD i []=[.v (vC (l.getD i 0).toNat)]:=by
 simp [bytesRows,gDg,h]
theorem rowsBytes_bytesRows (l:List UInt8):rowsBytes (bytesRows l)=l:=by
 induction l with
 | nil=>rfl
 | cons b l ih =>
  simp only [bytesRows,rowsBytes,List.map_cons] at ih ⊢
  rw [ih]
  simp
theorem bytesRows_set {l:List UInt8} {i:Nat} {b:UInt8}:(bytesRows l).set i [.v (vC b.toNat)]=bytesRows (l.set i b):=by simp [bytesRows,List.map_set]
def foldTo (l:List UInt8) (i:Nat):List UInt8:=(l.take i).map low8++l.drop i
theorem foldTo_length (l:List UInt8) (i:Nat):(foldTo l i).length=l.length:=by simp [foldTo]; omega
theorem foldTo_getD {l:List UInt8} {i:Nat} (h:i<l.length):(foldTo l i).getD i 0=l.getD i 0:=by
 unfold foldTo
 rw [gDg,List.getElem?_append_right (by simp; omega)]
 simp [gDg,Nat.min_eq_left (Nat.le_of_lt h)]
theorem foldTo_succ {l:List UInt8} {i:Nat} (h:i<l.length):(foldTo l i).set i (low8 (l.getD i 0))=foldTo l (i+1):=by
 have h1:l.drop i=l.getD i 0::l.drop (i+1):=by
  rw [List.drop_eq_getElem_cons h]; simp [gDg,h]
 have h2:l.take (i+1)=l.take i++[l.getD i 0]:=by
  rw [List.take_succ_eq_append_getElem h]; simp [gDg,h]
 unfold foldTo
 rw [h2,h1,List.set_append_right _ _ (by simp; omega)]
 simp [Nat.min_eq_left (Nat.le_of_lt h)]
theorem c97 (l:List UInt8) (hl:l.length≤9223372036854775807):Q1 97 (.v (vS l)) (.v (vS (foldB l))):=by
 refine sf 1 [.tm 2] func97 ?_
 simp only [f97,go_sem,cfg,Nat.reduceAdd,Nat.reduceSub,Nat.reduceBNe,Nat.reduceEqDiff,reduceCtorEq,Nat.reduceDiv,Nat.reduceMod]
 refine loop_by (fun i:Nat=>pE 23 [.v (vS l),.dead,.v (vS []),.own 5 (bytesRows (foldTo l i)),.v (vI i)]) 5 (fun i=>i≤l.length) (fun i=>l.length-i) 0 (by simp [foldTo]; rfl) (by omega) ?_
 intro i hi
 simp only [go_sem,Nat.reduceDiv,Nat.reduceMod,bytesRows_length,foldTo_length]
 try (with_reducible intro hlen)
 by_cases hc:i<l.length
 ·have hw:=wrapN hc hl
  have h1:(bytesRows (foldTo l i)).getD i []=[.v (vC (l.getD i 0).toNat)]:=by rw [bytesRows_getD (by rw [foldTo_length]; exact hc),foldTo_getD hc]
  have hlo:=(low8_toNat (l.getD i 0)).symm
  have hset:(bytesRows (foldTo l i)).set i [T.v (vC (low8 (l.getD i 0)).toNat)]=bytesRows (foldTo l (i+1)):=by rw [bytesRows_set,foldTo_succ hc]
  simp only [go_sem,Nat.reduceDiv,Nat.reduceMod,bytesRows_length,foldTo_length, *]
  refine cf (c153 _) ?_
  simp only [go_sem,Nat.reduceAdd,Nat.reduceBNe,Nat.reduceEqDiff,reduceCtorEq,Nat.reduceDiv,Nat.reduceMod,bytesRows_length,foldTo_length, *]
  first | exact ⟨i+1,rfl,hc,by omega⟩
 ·simp only [go_sem,Nat.reduceBNe,Nat.reduceDiv,Nat.reduceMod, *]
  have he:i=l.length:=by omega
  subst he
  have h2:foldTo l l.length=foldB l:=by simp [foldTo,foldB]
  simp only [go_sem,h2,rowsBytes_bytesRows]
  exact fz
theorem foldTo_zero {l:List UInt8}:foldTo l 0=l:=by simp [foldTo]
theorem foldTo_same {l:List UInt8} {i:Nat} (h:i<l.length) (hb:low8 (l.getD i 0)=l.getD i 0):foldTo l (i+1)=foldTo l i:=by
 rw [←foldTo_succ h,hb]
 have h2:(foldTo l i)[i]? = some (l.getD i 0):=by
  have:=foldTo_getD h
  rw [gDg] at this
  rw [gEg (by rw [foldTo_length]; exact h)] at this ⊢
  rw [←this]; rfl
 apply List.ext_getElem?
 intro j
 by_cases hj:j=i
 ·subst hj
  rw [List.getElem?_set_self (by rw [foldTo_length]; exact h),h2]
 ·rw [List.getElem?_set_ne (fun e=>hj e.symm)]
theorem c115 (l:List UInt8) (hl:l.length≤9223372036854775807):Q1 115 (.v (vS l)) (.v (vS (foldB l))):=by
 refine sf 1 [.tm 2] func115 ?_
 simp only [f115,go_sem,cfg,Nat.reduceAdd,Nat.reduceSub,Nat.reduceBNe,Nat.reduceEqDiff,reduceCtorEq,Nat.reduceDiv,Nat.reduceMod,bytesRows_length]
 repeat' ((first | with_reducible intro _ | split)<;>(try simp only [go_sem, *]))
 refine loop_on (fun i:Nat=>pE 25 [.v (vS l),.dead,.v (vS []),.own 5 (bytesRows (foldTo l i)),.dead,.dead,.dead,.dead,.ali ⟨false,3,0⟩,.v (vI l.length),.v (vI i)]) [0,2,3,8,9,10] (fun i=>i≤l.length) (fun i=>l.length-i) 0 (by simp only [foldTo_zero]; rfl) (by omega) ?_
 intro i hi
 simp only [go_sem]
 by_cases hc:i<l.length
 ·have hw:=wrapN hc hl
  have h1:(bytesRows (foldTo l i)).getD i []=[.v (vC (l.getD i 0).toNat)]:=by rw [bytesRows_getD (by rw [foldTo_length]; exact hc),foldTo_getD hc]
  simp only [go_sem,Nat.reduceBNe,Nat.reduceDiv,Nat.reduceMod,bytesRows_length,foldTo_length, *]
  refine cf (c164 _) ?_
  have hlo:=low8_toNat (l.getD i 0)
  unfold lowI at hlo
  cases hu:isUpperB (l.getD i 0).toNat
  ·clear hlo
   simp only [go_sem,Nat.reduceAdd, *]
   have hsame:foldTo l (i+1)=foldTo l i:=by
    refine foldTo_same hc ?_
    unfold isUpperB at hu
    unfold low8
    rw [if_neg]
    intro hh
    simp only [Bool.and_eq_false_iff,decide_eq_false_iff_not] at hu
    omega
   exact ⟨i+1,by rw [hsame]; rfl,hc,by omega⟩
  ·have hlo2:IntKind.u8.wrap (((l.getD i 0).toNat:Int)+32)=((low8 (l.getD i 0)).toNat:Int):=by
    rw [hlo,if_pos]
    unfold isUpperB at hu
    simp only [Bool.and_eq_true,decide_eq_true_eq] at hu
    omega
   clear hlo
   have hset:(bytesRows (foldTo l i)).set i [T.v (vC (low8 (l.getD i 0)).toNat)]=bytesRows (foldTo l (i+1)):=by rw [bytesRows_set,foldTo_succ hc]
   simp only [go_sem,Nat.reduceAdd,Nat.reduceEqDiff,reduceCtorEq,Nat.reduceDiv,Nat.reduceMod,bytesRows_length,foldTo_length, *]
   exact ⟨i+1,rfl,hc,by omega⟩
 ·simp only [go_sem,Nat.reduceBNe,Nat.reduceDiv,Nat.reduceMod, *]
  have he:i=l.length:=by omega
  subst he
  have h2:foldTo l l.length=foldB l:=by simp [foldTo,foldB]
  simp only [go_sem,h2,rowsBytes_bytesRows]
  exact fz
theorem c214 (a b:List UInt8) (ha:a.length≤9223372036854775807) (hb:b.length≤9223372036854775807):Q2 214 (.v (vS a)) (.v (vS b)) (.v (vB (foldB a==foldB b))):=by
 refine sf 2 [.tm 4] func214 ?_
 simp only [f214,go_sem,cfg,Nat.reduceSub, *]
 repeat' ((first | refine cf (c97 _ ha) ?_ | refine cf (c97 _ hb) ?_ | with_reducible intro _ | split)<;>(try simp only [go_sem,Nat.reduceAdd,Nat.reduceBNe, *]))
 all_goals
  exact fz
theorem c193 (a b:List UInt8) (ha:a.length≤9223372036854775807) (hb:b.length≤9223372036854775807):Q2 193 (.v (vS a)) (.v (vS b)) (.v (vB (foldB a==foldB b))):=by
 refine sf 2 [.tm 4] func193 ?_
 simp only [f193,go_sem,cfg,Nat.reduceSub, *]
 repeat' ((first | refine cf (c115 _ ha) ?_ | refine cf (c115 _ hb) ?_ | with_reducible intro _ | split)<;>(try simp only [go_sem,Nat.reduceAdd,Nat.reduceBNe, *]))
 all_goals
  exact fz
def spc (b:UInt8):Bool:=spB b.toNat
def trimR (l:List UInt8):List UInt8:=(l.reverse.dropWhile spc).reverse
def trimB (l:List UInt8):List UInt8:=trimR (l.dropWhile spc)
theorem trimR_snoc (l:List UInt8) (b:UInt8):trimR (l++[b])=if spc b then trimR l else l++[b]:=by
 unfold trimR
 rw [List.reverse_append]
 simp only [List.reverse_cons,List.reverse_nil,List.nil_append,List.cons_append,List.dropWhile_cons]
 split
 ·rfl
 ·simp
theorem trimR_nil:trimR []=[]:=rfl
theorem snoc_of {l:List UInt8} (h:l≠[]):l=l.take (l.length-1)++[l.getD (l.length-1) 0]:=by
 have hl:0<l.length:=List.length_pos_iff.2 h
 have:=List.take_append_drop (l.length-1) l
 rw [List.drop_eq_getElem_cons (by omega),List.drop_of_length_le (by omega)] at this
 rw [gDg,gEg (by omega)]
 exact this.symm
theorem trimR_step {l:List UInt8} (h:l≠[]):trimR l=if spc (l.getD (l.length-1) 0) then trimR (l.take (l.length-1)) else l:=by
 have:=snoc_of h
 conv=>lhs; rw [this]
 rw [trimR_snoc]
 split
 ·rfl
 ·exact this.symm
theorem dropW_step {l:List UInt8} (h:l≠[]):l.dropWhile spc=if spc (l.getD 0 0) then (l.drop 1).dropWhile spc else l:=by
 cases l with
 | nil=>exact absurd rfl h
 | cons b l=>simp [List.dropWhile_cons]
theorem beq_nil_false {l:List UInt8} (h:l≠[]):(l==[])=false:=by
 cases l with
 | nil=>exact absurd rfl h
 | cons b l=>rfl
theorem c192 (l:List UInt8) (hl:l.length≤9223372036854775807):Q1 192 (.v (vS l)) (.v (vS (trimB l))):=by
 refine sf 1 [.tm 2] func192 ?_
 simp only [f192,go_sem,cfg,Nat.reduceSub]
 refine loop_on (fun s:List UInt8=>pE 28 [.v (vS s),.dead,.v (vS [])]) [0,2] (fun s=>s.length≤l.length∧s.dropWhile spc=l.dropWhile spc) (fun s=>s.length) l rfl ⟨Nat.le_refl _,rfl⟩ ?_
 intro s ⟨hs,h0⟩
 simp only [go_sem]
 by_cases hn:s=[]
 ·subst hn
  simp only [go_sem]
  have h0:l.dropWhile spc=[]:=h0.symm
  refine loop_on (fun _:Unit=>pE 28 [.v (vS []),.dead,.v (vS [])]) [0,2] (fun _=>True) (fun _=>0) () rfl trivial ?_
  intro _ _
  simp only [go_sem,Nat.reduceBNe]
  refine fq ?_
  rw [trimB,h0]; rfl
 ·have hnb:=beq_nil_false hn
  have hlp:0<s.length:=List.length_pos_iff.2 hn
  have hlp':(0:Int)<s.length:=by omega
  have hst:=dropW_step hn
  simp only [go_sem,Int.reduceLE,Int.reduceToNat, *]
  refine cf (c231 _) ?_
  cases hb:spB (s.getD 0 0).toNat
  ·have hb':spc (s.getD 0 0)=false:=hb
   rw [hb'] at hst
   have h0:s=l.dropWhile spc:=by rw [←h0,hst]; rfl
   simp only [go_sem,Nat.reduceAdd]
   refine loop_on (fun s:List UInt8=>pE 28 [.v (vS s),.dead,.v (vS [])]) [0,2] (fun t=>t.length≤l.length∧trimR t=trimB l) (fun s=>s.length) s rfl ⟨hs,by rw [h0]; rfl⟩ ?_
   clear hst hlp hlp' hn hnb hb hb' h0 hs
   intro s ⟨hs,h0⟩
   simp only [go_sem]
   by_cases hn:s=[]
   ·subst hn
    simp only [go_sem,Nat.reduceBNe]
    refine fq ?_
    rw [←h0]; rfl
   ·have hnb:=beq_nil_false hn
    have hlp:0<s.length:=List.length_pos_iff.2 hn
    have hw:IntKind.i64.wrap ((s.length:Int)-1)=((s.length-1:Nat):Int):=by rw [IntKind.wrap_i64]; omega
    have hlt:s.length-1<s.length:=by omega
    have hst:=trimR_step hn
    have hle9:s.length≤9223372036854775807:=by omega
    simp only [go_sem, *]
    try (with_reducible intro _)
    refine cf (c231 _) ?_
    cases hb:spB (s.getD (s.length-1) 0).toNat
    ·have hb':spc (s.getD (s.length-1) 0)=false:=hb
     simp only [go_sem,Nat.reduceAdd,Nat.reduceBNe]
     refine fq ?_
     rw [hb',h0] at hst
     rw [show s=trimB l from hst.symm]; rfl
    ·have hb':spc (s.getD (s.length-1) 0)=true:=hb
     have hle:s.length-1≤s.length:=by omega
     simp only [go_sem,Nat.reduceAdd,Nat.reduceBNe,hw,hle,hle9]
     first | exact ⟨s.take (s.length-1),rfl,⟨by rw [List.length_take]; omega,by rw [←h0,hst,hb']; rfl⟩,by rw [List.length_take]; omega⟩
  ·have hb':spc (s.getD 0 0)=true:=hb
   rw [hb'] at hst
   have hle1:1≤s.length:=by omega
   have e:(s.drop 1).take (s.length-1)=s.drop 1:=List.take_of_length_le (by simp)
   simp only [go_sem,Nat.reduceAdd,Nat.reduceBNe,Int.reduceLE,Int.reduceToNat,hle1,e]
   first | exact ⟨s.drop 1,by first | rfl | rw [←e]; rfl,⟨by rw [List.length_drop]; omega,by rw [←h0,hst]; rfl⟩,by rw [List.length_drop]; omega⟩
theorem c152 (l:List UInt8) (hl:l.length≤9223372036854775807):Q1 152 (.v (vS l)) (.v (vS (trimB l))):=by
 refine sf 1 [.tm 2] func152 ?_
 simp only [f152,go_sem,cfg,Nat.reduceSub]
 refine loop_on (fun i:Nat=>pE 35 [.v (vS l),.dead,.v (vS []),.v (vI i)]) [0,2,3] (fun i=>i≤l.length∧(l.drop i).dropWhile spc=l.dropWhile spc) (fun i=>l.length-i) 0 rfl ⟨by omega,rfl⟩ ?_
 intro i ⟨hi,h0⟩
 simp only [go_sem]
 try (with_reducible intro hlen)
 by_cases hc:i<l.length
 ·have hw:=wrapN hc hl
  have hne:l.drop i≠[]:=by intro h; have:=congrArg List.length h; simp at this; omega
  have hst:=dropW_step hne
  have hg:(l.drop i).getD 0 0=l.getD i 0:=by simp [gDg]
  rw [hg,List.drop_drop] at hst
  simp only [go_sem, *]
  refine cf (c197 _) ?_
  cases hb:spB (l.getD i 0).toNat
  ·have hb':spc (l.getD i 0)=false:=hb
   rw [hb'] at hst
   have h0:l.drop i=l.dropWhile spc:=by rw [←h0,hst]; rfl
   simp only [go_sem,Nat.reduceAdd,Nat.reduceBNe]
   try (with_reducible intro _)
   refine loop_on (fun j:Nat=>pE 35 [.v (vS l),.dead,.v (vS []),.v (vI i),.v (vI j)]) [0,2,3,4] (fun j=>i≤j∧j≤l.length∧trimR ((l.drop i).take (j-i))=trimB l) (fun j=>j) l.length rfl ⟨hi,Nat.le_refl _,by rw [List.take_of_length_le (by simp),h0]; rfl⟩ ?_
   intro j ⟨hij,hj,hT⟩
   simp only [go_sem]
   by_cases hji:i<j
   ·have hw2:IntKind.i64.wrap ((j:Int)-1)=((j-1:Nat):Int):=by rw [IntKind.wrap_i64]; omega
    have hlt:j-1<l.length:=by omega
    have hne2:(l.drop i).take (j-i)≠[]:=by intro h; have:=congrArg List.length h; simp at this; omega
    have hl2:((l.drop i).take (j-i)).length=j-i:=by simp; omega
    have hst2:=trimR_step hne2
    have hg2:((l.drop i).take (j-i)).getD (j-i-1) 0=l.getD (j-1) 0:=by
     rw [gDg,List.getElem?_take_of_lt (by omega),List.getElem?_drop,gDg,show i+(j-i-1)=j-1 by omega]
    rw [hl2,hg2,List.take_take,show min (j-i-1) (j-i)=j-1-i by omega] at hst2
    simp only [go_sem,hji,hw2,hlt]
    refine cf (c197 _) ?_
    cases hb2:spB (l.getD (j-1) 0).toNat
    ·have hb2':spc (l.getD (j-1) 0)=false:=hb2
     rw [hb2',hT] at hst2
     have hle:j≤l.length:=hj
     simp only [go_sem,Nat.reduceAdd,Nat.reduceBNe,hij,hle]
     refine fq ?_
     rw [show trimB l=(l.drop i).take (j-i) from hst2]; rfl
    ·have hb2':spc (l.getD (j-1) 0)=true:=hb2
     rw [hb2'] at hst2
     simp only [go_sem,Nat.reduceAdd,Nat.reduceBNe,hw2]
     exact ⟨j-1,rfl,⟨by omega,by omega,by rw [←hT,hst2]; rfl⟩,by omega⟩
   ·have hje:j=i:=by omega
    subst hje
    simp only [go_sem,Nat.reduceBNe,hji,hj]
    refine fq ?_
    rw [Nat.sub_self,List.take_zero] at hT
    rw [←hT,Nat.sub_self,List.take_zero]; rfl
  ·have hb':spc (l.getD i 0)=true:=hb
   rw [hb'] at hst
   simp only [go_sem,Nat.reduceAdd,Nat.reduceBNe,hw]
   exact ⟨i+1,rfl,⟨hc,by rw [←h0,hst]; rfl⟩,by omega⟩
 ·simp only [go_sem,Nat.reduceBNe,hc]
  try (with_reducible intro _)
  have h0:l.drop i=l.dropWhile spc:=by rw [←h0,List.drop_of_length_le (by omega)]; rfl
  refine loop_on (fun j:Nat=>pE 35 [.v (vS l),.dead,.v (vS []),.v (vI i),.v (vI j)]) [0,2,3,4] (fun j=>i≤j∧j≤l.length∧trimR ((l.drop i).take (j-i))=trimB l) (fun j=>j) l.length rfl ⟨hi,Nat.le_refl _,by rw [List.take_of_length_le (by simp),h0]; rfl⟩ ?_
  intro j ⟨hij,hj,hT⟩
  simp only [go_sem]
  by_cases hji:i<j
  ·have hw2:IntKind.i64.wrap ((j:Int)-1)=((j-1:Nat):Int):=by rw [IntKind.wrap_i64]; omega
   have hlt:j-1<l.length:=by omega
   have hne2:(l.drop i).take (j-i)≠[]:=by intro h; have:=congrArg List.length h; simp at this; omega
   have hl2:((l.drop i).take (j-i)).length=j-i:=by simp; omega
   have hst2:=trimR_step hne2
   have hg2:((l.drop i).take (j-i)).getD (j-i-1) 0=l.getD (j-1) 0:=by
    rw [gDg,List.getElem?_take_of_lt (by omega),List.getElem?_drop,gDg,show i+(j-i-1)=j-1 by omega]
   rw [hl2,hg2,List.take_take,show min (j-i-1) (j-i)=j-1-i by omega] at hst2
   simp only [go_sem,hji,hw2,hlt]
   refine cf (c197 _) ?_
   cases hb2:spB (l.getD (j-1) 0).toNat
   ·have hb2':spc (l.getD (j-1) 0)=false:=hb2
    rw [hb2',hT] at hst2
    have hle:j≤l.length:=hj
    simp only [go_sem,Nat.reduceAdd,Nat.reduceBNe,hij,hle]
    refine fq ?_
    rw [show trimB l=(l.drop i).take (j-i) from hst2]; rfl
   ·have hb2':spc (l.getD (j-1) 0)=true:=hb2
    rw [hb2'] at hst2
    simp only [go_sem,Nat.reduceAdd,Nat.reduceBNe,hw2]
    exact ⟨j-1,rfl,⟨by omega,by omega,by rw [←hT,hst2]; rfl⟩,by omega⟩
  ·have hje:j=i:=by omega
   subst hje
   simp only [go_sem,Nat.reduceBNe,hji,hj]
   refine fq ?_
   rw [Nat.sub_self,List.take_zero] at hT
   rw [←hT,Nat.sub_self,List.take_zero]; rfl
theorem tok256:∀ n,n<256→isTok (n:Nat)=tchar (n:Nat):=by decide +kernel
theorem tok_eq (b:UInt8):isTok b.toNat=tchar b.toNat:=tok256 b.toNat b.toNat_lt
theorem token_eq (l:List UInt8):tokenS l=tokenI l:=by
 have h:(l.all fun b=>isTok b.toNat)=l.all fun b=>tchar b.toNat:=by
  congr 1
  funext b
  exact tok_eq b
 simp only [tokenI,tokenS,h,inB]
 grind
abbrev Fld:=List UInt8 × List UInt8
def fieldB (p:Fld):Bool:=tokenI p.1&&decide (p.1.length≤40)&&decide (p.2.length≤190)&&(p.2.all fun b=>plainB b.toNat)&&(trimB p.2==p.2)
def fieldsB (l:List Fld):Bool:=decide (l.length≤20)&&l.all fieldB
def rowF (p:Fld):List T:=[.v (vS p.1),.v (vS p.2)]
def rowsF (l:List Fld):List (List T):=l.map rowF
theorem rowsF_length (l:List Fld):(rowsF l).length=l.length:=by simp [rowsF]
theorem rowsF_getD {l:List Fld} {i:Nat} (h:i<l.length):(rowsF l).getD i []=[.v (vS (l.getD i ([],[])).1),.v (vS (l.getD i ([],[])).2)]:=by
 simp [rowsF,rowF,gDg,h]
def Small (l:List Fld):Prop:=l.length≤9223372036854775807∧∀ p,p∈l→p.1.length≤9223372036854775807∧p.2.length≤9223372036854775807
theorem Small.at {l:List Fld} (h:Small l) {i:Nat} (hi:i<l.length):(l.getD i ([],[])).1.length≤9223372036854775807∧(l.getD i ([],[])).2.length≤9223372036854775807:=by
 refine h.2 _ ?_
 rw [gDg,gEg hi]
 exact List.getElem_mem hi
theorem c146 (n v:List UInt8) (hn:n.length≤9223372036854775807) (hv:v.length≤9223372036854775807):Q1 146 (.agg [.v (vS n),.v (vS v)]) (.v (vB (fieldB (n,v)))):=by
 refine sf 1 [.tm 2] func146 ?_
 simp only [f146,go_sem,cfg,Nat.reduceLeDiff,Nat.reduceAdd,Nat.reduceSub, *]
 repeat' ((first | refine draw_intro 29 [[4,5,6,7,8,9,10,11,12,13,14,15,16,17,18,19,20,21,22,23,24,25,26,27,28,29,30,2],[5,6,7,8,9,10,11,12,13,14,15,16,17,18,19,20,21,22,23,24,25,26,27,28,29,30,2],[3,6,7,8,9,10,11,12,13,14,15,16,17,18,19,20,21,22,23,24,25,26,27,28,29,30,2],[3,4,7,8,9,10,11,12,13,14,15,16,17,18,19,20,21,22,23,24,25,26,27,28,29,30,2],[3,4,5,8,9,10,11,12,13,14,15,16,17,18,19,20,21,22,23,24,25,26,27,28,29,30,2],[3,4,5,9,10,11,12,13,14,15,16,17,18,19,20,21,22,23,24,25,26,27,28,29,30,2],[3,4,5,7,10,11,12,13,14,15,16,17,18,19,20,21,22,23,24,25,26,27,28,29,30,2],[3,4,5,7,8,11,12,13,14,15,16,17,18,19,20,21,22,23,24,25,26,27,28,29,30,2],[3,4,5,7,8,9,12,13,14,15,16,17,18,19,20,21,22,23,24,25,26,27,28,29,30,2],[3,4,5,7,8,9,10,13,14,15,16,17,18,19,20,21,22,23,24,25,26,27,28,29,30,2],[3,4,5,6,7,8,9,10,11,14,15,16,17,18,19,20,21,22,23,24,25,26,27,28,29,30,2],[3,4,5,6,7,8,9,10,11,15,16,17,18,19,20,21,22,23,24,25,26,27,28,29,30,2],[3,4,5,6,7,8,9,10,11,13,16,17,18,19,20,21,22,23,24,25,26,27,28,29,30,2],[3,4,5,6,7,8,9,10,11,13,14,17,18,19,20,21,22,23,24,25,26,27,28,29,30,2],[3,4,5,6,7,8,9,10,11,13,14,15,18,19,20,21,22,23,24,25,26,27,28,29,30,2],[3,4,5,6,7,8,9,10,11,13,14,15,16,19,20,21,22,23,24,25,26,27,28,29,30,2],[3,4,5,6,7,8,9,10,11,12,13,14,15,16,17,20,21,22,23,24,25,26,27,28,29,30,2],[3,4,5,6,7,8,9,10,11,12,13,14,15,16,17,21,22,23,24,25,26,27,28,29,30,2],[3,4,5,6,7,8,9,10,11,12,13,14,15,16,17,19,22,23,24,25,26,27,28,29,30,2],[3,4,5,6,7,8,9,10,11,12,13,14,15,16,17,19,20,23,24,25,26,27,28,29,30,2],[3,4,5,6,7,8,9,10,11,12,13,14,15,16,17,18,19,20,24,25,26,27,28,29,30,2],[3,4,5,6,7,8,9,10,11,12,13,14,15,16,17,18,19,20,21,22,25,26,27,28,29,30,2],[3,4,5,6,7,8,9,10,11,12,13,14,15,16,17,18,19,20,21,22,26,27,28,29,30,2],[3,4,5,6,7,8,9,10,11,12,13,14,15,16,17,18,19,20,21,22,24,27,28,29,30,2],[3,4,5,6,7,8,9,10,11,12,13,14,15,16,17,18,19,20,21,22,24,25,26,28,29,30,2],[3,4,5,6,7,8,9,10,11,12,13,14,15,16,17,18,19,20,21,22,24,25,26,29,30,2],[3,4,5,6,7,8,9,10,11,12,13,14,15,16,17,18,19,20,21,22,24,25,27,30,2],[3,4,5,6,7,8,9,10,11,12,13,14,15,16,17,18,19,20,21,22,24,25,26,27,28,2],[]] mixedOk rfl ?_ | refine cf (c148 _ hn) ?_ | refine df (c148 _ hn) ?_ | refine cf (c133 v 149 plainB rfl rfl c149 hv) ?_ | refine df (c133 v 149 plainB rfl rfl c149 hv) ?_ | refine cf (c192 _ hv) ?_ | refine df (c192 _ hv) ?_ | with_reducible intro _ | split)<;>(try simp only [go_sem,Nat.reduceLeDiff,Nat.reduceAdd,Nat.reduceBEq,Nat.reduceBNe, *]))
 all_goals
  refine fqs ?_
  refine congrArg (fun b=>D.v (vB b)) ?_
  grind [fieldB]
theorem c96 (n v:List UInt8) (hn:n.length≤9223372036854775807) (hv:v.length≤9223372036854775807):Q1 96 (.agg [.v (vS n),.v (vS v)]) (.v (vB (fieldB (n,v)))):=by
 have htk:=token_eq n
 refine sf 1 [.tm 2] func96 ?_
 simp only [f96,go_sem,cfg,Nat.reduceLeDiff,Nat.reduceAdd,Nat.reduceSub, *]
 repeat' ((first | refine draw_intro 29 [[4,5,6,7,8,9,10,11,12,13,14,15,16,17,18,19,20,21,22,23,24,25,26,27,28,29,30,2],[5,6,7,8,9,10,11,12,13,14,15,16,17,18,19,20,21,22,23,24,25,26,27,28,29,30,2],[3,6,7,8,9,10,11,12,13,14,15,16,17,18,19,20,21,22,23,24,25,26,27,28,29,30,2],[3,4,7,8,9,10,11,12,13,14,15,16,17,18,19,20,21,22,23,24,25,26,27,28,29,30,2],[3,4,5,8,9,10,11,12,13,14,15,16,17,18,19,20,21,22,23,24,25,26,27,28,29,30,2],[3,4,5,6,9,10,11,12,13,14,15,16,17,18,19,20,21,22,23,24,25,26,27,28,29,30,2],[3,4,5,6,10,11,12,13,14,15,16,17,18,19,20,21,22,23,24,25,26,27,28,29,30,2],[3,4,5,6,8,11,12,13,14,15,16,17,18,19,20,21,22,23,24,25,26,27,28,29,30,2],[3,4,5,6,8,9,12,13,14,15,16,17,18,19,20,21,22,23,24,25,26,27,28,29,30,2],[3,4,5,6,7,8,9,13,14,15,16,17,18,19,20,21,22,23,24,25,26,27,28,29,30,2],[3,4,5,6,7,8,9,10,11,14,15,16,17,18,19,20,21,22,23,24,25,26,27,28,29,30,2],[3,4,5,6,7,8,9,10,11,15,16,17,18,19,20,21,22,23,24,25,26,27,28,29,30,2],[3,4,5,6,7,8,9,10,11,13,16,17,18,19,20,21,22,23,24,25,26,27,28,29,30,2],[3,4,5,6,7,8,9,10,11,13,14,17,18,19,20,21,22,23,24,25,26,27,28,29,30,2],[3,4,5,6,7,8,9,10,11,13,14,15,18,19,20,21,22,23,24,25,26,27,28,29,30,2],[3,4,5,6,7,8,9,10,11,13,14,15,16,19,20,21,22,23,24,25,26,27,28,29,30,2],[3,4,5,6,7,8,9,10,11,12,13,14,15,16,17,20,21,22,23,24,25,26,27,28,29,30,2],[3,4,5,6,7,8,9,10,11,12,13,14,15,16,17,21,22,23,24,25,26,27,28,29,30,2],[3,4,5,6,7,8,9,10,11,12,13,14,15,16,17,19,22,23,24,25,26,27,28,29,30,2],[3,4,5,6,7,8,9,10,11,12,13,14,15,16,17,19,20,23,24,25,26,27,28,29,30,2],[3,4,5,6,7,8,9,10,11,12,13,14,15,16,17,18,19,20,24,25,26,27,28,29,30,2],[3,4,5,6,7,8,9,10,11,12,13,14,15,16,17,18,19,20,21,22,25,26,27,28,29,30,2],[3,4,5,6,7,8,9,10,11,12,13,14,15,16,17,18,19,20,21,22,26,27,28,29,30,2],[3,4,5,6,7,8,9,10,11,12,13,14,15,16,17,18,19,20,21,22,24,27,28,29,30,2],[3,4,5,6,7,8,9,10,11,12,13,14,15,16,17,18,19,20,21,22,24,25,26,28,29,30,2],[3,4,5,6,7,8,9,10,11,12,13,14,15,16,17,18,19,20,21,22,24,25,26,29,30,2],[3,4,5,6,7,8,9,10,11,12,13,14,15,16,17,18,19,20,21,22,24,25,27,30,2],[3,4,5,6,7,8,9,10,11,12,13,14,15,16,17,18,19,20,21,22,24,25,26,27,28,2],[]] mixedOk rfl ?_ | refine cf (c98 _ hn) ?_ | refine df (c98 _ hn) ?_ | refine cf (c100 _ hv) ?_ | refine df (c100 _ hv) ?_ | refine cf (c152 _ hv) ?_ | refine df (c152 _ hv) ?_ | with_reducible intro _ | split)<;>(try simp only [go_sem,Nat.reduceLeDiff,Nat.reduceAdd,Nat.reduceBEq,Nat.reduceBNe, *]))
 all_goals
  refine fqs ?_
  refine congrArg (fun b=>D.v (vB b)) ?_
  grind [fieldB]
theorem c84 (l:List Fld) (hl:Small l):Q1 84 (.imm 105 (rowsF l)) (.v (vB (fieldsB l))):=by
 refine sf 1 [.tm 2] func84 ?_
 simp only [f84,go_sem,cfg,Nat.reduceSub,rowsF_length]
 intro hlen
 have hs:l.length≤9223372036854775807:=hl.1
 by_cases h20:20<l.length
 ·have h20':(20:Int)<(l.length:Int):=by omega
  simp only [go_sem,h20']
  refine fqs ?_
  refine congrArg (fun b=>D.v (vB b)) ?_
  grind [fieldsB]
 have h20':¬ (20:Int)<(l.length:Int):=by omega
 simp only [go_sem,rowsF_length,h20',hs]
 refine loop_on (fun i:Nat=>pE 18 [.imm 105 (rowsF l),.dead,.v (vB false),.dead,.dead,.dead,.dead,.dead,.imm 105 (rowsF l),.v (vI l.length),.v (vI i)]) [0,2,8,9,10] (fun i=>i≤l.length∧(l.take i).all fieldB=true) (fun i=>l.length-i) 0 rfl ⟨by omega,by simp⟩ ?_
 intro i ⟨hi,hall⟩
 simp only [go_sem]
 by_cases hc:i<l.length
 ·have hw:=wrapN hc hs
  have h1:=rowsF_getD hc
  have hsm:=hl.at hc
  simp only [go_sem,Nat.reduceLeDiff,Nat.reduceLT,Nat.reduceAdd,rowsF_length,hc,h1]
  refine cf (c146 _ _ hsm.1 hsm.2) ?_
  cases hb:fieldB (l.getD i ([],[]))
  ·simp only [go_sem,Nat.reduceAdd]
   refine fqs ?_
   rw [fieldsB,all_false_at hc hb]; simp
  ·simp only [go_sem,Nat.reduceAdd,hw]
   exact ⟨i+1,rfl,⟨hc,by rw [all_take_succ (d:=([],[])) hc,hall,hb]; rfl⟩,by omega⟩
 ·simp only [go_sem,hc]
  refine fqs ?_
  rw [List.take_of_length_le (by omega)] at hall
  refine congrArg (fun b=>D.v (vB b)) ?_
  grind [fieldsB]
theorem c38 (l:List Fld) (hl:Small l):Q1 38 (.imm 105 (rowsF l)) (.v (vB (fieldsB l))):=by
 refine sf 1 [.tm 2] func38 ?_
 simp only [f38,go_sem,cfg,Nat.reduceSub,rowsF_length]
 intro hlen
 have hs:l.length≤9223372036854775807:=hl.1
 by_cases h20:20<l.length
 ·have h20':(20:Int)<(l.length:Int):=by omega
  simp only [go_sem,h20']
  refine fqs ?_
  refine congrArg (fun b=>D.v (vB b)) ?_
  grind [fieldsB]
 have h20':¬ (20:Int)<(l.length:Int):=by omega
 simp only [go_sem,h20']
 refine loop_on (fun i:Nat=>pE 19 [.imm 105 (rowsF l),.dead,.v (vB false),.v (vI i)]) [0,2,3] (fun i=>i≤l.length∧(l.take i).all fieldB=true) (fun i=>l.length-i) 0 rfl ⟨by omega,by simp⟩ ?_
 intro i ⟨hi,hall⟩
 simp only [go_sem,rowsF_length]
 try (with_reducible intro _)
 by_cases hc:i<l.length
 ·have hw:=wrapN hc hs
  have h1:=rowsF_getD hc
  have hsm:=hl.at hc
  simp only [go_sem,Nat.reduceAdd,rowsF_length,hc,h1]
  refine cf (c96 _ _ hsm.1 hsm.2) ?_
  cases hb:fieldB (l.getD i ([],[]))
  ·simp only [go_sem,Nat.reduceAdd]
   refine fqs ?_
   rw [fieldsB,all_false_at hc hb]; simp
  ·simp only [go_sem,Nat.reduceAdd,Nat.reduceBNe,hw]
   exact ⟨i+1,rfl,⟨hc,by rw [all_take_succ (d:=([],[])) hc,hall,hb]; rfl⟩,by omega⟩
 ·simp only [go_sem,hc]
  refine fqs ?_
  rw [List.take_of_length_le (by omega)] at hall
  refine congrArg (fun b=>D.v (vB b)) ?_
  grind [fieldsB]
theorem drop_at {α:Type} {l:List α} {i:Nat} {d:α} (h:i<l.length):l.drop i=l.getD i d::l.drop (i+1):=by
 rw [List.drop_eq_getElem_cons h]; simp [gDg,h]
theorem take_at {α:Type} {l:List α} {i:Nat} {d:α} (h:i<l.length):l.take (i+1)=l.take i++[l.getD i d]:=by
 rw [List.take_succ_eq_append_getElem h]; simp [gDg,h]
def zrow:List T:=[.v (vS []),.v (vS [])]
def mk (l:List Fld) (i:Nat):List (List T):=rowsF (l.take i)++List.replicate (l.length-i) zrow
theorem rows1 (b:UInt8):rowsBytes [[.v (.int .u8 (b.toNat:Int))]]=[b]:=by simp [rowsBytes]
theorem bytes1 (b:UInt8):bytesRows [b]=[[.v (.int .u8 (b.toNat:Int))]]:=rfl
def sd (e:TypeId) (xs:List (List T)):D:=match xs with | [] => .nil | x::l => .own e (x::l)
theorem sd_nil {e:TypeId}:sd e [] = .nil:=rfl
theorem sd_cons {e:TypeId} {x:List T} {l:List (List T)}:sd e (x::l) = .own e (x::l):=rfl
theorem sd_snoc {e:TypeId} {x:List T} {l:List (List T)}:sd e (l++[x]) = .own e (l++[x]):=by cases l<;>rfl
def rowsS (l:List (List UInt8)):List (List T):=l.map fun s=>[.v (vS s)]
def hitB (name:List UInt8) (p:Fld):Bool:=foldB p.1==foldB name
def valsB (name:List UInt8) (l:List Fld):List (List UInt8):=(l.filter (hitB name)).map (·.2)
def withoutB (name:List UInt8) (l:List Fld):List Fld:=l.filter fun p => !hitB name p
theorem rowsS_snoc {l:List (List UInt8)} {s:List UInt8}:rowsS (l++[s])=rowsS l++[[.v (vS s)]]:=by simp [rowsS]
theorem rowsF_snoc {l:List Fld} {p:Fld}:rowsF (l++[p])=rowsF l++[[.v (vS p.1),.v (vS p.2)]]:=by simp [rowsF,rowF]
theorem vals_hit {l:List Fld} {name:List UInt8} {i:Nat} (h:i<l.length) (hb:hitB name (l.getD i ([],[]))=true):valsB name (l.take (i+1))=valsB name (l.take i)++[(l.getD i ([],[])).2]:=by
 rw [take_at (d:=([],[])) h,valsB,List.filter_append]; simp only [List.filter_cons,List.filter_nil,hb,if_true,List.map_cons,List.map_nil,List.map_append]; rfl
theorem vals_miss {l:List Fld} {name:List UInt8} {i:Nat} (h:i<l.length) (hb:hitB name (l.getD i ([],[]))=false):valsB name (l.take (i+1))=valsB name (l.take i):=by
 rw [take_at (d:=([],[])) h,valsB,List.filter_append]; simp only [List.filter_cons,List.filter_nil,hb,Bool.false_eq_true,if_false,List.append_nil]; rfl
theorem wo_hit {l:List Fld} {name:List UInt8} {i:Nat} (h:i<l.length) (hb:hitB name (l.getD i ([],[]))=true):withoutB name (l.take (i+1))=withoutB name (l.take i):=by
 rw [take_at (d:=([],[])) h,withoutB,List.filter_append]; simp only [List.filter_cons,List.filter_nil,hb,Bool.false_eq_true,if_false,List.append_nil,Bool.not_true]; rfl
theorem wo_miss {l:List Fld} {name:List UInt8} {i:Nat} (h:i<l.length) (hb:hitB name (l.getD i ([],[]))=false):withoutB name (l.take (i+1))=withoutB name (l.take i)++[l.getD i ([],[])]:=by
 rw [take_at (d:=([],[])) h,withoutB,List.filter_append]; simp only [List.filter_cons,List.filter_nil,hb,if_true,Bool.not_false]; rfl
theorem vals_le (name:List UInt8) (l:List Fld) (i:Nat):(rowsS (valsB name (l.take i))).length≤i:=by
 simp only [rowsS,valsB,List.length_map]
 exact Nat.le_trans (List.length_filter_le _ _) (by simp; omega)
theorem wo_le (name:List UInt8) (l:List Fld) (i:Nat):(rowsF (withoutB name (l.take i))).length≤i:=by
 rw [rowsF_length]
 exact Nat.le_trans (List.length_filter_le _ _) (by simp; omega)
theorem fields_len {l:List Fld} (h:fieldsB l=true):l.length≤20:=by
 simp only [fieldsB,Bool.and_eq_true,decide_eq_true_eq] at h; exact h.1
theorem c241 (l:List Fld) (hl:Small l) (name:List UInt8) (hn:name.length≤9223372036854775807) (h:fieldsB l=true):Q2 241 (.imm 105 (rowsF l)) (.v (vS name)) (sd 9 (rowsS (valsB name l))):=by
 refine sf 2 [.tm 4] func241 ?_
 simp only [f241,go_sem,cfg,Nat.reduceSub,List.nil_append]
 refine cf (c38 l hl) ?_
 simp only [go_sem,Nat.reduceAdd,h]
 have hs:l.length≤9223372036854775807:=hl.1
 have h20:=fields_len h
 try simp only [go_sem]
 refine loop_on (fun i:Nat=>pE 32 [.imm 105 (rowsF l),.v (vS name),.dead,.dead,.nil,sd 9 (rowsS (valsB name (l.take i))),.v (vI i)]) [0,1,4,5,6] (fun i=>i≤l.length) (fun i=>l.length-i) 0 rfl (by omega) ?_
 intro i hi
 have hle:=vals_le name l i
 have hmiss:=vals_miss (name:=name) (l:=l) (i:=i)
 have hhit:=vals_hit (name:=name) (l:=l) (i:=i)
 have hend:i=l.length→valsB name (l.take i)=valsB name l:=fun e=>by rw [e,List.take_length]
 generalize hacc:rowsS (valsB name (l.take i))=acc at hle ⊢
 simp only [go_sem,rowsF_length,hs]
 cases acc with
 | nil =>
  try simp only [go_sem]
  by_cases hc:i<l.length
  ·have hw:=wrapN hc hs
   have h1:=rowsF_getD hc
   have hsm:=hl.at hc
   have hhit:=hhit hc
   have hmiss:=hmiss hc
   simp only [go_sem,Nat.reduceLeDiff,Nat.reduceAdd,rowsF_length,sd_nil,List.nil_append,hc,h1]
   refine cf (c214 _ _ hsm.1 hn) ?_
   cases hb:hitB name (l.getD i ([],[]))
   ·have hb':(foldB (l.getD i ([],[])).1==foldB name)=false:=hb
    simp only [go_sem,Nat.reduceAdd,Nat.reduceBNe,hb',hw]
    exact ⟨i+1,by rw [hmiss hb,hacc]; rfl,hc,by omega⟩
   ·have hb':(foldB (l.getD i ([],[])).1==foldB name)=true:=hb
    simp only [go_sem,Nat.reduceLeDiff,Nat.reduceLT,Nat.reduceAdd,Nat.reduceMul,Nat.reduceBNe,Nat.reduceEqDiff,reduceCtorEq,Nat.reduceDiv,Nat.reduceMod,rowsF_length,List.nil_append,hc,h1,hb',hw]
    have hb1:(1:Nat)*16≤140737488355328:=by omega
    try simp only [f241,go_sem,cfg,Nat.reduceLeDiff,Nat.reduceLT,Nat.reduceAdd,Nat.reduceSub,Nat.reduceMul,Nat.reduceBEq,Nat.reduceBNe,Nat.reduceEqDiff,reduceCtorEq,reduceIte,Int.reduceLT,Int.reduceLE,Int.reduceAdd,Int.reduceSub,Int.reduceNeg,Int.reduceEq,Int.reduceBEq,Int.reduceBNe,Int.reduceToNat,Nat.reduceDiv,Nat.reduceMod,rowsF_length,sd_nil,sd_cons,List.length_map,List.length_append,List.nil_append,hs,hc,h1,hb',hw,hb1]
    first | exact ⟨i+1,by rw [hhit hb,rowsS_snoc,hacc]; rfl,hc,by omega⟩
  ·have he:=hend (by omega)
   rw [he] at hacc
   simp only [go_sem,Nat.reduceBNe,sd_nil,hc]
   first | (refine fq ?_; rw [hacc]; rfl)
 | cons x xs =>
  try simp only [go_sem]
  by_cases hc:i<l.length
  ·have hw:=wrapN hc hs
   have h1:=rowsF_getD hc
   have hsm:=hl.at hc
   have hhit:=hhit hc
   have hmiss:=hmiss hc
   simp only [go_sem,Nat.reduceLeDiff,Nat.reduceAdd,rowsF_length,sd_cons,List.nil_append,hc,h1]
   refine cf (c214 _ _ hsm.1 hn) ?_
   cases hb:hitB name (l.getD i ([],[]))
   ·have hb':(foldB (l.getD i ([],[])).1==foldB name)=false:=hb
    simp only [go_sem,Nat.reduceAdd,Nat.reduceBNe,hb',hw]
    exact ⟨i+1,by rw [hmiss hb,hacc]; rfl,hc,by omega⟩
   ·have hb':(foldB (l.getD i ([],[])).1==foldB name)=true:=hb
    simp only [go_sem,Nat.reduceLeDiff,Nat.reduceLT,Nat.reduceAdd,Nat.reduceMul,Nat.reduceBNe,Nat.reduceEqDiff,reduceCtorEq,Nat.reduceDiv,Nat.reduceMod,rowsF_length,List.nil_append,hc,h1,hb',hw]
    have hb1:(xs.length+1+1)*16≤140737488355328:=by simp only [List.length_cons] at hle; omega
    try simp only [go_sem,hb1]
    first | exact ⟨i+1,by rw [hhit hb,rowsS_snoc,hacc]; rfl,hc,by omega⟩
  ·have he:=hend (by omega)
   rw [he] at hacc
   simp only [go_sem,Nat.reduceAdd,Nat.reduceBNe,Nat.reduceEqDiff,reduceCtorEq,Nat.reduceDiv,Nat.reduceMod,sd_cons,hc]
   first | (refine fq ?_; rw [hacc]; rfl)
theorem c147 (l:List Fld) (hl:Small l) (name:List UInt8) (hn:name.length≤9223372036854775807) (h:fieldsB l=true):Q2 147 (.imm 105 (rowsF l)) (.v (vS name)) (sd 9 (rowsS (valsB name l))):=by
 refine sf 2 [.tm 4] func147 ?_
 simp only [f147,go_sem,cfg,Nat.reduceSub,List.nil_append]
 refine cf (c84 l hl) ?_
 simp only [go_sem,Nat.reduceAdd,rowsF_length,h]
 have hs:l.length≤9223372036854775807:=hl.1
 have h20:=fields_len h
 try simp only [go_sem,hs]
 refine loop_on (fun i:Nat=>pE 28 [.imm 105 (rowsF l),.v (vS name),.dead,.dead,.nil,sd 9 (rowsS (valsB name (l.take i))),.dead,.dead,.dead,.dead,.dead,.imm 105 (rowsF l),.v (vI l.length),.v (vI i)]) [0,1,4,5,11,12,13] (fun i=>i≤l.length) (fun i=>l.length-i) 0 rfl (by omega) ?_
 intro i hi
 have hle:=vals_le name l i
 have hmiss:=vals_miss (name:=name) (l:=l) (i:=i)
 have hhit:=vals_hit (name:=name) (l:=l) (i:=i)
 have hend:i=l.length→valsB name (l.take i)=valsB name l:=fun e=>by rw [e,List.take_length]
 generalize hacc:rowsS (valsB name (l.take i))=acc at hle ⊢
 simp only [go_sem]
 cases acc with
 | nil =>
  try simp only [go_sem]
  by_cases hc:i<l.length
  ·have hw:=wrapN hc hs
   have h1:=rowsF_getD hc
   have hsm:=hl.at hc
   have hhit:=hhit hc
   have hmiss:=hmiss hc
   simp only [go_sem,Nat.reduceLeDiff,Nat.reduceLT,Nat.reduceAdd,rowsF_length,sd_nil,List.nil_append,hc,h1]
   refine cf (c193 _ _ hsm.1 hn) ?_
   cases hb:hitB name (l.getD i ([],[]))
   ·have hb':(foldB (l.getD i ([],[])).1==foldB name)=false:=hb
    simp only [go_sem,Nat.reduceAdd,hb',hw]
    exact ⟨i+1,by rw [hmiss hb,hacc]; rfl,hc,by omega⟩
   ·have hb':(foldB (l.getD i ([],[])).1==foldB name)=true:=hb
    simp only [go_sem,Nat.reduceLeDiff,Nat.reduceLT,Nat.reduceAdd,Nat.reduceMul,Nat.reduceBNe,Nat.reduceEqDiff,reduceCtorEq,Nat.reduceDiv,Nat.reduceMod,List.nil_append,hb',hw]
    have hb1:(1:Nat)*16≤140737488355328:=by omega
    try simp only [f147,go_sem,cfg,Nat.reduceLeDiff,Nat.reduceLT,Nat.reduceAdd,Nat.reduceSub,Nat.reduceMul,Nat.reduceBEq,Nat.reduceBNe,Nat.reduceEqDiff,reduceCtorEq,reduceIte,Int.reduceLT,Int.reduceLE,Int.reduceAdd,Int.reduceSub,Int.reduceNeg,Int.reduceEq,Int.reduceBEq,Int.reduceBNe,Int.reduceToNat,Nat.reduceDiv,Nat.reduceMod,rowsF_length,sd_nil,sd_cons,List.length_map,List.length_append,List.nil_append,hs,hc,h1,hb',hw,hb1]
    first | exact ⟨i+1,by rw [hhit hb,rowsS_snoc,hacc]; rfl,hc,by omega⟩
  ·have he:=hend (by omega)
   rw [he] at hacc
   simp only [go_sem,Nat.reduceBNe,sd_nil,hc]
   first | (refine fq ?_; rw [hacc]; rfl)
 | cons x xs =>
  try simp only [go_sem]
  by_cases hc:i<l.length
  ·have hw:=wrapN hc hs
   have h1:=rowsF_getD hc
   have hsm:=hl.at hc
   have hhit:=hhit hc
   have hmiss:=hmiss hc
   simp only [go_sem,Nat.reduceLeDiff,Nat.reduceLT,Nat.reduceAdd,rowsF_length,sd_cons,List.nil_append,hc,h1]
   refine cf (c193 _ _ hsm.1 hn) ?_
   cases hb:hitB name (l.getD i ([],[]))
   ·have hb':(foldB (l.getD i ([],[])).1==foldB name)=false:=hb
    simp only [go_sem,Nat.reduceAdd,hb',hw]
    exact ⟨i+1,by rw [hmiss hb,hacc]; rfl,hc,by omega⟩
   ·have hb':(foldB (l.getD i ([],[])).1==foldB name)=true:=hb
    simp only [go_sem,Nat.reduceLeDiff,Nat.reduceLT,Nat.reduceAdd,Nat.reduceMul,Nat.reduceBNe,Nat.reduceEqDiff,reduceCtorEq,Nat.reduceDiv,Nat.reduceMod,List.nil_append,hb',hw]
    have hb1:(xs.length+1+1)*16≤140737488355328:=by simp only [List.length_cons] at hle; omega
    try simp only [go_sem,hb1]
    first | exact ⟨i+1,by rw [hhit hb,rowsS_snoc,hacc]; rfl,hc,by omega⟩
  ·have he:=hend (by omega)
   rw [he] at hacc
   simp only [go_sem,Nat.reduceAdd,Nat.reduceBNe,Nat.reduceEqDiff,reduceCtorEq,Nat.reduceDiv,Nat.reduceMod,sd_cons,hc]
   first | (refine fq ?_; rw [hacc]; rfl)
theorem c169 (l:List Fld) (hl:Small l) (name:List UInt8) (hn:name.length≤9223372036854775807) (h:fieldsB l=true):Q2 169 (.imm 105 (rowsF l)) (.v (vS name)) (sd 105 (rowsF (withoutB name l))):=by
 refine sf 2 [.tm 4] func169 ?_
 simp only [f169,go_sem,cfg,Nat.reduceSub,List.nil_append]
 refine cf (c38 l hl) ?_
 simp only [go_sem,Nat.reduceAdd,h]
 have hs:l.length≤9223372036854775807:=hl.1
 have h20:=fields_len h
 try simp only [go_sem]
 refine loop_on (fun i:Nat=>pE 32 [.imm 105 (rowsF l),.v (vS name),.dead,.dead,.nil,sd 105 (rowsF (withoutB name (l.take i))),.v (vI i)]) [0,1,4,5,6] (fun i=>i≤l.length) (fun i=>l.length-i) 0 rfl (by omega) ?_
 intro i hi
 have hle:=wo_le name l i
 have hmiss:=wo_miss (name:=name) (l:=l) (i:=i)
 have hhit:=wo_hit (name:=name) (l:=l) (i:=i)
 have hend:i=l.length→withoutB name (l.take i)=withoutB name l:=fun e=>by rw [e,List.take_length]
 generalize hacc:rowsF (withoutB name (l.take i))=acc at hle ⊢
 simp only [go_sem,rowsF_length,hs]
 cases acc with
 | nil =>
  try simp only [go_sem]
  by_cases hc:i<l.length
  ·have hw:=wrapN hc hs
   have h1:=rowsF_getD hc
   have hsm:=hl.at hc
   have hhit:=hhit hc
   have hmiss:=hmiss hc
   simp only [go_sem,Nat.reduceLeDiff,Nat.reduceAdd,rowsF_length,sd_nil,List.nil_append,hc,h1]
   refine cf (c214 _ _ hsm.1 hn) ?_
   cases hb:hitB name (l.getD i ([],[]))
   ·have hb':(foldB (l.getD i ([],[])).1==foldB name)=false:=hb
    simp only [go_sem,Nat.reduceLeDiff,Nat.reduceLT,Nat.reduceAdd,Nat.reduceMul,Nat.reduceBNe,Nat.reduceEqDiff,reduceCtorEq,Nat.reduceDiv,Nat.reduceMod,rowsF_length,List.nil_append,hc,h1,hb',hw]
    have hb1:(1:Nat)*32≤140737488355328:=by omega
    try simp only [f169,go_sem,cfg,Nat.reduceLeDiff,Nat.reduceLT,Nat.reduceAdd,Nat.reduceSub,Nat.reduceMul,Nat.reduceBEq,Nat.reduceBNe,Nat.reduceEqDiff,reduceCtorEq,reduceIte,Int.reduceLT,Int.reduceLE,Int.reduceAdd,Int.reduceSub,Int.reduceNeg,Int.reduceEq,Int.reduceBEq,Int.reduceBNe,Int.reduceToNat,Nat.reduceDiv,Nat.reduceMod,rowsF_length,sd_nil,sd_cons,List.length_map,List.length_append,List.nil_append,hs,hc,h1,hb',hw,hb1]
    first | exact ⟨i+1,by rw [hmiss hb,rowsF_snoc,hacc]; rfl,hc,by omega⟩
   ·have hb':(foldB (l.getD i ([],[])).1==foldB name)=true:=hb
    simp only [go_sem,Nat.reduceAdd,Nat.reduceBNe,hb',hw]
    exact ⟨i+1,by rw [hhit hb,hacc]; rfl,hc,by omega⟩
  ·have he:=hend (by omega)
   rw [he] at hacc
   simp only [go_sem,Nat.reduceBNe,sd_nil,hc]
   first | (refine fq ?_; rw [hacc]; rfl)
 | cons x xs =>
  try simp only [go_sem]
  by_cases hc:i<l.length
  ·have hw:=wrapN hc hs
   have h1:=rowsF_getD hc
   have hsm:=hl.at hc
   have hhit:=hhit hc
   have hmiss:=hmiss hc
   simp only [go_sem,Nat.reduceLeDiff,Nat.reduceAdd,rowsF_length,sd_cons,List.nil_append,hc,h1]
   refine cf (c214 _ _ hsm.1 hn) ?_
   cases hb:hitB name (l.getD i ([],[]))
   ·have hb':(foldB (l.getD i ([],[])).1==foldB name)=false:=hb
    simp only [go_sem,Nat.reduceLeDiff,Nat.reduceLT,Nat.reduceAdd,Nat.reduceMul,Nat.reduceBNe,Nat.reduceEqDiff,reduceCtorEq,Nat.reduceDiv,Nat.reduceMod,rowsF_length,List.nil_append,hc,h1,hb',hw]
    have hb1:(xs.length+1+1)*32≤140737488355328:=by simp only [List.length_cons] at hle; omega
    try simp only [go_sem,hb1]
    first | exact ⟨i+1,by rw [hmiss hb,rowsF_snoc,hacc]; rfl,hc,by omega⟩
   ·have hb':(foldB (l.getD i ([],[])).1==foldB name)=true:=hb
    simp only [go_sem,Nat.reduceAdd,Nat.reduceBNe,hb',hw]
    exact ⟨i+1,by rw [hhit hb,hacc]; rfl,hc,by omega⟩
  ·have he:=hend (by omega)
   rw [he] at hacc
   simp only [go_sem,Nat.reduceAdd,Nat.reduceBNe,Nat.reduceEqDiff,reduceCtorEq,Nat.reduceDiv,Nat.reduceMod,sd_cons,hc]
   first | (refine fq ?_; rw [hacc]; rfl)
end Go.Proofs.YtbdfdfhamlmodaaGreatDoor.Fw
namespace Go.Proofs.YtbdfdfhamlmodaaGreatDoor.Fw
open Go Go.Proofs
open Go.Shelf
def join_lays156_ren:Go.Shelf.Ren:=⟨fun | 156=>188 | 165=>227 | 166=>92 | 169=>95 | 240=>150 | 241=>253 | 276=>195 | 277=>265 | n=>n,fun | 31=>87 | 9=>9 | 3=>3 | 4=>4 | 0=>0 | 20=>20 | 72=>115 | 76=>118 | 70=>113 | 37=>22 | 75=>117 | 127=>154 | 164=>173 | 5=>5 | 80=>121 | n=>n,fun | n=>n⟩
theorem join_lays156:Go.Proofs.Lays.n156 Tryz.prog join_lays156_ren:={
 mixed:=by kernel_rfl
 f156:=Tryz.func188.trans (congrArg some (by kernel_rfl))
 f165:=Tryz.func227.trans (congrArg some (by kernel_rfl))
 f166:=Tryz.func92.trans (congrArg some (by kernel_rfl))
 f169:=Tryz.func95.trans (congrArg some (by kernel_rfl))
 f240:=Tryz.func150.trans (congrArg some (by kernel_rfl))
 f241:=Tryz.func253.trans (congrArg some (by kernel_rfl))
 f276:=Tryz.func195.trans (congrArg some (by kernel_rfl))
 f277:=Tryz.func265.trans (congrArg some (by kernel_rfl))
 t0:=Tryz.underlying0
 a0:=Tryz.isAgg0
 z0:=Tryz.sizeOf0
 v0:=Tryz.zeroValue0
 t3:=Tryz.underlying3
 a3:=Tryz.isAgg3
 z3:=Tryz.sizeOf3
 v3:=Tryz.zeroValue3
 t4:=Tryz.underlying4
 a4:=Tryz.isAgg4
 z4:=Tryz.sizeOf4
 v4:=Tryz.zeroValue4
 t9:=Tryz.underlying9
 a9:=Tryz.isAgg9
 z9:=Tryz.sizeOf9
 v9:=Tryz.zeroValue9
 t20:=Tryz.underlying20
 a20:=Tryz.isAgg20
 z20:=Tryz.sizeOf20
 v20:=Tryz.zeroValue20
 t31:=Tryz.underlying87
 a31:=Tryz.isAgg87
 z31:=Tryz.sizeOf87
 v31:=Tryz.zeroValue87
 t37:=Tryz.underlying22
 a37:=Tryz.isAgg22
 z37:=Tryz.sizeOf22
 v37:=Tryz.zeroValue22
 t70:=Tryz.underlying113
 a70:=Tryz.isAgg113
 z70:=Tryz.sizeOf113
 v70:=Tryz.zeroValue113
 t72:=Tryz.underlying115
 a72:=Tryz.isAgg115
 z72:=Tryz.sizeOf115
 v72:=Tryz.zeroValue115
 t75:=Tryz.underlying117
 a75:=Tryz.isAgg117
 z75:=Tryz.sizeOf117
 v75:=Tryz.zeroValue117
 t76:=Tryz.underlying118
 a76:=Tryz.isAgg118
 z76:=Tryz.sizeOf118
 v76:=Tryz.zeroValue118
 t127:=Tryz.underlying154
 a127:=Tryz.isAgg154
 z127:=Tryz.sizeOf154
 v127:=Tryz.zeroValue154
 t164:=Tryz.underlying173
 a164:=Tryz.isAgg173
 z164:=Tryz.sizeOf173
 v164:=Tryz.zeroValue173 }
theorem join_Builder_Extra_156:Builder.Extra Tryz.prog join_lays156_ren:={
 sizeBuilder:=by kernel_rfl
 liesBuilder:=by kernel_rfl
 t5:=Tryz.underlying5
 a5:=Tryz.isAgg5
 z5:=Tryz.sizeOf5
 v5:=Tryz.zeroValue5
 infoByte:=by kernel_rfl
 cellsByte:=by kernel_rfl
 sizeByte:=by kernel_rfl
 neB5:=by decide }
open Go.RowKit in
theorem join_strings_Join_none (a:Option Addr) (c:Nat) (sep:ByteArray) (w:World) :
  Calls Tryz.prog 188 #[.slice a 0 c,.string sep] w fun e w'=>e = .returned (.string ⟨#[]⟩)∧w'=w:=Any.strings_Join_none join_lays156 join_Builder_Extra_156 a c sep w
open Go.RowKit in
theorem join_strings_Join (bk o c:Nat) (xs:List ByteArray) (sep:ByteArray) (w:World) (hcells:∀ (j:Nat) x,xs[j]? = some x→w.cell? ⟨bk,o+j,none⟩=some (.string x)) (hbk:bk<w.heap.size) (hN:xs.length≤140737488355328) (hcap:xs.length≤c) (hlen:(Lib.join (xs.map (·.data.toList)) sep.data.toList).length≤140737488355328) :
  Calls Tryz.prog 188 #[.slice (some ⟨bk,o,none⟩) xs.length c,.string sep] w fun e w'=>e = .returned (.string ⟨(Lib.join (xs.map (·.data.toList)) sep.data.toList).toArray⟩)∧RowKit.Below w.heap.size w w':=Any.strings_Join join_lays156 join_Builder_Extra_156 bk o c xs sep w hcells hbk hN hcap hlen
theorem c188 (vs:List (List UInt8)) (sep:List UInt8) (hN:vs.length≤1048576) (hlen:(Lib.join vs sep).length≤140737488355328) :
  Sem Tryz.prog 188 ⟨[.imm 9 (rowsS vs),.v (vS sep)],[none,none]⟩ ⟨[.imm 9 (rowsS vs),.v (vS sep),.v (vS (Lib.join vs sep))],[none,none,none]⟩:=by
 refine sem_calls (Ein:=⟨[.imm 9 (rowsS vs),.v (vS sep)],[none,none]⟩) (r:=vS (Lib.join vs sep)) (enter_of Tryz.func188 rfl rfl) rfl (by simp only [scal,decide_eq_true_eq]; show (Lib.join vs sep).length≤_; omega) rfl ?_
 intro w a F loc M R
 have h0:=slot_of R (i:=0) (d := .imm 9 (rowsS vs)) rfl rfl (by simp)
 have h1:=slot_of R (i:=1) (d := .v (vS sep)) rfl rfl (by simp)
 have hsz:a.tmps.size=2:=R.tmps
 have ha:a.tmps = #[a.tmps.getD 0 undef,a.tmps.getD 1 undef]:=by
  apply Array.ext
  ·simpa using hsz
  ·intro i hi hi2
   have:i=0∨i=1:=by simp at hi2; omega
   rcases this with rfl | rfl<;>simp [Array.getD,hsz]
 rw [ha]
 generalize a.tmps.getD 0 undef=v0 at h0
 generalize a.tmps.getD 1 undef=v1 at h1
 cases h1
 cases h0 with
 | imm _ _ _ h =>
  have hm:(vs.map ofL).map (·.data.toList)=vs:=by
   rw [List.map_map]
   exact (List.map_congr_left (fun s _=>rfl)).trans (List.map_id vs)
  have hsd:(ofL sep).data.toList=sep:=rfl
  rcases strs_of (by kernel_rfl) h with ⟨rfl,base,cap,rfl⟩ | ⟨b,o,cap,rfl,hb,hc,hcells⟩
  ·exact (join_strings_Join_none base cap (ofL sep) w).mono fun e w' ⟨he,hw⟩=>⟨he,hw▸RowKit.Below.refl _ _⟩
  ·have:=join_strings_Join b o cap (vs.map ofL) (ofL sep) w hcells hb (by simp; omega) hc (by rw [hm,hsd]; exact hlen)
   rw [hm,hsd] at this
   exact this
end Go.Proofs.YtbdfdfhamlmodaaGreatDoor.Fw
namespace Go.Proofs.YtbdfdfhamlmodaaGreatDoor.Fw
open Go
open Go.Proofs.Tryz
set_option maxRecDepth 100000
set_option maxHeartbeats 4000000
attribute [local congr] c_bnd c_slot c_cell c_all c_len c_chk c_asm c_opdR c_wp c_pwp c_pOps c_Done c_nx c_blk c_fin c_coeLeaf c_coeLeaves c_argR c_argsR c_partsR c_ite c_wpF c_OutF c_pHead c_pDraw
theorem rowsS_length (l:List (List UInt8)):(rowsS l).length=l.length:=by simp [rowsS]
theorem rowsS_getD {l:List (List UInt8)} {i:Nat} (h:i<l.length):(rowsS l).getD i []=[.v (vS (l.getD i []))]:=by
 simp [rowsS,gDg,h]
theorem sd_ne {e:TypeId} {xs:List (List T)} (h:xs≠[]):sd e xs = .own e xs:=by
 cases xs with
 | nil=>exact absurd rfl h
 | cons=>rfl
theorem rowsS_ne {l:List (List UInt8)} (h:l≠[]):rowsS l≠[]:=by
 cases l with
 | nil=>exact absurd rfl h
 | cons=>simp [rowsS]
def sepB:List UInt8:=[44,32]
def joinB (l:List (List UInt8)):List UInt8:=Lib.join l sepB
theorem joinTail_snoc (s y:List UInt8) (r:List (List UInt8)):Lib.joinTail s (r++[y])=Lib.joinTail s r++(s++y):=by simp [Lib.joinTail]
theorem joinB_snoc {xs:List (List UInt8)} {y:List UInt8} (h:xs≠[]):joinB (xs++[y])=joinB xs++sepB++y:=by
 cases xs with
 | nil=>exact absurd rfl h
 | cons x r =>
  unfold joinB
  rw [List.cons_append,Lib.join_cons,Lib.join_cons,joinTail_snoc]
  simp
theorem joinB_nil:joinB []=[]:=rfl
theorem joinB_one (y:List UInt8):joinB [y]=y:=Lib.join_one y sepB
theorem joinB_len:∀ {l:List (List UInt8)},(∀ v,v∈l→v.length≤190)→(joinB l).length≤192*l.length:=by
 intro l h
 cases l with
 | nil=>simp [joinB_nil]
 | cons x r =>
  have key:∀ (r:List (List UInt8)),(∀ v,v∈r→v.length≤190)→(Lib.joinTail sepB r).length≤192*r.length:=by
   intro r
   induction r with
   | nil=>intro _; simp [Lib.joinTail]
   | cons y r ih =>
    intro h
    have h1:=h y List.mem_cons_self
    have h2:=ih fun v hv=>h v (List.mem_cons_of_mem _ hv)
    simp only [Lib.joinTail,List.map_cons,List.flatten_cons,List.length_append,List.length_cons] at h2 ⊢
    have:sepB.length=2:=rfl
    omega
  have h1:=h x List.mem_cons_self
  have h2:=key r fun v hv=>h v (List.mem_cons_of_mem _ hv)
  unfold joinB
  rw [Lib.join_cons,List.length_append,List.length_cons]
  omega
theorem vals_190 {l:List Fld} {name:List UInt8} (h:fieldsB l=true):∀ v,v∈valsB name l→v.length≤190:=by
 intro v hv
 simp only [valsB,List.mem_map,List.mem_filter] at hv
 obtain ⟨p,⟨hp,_⟩,rfl⟩:=hv
 simp only [fieldsB,Bool.and_eq_true,List.all_eq_true] at h
 have:=h.2 p hp
 simp only [fieldB,Bool.and_eq_true,decide_eq_true_eq] at this
 exact this.1.1.2
theorem vals_20 {l:List Fld} {name:List UInt8} (h:fieldsB l=true):(valsB name l).length≤20:=by
 have h1:=fields_len h
 simp only [valsB,List.length_map]
 exact Nat.le_trans (List.length_filter_le _ _) h1
theorem joined_len {l:List Fld} {name:List UInt8} (h:fieldsB l=true):(joinB (valsB name l)).length≤3840:=by
 have h1:=joinB_len (vals_190 (name:=name) h)
 have h2:=vals_20 (name:=name) h
 omega
theorem c202 (l:List Fld) (hl:Small l) (name:List UInt8) (hn:name.length≤9223372036854775807) (h:fieldsB l=true):Q2 202 (.imm 105 (rowsF l)) (.v (vS name)) (.v (vS (joinB (valsB name l)))):=by
 refine sf 2 [.tm 4] func202 ?_
 simp only [go_sem,Nat.reduceSub,f202,cfg]
 have h50:=c147 l hl name hn h
 have hj:=joined_len (name:=name) h
 have h20:=vals_20 (name:=name) h
 generalize valsB name l=vs at h50 hj h20 ⊢
 have h49:=c188 vs sepB (by omega) (by show (joinB vs).length≤_; omega)
 refine Or.elim (Classical.em (vs=[])) (fun hz => ?_) fun hz => ?_
 ·rw [hz] at h50 h49 ⊢
  rw [show sd 9 (rowsS []) = .nil from rfl] at h50
  refine cf h50 ?_
  simp only [go_sem,Nat.reduceLeDiff,Nat.reduceAdd,Nat.reduceBEq]
  refine cf h49 ?_
  simp only [go_sem,Nat.reduceAdd,Nat.reduceBNe]
  exact fz
 ·rw [sd_ne (rowsS_ne hz)] at h50
  refine cf h50 ?_
  simp only [go_sem,Nat.reduceLeDiff,Nat.reduceAdd,Nat.reduceDiv,Nat.reduceMod]
  refine cf h49 ?_
  simp only [go_sem,Nat.reduceAdd,Nat.reduceBNe]
  exact fz
theorem c243 (l:List Fld) (hl:Small l) (name:List UInt8) (hn:name.length≤9223372036854775807) (h:fieldsB l=true):Q2 243 (.imm 105 (rowsF l)) (.v (vS name)) (.v (vS (joinB (valsB name l)))):=by
 refine sf 2 [.tm 4] func243 ?_
 simp only [go_sem,Nat.reduceSub,f243,cfg]
 have h45:=c241 l hl name hn h
 have h190:=vals_190 (name:=name) h
 have h20:=vals_20 (name:=name) h
 generalize valsB name l=vs at h45 h190 h20 ⊢
 refine Or.elim (Classical.em (vs=[])) (fun hz => ?_) fun hz => ?_
 ·rw [hz] at h45 ⊢
  rw [show sd 9 (rowsS []) = .nil from rfl] at h45
  rw [joinB_nil]
  refine cf h45 ?_
  simp only [go_sem,Nat.reduceAdd,Nat.reduceBNe]
  refine loop_on (fun _:Unit=>pE 28 [.imm 105 (rowsF l),.v (vS name),.dead,.dead,.v (vS []),.nil,.v (vS []),.v (vI 0)]) [0,1,4,5,6,7] (fun _=>True) (fun _=>0) () rfl trivial ?_
  intro _ _
  simp only [go_sem,Nat.reduceBNe,Int.reduceLT]
  exact fz
 ·rw [sd_ne (rowsS_ne hz)] at h45
  refine cf h45 ?_
  simp only [go_sem,Nat.reduceAdd,Nat.reduceBNe,Nat.reduceEqDiff,reduceCtorEq,Nat.reduceDiv,Nat.reduceMod]
  refine loop_on (fun i:Nat=>pE 28 [.imm 105 (rowsF l),.v (vS name),.dead,.dead,.v (vS []),.own 9 (rowsS vs),.v (vS (joinB (vs.take i))),.v (vI i)]) [0,1,4,5,6,7] (fun i=>i≤vs.length) (fun i=>vs.length-i) 0 (by simp only [List.take_zero,joinB_nil]; rfl) (by omega) ?_
  intro i hi
  have hs:vs.length≤9223372036854775807:=by omega
  simp only [go_sem,Nat.reduceDiv,Nat.reduceMod,rowsS_length,hs]
  by_cases hc:i<vs.length
  ·have hw:=wrapN hc hs
   have h1:=rowsS_getD hc
   have ht:=take_at (d:=[]) hc
   have hjl:(joinB (vs.take i)).length≤192*(vs.take i).length:=joinB_len fun v hv=>h190 v (List.mem_of_mem_take hv)
   have hvl:(vs.getD i []).length≤190:=h190 _ (by rw [gDg,gEg hc]; exact List.getElem_mem hc)
   rw [List.length_take] at hjl
   by_cases h0:i=0
   ·subst h0
    have hlo:(vs.getD 0 []).length≤9223372036854775807:=by omega
    have hc0:(0:Int)<(vs.length:Int):=by omega
    have ht1:joinB (vs.take 1)=vs.getD 0 []:=by rw [show vs.take 1=[vs.getD 0 []] from ht,joinB_one]
    simp only [go_sem,Nat.reduceBNe,Int.reduceLT,Int.reduceLE,Int.reduceToNat,Nat.reduceDiv,Nat.reduceMod,rowsS_length,hc,h1,hlo,hc0,joinB_nil]
    first | exact ⟨1,by rw [ht1]; rfl,hc,by omega⟩
   ·have hi0:(0:Int)<(i:Int):=by omega
    have hne:vs.take i≠[]:=by
     intro h; have:=congrArg List.length h; rw [List.length_take,List.length_nil] at this; omega
    have hlo:(joinB (vs.take i)).length+2≤9223372036854775807:=by omega
    have hlo2:(joinB (vs.take i)).length+2+(vs.getD i []).length≤9223372036854775807:=by omega
    simp only [go_sem,Nat.reduceLeDiff,Nat.reduceAdd,Nat.reduceBNe,Nat.reduceDiv,Nat.reduceMod,rowsS_length,List.length_append,hc,h1,hw,hlo,hlo2,hi0]
    first | exact ⟨i+1,by rw [ht,joinB_snoc hne]; rfl,hc,by omega⟩
  ·have he:i=vs.length:=by omega
   subst he
   simp only [go_sem,Nat.reduceBNe,hc,List.take_length]
   exact fz
def visB (n:Int):Bool:=decide (33≤n)&&decide (n≤126)
def bareB (n:Int):Bool:=(n==204) || (n==304)
def targetB (l:List UInt8):Bool:=inB 1 200 l.length&&l.all fun b=>visB b.toNat
def statusB (n:Int):Bool:=inB 200 599 n
def reasonB (l:List UInt8):Bool:=decide (l.length≤40)&&l.all fun b=>plainB b.toNat
def clN:List UInt8:=[99,111,110,116,101,110,116,45,108,101,110,103,116,104]
def teN:List UInt8:=[116,114,97,110,115,102,101,114,45,101,110,99,111,100,105,110,103]
def trN:List UInt8:=[116,114,97,105,108,101,114]
def frB (p:Fld):Bool:=(foldB p.1==clN) || (foldB p.1==teN) || (foldB p.1==trN)
def fieldT (p:Fld):List UInt8:=p.1++[58,32]++p.2
theorem c134 (n:Int):Q1 134 (.v (vC n)) (.v (vB (visB n))):=by
 refine sf 1 [.tm 2] func134 ?_
 simp only [go_sem,Nat.reduceSub,f134,cfg, *]
 repeat' ((first | with_reducible intro _ | split)<;>(try simp only [go_sem,Nat.reduceBNe, *]))
 all_goals
  refine fqs ?_
  refine congrArg (fun b=>D.v (vB b)) ?_
  grind [visB]
theorem c91 (n:Int):Q1 91 (.v (vI n)) (.v (vB (bareB n))):=by
 refine sf 1 [.tm 2] func91 ?_
 simp only [go_sem,Nat.reduceSub,f91,cfg, *]
 repeat' ((first | with_reducible intro _ | split)<;>(try simp only [go_sem,Nat.reduceBNe,reduceCtorEq, *]))
 all_goals
  refine fqs ?_
  refine congrArg (fun b=>D.v (vB b)) ?_
  grind [bareB]
theorem c101 (n:Int):Q1 101 (.v (vI n)) (.v (vB (bareB n))):=by
 refine sf 1 [.tm 2] func101 ?_
 simp only [go_sem,Nat.reduceSub,f101,cfg, *]
 repeat' ((first | with_reducible intro _ | split)<;>(try simp only [go_sem,Nat.reduceBNe,reduceCtorEq, *]))
 all_goals
  refine fqs ?_
  refine congrArg (fun b=>D.v (vB b)) ?_
  grind [bareB]
theorem c89 (n:Int):Q1 89 (.v (vI n)) (.v (vB (statusB n))):=by
 refine sf 1 [.tm 2] func89 ?_
 simp only [go_sem,Nat.reduceAdd,Nat.reduceSub,f89,cfg, *]
 repeat' ((first | refine cf (c116 _ _ _) ?_ | with_reducible intro _ | split)<;>(try simp only [go_sem,Nat.reduceAdd,Nat.reduceBNe, *]))
 all_goals
  refine fqs ?_
  refine congrArg (fun b=>D.v (vB b)) ?_
  grind [statusB]
theorem c87 (l:List UInt8) (hl:l.length≤9223372036854775807):Q1 87 (.v (vS l)) (.v (vB (tokenI l&&decide (l.length≤20)))):=by
 refine sf 1 [.tm 2] func87 ?_
 simp only [go_sem,Nat.reduceSub,f87,cfg, *]
 repeat' ((first | refine cf (c148 _ hl) ?_ | with_reducible intro _ | split)<;>(try simp only [go_sem,Nat.reduceAdd,Nat.reduceBNe, *]))
 all_goals
  refine fqs ?_
  refine congrArg (fun b=>D.v (vB b)) ?_
  grind []
theorem c88 (l:List UInt8) (hl:l.length≤9223372036854775807):Q1 88 (.v (vS l)) (.v (vB (targetB l))):=by
 refine sf 1 [.tm 2] func88 ?_
 simp only [go_sem,Nat.reduceAdd,Nat.reduceSub,f88,cfg, *]
 repeat' ((first | refine cf (c116 _ _ _) ?_ | refine cf (c133 l 134 visB rfl rfl c134 hl) ?_ | with_reducible intro _ | split)<;>(try simp only [go_sem,Nat.reduceAdd,Nat.reduceBNe, *]))
 all_goals
  refine fqs ?_
  refine congrArg (fun b=>D.v (vB b)) ?_
  grind [targetB]
theorem c90 (l:List UInt8) (hl:l.length≤9223372036854775807):Q1 90 (.v (vS l)) (.v (vB (reasonB l))):=by
 refine sf 1 [.tm 2] func90 ?_
 simp only [go_sem,Nat.reduceSub,f90,cfg, *]
 repeat' ((first | refine cf (c133 l 149 plainB rfl rfl c149 hl) ?_ | with_reducible intro _ | split)<;>(try simp only [go_sem,Nat.reduceAdd,Nat.reduceBNe, *]))
 all_goals
  refine fqs ?_
  refine congrArg (fun b=>D.v (vB b)) ?_
  grind [reasonB]
theorem c99 (l : List UInt8) (hl : l.length ≤ 9223372036854775807) : Q1 99 (.v (vS l)) (.v (vB ((l.all fun b => visB b.toNat) && decide (0 < l.length)))) := by
  refine sem_fin (cfg := cfg 1) (ts := [.tm 2]) tbOk func99 rfl rfl rfl rfl (fun t h => by cases h) ?_
  simp only [go_sem,Nat.reduceSub,f99,cfg]
  refine loop_on (fun i : Nat => pE 23 [.v (vS l),.dead,.v (vB false),.v (vI i)]) [0,2,3] (fun i => i ≤ l.length ∧ (l.take i).all (fun b => visB b.toNat) = true) (fun i => l.length - i) 0 rfl ⟨by omega,by simp⟩ ?_
  intro i ⟨hi,hall⟩
  simp only [go_sem]
  try (with_reducible intro hlen)
  by_cases hc : i < l.length
  · have hw := wrapN hc hl
    simp only [go_sem,hc]
    cases hb : visB (l.getD i 0).toNat
    · have hb1 : (((l.getD i 0).toNat : Int) < 33) ∨ (126 < ((l.getD i 0).toNat : Int)) := by
        unfold visB at hb; simp only [Bool.and_eq_false_iff,decide_eq_false_iff_not] at hb; omega
      repeat' ((first | with_reducible intro _ | split) <;> (try simp only [go_sem,Nat.reduceBNe,reduceCtorEq, *]))
      all_goals first
        | (refine fqs ?_
           rw [all_false_at hc hb]; rfl)
        | (exfalso; omega)
    · have hb1 : ¬ (((l.getD i 0).toNat : Int) < 33) := by
        unfold visB at hb; simp only [Bool.and_eq_true,decide_eq_true_eq] at hb; omega
      have hb2 : ¬ (126 < ((l.getD i 0).toNat : Int)) := by
        unfold visB at hb; simp only [Bool.and_eq_true,decide_eq_true_eq] at hb; omega
      simp only [go_sem,Nat.reduceBNe,hb1,hb2,hw,hc]
      exact ⟨i + 1,rfl,⟨hc,by rw [all_take_succ (d := 0) hc,hall,hb]; rfl⟩,by omega⟩
  · simp only [go_sem,Nat.reduceBNe,hc,hl]
    refine fqs ?_
    rw [List.take_of_length_le (by omega)] at hall
    rw [hall]
    refine congrArg (fun b => D.v (vB b)) ?_
    grind
theorem c39 (l:List Fld) (hl:Small l):Q1 39 (.imm 105 (rowsF l)) (.v (vB (l.any frB))):=by
 refine sf 1 [.tm 2] func39 ?_
 simp only [go_sem,Nat.reduceSub,f39,cfg]
 have hs:l.length≤9223372036854775807:=hl.1
 refine loop_on (fun i:Nat=>pE 27 [.imm 105 (rowsF l),.dead,.v (vB false),.v (vI i)]) [0,2,3] (fun i=>i≤l.length∧(l.take i).any frB=false) (fun i=>l.length-i) 0 rfl ⟨by omega,by simp⟩ ?_
 intro i ⟨hi,hall⟩
 simp only [go_sem,rowsF_length,hs]
 try (with_reducible intro hlen)
 by_cases hc:i<l.length
 ·have hw:=wrapN hc hs
  have h1:=rowsF_getD hc
  have hsm:=hl.at hc
  simp only [go_sem,Nat.reduceLeDiff,Nat.reduceAdd,rowsF_length,hc,h1]
  refine cf (c97 _ hsm.1) ?_
  have hany:l.any frB=((l.take i).any frB || (frB (l.getD i ([],[])) || (l.drop (i+1)).any frB)):=by
   conv=>lhs; rw [←List.take_append_drop i l,List.any_append,drop_at (d:=([],[])) hc,List.any_cons]
  have hnx:(l.take (i+1)).any frB=((l.take i).any frB || frB (l.getD i ([],[]))):=by
   rw [take_at (d:=([],[])) hc,List.any_append]; simp
  rw [hall] at hany hnx
  cases h2:foldB (l.getD i ([],[])).1==clN
  ·cases h3:foldB (l.getD i ([],[])).1==teN
   ·cases h4:foldB (l.getD i ([],[])).1==trN
    ·unfold clN at h2; unfold teN at h3; unfold trN at h4
     simp only [go_sem,Nat.reduceLeDiff,Nat.reduceAdd,Nat.reduceBNe,h2,h3,h4,hw]
     exact ⟨i+1,rfl,⟨hc,by rw [hnx,frB,clN,teN,trN,h2,h3,h4]; rfl⟩,by omega⟩
    ·have:l.any frB=true:=by rw [hany,frB,h2,h3,h4]; rfl
     unfold clN at h2; unfold teN at h3; unfold trN at h4
     simp only [go_sem,Nat.reduceLeDiff,Nat.reduceAdd,Nat.reduceBNe,h2,h3,h4]
     refine fqs ?_
     rw [this]
   ·have:l.any frB=true:=by rw [hany,frB,h2,h3]; rfl
    unfold clN at h2; unfold teN at h3
    simp only [go_sem,Nat.reduceLeDiff,Nat.reduceAdd,Nat.reduceBNe,reduceCtorEq,h2,h3]
    refine fqs ?_
    rw [this]
  ·have:l.any frB=true:=by rw [hany,frB,h2]; rfl
   unfold clN at h2
   simp only [go_sem,Nat.reduceLeDiff,Nat.reduceAdd,Nat.reduceBNe,reduceCtorEq,h2]
   refine fqs ?_
   rw [this]
 ·simp only [go_sem,hc]
  refine fqs ?_
  rw [List.take_of_length_le (by omega)] at hall
  rw [hall]
theorem c94 (n v:List UInt8) (hn:n.length≤4611686018427387000) (hv:v.length≤4611686018427387000):Q1 94 (.agg [.v (vS n),.v (vS v)]) (.v (vS (fieldT (n,v)))):=by
 have hx:(n++[58,32]).length≤9223372036854775807:=by simp; omega
 have hx1:n.length+2≤9223372036854775807:=by omega
 have hx2:n.length+2+v.length≤9223372036854775807:=by omega
 have hx3:(n++[58,32]).length+v.length≤9223372036854775807:=by simp; omega
 refine sf 1 [.tm 2] func94 ?_
 simp only [go_sem,Nat.reduceLeDiff,Nat.reduceAdd,Nat.reduceSub,Nat.reduceBNe,f94,cfg, *]
 repeat' ((first | with_reducible intro _ | split)<;>(try simp only [go_sem,Nat.reduceLeDiff,Nat.reduceLT,Nat.reduceAdd,Nat.reduceSub,Nat.reduceMul,Nat.reduceBEq,Nat.reduceBNe,Nat.reduceEqDiff,reduceCtorEq,reduceIte,Int.reduceLT,Int.reduceLE,Int.reduceAdd,Int.reduceSub,Int.reduceNeg,Int.reduceEq,Int.reduceBEq,Int.reduceBNe,Int.reduceToNat,Nat.reduceDiv,Nat.reduceMod,f94,cfg, *]))
 all_goals
  exact fz
theorem c86 (l:List Fld) (hl:Small l) (name:List UInt8) (hn:name.length≤9223372036854775807) (h:fieldsB l=true):Q2 86 (.imm 105 (rowsF l)) (.v (vS name)) (.v (vB (decide (0<(valsB name l).length)))):=by
 refine sf 2 [.tm 4] func86 ?_
 simp only [go_sem,Nat.reduceSub,f86,cfg]
 have h68:=c147 l hl name hn h
 generalize valsB name l=vs at h68
 cases vs with
 | nil =>
  refine cf h68 ?_
  simp only [go_sem,Nat.reduceAdd,Nat.reduceBNe,Int.reduceLT,rowsS,List.map_nil,sd_nil]
  exact fz
 | cons v vs =>
  refine cf h68 ?_
  simp only [go_sem,Nat.reduceLeDiff,Nat.reduceAdd,Nat.reduceBNe,Nat.reduceDiv,Nat.reduceMod,rowsS,List.map_cons,sd_cons]
  try (with_reducible intro hlen)
  refine fqs ?_
  refine congrArg (fun b=>D.v (vB b)) ?_
  rw [decide_eq_true (by omega),decide_eq_true (by simp)]
def methodB (l:List UInt8):Bool:=tokenI l&&decide (l.length≤20)
def requestB (me ta:List UInt8) (st:Int) (re:List UInt8) (ba:Bool):Bool:=methodB me&&targetB ta&&(st==0)&&(re==[]) && !ba
def answerB (ta:List UInt8) (st:Int) (re:List UInt8) (ba:Bool) (bo:List UInt8):Bool:=(ta==[])&&statusB st&&reasonB re && !(ba && !(bo==[]))&&(ba || !bareB st)
def crlf:List UInt8:=[13,10]
def httpZ:List UInt8:=[32,72,84,84,80,47,49,46,49]
def httpA:List UInt8:=[72,84,84,80,47,49,46,49,32]
def clH:List UInt8:=[67,111,110,116,101,110,116,45,76,101,110,103,116,104,58,32]
def firstT (me ta:List UInt8) (st:Int) (re:List UInt8):List UInt8:=if me==[] then httpA++Lib.itoa st++[32]++re++crlf else me++[32]++ta++httpZ++crlf
def fieldsT (l:List Fld):List UInt8:=l.flatMap fun p=>fieldT p++crlf
def lastT (me:List UInt8) (ba:Bool) (bo:List UInt8):List UInt8:=if (!(me==[]) && !(bo==[])) || ((me==[]) && !ba) then clH++Lib.itoa bo.length++crlf else []
def headT (me ta:List UInt8) (st:Int) (re:List UInt8) (ba:Bool) (l:List Fld) (bo:List UInt8):List UInt8:=firstT me ta st re++fieldsT l++lastT me ba bo++crlf
theorem itoa_nat (n:Nat):Lib.itoa (n:Int)=Lib.decDigits n:=by
 unfold Lib.itoa
 rw [if_neg (by omega)]
 rfl
theorem decDigits_small {n:Nat} (h:n<10):Lib.decDigits n=[UInt8.ofNat (48+n)]:=by rw [Lib.decDigits,dif_pos h]
theorem decDigits_big {n:Nat} (h:¬ n<10):Lib.decDigits n=Lib.decDigits (n / 10)++[UInt8.ofNat (48+n % 10)]:=by rw [Lib.decDigits,dif_neg h]
theorem decDigits_len (n:Nat):(Lib.decDigits n).length≤n+1:=by
 induction n using Nat.strongRecOn with
 | _ n ih =>
  by_cases h:n<10
  ·rw [decDigits_small h]; simp
  ·rw [decDigits_big h,List.length_append]
   have:=ih (n / 10) (by omega)
   simp
   omega
theorem rows1' (n:Nat) (h:n<256):rowsBytes [[.v (.int .u8 (n:Int))]]=[UInt8.ofNat n]:=by
 have:(UInt8.ofNat n).toNat=n:=by simp; omega
 have h2:=rows1 (UInt8.ofNat n)
 rw [this] at h2
 exact h2
theorem bytes1' (n:Nat) (h:n<256):bytesRows [UInt8.ofNat n]=[[.v (.int .u8 (n:Int))]]:=by
 have:(UInt8.ofNat n).toNat=n:=by simp; omega
 rw [bytes1,this]
theorem c40 (me ta:List UInt8) (st:Int) (re:List UInt8) (ba:Bool) (l:List Fld) (bo:List UInt8) (h1:me.length≤9223372036854775807) (h2:ta.length≤9223372036854775807) (h3:re.length≤9223372036854775807) (h4:bo.length≤9223372036854775807):Q1 40 (.agg [.v (vS me),.v (vS ta),.v (vI st),.v (vS re),.v (vB ba),.imm 105 (rowsF l),.v (vS bo)]) (.v (vB (requestB me ta st re ba))):=by
 have htk:=token_eq me
 refine sf 1 [.tm 2] func40 ?_
 simp only [go_sem,Nat.reduceLeDiff,Nat.reduceAdd,Nat.reduceSub,f40,cfg, *]
 repeat' ((first | refine cf (c98 _ h1) ?_ | refine cf (c99 _ h2) ?_ | with_reducible intro _ | split)<;>(try simp only [go_sem,Nat.reduceLeDiff,Nat.reduceAdd,Nat.reduceBNe, *]))
 all_goals
  refine fqs ?_
  refine congrArg (fun b=>D.v (vB b)) ?_
  grind [requestB,methodB,targetB,inB]
theorem c41 (me ta:List UInt8) (st:Int) (re:List UInt8) (ba:Bool) (l:List Fld) (bo:List UInt8) (h1:me.length≤9223372036854775807) (h2:ta.length≤9223372036854775807) (h3:re.length≤9223372036854775807) (h4:bo.length≤9223372036854775807):Q1 41 (.agg [.v (vS me),.v (vS ta),.v (vI st),.v (vS re),.v (vB ba),.imm 105 (rowsF l),.v (vS bo)]) (.v (vB (answerB ta st re ba bo))):=by
 refine sf 1 [.tm 2] func41 ?_
 simp only [go_sem,Nat.reduceLeDiff,Nat.reduceAdd,Nat.reduceSub,f41,cfg, *]
 repeat' ((first | refine cf (c100 _ h3) ?_ | refine cf (c101 _) ?_ | with_reducible intro _ | split)<;>(try simp only [go_sem,Nat.reduceLeDiff,Nat.reduceAdd,Nat.reduceBNe,reduceCtorEq, *]))
 all_goals
  refine fqs ?_
  refine congrArg (fun b=>D.v (vB b)) ?_
  grind [answerB,reasonB,statusB,inB]
theorem c103 (n v:List UInt8) (hn:n.length≤40) (hv:v.length≤190) (h:fieldB (n,v)=true):Q1 103 (.agg [.v (vS n),.v (vS v)]) (.v (vS (fieldT (n,v)))):=by
 have hx1:n.length+2≤9223372036854775807:=by omega
 have hx2:n.length+2+v.length≤9223372036854775807:=by omega
 have hx3:(n++[58,32]).length+v.length≤9223372036854775807:=by simp; omega
 refine sf 1 [.tm 2] func103 ?_
 simp only [go_sem,Nat.reduceLeDiff,Nat.reduceAdd,Nat.reduceSub,f103,cfg, *]
 repeat' ((first | refine cf (c96 _ _ (by omega) (by omega)) ?_ | with_reducible intro _ | split)<;>(try simp only [go_sem,Nat.reduceLeDiff,Nat.reduceAdd,Nat.reduceBNe, *]))
 all_goals
  exact fz
theorem dec_small (n:Nat) (h:n<10):IntKind.u8.wrap (IntKind.i64.wrap (48+(n:Int)))=((48+n:Nat):Int):=by
 rw [IntKind.wrap_i64,IntKind.wrap_u8]; omega
theorem c102 (n:Nat) (hn:n≤999999999999999):Q1 102 (.v (vI n)) (.v (vS (Lib.decDigits n))):=by
 refine sf 1 [.tm 2] func102 ?_
 simp only [go_sem,Nat.reduceSub,f102,cfg]
 have k1:¬ ((n:Int)<0):=by omega
 have k2:¬ ((999999999999999:Int)<(n:Int)):=by omega
 refine Or.elim (Classical.em (n<10)) (fun hs => ?_) fun hs => ?_
 ·have k3:((n:Int)<10):=by omega
  have k4:=dec_small n hs
  have k5:=rows1' (48+n) (by omega)
  have k6:=decDigits_small hs
  simp only [go_sem,Nat.reduceLeDiff,Nat.reduceMul,Nat.reduceBNe,Nat.reduceDiv,Nat.reduceMod,k1,k2,k3,k4,k5]
  refine And.intro (bytes1' (48+n) (by omega)).symm ?_
  refine fq ?_
  rw [k6]
  first | rfl
 ·have k3:¬ ((n:Int)<10):=by omega
  have k4:IntKind.i64.wrap ((n:Int).tdiv 10)=((n / 10:Nat):Int):=by rw [Int.tdiv_eq_ediv_of_nonneg (by omega),IntKind.wrap_i64]; omega
  have k5:IntKind.u8.wrap (IntKind.i64.wrap (48+(n:Int).tmod 10))=((48+n % 10:Nat):Int):=by rw [Int.tmod_eq_emod_of_nonneg (by omega),IntKind.wrap_i64,IntKind.wrap_u8]; omega
  have k6:=rows1' (48+n % 10) (by omega)
  have k7:=decDigits_big hs
  have k8:=decDigits_len (n / 10)
  have k9:(Lib.decDigits (n / 10)).length+1≤9223372036854775807:=by omega
  have ih:=c102 (n / 10) (by omega)
  simp only [go_sem,k1,k2,k3]
  refine draw_intro 11 [[17,18,19,20,21,22,23,24,25,2],[18,19,20,21,22,23,24,25,2],[16,19,20,21,22,23,24,25,2],[16,17,18,20,21,22,23,24,25,2],[16,17,18,21,22,23,24,25,2],[16,17,18,19,22,23,24,25,2],[16,17,18,19,20,23,24,25,2],[16,17,18,19,20,21,24,25,2],[16,17,18,19,20,21,22,25,2],[16,17,19,20,21,22,23,2],[]] mixedOk rfl ?_
  simp only [go_sem,Nat.reduceLeDiff,Nat.reduceMul,Nat.reduceBEq,k4]
  refine And.intro (by decide) ?_
  refine df ih ?_
  simp only [go_sem,Nat.reduceMul,Nat.reduceBEq,Nat.reduceBNe,Nat.reduceDiv,Nat.reduceMod,k5,k6,k9]
  refine And.intro (by decide) ?_
  refine And.intro (bytes1' (48+n % 10) (by omega)).symm ?_
  refine fq ?_
  rw [k7]
  first | rfl
termination_by n
decreasing_by omega
theorem fieldB_le {p:Fld} (h:fieldB p=true):p.1.length≤40∧p.2.length≤190:=by
 unfold fieldB at h
 simp only [Bool.and_eq_true,decide_eq_true_eq] at h
 exact ⟨h.1.1.1.2,h.1.1.2⟩
theorem fieldsB_at {l:List Fld} (h:fieldsB l=true) {i:Nat} (hi:i<l.length):fieldB (l.getD i ([],[]))=true:=by
 unfold fieldsB at h
 simp only [Bool.and_eq_true,decide_eq_true_eq,List.all_eq_true] at h
 refine h.2 _ ?_
 rw [gDg,gEg hi]
 exact List.getElem_mem hi
theorem fieldT_len (p:Fld):(fieldT p).length=p.1.length+2+p.2.length:=by unfold fieldT; simp; omega
theorem fieldsT_le:∀ {l:List Fld},(∀ p,p∈l→fieldB p=true)→(fieldsT l).length≤234*l.length
 | [],_=>by simp [fieldsT]
 | p::l,h=>by
  have h1:=fieldB_le (h p List.mem_cons_self)
  have h2:=fieldsT_le (l:=l) (fun q hq=>h q (List.mem_cons_of_mem _ hq))
  have h3:fieldsT (p::l)=fieldT p++crlf++fieldsT l:=by simp [fieldsT]
  rw [h3]
  simp only [List.length_append,List.length_cons,fieldT_len,crlf,List.length_nil]
  omega
theorem fieldsT_snoc {l:List Fld} {i:Nat} (h:i<l.length):fieldsT (l.take (i+1))=fieldsT (l.take i)++(fieldT (l.getD i ([],[]))++crlf):=by
 rw [take_at (d:=([],[])) h]
 simp [fieldsT]
theorem fieldsT_take_le {l:List Fld} (h:fieldsB l=true) (i:Nat):(fieldsT (l.take i)).length≤4680:=by
 have h1:=fields_len h
 have h2:∀ p,p∈l.take i→fieldB p=true:=by
  intro p hp
  unfold fieldsB at h
  simp only [Bool.and_eq_true,decide_eq_true_eq,List.all_eq_true] at h
  exact h.2 p (List.mem_of_mem_take hp)
 have:=fieldsT_le h2
 have h3:(l.take i).length≤20:=by rw [List.length_take]; omega
 omega
theorem first_le {me ta re:List UInt8} {st:Nat} (h1:me.length≤20) (h2:ta.length≤200) (h3:re.length≤40) (h4:st≤999):(firstT me ta st re).length≤2000:=by
 unfold firstT
 have:=decDigits_len st
 rw [itoa_nat]
 split<;>simp [httpA,httpZ,crlf]<;>omega
theorem c42 (me ta:List UInt8) (st:Nat) (re:List UInt8) (ba:Bool) (l:List Fld) (bo:List UInt8) (hl:Small l) (hf:fieldsB l=true) (h1:me.length≤20) (h2:ta.length≤200) (h3:re.length≤40) (h4:st≤999) (h5:bo.length≤600):Q1 42 (.agg [.v (vS me),.v (vS ta),.v (vI (st:Nat)),.v (vS re),.v (vB ba),.imm 105 (rowsF l),.v (vS bo)]) (.v (vS (headT me ta st re ba l bo))):=by
 refine sf 1 [.tm 2] func42 ?_
 simp only [go_sem,Nat.reduceLeDiff,Nat.reduceAdd,Nat.reduceSub,Nat.reduceBNe,f42,cfg]
 have hs:l.length≤9223372036854775807:=hl.1
 have h59:bo.length≤9223372036854775807:=by omega
 have hn20:=fields_len hf
 have d1:=decDigits_len st
 have d2:=decDigits_len bo.length
 have hfst:=first_le h1 h2 h3 h4
 cases hm:me==[]
 ·have hF:firstT me ta st re=me++[32]++ta++[32,72,84,84,80,47,49,46,49,13,10]:=by
   unfold firstT; rw [hm]; simp [httpZ,crlf]
  simp only [go_sem]
  repeat' with_reducible refine And.intro (by (try simp only [List.length_append,List.length_cons,List.length_nil]); omega) ?_
  rw [←hF]
  generalize hG:firstT me ta st re=F at hfst hF
  refine loop_on (fun i:Nat=>pC 68 [.dead,.cref 1 0,.v (vS []),.v (vS (F++fieldsT (l.take i))),.v (vI i)] [none,some [.v (vS me),.v (vS ta),.v (vI (st:Nat)),.v (vS re),.v (vB ba),.imm 105 (rowsF l),.v (vS bo)]]) [1,2,3,4] (fun i=>i≤l.length) (fun i=>l.length-i) 0 (by rw [show F++fieldsT (l.take 0)=F by simp [fieldsT]]; first | rfl) (by omega) ?_
  intro i hi
  simp only [go_sem,Nat.reduceLeDiff,Nat.reduceAdd,rowsF_length,hs]
  try (with_reducible intro hlen)
  have hfl:=fieldsT_take_le hf i
  by_cases hc:i<l.length
  ·have hw:=wrapN hc hs
   have g1:=rowsF_getD hc
   have g2:=fieldsB_at hf hc
   have g3:=fieldB_le g2
   have g4:=fieldT_len (l.getD i ([],[]))
   simp only [go_sem,Nat.reduceLeDiff,Nat.reduceAdd,rowsF_length,hc,g1]
   refine cf (c103 _ _ g3.1 g3.2 g2) ?_
   simp only [go_sem,Nat.reduceLeDiff,Nat.reduceAdd,Nat.reduceBNe,hw]
   repeat' with_reducible refine And.intro (by (try simp only [List.length_append,g4]); omega) ?_
   refine ⟨i+1,?_,hc,by omega⟩
   rw [fieldsT_snoc hc]
   simp only [←List.append_assoc]
   first | rfl
  ·have he:i=l.length:=by omega
   subst he
   rw [List.take_of_length_le (Nat.le_refl _)] at hfl ⊢
   simp only [go_sem,Nat.reduceLeDiff,Nat.reduceAdd,hc]
   cases hb:bo==[]
   ·cases ba
    ·simp only [go_sem,Nat.reduceLeDiff,Nat.reduceAdd,reduceCtorEq,hm,hb,h59]
     repeat' with_reducible refine And.intro (by (try simp only [List.length_append]); omega) ?_
     refine cf (c102 bo.length (by omega)) ?_
     simp only [go_sem,Nat.reduceLeDiff,Nat.reduceAdd,Nat.reduceBNe]
     repeat' with_reducible refine And.intro (by (try simp only [List.length_append,List.length_cons,List.length_nil]); omega) ?_
     refine fqs ?_
     refine congrArg (fun b=>D.v (vS b)) ?_
     simp only [headT,lastT,hG,hm,hb,itoa_nat,clH,crlf,Bool.not_false,Bool.and_true,Bool.or_false,if_true,List.append_assoc,List.nil_append,List.cons_append]
    ·simp only [go_sem,Nat.reduceLeDiff,Nat.reduceAdd,reduceCtorEq,hm,hb,h59]
     repeat' with_reducible refine And.intro (by (try simp only [List.length_append]); omega) ?_
     refine cf (c102 bo.length (by omega)) ?_
     simp only [go_sem,Nat.reduceLeDiff,Nat.reduceAdd,Nat.reduceBNe]
     repeat' with_reducible refine And.intro (by (try simp only [List.length_append,List.length_cons,List.length_nil]); omega) ?_
     refine fqs ?_
     refine congrArg (fun b=>D.v (vS b)) ?_
     simp only [headT,lastT,hG,hm,hb,itoa_nat,clH,crlf,Bool.not_true,Bool.not_false,Bool.and_true,Bool.and_false,Bool.or_false,if_true,List.append_assoc,List.nil_append,List.cons_append]
   ·cases ba
    ·simp only [go_sem,Nat.reduceLeDiff,Nat.reduceAdd,Nat.reduceBNe,hm,hb]
     repeat' with_reducible refine And.intro (by (try simp only [List.length_append]); omega) ?_
     refine fqs ?_
     refine congrArg (fun b=>D.v (vS b)) ?_
     simp only [headT,lastT,hG,hm,hb,crlf,Bool.not_true,Bool.not_false,Bool.and_true,Bool.and_false,Bool.or_false,if_false,List.append_assoc,List.append_nil,Bool.false_eq_true]
    ·simp only [go_sem,Nat.reduceLeDiff,Nat.reduceAdd,Nat.reduceBNe,hm,hb]
     repeat' with_reducible refine And.intro (by (try simp only [List.length_append]); omega) ?_
     refine fqs ?_
     refine congrArg (fun b=>D.v (vS b)) ?_
     simp only [headT,lastT,hG,hm,hb,crlf,Bool.not_true,Bool.not_false,Bool.and_false,Bool.or_false,if_false,List.append_assoc,List.append_nil,Bool.false_eq_true]
 ·have hm1:me=[]:=by simpa using hm
  have hF:firstT me ta st re=72::84::84::80::47::49::46::49::32::(Lib.decDigits st++[32]++re++[13,10]):=by
   unfold firstT; rw [hm,itoa_nat]; simp [httpA,crlf]
  simp only [go_sem]
  repeat' with_reducible refine And.intro (by (try simp only [List.length_append,List.length_cons,List.length_nil]); omega) ?_
  refine draw_intro 10 [[16,17,18,19,20,21,22,23,3],[17,18,19,20,21,22,23,3],[15,18,19,20,21,22,23,3],[15,16,19,20,21,22,23,3],[15,16,17,20,21,22,23,3],[15,16,17,18,19,21,22,23,3],[15,16,17,18,19,22,23,3],[15,16,17,18,20,23,3],[15,16,17,18,19,20,21,3],[]] mixedOk rfl ?_
  simp only [go_sem,Nat.reduceLeDiff,Nat.reduceAdd,Nat.reduceBEq]
  repeat' with_reducible refine And.intro (by (try simp only [List.length_append,List.length_cons,List.length_nil]); omega) ?_
  refine df (c102 st (by omega)) ?_
  simp only [go_sem,Nat.reduceLeDiff,Nat.reduceAdd,Nat.reduceBEq,Nat.reduceBNe]
  repeat' with_reducible refine And.intro (by (try simp only [List.length_append,List.length_cons,List.length_nil]); omega) ?_
  rw [←hF]
  generalize hG:firstT me ta st re=F at hfst hF
  refine loop_on (fun i:Nat=>pC 68 [.dead,.cref 1 0,.v (vS []),.v (vS (F++fieldsT (l.take i))),.v (vI i)] [none,some [.v (vS me),.v (vS ta),.v (vI (st:Nat)),.v (vS re),.v (vB ba),.imm 105 (rowsF l),.v (vS bo)]]) [1,2,3,4] (fun i=>i≤l.length) (fun i=>l.length-i) 0 (by rw [show F++fieldsT (l.take 0)=F by simp [fieldsT]]; first | rfl) (by omega) ?_
  intro i hi
  simp only [go_sem,Nat.reduceLeDiff,Nat.reduceAdd,rowsF_length,hs]
  try (with_reducible intro hlen)
  have hfl:=fieldsT_take_le hf i
  by_cases hc:i<l.length
  ·have hw:=wrapN hc hs
   have g1:=rowsF_getD hc
   have g2:=fieldsB_at hf hc
   have g3:=fieldB_le g2
   have g4:=fieldT_len (l.getD i ([],[]))
   simp only [go_sem,Nat.reduceLeDiff,Nat.reduceAdd,rowsF_length,hc,g1]
   refine cf (c103 _ _ g3.1 g3.2 g2) ?_
   simp only [go_sem,Nat.reduceLeDiff,Nat.reduceAdd,Nat.reduceBNe,hw]
   repeat' with_reducible refine And.intro (by (try simp only [List.length_append,g4]); omega) ?_
   refine ⟨i+1,?_,hc,by omega⟩
   rw [fieldsT_snoc hc]
   simp only [←List.append_assoc]
   first | rfl
  ·have he:i=l.length:=by omega
   subst he
   rw [List.take_of_length_le (Nat.le_refl _)] at hfl ⊢
   simp only [go_sem,Nat.reduceLeDiff,Nat.reduceAdd,hc]
   cases hb:bo==[]
   ·cases ba
    ·simp only [go_sem,Nat.reduceLeDiff,Nat.reduceAdd,hm,h59]
     repeat' with_reducible refine And.intro (by (try simp only [List.length_append]); omega) ?_
     refine cf (c102 bo.length (by omega)) ?_
     simp only [go_sem,Nat.reduceLeDiff,Nat.reduceAdd,Nat.reduceBNe]
     repeat' with_reducible refine And.intro (by (try simp only [List.length_append,List.length_cons,List.length_nil]); omega) ?_
     refine fqs ?_
     refine congrArg (fun b=>D.v (vS b)) ?_
     simp only [headT,lastT,hG,hm,hb,itoa_nat,clH,crlf,Bool.not_true,Bool.not_false,Bool.and_true,Bool.or_true,if_true,List.append_assoc,List.nil_append,List.cons_append]
    ·simp only [go_sem,Nat.reduceLeDiff,Nat.reduceAdd,Nat.reduceBNe,hm]
     repeat' with_reducible refine And.intro (by (try simp only [List.length_append]); omega) ?_
     refine fqs ?_
     refine congrArg (fun b=>D.v (vS b)) ?_
     simp only [headT,lastT,hG,hm,hb,crlf,Bool.not_true,Bool.not_false,Bool.and_true,Bool.and_false,Bool.or_false,if_false,List.append_assoc,List.append_nil,Bool.false_eq_true]
   ·cases ba
    ·simp only [go_sem,Nat.reduceLeDiff,Nat.reduceAdd,hm,h59]
     repeat' with_reducible refine And.intro (by (try simp only [List.length_append]); omega) ?_
     refine cf (c102 bo.length (by omega)) ?_
     simp only [go_sem,Nat.reduceLeDiff,Nat.reduceAdd,Nat.reduceBNe]
     repeat' with_reducible refine And.intro (by (try simp only [List.length_append,List.length_cons,List.length_nil]); omega) ?_
     refine fqs ?_
     refine congrArg (fun b=>D.v (vS b)) ?_
     simp only [headT,lastT,hG,hm,hb,itoa_nat,clH,crlf,Bool.not_true,Bool.not_false,Bool.and_true,Bool.and_false,Bool.or_true,if_true,List.append_assoc,List.nil_append,List.cons_append]
    ·simp only [go_sem,Nat.reduceLeDiff,Nat.reduceAdd,Nat.reduceBNe,hm]
     repeat' with_reducible refine And.intro (by (try simp only [List.length_append]); omega) ?_
     refine fqs ?_
     refine congrArg (fun b=>D.v (vS b)) ?_
     simp only [headT,lastT,hG,hm,hb,crlf,Bool.not_true,Bool.and_false,Bool.or_false,if_false,List.append_assoc,List.append_nil,Bool.false_eq_true]
def msgB (me ta:List UInt8) (st:Int) (re:List UInt8) (ba:Bool) (l:List Fld) (bo:List UInt8):Bool:=fieldsB l && !(l.length==20) && !(l.any frB)&&decide (bo.length≤600)&&(if me==[] then answerB ta st re ba bo else requestB me ta st re ba)&&decide ((headT me ta st re ba l bo).length≤1500)
theorem request_le {me ta re:List UInt8} {st:Int} {ba:Bool} (h:requestB me ta st re ba=true):me.length≤20∧ta.length≤200∧st=0∧re=[]:=by
 simp only [requestB,methodB,targetB,inB,Bool.and_eq_true,decide_eq_true_eq,beq_iff_eq] at h
 exact ⟨h.1.1.1.1.2,by omega,h.1.1.2,h.1.2⟩
theorem answer_le {ta re bo:List UInt8} {st:Int} {ba:Bool} (h:answerB ta st re ba bo=true):ta=[]∧200≤st∧st≤599∧re.length≤40:=by
 simp only [answerB,reasonB,statusB,inB,Bool.and_eq_true,decide_eq_true_eq,beq_iff_eq] at h
 exact ⟨h.1.1.1.1,h.1.1.1.2.1,h.1.1.1.2.2,h.1.1.2.1⟩
theorem head_le {me ta re bo:List UInt8} {st:Int} {ba:Bool} (h:(if me==[] then answerB ta st re ba bo else requestB me ta st re ba)=true):me.length≤20∧ta.length≤200∧re.length≤40∧∃ n:Nat,st=n∧n≤999:=by
 split at h
 ·rename_i hm
  obtain ⟨h1,h2,h3,h4⟩:=answer_le h
  have hm:me=[]:=by simpa using hm
  subst hm; subst h1
  exact ⟨by simp,by simp,h4,st.toNat,by omega,by omega⟩
 ·obtain ⟨h1,h2,h3,h4⟩:=request_le h
  subst h3; subst h4
  exact ⟨h1,h2,by simp,0,rfl,by omega⟩
theorem c11a (me ta:List UInt8) (st:Int) (re:List UInt8) (ba:Bool) (l:List Fld) (bo:List UInt8) (h1:me.length≤9223372036854775807) (h2:ta.length≤9223372036854775807) (h3:re.length≤9223372036854775807) (h4:bo.length≤9223372036854775807) (hl:Small l) (hf:fieldsB l=false):Q1 11 (.agg [.v (vS me),.v (vS ta),.v (vI st),.v (vS re),.v (vB ba),.imm 105 (rowsF l),.v (vS bo)]) (.v (vB (false))):=by
 refine sf 1 [.tm 2] func11 ?_
 have hs:l.length≤9223372036854775807:=hl.1
 simp only [go_sem,Nat.reduceLeDiff,Nat.reduceAdd,Nat.reduceSub,f11,cfg]
 try (with_reducible intro _)
 try simp only [go_sem]
 refine cf (c38 l hl) ?_
 simp only [go_sem,Nat.reduceAdd,reduceCtorEq,hf]
 try (with_reducible intro _)
 try simp only [go_sem]
 exact fz
theorem c11b (me ta:List UInt8) (st:Int) (re:List UInt8) (ba:Bool) (l:List Fld) (bo:List UInt8) (h1:me.length≤9223372036854775807) (h2:ta.length≤9223372036854775807) (h3:re.length≤9223372036854775807) (h4:bo.length≤9223372036854775807) (hl:Small l) (hf:fieldsB l=true) (h20:((l.length:Int)==20)=true):Q1 11 (.agg [.v (vS me),.v (vS ta),.v (vI st),.v (vS re),.v (vB ba),.imm 105 (rowsF l),.v (vS bo)]) (.v (vB (false))):=by
 refine sf 1 [.tm 2] func11 ?_
 have hs:l.length≤9223372036854775807:=hl.1
 simp only [go_sem,Nat.reduceLeDiff,Nat.reduceAdd,Nat.reduceSub,f11,cfg]
 try (with_reducible intro _)
 try simp only [go_sem]
 refine cf (c38 l hl) ?_
 simp only [go_sem,Nat.reduceLeDiff,Nat.reduceAdd,reduceCtorEq,rowsF_length,hs,hf,h20]
 try (with_reducible intro _)
 try simp only [go_sem]
 exact fz
theorem c11c (me ta:List UInt8) (st:Int) (re:List UInt8) (ba:Bool) (l:List Fld) (bo:List UInt8) (h1:me.length≤9223372036854775807) (h2:ta.length≤9223372036854775807) (h3:re.length≤9223372036854775807) (h4:bo.length≤9223372036854775807) (hl:Small l) (hf:fieldsB l=true) (h20:((l.length:Int)==20)=false) (hfr:l.any frB=true):Q1 11 (.agg [.v (vS me),.v (vS ta),.v (vI st),.v (vS re),.v (vB ba),.imm 105 (rowsF l),.v (vS bo)]) (.v (vB (false))):=by
 refine sf 1 [.tm 2] func11 ?_
 have hs:l.length≤9223372036854775807:=hl.1
 simp only [go_sem,Nat.reduceLeDiff,Nat.reduceAdd,Nat.reduceSub,f11,cfg]
 try (with_reducible intro _)
 try simp only [go_sem]
 refine cf (c38 l hl) ?_
 simp only [go_sem,Nat.reduceLeDiff,Nat.reduceAdd,rowsF_length,hs,hf,h20]
 try (with_reducible intro _)
 try simp only [go_sem]
 refine cf (c39 l hl) ?_
 simp only [go_sem,Nat.reduceAdd,reduceCtorEq,hfr]
 try (with_reducible intro _)
 try simp only [go_sem]
 exact fz
theorem c11d (me ta:List UInt8) (st:Int) (re:List UInt8) (ba:Bool) (l:List Fld) (bo:List UInt8) (h1:me.length≤9223372036854775807) (h2:ta.length≤9223372036854775807) (h3:re.length≤9223372036854775807) (h4:bo.length≤9223372036854775807) (hl:Small l) (hf:fieldsB l=true) (h20:((l.length:Int)==20)=false) (hfr:l.any frB=false) (hb:(600:Int)<(bo.length:Int)):Q1 11 (.agg [.v (vS me),.v (vS ta),.v (vI st),.v (vS re),.v (vB ba),.imm 105 (rowsF l),.v (vS bo)]) (.v (vB (false))):=by
 refine sf 1 [.tm 2] func11 ?_
 have hs:l.length≤9223372036854775807:=hl.1
 simp only [go_sem,Nat.reduceLeDiff,Nat.reduceAdd,Nat.reduceSub,f11,cfg]
 try (with_reducible intro _)
 try simp only [go_sem]
 refine cf (c38 l hl) ?_
 simp only [go_sem,Nat.reduceLeDiff,Nat.reduceAdd,rowsF_length,hs,hf,h20]
 try (with_reducible intro _)
 try simp only [go_sem]
 refine cf (c39 l hl) ?_
 simp only [go_sem,Nat.reduceLeDiff,Nat.reduceAdd,h4,hfr,hb]
 try (with_reducible intro _)
 try simp only [go_sem]
 exact fz
theorem c11e (me ta:List UInt8) (st:Int) (re:List UInt8) (ba:Bool) (l:List Fld) (bo:List UInt8) (h1:me.length≤9223372036854775807) (h2:ta.length≤9223372036854775807) (h3:re.length≤9223372036854775807) (h4:bo.length≤9223372036854775807) (hl:Small l) (hf:fieldsB l=true) (h20:((l.length:Int)==20)=false) (hfr:l.any frB=false) (hb:¬ (600:Int)<(bo.length:Int)) (hm:(me==[])=false) (hr:requestB me ta st re ba=false):Q1 11 (.agg [.v (vS me),.v (vS ta),.v (vI st),.v (vS re),.v (vB ba),.imm 105 (rowsF l),.v (vS bo)]) (.v (vB (false))):=by
 refine sf 1 [.tm 2] func11 ?_
 have hs:l.length≤9223372036854775807:=hl.1
 simp only [go_sem,Nat.reduceLeDiff,Nat.reduceAdd,Nat.reduceSub,f11,cfg]
 try (with_reducible intro _)
 try simp only [go_sem]
 refine cf (c38 l hl) ?_
 simp only [go_sem,Nat.reduceLeDiff,Nat.reduceAdd,rowsF_length,hs,hf,h20]
 try (with_reducible intro _)
 try simp only [go_sem]
 refine cf (c39 l hl) ?_
 simp only [go_sem,Nat.reduceLeDiff,Nat.reduceAdd,h4,hfr,hb,hm]
 try (with_reducible intro _)
 try simp only [go_sem]
 refine cf (c40 me ta st re ba l bo h1 h2 h3 h4) ?_
 simp only [go_sem,Nat.reduceAdd,reduceCtorEq,hr]
 try (with_reducible intro _)
 try simp only [go_sem]
 exact fz
theorem c11f (me ta:List UInt8) (st:Int) (re:List UInt8) (ba:Bool) (l:List Fld) (bo:List UInt8) (h1:me.length≤9223372036854775807) (h2:ta.length≤9223372036854775807) (h3:re.length≤9223372036854775807) (h4:bo.length≤9223372036854775807) (hl:Small l) (hf:fieldsB l=true) (h20:((l.length:Int)==20)=false) (hfr:l.any frB=false) (hb:¬ (600:Int)<(bo.length:Int)) (hm:(me==[])=true) (hr:answerB ta st re ba bo=false):Q1 11 (.agg [.v (vS me),.v (vS ta),.v (vI st),.v (vS re),.v (vB ba),.imm 105 (rowsF l),.v (vS bo)]) (.v (vB (false))):=by
 refine sf 1 [.tm 2] func11 ?_
 have hs:l.length≤9223372036854775807:=hl.1
 simp only [go_sem,Nat.reduceLeDiff,Nat.reduceAdd,Nat.reduceSub,f11,cfg]
 try (with_reducible intro _)
 try simp only [go_sem]
 refine cf (c38 l hl) ?_
 simp only [go_sem,Nat.reduceLeDiff,Nat.reduceAdd,rowsF_length,hs,hf,h20]
 try (with_reducible intro _)
 try simp only [go_sem]
 refine cf (c39 l hl) ?_
 simp only [go_sem,Nat.reduceLeDiff,Nat.reduceAdd,h4,hfr,hb,hm]
 try (with_reducible intro _)
 try simp only [go_sem]
 refine cf (c41 me ta st re ba l bo h1 h2 h3 h4) ?_
 simp only [go_sem,Nat.reduceAdd,hr]
 try (with_reducible intro _)
 try simp only [go_sem]
 exact fz
theorem c11g (me ta:List UInt8) (st:Int) (re:List UInt8) (ba:Bool) (l:List Fld) (bo:List UInt8) (h1:me.length≤9223372036854775807) (h2:ta.length≤9223372036854775807) (h3:re.length≤9223372036854775807) (h4:bo.length≤9223372036854775807) (hl:Small l) (hf:fieldsB l=true) (h20:((l.length:Int)==20)=false) (hfr:l.any frB=false) (hb:¬ (600:Int)<(bo.length:Int)) (hm:(me==[])=false) (hr:requestB me ta st re ba=true) (H:List UInt8) (hH:H.length≤9223372036854775807) (hd:Q1 42 (.agg [.v (vS me),.v (vS ta),.v (vI st),.v (vS re),.v (vB ba),.imm 105 (rowsF l),.v (vS bo)]) (.v (vS H))):Q1 11 (.agg [.v (vS me),.v (vS ta),.v (vI st),.v (vS re),.v (vB ba),.imm 105 (rowsF l),.v (vS bo)]) (.v (vB (decide ((H.length:Int)≤1500)))):=by
 refine sf 1 [.tm 2] func11 ?_
 have hs:l.length≤9223372036854775807:=hl.1
 simp only [go_sem,Nat.reduceLeDiff,Nat.reduceAdd,Nat.reduceSub,f11,cfg]
 try (with_reducible intro _)
 try simp only [go_sem]
 refine cf (c38 l hl) ?_
 simp only [go_sem,Nat.reduceLeDiff,Nat.reduceAdd,rowsF_length,hs,hf,h20]
 try (with_reducible intro _)
 try simp only [go_sem]
 refine cf (c39 l hl) ?_
 simp only [go_sem,Nat.reduceLeDiff,Nat.reduceAdd,h4,hfr,hb,hm]
 try (with_reducible intro _)
 try simp only [go_sem]
 refine cf (c40 me ta st re ba l bo h1 h2 h3 h4) ?_
 simp only [go_sem,Nat.reduceLeDiff,Nat.reduceAdd,hm,hr]
 try (with_reducible intro _)
 try simp only [go_sem]
 refine cf (hd) ?_
 simp only [go_sem,Nat.reduceAdd,Nat.reduceBNe,hH]
 try (with_reducible intro _)
 try simp only [go_sem]
 exact fz
theorem c11h (me ta:List UInt8) (st:Int) (re:List UInt8) (ba:Bool) (l:List Fld) (bo:List UInt8) (h1:me.length≤9223372036854775807) (h2:ta.length≤9223372036854775807) (h3:re.length≤9223372036854775807) (h4:bo.length≤9223372036854775807) (hl:Small l) (hf:fieldsB l=true) (h20:((l.length:Int)==20)=false) (hfr:l.any frB=false) (hb:¬ (600:Int)<(bo.length:Int)) (hm:(me==[])=true) (hr:answerB ta st re ba bo=true) (H:List UInt8) (hH:H.length≤9223372036854775807) (hd:Q1 42 (.agg [.v (vS me),.v (vS ta),.v (vI st),.v (vS re),.v (vB ba),.imm 105 (rowsF l),.v (vS bo)]) (.v (vS H))):Q1 11 (.agg [.v (vS me),.v (vS ta),.v (vI st),.v (vS re),.v (vB ba),.imm 105 (rowsF l),.v (vS bo)]) (.v (vB (decide ((H.length:Int)≤1500)))):=by
 refine sf 1 [.tm 2] func11 ?_
 have hs:l.length≤9223372036854775807:=hl.1
 simp only [go_sem,Nat.reduceLeDiff,Nat.reduceAdd,Nat.reduceSub,f11,cfg]
 try (with_reducible intro _)
 try simp only [go_sem]
 refine cf (c38 l hl) ?_
 simp only [go_sem,Nat.reduceLeDiff,Nat.reduceAdd,rowsF_length,hs,hf,h20]
 try (with_reducible intro _)
 try simp only [go_sem]
 refine cf (c39 l hl) ?_
 simp only [go_sem,Nat.reduceLeDiff,Nat.reduceAdd,h4,hfr,hb,hm]
 try (with_reducible intro _)
 try simp only [go_sem]
 refine cf (c41 me ta st re ba l bo h1 h2 h3 h4) ?_
 simp only [go_sem,Nat.reduceAdd,hr]
 try (with_reducible intro _)
 try simp only [go_sem]
 refine cf (hd) ?_
 simp only [go_sem,Nat.reduceAdd,Nat.reduceBNe,hH]
 try (with_reducible intro _)
 try simp only [go_sem]
 exact fz
theorem head_len {me ta re bo:List UInt8} {n:Nat} {ba:Bool} {l:List Fld} (hf:fieldsB l=true) (g1:me.length≤20) (g2:ta.length≤200) (g3:re.length≤40) (g5:n≤999) (hbo:bo.length≤600):(headT me ta n re ba l bo).length≤9223372036854775807:=by
 have:=first_le g1 g2 g3 g5
 have t1:=fieldsT_take_le hf l.length
 rw [List.take_of_length_le (Nat.le_refl _)] at t1
 have t2:=decDigits_len bo.length
 unfold headT lastT
 split<;>simp [itoa_nat,clH,crlf]<;>omega
theorem c11 (me ta:List UInt8) (st:Int) (re:List UInt8) (ba:Bool) (l:List Fld) (bo:List UInt8) (h1:me.length≤9223372036854775807) (h2:ta.length≤9223372036854775807) (h3:re.length≤9223372036854775807) (h4:bo.length≤9223372036854775807) (hl:Small l):Q1 11 (.agg [.v (vS me),.v (vS ta),.v (vI st),.v (vS re),.v (vB ba),.imm 105 (rowsF l),.v (vS bo)]) (.v (vB (msgB me ta st re ba l bo))):=by
 cases hf:fieldsB l
 ·have hz:msgB me ta st re ba l bo=false:=by simp [msgB,hf]
  rw [hz]; exact c11a me ta st re ba l bo h1 h2 h3 h4 hl hf
 by_cases h20:l.length=20
 ·have hz:msgB me ta st re ba l bo=false:=by simp [msgB,h20]
  rw [hz]; exact c11b me ta st re ba l bo h1 h2 h3 h4 hl hf (by rw [beq_iff_eq]; omega)
 have h20b:((l.length:Int)==20)=false:=by rw [beq_eq_false_iff_ne]; omega
 have e1:(l.length==20)=false:=by rw [beq_eq_false_iff_ne]; exact h20
 cases hfr:l.any frB
 ·by_cases hb:(600:Int)<(bo.length:Int)
  ·have hz:msgB me ta st re ba l bo=false:=by
    have:¬ bo.length≤600:=by omega
    simp [msgB,this]
   rw [hz]; exact c11d me ta st re ba l bo h1 h2 h3 h4 hl hf h20b hfr hb
  have hbo:bo.length≤600:=by omega
  cases hm:me==[]
  ·have hz:msgB me ta st re ba l bo=(requestB me ta st re ba&&decide ((headT me ta st re ba l bo).length≤1500)):=by simp [msgB,hf,e1,hfr,hbo,hm]
   cases hr:requestB me ta st re ba
   ·rw [hz,hr]; exact c11e me ta st re ba l bo h1 h2 h3 h4 hl hf h20b hfr hb hm hr
   ·obtain ⟨g1,g2,g3,n,g4,g5⟩:=head_le (ba:=ba) (bo:=bo) (me:=me) (ta:=ta) (st:=st) (re:=re) (by rw [hm]; exact hr)
    subst g4
    have:=c11g me ta n re ba l bo h1 h2 h3 h4 hl hf h20b hfr hb hm hr _ (head_len hf g1 g2 g3 g5 hbo) (c42 me ta n re ba l bo hl hf g1 g2 g3 g5 hbo)
    rw [hz,hr,Bool.true_and,show decide ((headT me ta n re ba l bo).length≤1500)=decide (((headT me ta n re ba l bo).length:Int)≤1500) from decide_eq_decide.2 (by omega)]
    exact this
  ·have hz:msgB me ta st re ba l bo=(answerB ta st re ba bo&&decide ((headT me ta st re ba l bo).length≤1500)):=by simp [msgB,hf,e1,hfr,hbo,hm]
   cases hr:answerB ta st re ba bo
   ·rw [hz,hr]; exact c11f me ta st re ba l bo h1 h2 h3 h4 hl hf h20b hfr hb hm hr
   ·obtain ⟨g1,g2,g3,n,g4,g5⟩:=head_le (ba:=ba) (bo:=bo) (me:=me) (ta:=ta) (st:=st) (re:=re) (by rw [hm]; exact hr)
    subst g4
    have:=c11h me ta n re ba l bo h1 h2 h3 h4 hl hf h20b hfr hb hm hr _ (head_len hf g1 g2 g3 g5 hbo) (c42 me ta n re ba l bo hl hf g1 g2 g3 g5 hbo)
    rw [hz,hr,Bool.true_and,show decide ((headT me ta n re ba l bo).length≤1500)=decide (((headT me ta n re ba l bo).length:Int)≤1500) from decide_eq_decide.2 (by omega)]
    exact this
 ·have hz:msgB me ta st re ba l bo=false:=by simp [msgB,hfr]
  rw [hz]; exact c11c me ta st re ba l bo h1 h2 h3 h4 hl hf h20b hfr
def frN:List (List UInt8):=[clN,teN,trN]
def hasF (name:List UInt8) (l:List Fld):Bool:=decide (0<(valsB name l).length)
theorem frN_len {i:Nat} (h:i<3):(frN.getD i []).length≤9223372036854775807:=by
 have:i=0∨i=1∨i=2:=by omega
 rcases this with rfl | rfl | rfl<;>decide
theorem c85  : Sem prog 85 ⟨[],[]⟩ ⟨[.own 9 (rowsS frN)],[]⟩:=by
 refine sf 0 [.tm 0] func85 ?_
 simp only [go_sem,Nat.reduceLeDiff,Nat.reduceLT,Nat.reduceAdd,Nat.reduceMul,Nat.reduceBNe,reduceCtorEq,Nat.reduceDiv,Nat.reduceMod,f85,cfg, *]
 repeat' ((first | split)<;>(try simp only [go_sem,Nat.reduceLeDiff,Nat.reduceLT,Nat.reduceAdd,Nat.reduceSub,Nat.reduceMul,Nat.reduceBEq,Nat.reduceBNe,Nat.reduceEqDiff,reduceCtorEq,reduceIte,Int.reduceLT,Int.reduceLE,Int.reduceAdd,Int.reduceSub,Int.reduceNeg,Int.reduceEq,Int.reduceBEq,Int.reduceBNe,Int.reduceToNat,Nat.reduceDiv,Nat.reduceMod,f85,cfg, *]))
 all_goals
  exact fz
theorem hasF_any (name:List UInt8) (l:List Fld):hasF name l=l.any (hitB name):=by
 unfold hasF valsB
 rw [List.length_map]
 cases h:l.any (hitB name)
 ·rw [List.any_eq_false] at h
  rw [List.filter_eq_nil_iff.2 (fun p hp=>h p hp)]
  rfl
 ·rw [List.any_eq_true] at h
  obtain ⟨p,h1,h2⟩:=h
  exact decide_eq_true (List.length_pos_iff.2 (List.ne_nil_of_mem (List.mem_filter.2 ⟨h1,h2⟩)))
theorem frB_eq (p:Fld):frB p=(hitB clN p || hitB teN p || hitB trN p):=by
 have e1:foldB clN=clN:=by decide
 have e2:foldB teN=teN:=by decide
 have e3:foldB trN=trN:=by decide
 unfold frB hitB
 rw [e1,e2,e3]
theorem any_frB (l:List Fld):l.any frB=(hasF clN l || hasF teN l || hasF trN l):=by
 simp only [hasF_any]
 induction l with
 | nil=>rfl
 | cons p l ih =>
  simp only [List.any_cons,frB_eq,ih]
  grind
theorem fr_all {l:List Fld} (h:∀ i,i<3→hasF (frN.getD i []) l=false):l.any frB=false:=by
 rw [any_frB,show hasF clN l=false from h 0 (by decide),show hasF teN l=false from h 1 (by decide),show hasF trN l=false from h 2 (by decide)]; rfl
theorem fr_hit {l:List Fld} {i:Nat} (hi:i<3) (h:hasF (frN.getD i []) l=true):l.any frB=true:=by
 rw [any_frB]
 have:i=0∨i=1∨i=2:=by omega
 rcases this with rfl | rfl | rfl
 ·rw [show hasF clN l=true from h]; rfl
 ·rw [show hasF teN l=true from h]; simp
 ·rw [show hasF trN l=true from h]; simp
def H44:Prop:=∀ (me ta:List UInt8) (st:Nat) (re:List UInt8) (ba:Bool) (l:List Fld) (bo:List UInt8),Small l→fieldsB l=true→me.length≤20→ta.length≤200→re.length≤40→st≤999→bo.length≤600 →
 Sem prog 37 ⟨[.agg [.v (vS me),.v (vS ta),.v (vI (st:Nat)),.v (vS re),.v (vB ba),.imm 105 (rowsF l),.v (vS bo)]],[none]⟩ ⟨[.dead,.v (vS (headT me ta st re ba l bo))],[none,none]⟩
attribute [local go_sem] rowsF_length rowsS_length
section
variable (me ta:List UInt8) (st:Int) (re:List UInt8) (ba:Bool) (l:List Fld) (bo:List UInt8)
abbrev S37 (H:List UInt8):Prop:=Sem prog 37 ⟨[.agg [.v (vS me),.v (vS ta),.v (vI st),.v (vS re),.v (vB ba),.imm 105 (rowsF l),.v (vS bo)]],[none]⟩ ⟨[.dead,.v (vS H)],[none,none]⟩
abbrev S36 (R:Bool):Prop:=Q1 36 (.agg [.v (vS me),.v (vS ta),.v (vI st),.v (vS re),.v (vB ba),.imm 105 (rowsF l),.v (vS bo)]) (.v (vB R))
inductive P36 (R:Bool):Prop
 | e:(me==[])=false→(tokenI me&&decide (me.length≤20))=false→R=false→P36 R
 | f:(me==[])=false→(tokenI me&&decide (me.length≤20))=true→targetB ta=false→R=false→P36 R
 | g:(me==[])=false→(tokenI me&&decide (me.length≤20))=true→targetB ta=true→(st != 0)=true→R=false→P36 R
 | h:(me==[])=false→(tokenI me&&decide (me.length≤20))=true→targetB ta=true→(st != 0)=false→(re==[])=false→R=false→P36 R
 | i:(me==[])=false→(tokenI me&&decide (me.length≤20))=true→targetB ta=true→(st != 0)=false→(re==[])=true→ba=true→R=false→P36 R
 | j (H:List UInt8):(me==[])=false→(tokenI me&&decide (me.length≤20))=true→targetB ta=true→(st != 0)=false→(re==[])=true→ba=false→H.length≤9223372036854775807→S37 me ta st re false l bo H→R=decide ((H.length:Int)≤1500)→P36 R
 | k:(me==[])=true→(ta==[])=false→R=false→P36 R
 | l:(me==[])=true→(ta==[])=true→statusB st=false→R=false→P36 R
 | m:(me==[])=true→(ta==[])=true→statusB st=true→reasonB re=false→R=false→P36 R
 | n:(me==[])=true→(ta==[])=true→statusB st=true→reasonB re=true→ba=true→(bo==[])=false→R=false→P36 R
 | o (b:Bool) (H:List UInt8):(me==[])=true→(ta==[])=true→statusB st=true→reasonB re=true→ba=true→(bo==[])=true→bareB st=b→H.length≤9223372036854775807→S37 me ta st re true l bo H→R=decide ((H.length:Int)≤1500)→P36 R
 | p:(me==[])=true→(ta==[])=true→statusB st=true→reasonB re=true→ba=false→bareB st=true→R=false→P36 R
 | q (H:List UInt8):(me==[])=true→(ta==[])=true→statusB st=true→reasonB re=true→ba=false→bareB st=false→H.length≤9223372036854775807→S37 me ta st re false l bo H→R=decide ((H.length:Int)≤1500)→P36 R
variable (h1:me.length≤9223372036854775807) (h2:ta.length≤9223372036854775807) (h3:re.length≤9223372036854775807) (h4:bo.length≤9223372036854775807) (hl:Small l)
include hl
theorem c36a (hf:fieldsB l=false):S36 me ta st re ba l bo false:=by
 have x:=c84 l hl
 rw [hf] at x
 refine sb 1 [.tm 2] func36 ?_
 refine call0 x ?_
 exact fz
theorem c36b (hf:fieldsB l=true) (h20:(20:Int)≤(l.length:Int)):S36 me ta st re ba l bo false:=by
 have x:=c84 l hl
 have hs:=hl.1
 rw [hf] at x
 refine sb 1 [.tm 2] func36 ?_
 refine call0 x ?_
 exact fz
include h4
theorem c36c (hf:fieldsB l=true) (h20:¬ (20:Int)≤(l.length:Int)) (hb:(600:Int)<(bo.length:Int)):S36 me ta st re ba l bo false:=by
 have x:=c84 l hl
 have hs:=hl.1
 rw [hf] at x
 refine sb 1 [.tm 2] func36 ?_
 refine call0 x ?_
 exact fz
include h1 h2 h3
theorem c36d (hf:fieldsB l=true) (h20:¬ (20:Int)≤(l.length:Int)) (hb:¬ (600:Int)<(bo.length:Int)) (R:Bool) (hF:Hid (l.any frB=true→R=false)) (hP:Hid (l.any frB=false→P36 me ta st re ba l bo R)):S36 me ta st re ba l bo R:=by
 have x:=c84 l hl
 have hs:=hl.1
 have y:=c85
 have hf':=hf
 rw [hf] at x
 have hX:(rowsS frN).length=3:=rfl
 have hat:∀ i,i<3→(rowsS frN).getD i []=[.v (vS (frN.getD i []))]:=fun i hi=>rowsS_getD (l:=frN) hi
 generalize rowsS frN=X at *
 refine sb 1 [.tm 2] func36 ?_
 refine call0 x ?_
 refine call0 y ?_
 refine loopZ (fun i:Nat=>pC 97 [.dead,.cref 1 0,.v (vB false),.dead,.dead,.dead,.dead,.dead,.dead,.dead,.dead,.dead,.dead,.dead,.dead,.dead,.dead,.dead,.dead,.dead,.dead,.own 9 X,.v (vI 3),.v (vI i)] [none,some [.v (vS me),.v (vS ta),.v (vI st),.v (vS re),.v (vB ba),.imm 105 (rowsF l),.v (vS bo)]]) [1,2,21,22,23] (fun i=>i≤3∧∀ k,k<i→hasF (frN.getD k []) l=false) (fun i=>3-i) 0 rfl ⟨by decide,fun k hk=>absurd hk (by omega)⟩ ?_
 rintro i ⟨hi,hn⟩
 by_cases hc:i<3
 ·have e1:=hat i hc
  have z:=c86 l hl (frN.getD i []) (frN_len hc) hf'
  have w1:IntKind.i64.wrap ((i:Int)+1)=((i+1:Nat):Int):=by rw [wrapI (by omega)]; rfl
  have g1:(i:Int)<3:=by omega
  change Sem prog 86 _ ⟨[.dead,.dead,.v (vB (hasF (frN.getD i []) l))],_⟩ at z
  cases hx:hasF (frN.getD i []) l
  ·rw [hx] at z
   clear hat x y hF hP
   refine Z ?_
   refine call0 z ?_
   refine ⟨i+1,rfl,⟨by omega,fun k hk => ?_⟩,by omega⟩
   by_cases e:k=i
   ·rw [e]; exact hx
   ·exact hn k (by omega)
  ·rw [hx] at z
   rw [hF (fr_hit hc hx)]
   clear hat x y hF hP hn
   refine Z ?_
   refine call0 z ?_
   exact fz
 ·obtain rfl:i=3:=by omega
  have q:=hP (fr_all hn)
  have x87:=c87 me h1
  have x88:=c88 ta h2
  have x89:=c89 st
  have x90:=c90 re h3
  have x91:=c91 st
  clear hat x y hF hP hn hc hi hf hf' h20 hb
  cases q with
  | e a b c =>
   refine Z ?_
   refine call0 x87 ?_
   subst c
   exact fz
  | f a b c d =>
   refine Z ?_
   refine call0 x87 ?_
   refine call0 x88 ?_
   subst d
   exact fz
  | g a b c d e =>
   refine Z ?_
   refine call0 x87 ?_
   refine call0 x88 ?_
   subst e
   exact fz
  | h a b c d e f =>
   refine Z ?_
   refine call0 x87 ?_
   refine call0 x88 ?_
   subst f
   exact fz
  | i a b c d e f g =>
   refine Z ?_
   refine call0 x87 ?_
   refine call0 x88 ?_
   subst g
   exact fz
  | j H a b c d e f g s r =>
   refine Z ?_
   refine call0 x87 ?_
   refine call0 x88 ?_
   refine call0 s ?_
   subst r
   exact fz
  | k a b c =>
   refine Z ?_
   subst c
   exact fz
  | l a b c d =>
   refine Z ?_
   refine call0 x89 ?_
   subst d
   exact fz
  | m a b c d e =>
   refine Z ?_
   refine call0 x89 ?_
   refine call0 x90 ?_
   subst e
   exact fz
  | n a b c d e f g =>
   refine Z ?_
   refine call0 x89 ?_
   refine call0 x90 ?_
   subst g
   exact fz
  | o b H a c d e f g h i s r =>
   cases b
   all_goals
    refine Z ?_
    refine call0 x89 ?_
    refine call0 x90 ?_
    refine call0 x91 ?_
    refine call0 s ?_
    subst r
    exact fz
  | p a b c d e f g =>
   refine Z ?_
   refine call0 x89 ?_
   refine call0 x90 ?_
   refine call0 x91 ?_
   subst g
   exact fz
  | q H a b c d e f g s r =>
   refine Z ?_
   refine call0 x89 ?_
   refine call0 x90 ?_
   refine call0 x91 ?_
   refine call0 s ?_
   subst r
   exact fz
theorem c36m (h44 : H44) : S36 me ta st re ba l bo (msgB me ta st re ba l bo) := by
  cases hf : fieldsB l
  · rw [show msgB me ta st re ba l bo = false by simp [msgB,hf]]; exact c36a me ta st re ba l bo hl hf
  have hn20 := fields_len hf
  by_cases h20 : (20 : Int) ≤ (l.length : Int)
  · rw [show msgB me ta st re ba l bo = false by have : l.length = 20 := by omega
                                                 simp [msgB,this]]
    exact c36b me ta st re ba l bo hl hf h20
  have e1 : (l.length == 20) = false := by rw [beq_eq_false_iff_ne]; omega
  by_cases hb : (600 : Int) < (bo.length : Int)
  · rw [show msgB me ta st re ba l bo = false by have : ¬ bo.length ≤ 600 := by omega
                                                 simp [msgB,this]]
    exact c36c me ta st re ba l bo h4 hl hf h20 hb
  have hbo : bo.length ≤ 600 := by omega
  refine c36d me ta st re ba l bo h1 h2 h3 h4 hl hf h20 hb _ (fun h => by simp [msgB,h]) fun hfr => ?_
  have hdec : ∀ H : List UInt8,decide (H.length ≤ 1500) = decide ((H.length : Int) ≤ 1500) := fun H => decide_eq_decide.2 (by omega)
  have fin : (if me == [] then answerB ta st re ba bo else requestB me ta st re ba) = true → ∃ H : List UInt8,H.length ≤ 9223372036854775807 ∧ S37 me ta st re ba l bo H ∧ msgB me ta st re ba l bo = decide ((H.length : Int) ≤ 1500) := by
    intro hr
    obtain ⟨g1,g2,g3,n,g4,g5⟩ := head_le hr
    subst g4
    exact ⟨headT me ta n re ba l bo,head_len hf g1 g2 g3 g5 hbo,h44 me ta n re ba l bo hl hf g1 g2 g3 g5 hbo,by rw [← hdec]; simp only [msgB,hf,e1,hfr,hbo,hr]; simp⟩
  cases hm : me == []
  · have hz : msgB me ta st re ba l bo = (requestB me ta st re ba && decide ((headT me ta st re ba l bo).length ≤ 1500)) := by simp [msgB,hf,e1,hfr,hbo,hm]
    rw [hm] at fin
    have no : requestB me ta st re ba = false → msgB me ta st re ba l bo = false := fun e => by rw [hz,e]; rfl
    cases r1 : (tokenI me && decide (me.length ≤ 20))
    · exact .e hm r1 (no (by unfold requestB methodB; rw [r1]; rfl))
    cases r2 : targetB ta
    · exact .f hm r1 r2 (no (by unfold requestB methodB; rw [r1,r2]; rfl))
    cases r3 : (st != 0)
    case true => exact .g hm r1 r2 r3 (no (by unfold requestB methodB; rw [r1,r2,show (st == 0) = false by simpa using r3]; rfl))
    cases r4 : re == []
    · exact .h hm r1 r2 r3 r4 (no (by unfold requestB methodB; rw [r4]; simp))
    have r3' : (st == 0) = true := by simpa using r3
    cases ba
    · obtain ⟨H,a,b,c⟩ := fin (by show requestB me ta st re false = true; unfold requestB methodB; rw [r1,r2,r3',r4]; rfl)
      exact .j H hm r1 r2 r3 r4 rfl a b c
    · exact .i hm r1 r2 r3 r4 rfl (no (by unfold requestB methodB; simp))
  · have hz : msgB me ta st re ba l bo = (answerB ta st re ba bo && decide ((headT me ta st re ba l bo).length ≤ 1500)) := by simp [msgB,hf,e1,hfr,hbo,hm]
    rw [hm] at fin
    have no : answerB ta st re ba bo = false → msgB me ta st re ba l bo = false := fun e => by rw [hz,e]; rfl
    cases r1 : ta == []
    · exact .k hm r1 (no (by unfold answerB; rw [r1]; simp))
    cases r2 : statusB st
    · exact .l hm r1 r2 (no (by unfold answerB; rw [r2]; simp))
    cases r3 : reasonB re
    · exact .m hm r1 r2 r3 (no (by unfold answerB; rw [r3]; simp))
    cases ba
    · cases r5 : bareB st
      · obtain ⟨H,a,b,c⟩ := fin (by show answerB ta st re false bo = true; unfold answerB; rw [r1,r2,r3,r5]; rfl)
        exact .q H hm r1 r2 r3 rfl r5 a b c
      · exact .p hm r1 r2 r3 rfl r5 (no (by unfold answerB; rw [r5]; simp))
    · cases r5 : bo == []
      · exact .n hm r1 r2 r3 rfl r5 (no (by unfold answerB; rw [r5]; simp))
      · obtain ⟨H,a,b,c⟩ := fin (by show answerB ta st re true bo = true; unfold answerB; rw [r1,r2,r3,r5]; rfl)
        exact .o _ H hm r1 r2 r3 rfl r5 rfl a b c
end
theorem c36 (h44:H44) (me ta:List UInt8) (st:Int) (re:List UInt8) (ba:Bool) (l:List Fld) (bo:List UInt8) (h1:me.length≤9223372036854775807) (h2:ta.length≤9223372036854775807) (h3:re.length≤9223372036854775807) (h4:bo.length≤9223372036854775807) (hl:Small l):Q1 36 (.agg [.v (vS me),.v (vS ta),.v (vI st),.v (vS re),.v (vB ba),.imm 105 (rowsF l),.v (vS bo)]) (.v (vB (msgB me ta st re ba l bo))):=c36m me ta st re ba l bo h1 h2 h3 h4 hl h44
end Go.Proofs.YtbdfdfhamlmodaaGreatDoor.Fw
