/- Texts of the proof: FwQ FwR FwS FwT FwU FwV FwW FwX FwCa FwCb FwCc FwCd FwCe FwCf FwCg FwCh FwCi FwCj. -/
import Derived.Laws.IdiomCopy
import Derived.Deep.Upon
import Derived.Tactics
import Derived.LoopN
import Derived.Orders
import Derived.MapKept
import Derived.Test.YtbdfdfhamlmodaaGreatDoorM1
set_option linter.unusedSimpArgs false
set_option linter.unusedVariables false
/- Framework, part Q: alloc, box, assignments. -/
namespace Go.Proofs.YtbdfdfhamlmodaaGreatDoor.Fw
open Go
theorem zero_lined {C:Ctx} {P:Program} {t:TypeId} {i:TI} (hi:TIok P t i):∃ j z,P.info? t=some j∧j.zero=some z∧Lined C i.zero z.cells:=by
 obtain ⟨j,z,i1,i2,i3,i4,i5,i6,i7⟩:=hi.info
 refine ⟨j,z,i1,i4,?_⟩
 rw [i6]
 refine ⟨by simp,fun j d hd => ?_⟩
 rw [List.getElem?_map] at hd
 cases hx:z.cells.toList[j]? with
 | none=>rw [hx] at hd; simp at hd
 | some y =>
  rw [hx] at hd
  simp only [Option.map_some,Option.some.injEq] at hd
  subst hd
  rw [←arr_list_getD,getD_some hx]
  have:=List.all_eq_true.1 i7 y (List.mem_of_getElem? hx)
  obtain ⟨a,b,c⟩:=constLeaf_cases y this
  exact ⟨a,b,this,fun p=>c C p⟩
section ops
variable {w0:World} {L:Nat→Nat→Prop} {C:Ctx} (R:Rel w0 L C)
variable {np:Nat} {K:Env→Prop} {next:Act→World→Prop} (hn:Nxt w0 L np C K next) {Q:Exit→Act→World→Prop} {o:Oper}
include R hn
theorem snd_newCell {t:Nat} {ds:List D} {cs:Array Value} {e:TypeId} (hd:o.dst=some t) (hl:Lined C ds cs)
  (hx:(execOp C.a.eval o).run C.P C.w = .ok (.value (.pointer (some ⟨C.w.heap.size,0,none⟩))) (C.w.alloc (.cells cs e)))
  (h:(newCell np t ds).wp C.E (Done C.P K C.E)):o.wp C.P C.a C.w next Q:=by
 simp only [newCell,Rdr.wp] at h
 split at h
 ·rename_i hce
  split at h
  ·exact h.elim
  ·rename_i hc
   simp only [Bool.or_eq_true,decide_eq_true_eq,not_or,Bool.not_eq_true,Nat.not_lt,Nat.not_le] at hc
   obtain ⟨⟨c1,c2⟩,c3⟩:=hc
   have ht:C.E.ce[t]? = some none:=by
    rw [gEg c3]
    rw [gDg,gEg c3] at hce
    simpa using hce
   have R1:=R.newCell t ds cs e ht c1 hl
   have hloc:∀ t',t'<np→(fun t'=>if t'=t then (C.w.heap.size,0) else C.loc t') t'=C.loc t':=by
    intro t' h; exact if_neg (by omega)
   split at h
   ·simp only [Rdr.wp] at h
    split at h
    ·rename_i E' hs
     obtain ⟨F',R2⟩:=R1.swapLeaves _ 0 hs
     have:=hn _ R2 rfl hloc h
     refine wp_value hx ?_
     rw [hd]; exact this
    ·exact h.elim
   ·have:=hn _ R1 rfl hloc h
    refine wp_value hx ?_
    rw [hd]; exact this
 ·exact h.elim
theorem snd_alloc {tb:Tab} (hT:TabOk C.P tb) {e:TypeId} (ho:o.op = .alloc e) (h:(opAlloc np tb o.dst e).wp C.E (Done C.P K C.E)):o.wp C.P C.a C.w next Q:=by
 unfold opAlloc at h
 split at h
 ·rename_i t i hd ht
  obtain ⟨j,z,i1,i2,hl⟩:=zero_lined (C:=C) (hT e i ht)
  refine snd_newCell R hn hd hl (e:=e) ?_ h
  simp only [execOp,ho,Instr.alloc,zeroValue,typeInfo,bind_pure_comp,Sem.run_bind,Sem.run_map,run_program,Result.andThen_ok,i1,i2,Sem.run_pure,newVar,newRow,run_newObj]
  rfl
 ·exact h.elim
theorem snd_box {tb:Tab} {e:TypeId} {x:Operand} (ho:o.op = .box e x) (h:(opBox np tb o.dst e x).wp C.E (Done C.P K C.E)):o.wp C.P C.a C.w next Q:=by
 unfold opBox at h
 split at h
 ·rename_i t i hd ht
  replace h:=opdR_wp R h
  obtain ⟨d,h,hv⟩:=h
  have hx:(execOp C.a.eval o).run C.P C.w = .ok (.value (.pointer (some ⟨C.w.heap.size,0,none⟩))) (C.w.alloc (.cells (C.a.eval x).cells e)):=by
   simp only [execOp,ho,Instr.box,bind_pure_comp,Sem.run_map,newVar,newRow,run_newObj,Result.andThen_ok]
   rfl
  split at h
  ·rename_i ds
   split at h
   ·exact snd_newCell R hn hd ((hv rfl).lined rfl (by simp)) hx h
   ·exact h.elim
  ·split at h
   ·rename_i hc
    simp only [Bool.and_eq_true] at hc
    have hl:d.leafy=true:=by
     have:=hc.2
     cases d<;>first | rfl | simp [D.plainish] at this
    have ht:d.isTup=false:=by cases d<;>first | rfl | simp [D.leafy] at hl
    have hdd:d ≠ .dead:=by rintro rfl; simp [D.plainish] at hc
    have:=(hv ht).lined ht hdd
    rw [leafy_leaves1 hl] at this
    exact snd_newCell R hn hd this hx h
   ·exact h.elim
 ·exact h.elim
theorem snd_assign {x:Operand} (ho:o.op = .assign x) (h:(opAssign o.dst x).wp C.E (Done C.P K C.E)):o.wp C.P C.a C.w next Q:=by
 unfold opAssign at h
 split at h
 ·rename_i s t hd
  simp only [Rdr.wp] at h
  split at h
  ·exact h.elim
  ·rename_i ht
   have ht:(C.E.sl.getD s .dead).isTup=false:=by simpa using ht
   split at h
   ·rename_i hc
    simp only [Rdr.wp] at h
    split at h
    ·rename_i E' hE
     unfold assignOwn at hE
     split at hE
     ·cases hE
     ·rename_i E1 hcut
      obtain ⟨F1,R1⟩:=R.cutLeaves _ 0 hcut
      have key:∀ E2,(if (E1.sl.getD t .dead).anyOwn then E1.killS t else E1)=E2→Rel w0 L { C with E:=E2,F:=F1 }∧(E2.sl.getD t .dead).anyOwn=false:=by
       intro E2 he
       by_cases hb:(E1.sl.getD t .dead).anyOwn=true
       ·rw [if_pos hb] at he
        subst he
        exact ⟨R1.kill (fun p => !p.c&&p.t==t),killS_anyOwn E1 t⟩
       ·rw [if_neg hb] at he
        subst he
        exact ⟨R1,by simpa using hb⟩
      generalize hE2:(if (E1.sl.getD t .dead).anyOwn then E1.killS t else E1)=E2 at hE
      obtain ⟨R2,hno⟩:=key E2 hE2
      simp only at hE
      split at hE
      ·cases hE
      rename_i hnt
      have hnt:(E2.sl.getD s .dead).isTup=false:=by simpa using hnt
      have hv:=asMove_rel R2 s hnt
      have R3:=R2.put1 t _ _ hno (hv.2 t)
      obtain ⟨F',R4⟩:=R3.swapLeaves _ 0 hE
      have:=hn _ R4 rfl (fun _ _=>rfl) h
      refine wp_value (w':=C.w) (v:=C.a.eval (.tmp s)) (by simp [execOp,ho]) ?_
      rw [hd]; exact this
    ·exact h.elim
   ·have hv:=asMove_rel R s ht
    exact wp_value (w':=C.w) (v:=C.a.eval (.tmp s)) (by simp [execOp,ho]) (wrS_done R hn (.refl _) h hv)
 ·exact snd_move R hn (.inr ho) h
end ops
structure Wrt (w w':World) (b:Nat) (cs:Array Value) (e:TypeId) (fr:Nat × Nat) (cs':Array Value):Prop where
 os:w'.os=w.os
 tape:w'.tape=w.tape
 output:w'.output=w.output
 size:w'.heap.size=w.heap.size
 kept:∀ i,i≠b→w'.heap[i]? = w.heap[i]?
 old:w.heap[b]? = some (.cells cs e fr)
 new:w'.heap[b]? = some (.cells cs' e fr)
 sz:cs'.size=cs.size
theorem setCells_wrt (b:Nat) (e:TypeId) (fr:Nat × Nat):∀ (vs:List Value) (o:Nat) (w:World) (cs:Array Value),w.heap[b]? = some (.cells cs e fr)→o+vs.length≤cs.size →
  ∃ cs',Wrt w (w.setCells b o vs) b cs e fr cs'∧∀ j,cs'[j]? = if o≤j∧j<o+vs.length then vs[j-o]? else cs[j]?
 | [],o,w,cs,h,_=>⟨cs,⟨rfl,rfl,rfl,rfl,fun _ _=>rfl,h,h,rfl⟩,fun j=>by rw [if_neg (by simp only [List.length_nil]; omega)]⟩
 | v::vs,o,w,cs,h,hs=>by
  simp only [List.length_cons] at hs
  have hb:b<w.heap.size:=(Array.getElem?_eq_some_iff.1 h).1
  have h1:(w.setCell ⟨b,o,none⟩ v).heap[b]? = some (.cells (cs.setIfInBounds o v) e fr):=by
   simp only [World.setCell,Array.getElem?_modify,if_true,h]
   rfl
  obtain ⟨cs',a,c⟩:=setCells_wrt b e fr vs (o+1) (w.setCell ⟨b,o,none⟩ v) _ h1 (by simp; omega)
  refine ⟨cs',⟨a.os,a.tape,a.output,by rw [World.setCells,a.size]; simp [World.setCell],?_,h,a.new,by rw [a.sz]; simp⟩,?_⟩
  ·intro i hi
   rw [World.setCells,a.kept i hi]
   simp only [World.setCell,Array.getElem?_modify]
   rw [if_neg (fun h=>hi h.symm)]
  ·intro j
   rw [c j]
   by_cases h2:o+1≤j∧j<o+1+vs.length
   ·rw [if_pos h2,if_pos (by simp only [List.length_cons]; omega)]
    have:j-o=j-(o+1)+1:=by omega
    rw [this,List.getElem?_cons_succ]
   ·rw [if_neg h2]
    by_cases h3:j=o
    ·subst h3
     rw [if_pos (by simp only [List.length_cons]; omega),Array.getElem?_setIfInBounds_self_of_lt (by omega)]
     simp
    ·rw [if_neg (by simp only [List.length_cons]; omega),Array.getElem?_setIfInBounds_ne (fun h=>h3 h.symm)]
theorem one_oneCell {v:Value} (h:one v=true):v.oneCell'=true:=by cases v<;>first | rfl | simp [one] at h
theorem run_storeAt {P:Program} {w:World} {t:TypeId} {i:TI} (hT:TIok P t i) {b o:Nat} {cs:Array Value} {e:TypeId} {fr:Nat × Nat} {v:Value} (hh:w.heap[b]? = some (.cells cs e fr)) (hth:Thawed cs.size fr)
  (hv:v.cells.size=i.size) (hone:∀ x∈v.cells.toList,one x=true) (hle:o+i.size≤cs.size) :
  (Instr.storeAt t (.pointer (some ⟨b,o,none⟩)) v).run P w = .ok () (w.setCells b o v.cells.toList):=by
 have hs:=hT.sizeOf w
 have hst:=run_storeCells_cells (P:=P) b o v.cells.toList 0 w (by
   intro j hj
   rw [cell_of hh]
   have hj:j<i.size:=by simpa [hv] using hj
   rw [Array.getElem?_eq_getElem (by omega)]; rfl) (by
   intro j hj
   have hj:j<i.size:=by simpa [hv] using hj
   have:=hth (o+0+j) (by omega)
   simp [World.frozen?,hh]
   omega) (fun x hx=>one_oneCell (hone x hx))
 simp only [Nat.add_zero] at hst
 simp [Instr.storeAt,Instr.sureAddr,storeVar,hs,hv,hst]
theorem Frame.wrt {w0:World} {L:Nat→Nat→Prop} {w w':World} (h:Frame w0 L w) {b:Nat} {cs:Array Value} {e:TypeId} {fr:Nat × Nat} {cs':Array Value} (x:Wrt w w' b cs e fr cs')
  (hL:∀ j,cs'[j]? ≠ cs[j]? → b<w0.heap.size→L b j):Frame w0 L w':=by
 have hex:∀ j,¬ L b j→b<w0.heap.size→cs'[j]? = cs[j]? := by
  intro j hj hb
  by_cases hc:cs'[j]? = cs[j]?
  ·exact hc
  ·exact absurd (hL j hc hb) hj
 refine ⟨x.os.trans h.os,x.tape.trans h.tape,x.output.trans h.output,by rw [x.size]; exact h.size,?_,?_⟩
 ·intro i hi hl
  by_cases hib:i=b
  ·subst hib
   have h1:=h.kept i hi hl
   rw [←h1,x.new,x.old]
   congr 2
   apply Array.ext'
   apply List.ext_getElem?
   intro j
   rw [Array.getElem?_toList,Array.getElem?_toList]
   exact hex j (hl j) hi
  ·rw [x.kept i hib]; exact h.kept i hi hl
 ·intro i c1 e1 fr1 hc
  obtain ⟨c2,h1,h2,h3⟩:=h.part i c1 e1 fr1 hc
  by_cases hib:i=b
  ·subst hib
   rw [x.old] at h1
   injection h1 with h1
   injection h1 with q1 q2 q3
   subst q1; subst q2; subst q3
   exact ⟨cs',x.new,x.sz.trans h2,fun o ho=>(hex o ho (Array.getElem?_eq_some_iff.1 hc).1).trans (h3 o ho)⟩
  ·exact ⟨c2,by rw [x.kept i hib]; exact h1,h2,h3⟩
theorem Rel.stc {w0:World} {L:Nat→Nat→Prop} {C:Ctx} (R:Rel w0 L C) {c k:Nat} {ds xs:List D} {vs:Array Value} (hl:C.live c ds) (hk:k+xs.length≤ds.length)
  (hno:∀ (j:Nat) (d:D),k≤j→j<k+xs.length→ds[j]? = some d→d.isOwn=false) (hx:Lined C xs vs)
  {w':World} {cs:Array Value} {e:TypeId} {fr:Nat × Nat} {cs':Array Value} (x:Wrt C.w w' (C.loc c).1 cs e fr cs')
  (hcs:∀ j,cs'[j]? = if (C.loc c).2+k≤j∧j<(C.loc c).2+k+xs.length then vs[j-((C.loc c).2+k)]? else cs[j]?) :
  Rel w0 L { C with E:={ C.E with ce:=C.E.ce.set c (some (setRange ds k xs)) },w:=w' }:=by
 obtain ⟨cs0,e0,fr0,a1,a2,a3,a4⟩:=(R.cell c ds hl).out
 rw [x.old] at a1
 injection a1 with a1
 injection a1 with q1 q2 q3
 subst q1; subst q2; subst q3
 have hlt:c<C.E.ce.length:=(gSm hl).1
 generalize hC':({ C with E:={ C.E with ce:=C.E.ce.set c (some (setRange ds k xs)) },w:=w' }:Ctx)=C'
 have hP:C'.P=C.P:=by rw [←hC']
 have hE:C'.E={ C.E with ce:=C.E.ce.set c (some (setRange ds k xs)) }:=by rw [←hC']
 have ha:C'.a=C.a:=by rw [←hC']
 have hw:C'.w=w':=by rw [←hC']
 have hF:C'.F=C.F:=by rw [←hC']
 have hloc:C'.loc=C.loc:=by rw [←hC']
 have hlen:(setRange ds k xs).length=ds.length:=setRange_length ..
 have hlv:∀ t' ds',C'.live t' ds'→(t'=c∧ds'=setRange ds k xs)∨(t'≠c∧C.live t' ds'):=by
  intro t' ds' h
  have h:C'.E.ce[t']? = some (some ds'):=h
  rw [hE] at h
  simp only at h
  by_cases hne:t'=c
  ·subst hne
   rw [List.getElem?_set_self hlt] at h
   injection h with h; injection h with h
   exact .inl ⟨rfl,h.symm⟩
  ·rw [List.getElem?_set_ne (fun h=>hne h.symm)] at h
   exact .inr ⟨hne,h⟩
 have hlv1:∀ t' ds',C'.live t' ds'→∃ ds0,C.live t' ds0∧ds0.length=ds'.length:=by
  intro t' ds' h
  rcases hlv t' ds' h with ⟨rfl,rfl⟩ | ⟨_,h⟩
  ·exact ⟨ds,hl,hlen.symm⟩
  ·exact ⟨ds',h,rfl⟩
 have hlv2:∀ t' ds',C.live t' ds'→∃ ds'',C'.live t' ds''∧ds''.length=ds'.length∧C'.loc t'=C.loc t':=by
  intro t' ds' h
  by_cases hne:t'=c
  ·subst hne
   have:ds'=ds:=by
    have h1:C.E.ce[t']? = some (some ds'):=h
    have h2:C.E.ce[t']? = some (some ds):=hl
    rw [h2] at h1; injection h1 with h1; injection h1 with h1; exact h1.symm
   subst this
   refine ⟨setRange ds' k xs,?_,hlen,by rw [hloc]⟩
   show C'.E.ce[t']? = _
   rw [hE]
   exact List.getElem?_set_self hlt
  ·refine ⟨ds',?_,rfl,by rw [hloc]⟩
   show C'.E.ce[t']? = _
   rw [hE]
   show (C.E.ce.set c _)[t']? = _
   rw [List.getElem?_set_ne (fun h=>hne h.symm)]; exact h
 have hne:∀ q b,C.F q b→b≠(C.loc c).1:=fun q b hb h=>R.fcd c ds q hl (h▸hb)
 have hleaf:∀ q:Lf,¬ (q.c=true∧q.t=c∧k≤q.k∧q.k<k+xs.length)→C'.E.leaf q=C.E.leaf q:=by
  rintro ⟨cc,t',j⟩ hq
  rw [hE]
  cases cc with
  | false=>rfl
  | true =>
   by_cases hne:t'=c
   ·subst hne
    have h1:({ C.E with ce:=C.E.ce.set t' (some (setRange ds k xs)) }:Env).leaf ⟨true,t',j⟩=(setRange ds k xs).getD j .dead:=leaf_cell _ _ _ _ (List.getElem?_set_self hlt)
    rw [h1,leaf_cell _ _ _ _ hl,gDg,setRange_get _ _ _ _ hk,if_neg (fun h=>hq ⟨rfl,rfl,h⟩),←gDg]
   ·have e1:(C.E.ce.set c (some (setRange ds k xs))).getD t' none=C.E.ce.getD t' none:=by
     rw [gDg,List.getElem?_set_ne (fun h=>hne h.symm),←gDg]
    show (((C.E.ce.set c (some (setRange ds k xs))).getD t' none).getD []).getD j .dead=((C.E.ce.getD t' none).getD []).getD j .dead
    rw [e1]
 have hout:∀ q e xs',C.E.leaf q = .own e xs'→¬ (q.c=true∧q.t=c∧k≤q.k∧q.k<k+xs.length):=by
  rintro ⟨cc,t',j⟩ e xs' h ⟨h1,h2,h3,h4⟩
  simp only at h1 h2 h3 h4
  subst h1; subst h2
  rw [leaf_cell _ _ _ _ hl] at h
  have hj:j<ds.length:=by omega
  have h5:=hno j (ds.getD j .dead) h3 h4 (by rw [gDg,gEg hj]; rfl)
  rw [h] at h5; simp [D.isOwn] at h5
 have hcv:∀ q,C.E.leaf q ≠ .dead→¬ (q.c=true∧q.t=c∧k≤q.k∧q.k<k+xs.length)→C'.cv q=C.cv q:=by
  rintro ⟨cc,t',j⟩ hn hq
  unfold Ctx.cv
  rw [ha,hw,hloc]
  cases cc with
  | false=>rfl
  | true =>
   obtain ⟨ds',hl'⟩:=Rel.liveOf (w0:=w0) (L:=L) hn
   simp only [if_true]
   by_cases hne:t'=c
   ·subst hne
    rw [cell_of x.new,cell_of x.old,hcs]
    have:¬ ((C.loc t').2+k≤(C.loc t').2+j∧(C.loc t').2+j<(C.loc t').2+k+xs.length):=fun h=>hq ⟨rfl,rfl,by show k≤j; omega,by show j<_; omega⟩
    rw [if_neg this]
   ·have hbk:(C.loc t').1≠(C.loc c).1:=fun h=>hne (R.cdisj _ _ _ _ hl' hl h)
    simp only [World.cell?,x.kept _ hbk]
 have hown:∀ b,C'.Owned b→C.Owned b:=by
  rintro b (⟨p,hp⟩ | ⟨t',ds',hl',hb⟩)
  ·rw [hF] at hp; exact .inl ⟨p,hp⟩
  ·obtain ⟨d0,h0,_⟩:=hlv1 t' ds' hl'
   rw [hloc] at hb
   exact .inr ⟨t',d0,h0,hb⟩
 have s:Same C C' (fun q=>q) (fun _=>False) (fun _=>False):=by
  refine ⟨hP,fun b hb hlb=>⟨fun h=>hb (hown b h),?_⟩,?_,?_,by rw [←hC']; exact fun _ h=>h⟩
  ·rw [hw]
   exact x.kept b (fun h=>hb (.inr ⟨c,ds,hl,h.symm⟩))
  ·intro q e xs' _ hq
   have hn:C.E.leaf q ≠ .dead:=by rw [hq]; simp
   refine ⟨xs',by rw [hleaf q (hout q e xs' hq)]; exact hq,rfl,hcv q hn (hout q e xs' hq),fun i j e' ys hg=>⟨hg,fun b o n cap v hc hv => ?_⟩⟩
   have ho:=R.ownLeaf hq
   rw [hc] at ho
   rw [hw]
   cases ho with
   | row _ _ _ _ _ csr frr F G X g1 g2 =>
    have hb:=hne q b g2
    simp only [World.cell?,x.kept b hb] at hv ⊢
    exact hv
  ·intro t' ds' _ h
   exact hlv2 t' ds' h
 have go1:∀ p d' v,LRel C p d' v→LRel C' p d' v:=by
  intro p d' v' hv
  by_cases ho:d'.isOwn=true
  ·cases d'<;>simp [D.isOwn] at ho
   cases hv with
   | own _ _ _ h =>
    refine .own _ _ _ _ ?_
    rw [hP,hw,hF]
    exact h.mono (fun b hb=>hb) (fun b hb _=>x.kept b (hne p b hb))
  ·have:=LRel.same s hv p (by simpa using ho) ⟨fun q h=>by simp,fun t ht=>by simp⟩
   rwa [D.re_id] at this
 refine ⟨by rw [ha,hE]; exact R.tmps,by rw [ha]; exact R.defers,?_,?_,by rw [hF]; exact R.disj,?_,?_,?_,by rw [hF]; exact R.flent,?_,?_,by rw [←hC']; exact R.mnew,by rw [←hC']; exact R.mL,by rw [←hC']; exact R.glob⟩
 ·intro t' d hd
  rw [hE] at hd
  rw [ha]
  exact (R.slot t' d hd).tr' fun k x v hx hv=>go1 _ _ _ hv
 ·intro t' ds' hl'
  rcases hlv t' ds' hl' with ⟨rfl,rfl⟩ | ⟨hnc,hl''⟩
  ·refine ⟨cs',e,fr,by rw [hw,hloc]; exact x.new,by rw [x.sz]; exact a2,by rw [hloc,hlen,x.sz]; exact a3,?_⟩
   intro i d hd
   rw [hloc,arrGetD,hcs]
   rw [setRange_get _ _ _ _ hk] at hd
   by_cases hr:k≤i∧i<k+xs.length
   ·rw [if_pos hr] at hd
    rw [if_pos (by omega)]
    have e1:(C.loc t').2+i-((C.loc t').2+k)=i-k:=by omega
    rw [e1]
    obtain ⟨b1,b2,b3,b4⟩:=hx.2 _ d hd
    rw [arrGetD] at b3 b4
    exact ⟨b1,b3,go1 _ _ _ (b4 _)⟩
   ·rw [if_neg hr] at hd
    rw [if_neg (by omega),←arrGetD]
    obtain ⟨b1,b2,b3⟩:=a4 i d hd
    exact ⟨b1,b2,go1 _ _ _ b3⟩
  ·obtain ⟨cs1,e1,fr1,g1,g2,g3,g4⟩:=(R.cell t' ds' hl'').out
   have hbk:(C.loc t').1≠(C.loc c).1:=fun h=>hnc (R.cdisj _ _ _ _ hl'' hl h)
   refine ⟨cs1,e1,fr1,by rw [hw,hloc,x.kept _ hbk]; exact g1,g2,by rw [hloc]; exact g3,?_⟩
   intro i d hd
   rw [hloc]
   obtain ⟨b1,b2,b3⟩:=g4 i d hd
   exact ⟨b1,b2,go1 _ _ _ b3⟩
 ·intro t1 d1 t2 d2 h1 h2 he
  rw [hloc] at he
  obtain ⟨x1,y1,_⟩:=hlv1 _ _ h1
  obtain ⟨x2,y2,_⟩:=hlv1 _ _ h2
  exact R.cdisj _ _ _ _ y1 y2 he
 ·intro t' ds' p hl' hp
  rw [hF,hloc] at hp
  obtain ⟨x1,y1,_⟩:=hlv1 _ _ hl'
  exact R.fcd _ _ p y1 hp
 ·intro p b hp
  rw [hF] at hp
  rw [hw,x.size]
  exact R.fbound p b hp
 ·intro t' ds' hl' hb i hi
  rw [hloc] at hb ⊢
  obtain ⟨x1,y1,y3⟩:=hlv1 _ _ hl'
  exact R.clent _ _ y1 hb i (by omega)
 ·rw [hw]
  refine R.frame.wrt x fun j hj hb => ?_
  rw [hcs] at hj
  by_cases hr:(C.loc c).2+k≤j∧j<(C.loc c).2+k+xs.length
  ·have:=R.clent c ds hl hb (j-(C.loc c).2) (by omega)
   have e1:(C.loc c).2+(j-(C.loc c).2)=j:=by omega
   rwa [e1] at this
  ·rw [if_neg hr] at hj; exact absurd rfl hj
theorem Env.mapP_id (E:Env):E.mapP (fun _ d=>d)=E:=by
 have h1:∀ (l:List D) (t:Nat),mapSl (lf1 fun _ d=>d) t l=l:=by
  intro l
  induction l with
  | nil=>intro t; rfl
  | cons d l ih =>
   intro t
   simp only [mapSl,ih]
   have:(fun k=>lf1 (fun _ d=>d) ⟨false,t,k⟩)=fun (_:Nat) (x:D)=>x:=by
    funext k x; cases x<;>rfl
   rw [this,Fw.mapP_id]
 have h2:∀ (l:List (Option (List D))) (t:Nat),mapCe (lf1 fun _ d=>d) t l=l:=by
  intro l
  induction l with
  | nil=>intro t; rfl
  | cons d l ih =>
   intro t
   simp only [mapCe,ih]
   have:(fun k=>lf1 (fun _ d=>d) ⟨true,t,k⟩)=fun (_:Nat) (x:D)=>x:=by
    funext k x; cases x<;>rfl
   rw [this]
   have h3:∀ (ds:List D) (k:Nat),mapLv (fun _ x=>x) k ds=ds:=by
    intro ds
    induction ds with
    | nil=>intro k; rfl
    | cons d ds ih=>intro k; simp [mapLv,ih]
   cases d<;>simp [h3]
 cases E with
 | mk sl ce=>simp only [Env.mapP,h1,h2]
theorem Rel.reF {w0:World} {L:Nat→Nat→Prop} {C:Ctx} (R:Rel w0 L C) (F':Lf→Nat→Prop) (h1:∀ p e xs,C.E.leaf p = .own e xs→F' p=C.F p)
  (hF:∀ p b,F' p b→∃ q,C.F q b) (hd:∀ p q b,F' p b→F' q b→p=q):Rel w0 L { C with F:=F' }:=by
 have s:=Same.ofMap R (fun _ d=>d) F' (fun _ _ h=>h) hF (fun q=>q) (fun _=>False) (by
  intro q e xs _ hl
  rw [hl]; exact ⟨rfl,rfl⟩)
 have:=R.mapP (fun _ d=>d) F' (fun _ _ h=>h) (by
  intro p d h2 h3 h4 hv
  by_cases ho:d.isOwn=true
  ·cases d<;>simp [D.isOwn] at ho
   cases hv with
   | own _ _ _ h =>
    refine .own _ _ _ _ ?_
    show OwnT C.P C.w _ _ (F' p)
    rw [h1 p _ _ h2]; exact h
  ·have:=LRel.same s hv p (by simpa using ho) ⟨fun q h=>by simp,fun t ht=>by simp⟩
   rwa [D.re_id] at this) hF hd
 rwa [Env.mapP_id] at this
theorem Rel.rowF {w0:World} {L:Nat→Nat→Prop} {C:Ctx} (R:Rel w0 L C) {q:Lf} {e:TypeId} {xs xs':List (List T)} (hq:C.E.leaf q = .own e xs) (hlen:xs'.length=xs.length)
  (hflat:∀ i j t,T.get? xs i j=some t→t.isV=true)
  {w':World} {b:Nat} (xk:∀ i,i≠b→w'.heap[i]? = C.w.heap[i]?) (xz:w'.heap.size=C.w.heap.size) (xf:Frame w0 L w') (hb:C.F q b) (ho:OwnT C.P w' (.sl e xs') (C.cv q) (C.F q)) :
  Rel w0 L { C with E:=C.E.setLeaf q (.own e xs'),w:=w' }:=by
 let g:Lf→D→D:=fun r d=>if r=q then .own e xs' else d
 have hg:∀ p d,d.leafy=true→(g p d).leafy=true:=by
  intro p d h; show (if p=q then D.own e xs' else d).leafy=true
  split
  ·rfl
  ·exact h
 generalize hC':({ C with E:=C.E.setLeaf q (.own e xs'),w:=w' }:Ctx)=C'
 have hP:C'.P=C.P:=by rw [←hC']
 have hE:C'.E=C.E.mapP g:=by rw [←hC']; rfl
 have ha:C'.a=C.a:=by rw [←hC']
 have hw:C'.w=w':=by rw [←hC']
 have hF:C'.F=C.F:=by rw [←hC']
 have hloc:C'.loc=C.loc:=by rw [←hC']
 have hleaf:∀ p,C'.E.leaf p=lf1 g p (C.E.leaf p):=by intro p; rw [hE,mapP_leaf R g hg]
 have hblk:∀ t ds,C.live t ds→(C.loc t).1≠b:=fun t ds hl h=>R.fcd t ds q hl (h▸hb)
 have hlive:∀ t ds',C'.live t ds'→∃ ds,C.live t ds∧ds'=mapLv (fun j=>lf1 g ⟨true,t,j⟩) 0 ds:=by
  intro t ds' h
  have h2:C'.E.ce[t]? = some (some ds'):=h
  rw [hE] at h2
  simp only [Env.mapP] at h2
  rw [mapCe_get] at h2
  cases h3:C.E.ce[t]? with
  | none=>rw [h3] at h2; simp at h2
  | some o =>
   cases o with
   | none=>rw [h3] at h2; simp at h2
   | some ds=>rw [h3] at h2; simp at h2; exact ⟨ds,h3,h2.symm⟩
 have hlv2:∀ t ds,C.live t ds→C'.live t (mapLv (fun j=>lf1 g ⟨true,t,j⟩) 0 ds):=by
  intro t ds h
  show C'.E.ce[t]? = _
  rw [hE]
  simp only [Env.mapP]
  rw [mapCe_get,show C.E.ce[t]? = some (some ds) from h]
  simp
 have hcv:∀ p,C.E.leaf p ≠ .dead→C'.cv p=C.cv p:=by
  rintro ⟨c,t,k⟩ hn
  unfold Ctx.cv
  rw [ha,hw,hloc]
  cases c with
  | false=>rfl
  | true =>
   obtain ⟨ds,hl⟩:=Rel.liveOf (w0:=w0) (L:=L) hn
   simp only [if_true,World.cell?,xk _ (hblk t ds hl)]
 have hown:∀ b,C'.Owned b→C.Owned b:=by
  rintro b' (⟨p,hp⟩ | ⟨t',ds',hl',hb'⟩)
  ·rw [hF] at hp; exact .inl ⟨p,hp⟩
  ·obtain ⟨d0,h0,_⟩:=hlive t' ds' hl'
   rw [hloc] at hb'
   exact .inr ⟨t',d0,h0,hb'⟩
 have hoth:∀ p e' ys v,p≠q→OwnT C.P C.w (.sl e' ys) v (C.F p)→OwnT C.P w' (.sl e' ys) v (C.F p):=by
  intro p e' ys v hp h
  exact h.mono (fun _ h=>h) (fun b' hb' _=>xk b' (by rintro rfl; exact hp (R.disj _ _ _ hb' hb)))
 have s:Same C C' (fun q=>q) (fun _=>False) (fun _=>False):=by
  refine ⟨hP,fun b' hb' hlb=>⟨fun h=>hb' (hown b' h),?_⟩,?_,?_,by rw [←hC']; exact fun _ h=>h⟩
  ·rw [hw]; exact xk b' (by rintro rfl; exact hb' (.inl ⟨q,hb⟩))
  ·intro p e' ys _ hp
   have hn:C.E.leaf p ≠ .dead:=by rw [hp]; simp
   by_cases hpq:p=q
   ·subst hpq
    rw [hq] at hp; injection hp with h1 h2; subst h1; subst h2
    refine ⟨xs',?_,hlen,hcv p hn,fun i j e' ys hg => ?_⟩
    ·rw [hleaf,hq]
     show (if p=p then D.own e xs' else _)=_
     rw [if_pos rfl]
    ·have:=hflat i j _ hg
     simp [T.isV] at this
   ·refine ⟨ys,?_,rfl,hcv p hn,fun i j e'' zs hg=>⟨hg,fun b' o n cap v hc hv => ?_⟩⟩
    ·rw [hleaf,hp]
     show (if p=q then D.own e xs' else D.own e' ys)=_
     rw [if_neg hpq]
    ·have ho:=R.ownLeaf hp
     rw [hc] at ho
     rw [hw]
     cases ho with
     | row _ _ _ _ _ csr frr F G X g1 g2 =>
      have hb2:b'≠b:=by rintro rfl; exact hpq (R.disj _ _ _ g2 hb)
      simp only [World.cell?,xk b' hb2] at hv ⊢
      exact hv
  ·intro t ds _ hl
   exact ⟨_,hlv2 t ds hl,mapLv_length ..,by rw [hloc]⟩
 have go1:∀ p d v,C.E.leaf p=d→v=C.cv p→LRel C p d v→LRel C' p (lf1 g p d) v:=by
  intro p d v hp hvc hv
  by_cases hpq:p=q
  ·subst hpq
   rw [hq] at hp; subst hp; subst hvc
   show LRel C' p (if p=p then D.own e xs' else _) _
   rw [if_pos rfl]
   refine .own _ _ _ _ ?_
   rw [hP,hw,hF]; exact ho
  ·have e1:lf1 g p d=d:=by
    cases d<;>first | rfl | (show (if p=q then _ else _)=_; rw [if_neg hpq])
   rw [e1]
   by_cases hod:d.isOwn=true
   ·cases d<;>simp [D.isOwn] at hod
    cases hv with
    | own _ _ _ h =>
     refine .own _ _ _ _ ?_
     rw [hP,hw,hF]
     exact hoth p _ _ _ hpq h
   ·have:=LRel.same s hv p (by simpa using hod) ⟨fun q h=>by simp,fun t ht=>by simp⟩
    rwa [D.re_id] at this
 refine ⟨?_,by rw [ha]; exact R.defers,?_,?_,by rw [hF]; exact R.disj,?_,?_,?_,by rw [hF]; exact R.flent,?_,?_,by rw [←hC']; exact R.mnew,by rw [←hC']; exact R.mL,by rw [←hC']; exact R.glob⟩
 ·rw [ha,hE]
  show C.a.tmps.size=(mapSl (lf1 g) 0 C.E.sl).length
  rw [mapSl_length]; exact R.tmps
 ·intro t d' hd'
  rw [hE] at hd'
  rw [ha]
  have h2:(mapSl (lf1 g) 0 C.E.sl)[t]? = some d':=hd'
  rw [mapSl_get] at h2
  cases h3:C.E.sl[t]? with
  | none=>rw [h3] at h2; simp at h2
  | some d =>
   rw [h3] at h2
   have h4:d'=d.mapP (fun j=>lf1 g ⟨false,t,j⟩):=by simpa using h2.symm
   subst h4
   have hs:=R.slot t d h3
   refine hs.map rfl _ (leafyG hg _) (fun _=>rfl) fun k y hy hl => ?_
   exact ⟨lf1_leafy hg _ _ hl,fun hv=>go1 _ _ _ (hs.at h3 k y hy) rfl hv⟩
 ·intro t ds' hl
  obtain ⟨ds,h1,rfl⟩:=hlive t ds' hl
  obtain ⟨c1,e1,f1,a1,a2,a3,a4⟩:=(R.cell t ds h1).out
  refine ⟨c1,e1,f1,by rw [hw,hloc,xk _ (hblk t ds h1)]; exact a1,a2,by rw [hloc,mapLv_length]; exact a3,?_⟩
  intro i d hd
  rw [mapLv_get] at hd
  cases hx:ds[i]? with
  | none=>rw [hx] at hd; simp at hd
  | some y =>
   rw [hx] at hd
   have:d=lf1 g ⟨true,t,0+i⟩ y:=by simpa using hd.symm
   subst this
   rw [Nat.zero_add,hloc]
   obtain ⟨b1,b2,b3⟩:=a4 i y hx
   refine ⟨lf1_leafy hg _ _ b1,b2,go1 _ _ _ ?_ (cell_cv a1).symm b3⟩
   rw [leaf_cell _ _ _ _ h1]; exact getD_some hx
 ·intro t1 d1 t2 d2 h1 h2 he
  rw [hloc] at he
  obtain ⟨x1,y1,_⟩:=hlive _ _ h1
  obtain ⟨x2,y2,_⟩:=hlive _ _ h2
  exact R.cdisj _ _ _ _ y1 y2 he
 ·intro t' ds' p hl' hp
  rw [hF,hloc] at hp
  obtain ⟨x1,y1,_⟩:=hlive _ _ hl'
  exact R.fcd _ _ p y1 hp
 ·intro p b hp
  rw [hF] at hp
  rw [hw,xz]
  exact R.fbound p b hp
 ·intro t' ds' hl' hb i hi
  rw [hloc] at hb ⊢
  obtain ⟨x1,y1,rfl⟩:=hlive _ _ hl'
  rw [mapLv_length] at hi
  exact R.clent _ _ y1 hb i hi
 ·rw [hw]
  exact xf
theorem Rel.row {w0:World} {L:Nat→Nat→Prop} {C:Ctx} (R:Rel w0 L C) {q:Lf} {e:TypeId} {xs xs':List (List T)} (hq:C.E.leaf q = .own e xs) (hlen:xs'.length=xs.length)
  (hflat:∀ i j t,T.get? xs i j=some t→t.isV=true)
  {w':World} {b:Nat} {cs:Array Value} {ce:TypeId} {fr:Nat × Nat} {cs':Array Value} (x:Wrt C.w w' b cs ce fr cs') (hb:C.F q b) (ho:OwnT C.P w' (.sl e xs') (C.cv q) (C.F q)) :
  Rel w0 L { C with E:=C.E.setLeaf q (.own e xs'),w:=w' } :=
 R.rowF hq hlen hflat x.kept x.size (R.frame.wrt x fun j _ hlt=>R.flent q b hb hlt j) hb ho
theorem toTs_zero:∀ (n:Nat) (ds:List D) (ts:List T),toTs (List.replicate n 0) ds=some ts→∀ (j:Nat) (d:D),ds[j]? = some d→∃ x,d = .v x∧ts[j]? = some (.v x)
 | 0,[],ts,_=>fun j d h=>by simp at h
 | 0,d::ds,ts,h=>by simp [toTs] at h
 | n+1,[],ts,h=>by simp [toTs,List.replicate_succ] at h
 | n+1,d::ds,ts,h=>by
  rw [List.replicate_succ] at h
  simp only [toTs] at h
  cases h1:d.toT 0 with
  | none=>rw [h1] at h; simp at h
  | some t =>
   cases h2:toTs (List.replicate n 0) ds with
   | none=>rw [h1,h2] at h; simp at h
   | some ts' =>
    rw [h1,h2] at h
    simp only [Option.some.injEq] at h
    subst h
    intro j d' hd
    cases j with
    | zero =>
     simp at hd; subst hd
     cases d<;>simp [D.toT] at h1
     subst h1
     exact ⟨_,rfl,rfl⟩
    | succ j=>simpa using toTs_zero n ds ts' h2 j d' (by simpa using hd)
theorem OwnT.upd {P:Program} {w w':World} {e:TypeId} {xs:List (List T)} {v:Value} {F:Nat→Prop} (h:OwnT P w (.sl e xs) v F) (hfl:flatP P e=true) {a j:Nat} {ts:List T} {vs:List Value} (ha:a<xs.length)
  (hj:j+ts.length≤(xs.getD a []).length) (hl:ts.length=vs.length) (hts:∀ (i:Nat) (x:Value),vs[i]? = some x→ts[i]? = some (.v x)∧scal x=true)
  {b o n cap:Nat} (hv:v = .slice (some ⟨b,o,none⟩) n cap) {cs:Array Value} {ce:TypeId} {fr:Nat × Nat} {cs':Array Value} (x:Wrt w w' b cs ce fr cs')
  (hcs:∀ k,cs'[k]? = if o+a*P.cellsOf e+j≤k∧k<o+a*P.cellsOf e+j+vs.length then vs[k-(o+a*P.cellsOf e+j)]? else cs[k]?) :
  OwnT P w' (.sl e (xs.set a (setRange (xs.getD a []) j ts))) v F:=by
 subst hv
 cases h with
 | row _ _ _ _ _ cs0 fr0 _ G X h1 h2 h3 h4 h5 h6 h7 h8 h9 h10 h11 h12 =>
 rw [x.old] at h1
 injection h1 with h1
 injection h1 with q1 q2 q3
 subst q1; subst q2; subst q3
 have hr:xs[a]? = some (xs.getD a []):=by rw [gDg,gEg ha]; rfl
 have hlen:(xs.set a (setRange (xs.getD a []) j ts)).length=xs.length:=by simp
 have hrl:(xs.getD a []).length=P.cellsOf ce:=h7 _ _ hr
 have key:=OwnT.simple (P:=P) (w:=w') (e:=ce) (xs:=xs.set a (setRange (xs.getD a []) j ts)) (b:=b) (o:=o) (cap:=cap) (cs:=cs') (fr:=fr) x.new (by rw [x.sz]; exact h3) (by rw [x.sz]; exact h4) (by omega) h6 (by
   intro i r hir
   by_cases hia:i=a
   ·subst hia
    rw [List.getElem?_set_self ha] at hir
    injection hir with hir
    rw [←hir,setRange_length]; exact hrl
   ·rw [List.getElem?_set_ne (fun h=>hia h.symm)] at hir
    exact h7 i r hir) (by
   intro i k t hg
   have hold:∀ t,T.get? xs i k=some t→∃ v,cs[o+i*P.cellsOf ce+k]? = some v∧SimpT t v:=by
    intro t hg
    have e1:=h10 i k t hg
    have e2:=h11 i k t hg
    have e3:=h12 hfl i k t hg
    refine ⟨_,e1,?_⟩
    cases t with
    | v y=>generalize X i k=xv at e2; cases e2 with | v _ _ hs=>exact .inl ⟨rfl,hs⟩
    | sl e ys=>simp [T.isV] at e3
   have hk:k<P.cellsOf ce∧i<xs.length:=by
    unfold T.get? at hg
    by_cases hia:i=a
    ·subst hia
     rw [List.getElem?_set_self ha] at hg
     simp only [Option.bind_some] at hg
     have:=(gSm hg).1
     rw [setRange_length] at this
     exact ⟨by omega,ha⟩
    ·rw [List.getElem?_set_ne (fun h=>hia h.symm)] at hg
     cases hx:xs[i]? with
     | none=>rw [hx] at hg; simp at hg
     | some r =>
      rw [hx] at hg
      have h1:=h7 i r hx
      have:=(gSm (by simpa using hg:r[k]? = some t)).1
      exact ⟨by omega,(gSm hx).1⟩
   rw [hcs]
   by_cases hr':i=a∧j≤k∧k<j+vs.length
   ·obtain ⟨rfl,r1,r2⟩:=hr'
    rw [if_pos (by omega)]
    have e1:o+i*P.cellsOf ce+k-(o+i*P.cellsOf ce+j)=k-j:=by omega
    rw [e1]
    unfold T.get? at hg
    rw [List.getElem?_set_self ha] at hg
    simp only [Option.bind_some] at hg
    rw [setRange_get _ _ _ _ hj,if_pos (by omega)] at hg
    have hv:vs[k-j]? = some (vs.getD (k-j) undef):=by rw [gDg,gEg (by omega)]; rfl
    obtain ⟨t1,t2⟩:=hts _ _ hv
    rw [t1] at hg
    injection hg with hg
    exact ⟨_,hv,.inl ⟨hg.symm,t2⟩⟩
   ·have hne:¬ (o+a*P.cellsOf ce+j≤o+i*P.cellsOf ce+k∧o+i*P.cellsOf ce+k<o+a*P.cellsOf ce+j+vs.length):=by
     rintro ⟨n1,n2⟩
     have hjv:j+vs.length≤P.cellsOf ce:=by omega
     rcases Nat.lt_trichotomy i a with hlt | heq | hgt
     ·have:(i+1)*P.cellsOf ce≤a*P.cellsOf ce:=Nat.mul_le_mul_right _ hlt
      rw [Nat.add_mul] at this; omega
     ·subst heq; exact hr' ⟨rfl,by omega,by omega⟩
     ·have:(a+1)*P.cellsOf ce≤i*P.cellsOf ce:=Nat.mul_le_mul_right _ hgt
      rw [Nat.add_mul] at this; omega
    rw [if_neg hne]
    apply hold
    unfold T.get? at hg ⊢
    by_cases hia:i=a
    ·subst hia
     rw [List.getElem?_set_self ha] at hg
     rw [hr]
     simp only [Option.bind_some] at hg ⊢
     rw [setRange_get _ _ _ _ hj,if_neg (by intro h; exact hr' ⟨rfl,h.1,by omega⟩)] at hg
     exact hg
    ·rw [List.getElem?_set_ne (fun h=>hia h.symm)] at hg
     exact hg) (by
   intro _ i k t hg
   unfold T.get? at hg
   by_cases hia:i=a
   ·subst hia
    rw [List.getElem?_set_self ha] at hg
    simp only [Option.bind_some] at hg
    rw [setRange_get _ _ _ _ hj] at hg
    split at hg
    ·rename_i hc
     have hv:vs[k-j]? = some (vs.getD (k-j) undef):=by rw [gDg,gEg (by omega)]; rfl
     obtain ⟨t1,t2⟩:=hts _ _ hv
     rw [t1] at hg
     injection hg with hg
     rw [←hg]; rfl
    ·exact h12 hfl i k t (by unfold T.get?; rw [hr]; exact hg)
   ·rw [List.getElem?_set_ne (fun h=>hia h.symm)] at hg
    exact h12 hfl i k t hg)
 rw [hlen] at key
 exact key.mono (fun b' hb=>by rw [hb]; exact h2) (fun _ _ _=>rfl)
theorem opdR_const {α:Type} {x:Operand} {k:D→Rdr α} {E:Env} {Q:α→Prop} (hx:tmpOf x=none) (h:(opdR x k).wp E Q):∃ d,(k d).wp E Q∧∀ C:Ctx,VRel C d (C.a.eval x):=by
 cases x with
 | tmp s=>simp [tmpOf] at hx
 | const v=>exact ⟨_,h,fun C=>constD_rel C v⟩
 | func f =>
  refine ⟨_,h,fun C => .leaf rfl rfl rfl fun p => ?_⟩
  exact .clo p f [] #[] rfl (fun i d hd=>by simp at hd) (fun i d hd=>by simp at hd)
 | global g=>exact h.elim
theorem opdR_wp2 {w0:World} {L:Nat→Nat→Prop} {C:Ctx} (R:Rel w0 L C) {α:Type} {x:Operand} {k:D→Rdr α} {Q:α→Prop} (h:(opdR x k).wp C.E Q) :
  ∃ d,(k d).wp C.E Q∧(d.isTup=false→VRel C d (C.a.eval x))∧(tmpOf x=none→∀ C:Ctx,VRel C d (C.a.eval x)):=by
 cases hx:tmpOf x with
 | none =>
  obtain ⟨d,h1,h2⟩:=opdR_const hx h
  exact ⟨d,h1,fun _=>h2 C,fun _=>h2⟩
 | some s =>
  obtain ⟨d,h1,h2⟩:=opdR_wp R h
  exact ⟨d,h1,h2,fun h=>by cases h⟩
theorem asMove_isTup (t:Nat) (d:D):(asMove t d).isTup=d.isTup:=by cases d<;>rfl
theorem noOwn_range {ds:List D} {k n:Nat} (h:((ds.drop k).take n).any D.isOwn=false):∀ (j:Nat) (d:D),k≤j→j<k+n→ds[j]? = some d→d.isOwn=false:=by
 intro j d h1 h2 hd
 rw [List.any_eq_false] at h
 have:=h d (List.mem_of_getElem? (i:=j-k) (by rw [List.getElem?_take_of_lt (by omega),List.getElem?_drop]; rw [show k+(j-k)=j by omega]; exact hd))
 simpa using this
theorem wp_skip' {P:Program} {o:Oper} {a:Act} {w w':World} {next:Act→World→Prop} {Q:Exit→Act→World→Prop} (hd:o.dst=none)
  (h:(execOp a.eval o).run P w = .ok .skip w') (hn:next a w'):o.wp P a w next Q:=by
 unfold Oper.wp; rw [h]
 show next (a.put o.dst undef) w'
 rw [hd]; exact hn
section ops
variable {w0:World} {L:Nat→Nat→Prop} {C:Ctx} (R:Rel w0 L C)
variable {np:Nat} {K:Env→Prop} {next:Act→World→Prop} (hn:Nxt w0 L np C K next) {Q:Exit→Act→World→Prop} {o:Oper}
include R hn
theorem snd_stc {E2:Env} {F2:Lf→Nat→Prop} (R2:Rel w0 L { C with E:=E2,F:=F2 }) {t:TypeId} {i:TI} (hi:TIok C.P t i) {a x:Operand} {c k:Nat} {ds xs:List D} (ho:o.op = .store t a x) (hd:o.dst=none)
  (hl:E2.ce[c]? = some (some ds)) (ha:C.a.eval a = .pointer (some ⟨(C.loc c).1,(C.loc c).2+k,none⟩)) (hx:Lined { C with E:=E2,F:=F2 } xs (C.a.eval x).cells) (hxl:xs.length=i.size) (hk:k+i.size≤ds.length)
  (hno:((ds.drop k).take i.size).any D.isOwn=false) {E':Env}
  (hfin:∀ w',Rel w0 L { C with E:={ E2 with ce:=E2.ce.set c (some (setRange ds k xs)) },F:=F2,w:=w' }→∃ F',Rel w0 L { C with E:=E',F:=F',w:=w' }) (hK:K E'):o.wp C.P C.a C.w next Q:=by
 have _:=R
 obtain ⟨cs,e,fr,a1,a2,a3,a4⟩:=(R2.cell c ds hl).out
 have a1:C.w.heap[(C.loc c).1]? = some (.cells cs e fr):=a1
 have a3:(C.loc c).2+ds.length≤cs.size:=a3
 have hsz:(C.a.eval x).cells.size=i.size:=by rw [←hx.1]; exact hxl
 have hrun:=run_storeAt hi (w:=C.w) (o:=(C.loc c).2+k) (v:=C.a.eval x) a1 a2 hsz (by
  intro y hy
  obtain ⟨j,hj,rfl⟩:=List.mem_iff_getElem.1 hy
  have hj':j<xs.length:=by rw [hxl,←hsz]; simpa using hj
  obtain ⟨_,_,h,_⟩:=hx.2 j xs[j] (gEg hj')
  rw [←arr_list_getD,getD_some (gEg hj)] at h
  exact h) (by omega)
 obtain ⟨cs',x1,x2⟩:=setCells_wrt (C.loc c).1 e fr (C.a.eval x).cells.toList ((C.loc c).2+k) C.w cs a1 (by simp [hsz]; omega)
 have R3:=R2.stc (k:=k) (xs:=xs) (vs:=(C.a.eval x).cells) hl (by omega) (by rw [hxl]; exact noOwn_range hno) hx x1 (by
  intro j
  show cs'[j]? = if (C.loc c).2+k≤j∧j<(C.loc c).2+k+xs.length then (C.a.eval x).cells[j-((C.loc c).2+k)]? else cs[j]?
  rw [x2 j]
  simp only [Array.length_toList,hsz,hxl,Array.getElem?_toList])
 obtain ⟨F',R4⟩:=hfin _ R3
 refine wp_skip' (w':=C.w.setCells (C.loc c).1 ((C.loc c).2+k) (C.a.eval x).cells.toList) hd ?_ (hn _ R4 rfl (fun _ _=>rfl) hK)
 simp only [execOp,ho,ha,bind_pure_comp,Sem.run_map,hrun,Result.andThen_ok]
theorem snd_store {tb:Tab} (hT:TabOk C.P tb) {t:TypeId} {a x:Operand} (ho:o.op = .store t a x) (h:(opStore tb o.dst t a x).wp C.E (Done C.P K C.E)):o.wp C.P C.a C.w next Q:=by
 unfold opStore at h
 split at h
 ·exact h.elim
 ·exact h.elim
 ·rename_i i ht hd
  have hi:=hT t i ht
  replace h:=opdR_wp R h
  obtain ⟨da,h,hva⟩:=h
  split at h
  ·rename_i c k
   obtain ⟨ds0,hl0,hk0,ha⟩:=(hva rfl).cref_inv
   simp only [Rdr.wp] at h
   have e:C.E.ce.getD c none=some ds0:=getD_some hl0
   rw [e] at h
   simp only at h
   have hx:=opdR_wp2 R h
   obtain ⟨d,h',hvx,hvx2⟩:=hx
   split at h'
   ·exact h'.elim
   ·rename_i hc
    simp only [Bool.or_eq_true,decide_eq_true_eq,bne_iff_ne,ne_eq,not_or,Bool.not_eq_true,Decidable.not_not,Nat.not_lt] at hc
    obtain ⟨⟨⟨c1,c2⟩,c3⟩,c4⟩:=hc
    have hdd:d ≠ .dead:=by rintro rfl; simp [D.isDead] at c2
    split at h'
    ·simp only [Rdr.wp] at h'
     split at h'
     ·rename_i E' hE
      unfold storeOwn at hE
      split at hE
      ·cases hE
      ·rename_i E1 hcut
       have hR1:∃ F1,Rel w0 L { C with E:=E1,F:=F1 }:=by
        unfold stCut at hcut
        split at hcut
        ·exact R.cutLeaves _ 0 hcut
        ·injection hcut with hcut; subst hcut; exact ⟨C.F,R⟩
       obtain ⟨F1,R1⟩:=hR1
       generalize hE2:(if ((((E1.ce.getD c none).getD []).drop k).take i.size).any D.isOwn then E1.killC c k i.size else E1)=E2 at hE
       simp only at hE
       have R2:Rel w0 L { C with E:=E2,F:=F1 }:=by
        split at hE2
        ·subst hE2; exact R1.kill _
        ·subst hE2; exact R1
       split at hE
       ·cases hE
       ·rename_i ds2 hds2
        have hl2:E2.ce[c]? = some (some ds2):=by
         rw [gDg] at hds2
         cases hx:E2.ce[c]? with
         | none=>rw [hx] at hds2; simp at hds2
         | some y=>rw [hx] at hds2; simp at hds2; rw [hds2]
        split at hE
        ·rename_i hcond
         simp only [Bool.and_eq_true,Bool.not_eq_true',beq_iff_eq,decide_eq_true_eq] at hcond
         obtain ⟨⟨⟨⟨k1,k2⟩,k3⟩,k4⟩,k5⟩:=hcond
         have hv2:VRel { C with E:=E2,F:=F1 } (stD (tmpOf x) E2 d) (C.a.eval x):=by
          cases hx:tmpOf x with
          | none=>exact hvx2 hx { C with E:=E2,F:=F1 }
          | some s =>
           have:x = .tmp s:=by cases x<;>simp [tmpOf] at hx; rw [hx]
           subst this
           rw [hx] at k1
           exact asMove_rel R2 s (by simp only [stD] at k1; rwa [asMove_isTup] at k1)
         have hdd2:stD (tmpOf x) E2 d ≠ .dead:=by
          intro h; rw [h] at k2; simp [D.isDead] at k2
         exact snd_stc R hn R2 hi ho hd hl2 ha (hv2.lined k1 hdd2) k3 k4 k5 (fun w' R3=>R3.swapLeaves _ k hE) h'
        ·cases hE
     ·exact h'.elim
    ·rename_i hno
     simp only [Bool.or_eq_true,not_or,Bool.not_eq_true] at hno
     refine snd_stc R hn R hi ho hd hl0 ha ((hvx c1).lined c1 hdd) c3 c4 hno.2 (fun w' R3=>⟨C.F,R3⟩) h'
  ·rename_i p a' j
   obtain ⟨e,xs,b,o',n,cap,hl,hcvp,hlt,ha⟩:=(hva rfl).eref_inv
   rw [leafR_wp,hl] at h
   simp only at h
   replace h:=opdR_wp R h
   obtain ⟨d,h,hvx⟩:=h
   split at h
   ·exact h.elim
   ·rename_i ie hie
    split at h
    ·exact h.elim
    ·rename_i hc
     simp only [Bool.or_eq_true,decide_eq_true_eq,bne_iff_ne,ne_eq,not_or,Bool.not_eq_true,Decidable.not_not,Nat.not_lt,Bool.not_eq_true',Bool.not_eq_false] at hc
     obtain ⟨⟨⟨⟨c1,c2⟩,c3⟩,c4⟩,c5⟩:=hc
     have hdd:d ≠ .dead:=by rintro rfl; simp [D.isDead] at c2
     split at h
     ·rename_i ts hts
      have hfl:flatP C.P e=true:=by rw [←(hT e ie hie).flat]; exact c5
      have hx:=(hvx c1).lined c1 hdd
      have hsz:(C.a.eval x).cells.size=i.size:=by rw [←hx.1]; exact c3
      have hown:=R.ownLeaf hl
      have hown2:=hown
      rw [hcvp] at hown2
      cases hown2 with
      | row _ _ _ _ _ cs fr _ G X g1 g2 g3 g4 g5 g6 g7 g8 g9 g10 g11 g12 =>
      have hrl:(xs.getD a' []).length=C.P.cellsOf e:=g7 a' _ (by rw [gDg,gEg hlt]; rfl)
      have hle:o'+a'*C.P.cellsOf e+j+i.size≤cs.size:=by
       have:(a'+1)*C.P.cellsOf e≤cap*C.P.cellsOf e:=Nat.mul_le_mul_right _ (by omega)
       rw [Nat.add_mul] at this; omega
      have hrun:=run_storeAt hi (w:=C.w) (o:=o'+a'*C.P.cellsOf e+j) (v:=C.a.eval x) g1 (fun o ho=>g3 o (by omega)) hsz (by
       intro y hy
       obtain ⟨k,hk,rfl⟩:=List.mem_iff_getElem.1 hy
       have hk':k<d.leaves1.length:=by rw [c3,←hsz]; simpa using hk
       obtain ⟨_,_,h,_⟩:=hx.2 k d.leaves1[k] (gEg hk')
       rw [←arr_list_getD,getD_some (gEg hk)] at h
       exact h) hle
      obtain ⟨cs',x1,x2⟩:=setCells_wrt b e fr (C.a.eval x).cells.toList (o'+a'*C.P.cellsOf e+j) C.w cs g1 (by simp [hsz]; omega)
      obtain ⟨tl,_,_⟩:=toTs_get _ _ _ hts
      have hupd:=hown.upd hfl (a:=a') (j:=j) (ts:=ts) (vs:=(C.a.eval x).cells.toList) hlt (by omega) (by rw [tl,c3]; simp [hsz]) (by
       intro k y hy
       have hk:k<d.leaves1.length:=by rw [c3,←hsz]; simpa using (gSm hy).1
       obtain ⟨y',e1,e2⟩:=toTs_zero _ _ _ hts k _ (gEg hk)
       obtain ⟨_,_,_,h4⟩:=hx.2 k d.leaves1[k] (gEg hk)
       have h4:=h4 ⟨false,0,0⟩
       rw [e1,←arr_list_getD,getD_some hy] at h4
       cases h4 with | v _ hs=>exact ⟨e2,hs⟩) hcvp x1 (by
       intro k
       rw [x2 k])
      have R2:=R.row hl (by simp) (g12 hfl) x1 g2 hupd
      refine wp_skip' (w':=C.w.setCells b (o'+a'*C.P.cellsOf e+j) (C.a.eval x).cells.toList) hd ?_ (hn _ R2 rfl (fun _ _=>rfl) h)
      simp only [execOp,ho,ha,bind_pure_comp,Sem.run_map,hrun,Result.andThen_ok]
     ·exact h.elim
  ·exact h.elim
end ops
theorem flat_cells {P:Program} {w:World} {S:Nat→Prop} {e:TypeId} {ys:List (List T)} {x:Value} (h:RdT P w S (.sl e ys) x) (hfl:flatP P e=true) (hsz:0<P.cellsOf e) (he:e≠mapE) :
  ∃ (base:Option Addr) (cap:Nat) (news:List Value),x = .slice base ys.length cap∧news.length=ys.length*P.cellsOf e∧(base=none→ys=[])∧(∀ a,base=some a→∀ (j:Nat) (u:Value),news[j]? = some u→w.cell? (a.add j)=some u)∧(∀ u∈news,one u=true) ∧
   (∀ i k t,T.get? ys i k=some t→∃ v,news[i*P.cellsOf e+k]? = some v∧t = .v v∧scal v=true)∧(∀ (i:Nat) (r:List T),ys[i]? = some r→r.length=P.cellsOf e):=by
 cases h with
 | mp=>exact absurd rfl he
 | emp _ base cap hc=>exact ⟨base,cap,[],rfl,by simp,fun _=>rfl,fun a _ j u h=>by simp at h,fun u h=>(by simp at h),fun i k t h=>by simp [T.get?] at h,fun i r h=>by simp at h⟩
 | row _ _ b o cap cs ce fr X g1 g2 g5 g6 g7 g10 g11 g12 =>
  have hget:∀ m,m<ys.length*P.cellsOf e→∃ t,T.get? ys (m / P.cellsOf e) (m % P.cellsOf e)=some t:=by
   intro m hm
   have h1:m / P.cellsOf e<ys.length:=(Nat.div_lt_iff_lt_mul hsz).2 hm
   have h2:m % P.cellsOf e<P.cellsOf e:=Nat.mod_lt _ hsz
   have h3:=g7 _ _ (gEg h1)
   unfold T.get?
   rw [gEg h1]
   exact ⟨_,gEg (by rw [h3]; exact h2)⟩
  have hscal:∀ i k t,T.get? ys i k=some t→t = .v (X i k)∧scal (X i k)=true:=by
   intro i k t ht
   have h1:=g11 i k t ht
   have h2:=g12 hfl i k t ht
   generalize X i k=xv at h1
   cases t with
   | v y=>cases h1 with | v _ hs=>exact ⟨rfl,hs⟩
   | sl=>simp [T.isV] at h2
  refine ⟨_,cap,(List.range (ys.length*P.cellsOf e)).map fun m=>X (m / P.cellsOf e) (m % P.cellsOf e),rfl,by simp,fun h=>(by cases h),?_,?_,?_,g7⟩
  ·intro a ha j u hj
   injection ha with ha; subst ha
   rw [List.getElem?_map] at hj
   have hj':j<ys.length*P.cellsOf e:=by
    by_cases hlt:j<ys.length*P.cellsOf e
    ·exact hlt
    ·rw [List.getElem?_eq_none (by simpa using hlt)] at hj; simp at hj
   rw [List.getElem?_range hj'] at hj
   simp only [Option.map_some,Option.some.injEq] at hj
   obtain ⟨t,ht⟩:=hget j hj'
   have:=g10 _ _ _ ht
   rw [add_plain,cell_of g1,←hj,←this]
   congr 1
   rw [Nat.add_assoc,Nat.mul_comm,Nat.div_add_mod]
  ·intro u hu
   obtain ⟨m,hm,rfl⟩:=List.mem_map.1 hu
   obtain ⟨t,ht⟩:=hget m (by simpa using hm)
   exact scal_one (hscal _ _ _ ht).2
  ·intro i k t ht
   obtain ⟨h1,h2⟩:=hscal i k t ht
   have hi:i<ys.length∧k<P.cellsOf e:=by
    unfold T.get? at ht
    cases hx:ys[i]? with
    | none=>rw [hx] at ht; simp at ht
    | some r =>
     rw [hx] at ht
     have:=(gSm (by simpa using ht:r[k]? = some t)).1
     exact ⟨(gSm hx).1,by rw [←g7 i r hx]; exact this⟩
   have hm:i*P.cellsOf e+k<ys.length*P.cellsOf e:=by
    have:(i+1)*P.cellsOf e≤ys.length*P.cellsOf e:=Nat.mul_le_mul_right _ hi.1
    rw [Nat.add_mul] at this; omega
   refine ⟨X i k,?_,h1,h2⟩
   rw [List.getElem?_map,List.getElem?_range hm]
   simp only [Option.map_some,Option.some.injEq]
   congr 1
   ·rw [Nat.mul_comm,Nat.mul_add_div hsz,Nat.div_eq_of_lt hi.2,Nat.add_zero]
   ·rw [Nat.mul_comm,Nat.mul_add_mod,Nat.mod_eq_of_lt hi.2]
theorem get?_append {xs ys:List (List T)} {i k:Nat}:T.get? (xs++ys) i k=if i<xs.length then T.get? xs i k else T.get? ys (i-xs.length) k:=by
 unfold T.get?
 split
 ·rename_i h; rw [List.getElem?_append_left h]
 ·rename_i h; rw [List.getElem?_append_right (by omega)]
structure SrcT (P:Program) (w:World) (tx e:TypeId) (x:Value) (ys:List (List T)) (news:List Value):Prop where
 src:Src P (P.cellsOf e) tx x ys.length news w
 one:∀ u∈news,Fw.one u=true
 get:∀ i k t,T.get? ys i k=some t→∃ v,news[i*P.cellsOf e+k]? = some v∧t = .v v∧scal v=true
 len:∀ (i:Nat) (r:List T),ys[i]? = some r→r.length=P.cellsOf e
theorem srcR_wp {w0:World} {L:Nat→Nat→Prop} {C:Ctx} (R:Rel w0 L C) {tb:Tab} (hT:TabOk C.P tb) {α:Type} {tx e:TypeId} {i:TI} (hi:TIok C.P e i) (hfl:flatP C.P e=true) (hpos:0<i.size) {d:D} {v:Value} (hv:d.isTup=false→VRel C d v)
  {k:List (List T)→Rdr α} {Q:α→Prop} (h:(srcR tb tx e i.size d k).wp C.E Q):∃ ys news,(k ys).wp C.E Q∧SrcT C.P C.w tx e v ys news:=by
 have hsz:=hi.cellsOf
 unfold srcR at h
 split at h
 ·rename_i b hk
  have hu:=hT.kd_str hk
  obtain ⟨ex,_⟩:=(hv rfl).v_inv
  subst ex
  split at h
  ·rename_i h1
   have h1:i.size=1:=by simpa using h1
   rw [h1] at hsz
   refine ⟨_,byteCells b,h,?_,?_,?_,?_⟩
   ·rw [hsz,bytesRows_length,toL_length]; exact Src.ofString C.w hu b
   ·intro u hu
    obtain ⟨_,_,rfl⟩:=List.mem_map.1 hu
    rfl
   ·intro i' k' t ht
    obtain ⟨y,h1,rfl,rfl⟩:=bytesRows_get ht
    refine ⟨_,?_,rfl,rfl⟩
    rw [hsz,Nat.mul_one,Nat.add_zero]
    unfold byteCells
    rw [List.getElem?_map]
    have:b.data.toList[i']? = some y:=h1
    rw [this]; rfl
   ·intro i' r hr
    unfold bytesRows at hr
    rw [List.getElem?_map] at hr
    cases hx:(toL b)[i']? with
    | none=>rw [hx] at hr; simp at hr
    | some y=>rw [hx] at hr; simp at hr; rw [←hr,hsz]; rfl
  ·exact h.elim
 ·rename_i e' hk
  have hu:=hT.kd_slice hk
  have ex:=(hv rfl).nil_inv
  subst ex
  exact ⟨[],[],h,Src.ofNil C.w hu 0,fun u h=>by simp at h,fun i k t h=>by simp [T.get?] at h,fun i r h=>by simp at h⟩
 ·rename_i e' hk _
  have hu:=hT.kd_slice hk
  replace h:=rowsR_wp R (hv (rowsR_notTup h)) h
  obtain ⟨e2,ys,h,hr⟩:=h
  obtain ⟨rfl,h⟩:=h
  obtain ⟨base,cap,news,a1,a2,a3,a4,a5,a6,a7⟩:=flat_cells hr hfl (by omega) (by first | exact hi.ne | exact hT.kd_ne (by assumption))
  subst a1
  refine ⟨ys,news,h,?_,a5,a6,a7⟩
  cases base with
  | none =>
   have:=a3 rfl
   subst this
   have:news=[]:=List.eq_nil_of_length_eq_zero (by simpa using a2)
   subst this
   exact ⟨.inl ⟨_,hu⟩,fun _=>rfl,run_firstCells_none C.w _ _ _ _,run_firstCells_none C.w.drew _ _ _ _,by simp,fun _ h=>by cases h⟩
  | some a=>exact Src.ofSlice C.w hu a ys.length cap news a2 (a4 a rfl) (fun u hu=>one_oneCell (a5 u hu))
 ·exact h.elim
theorem append_core {P:Program} {w:World} {t tx ty e:TypeId} {i:TI} (hu:P.underlying t=some (.slice e)) (hi:TIok P e i) (hfl:flatP P e=true) (hpos:0<i.size) (hby:0<i.bytes) {xs ys:List (List T)} {v x:Value} {F:Nat→Prop}
  (ho:OwnT P w (.sl e xs) v F) {news:List Value} (hs:SrcT P w tx e x ys news) (hroom:(xs.length+ys.length)*i.bytes≤140737488355328) :
  (∃ v',(Builtin.append_ #[t,tx] ty #[v,x]).run P w = .ok v' w∧OwnT P w (.sl e (xs++ys)) v' F) ∨
  (∃ v' w' b cs fr cs',(Builtin.append_ #[t,tx] ty #[v,x]).run P w = .ok v' w'∧F b∧Wrt w w' b cs e fr cs'∧OwnT P w' (.sl e (xs++ys)) v' F) ∨
  (∃ v' w',(Builtin.append_ #[t,tx] ty #[v,x]).run P w = .ok v' w'∧Ext w w'∧w'.heap.size=w.heap.size+1∧OwnT P w' (.sl e (xs++ys)) v' (fun b=>b=w.heap.size)):=by
 obtain ⟨j,z,i1,i2,i3,i4,i5,i6,i7⟩:=hi.info
 have hsz:=hi.cellsOf
 have hcs:j.size=P.cellsOf e:=by rw [i2,hsz]
 have hlt:xs.length+ys.length≤140737488355328:=by
  have:(xs.length+ys.length)*1≤(xs.length+ys.length)*i.bytes:=Nat.mul_le_mul_left _ hby
  omega
 have hrd:=ho.rd (S:=fun _=>True) (fun _ _=>trivial)
 obtain ⟨base,cap,olds,b1,b2,b3,b4,b5,b6,b7⟩:=flat_cells hrd hfl (by omega) hi.ne
 have hsrc:=hs.src
 rw [←hcs] at hsrc
 subst b1
 have hnl:news.length=ys.length*P.cellsOf e:=hs.src.newsLen
 have hlen2:(xs++ys).length=xs.length+ys.length:=List.length_append
 have hget:∀ i k t,T.get? (xs++ys) i k=some t→∃ v,(olds++news)[i*P.cellsOf e+k]? = some v∧t = .v v∧scal v=true:=by
  intro i k t ht
  rw [get?_append] at ht
  split at ht
  ·rename_i hlt
   obtain ⟨v,h1,h2⟩:=b6 i k t ht
   refine ⟨v,?_,h2⟩
   rw [List.getElem?_append_left (gSm h1).1]; exact h1
  ·rename_i hge
   obtain ⟨v,h1,h2⟩:=hs.get _ k t ht
   refine ⟨v,?_,h2⟩
   have e1:i*P.cellsOf e+k=olds.length+((i-xs.length)*P.cellsOf e+k):=by
    rw [b2]
    have:i=xs.length+(i-xs.length):=by omega
    rw [this,Nat.add_mul]
    simp; omega
   rw [e1,List.getElem?_append_right (by omega),Nat.add_sub_cancel_left]; exact h1
 have hrow:∀ (i:Nat) (r:List T),(xs++ys)[i]? = some r→r.length=P.cellsOf e:=by
  intro i r hr
  by_cases h:i<xs.length
  ·rw [List.getElem?_append_left h] at hr; exact b7 i r hr
  ·rw [List.getElem?_append_right (by omega)] at hr; exact hs.len _ r hr
 have hflat:flatP P e=true→∀ i j t,T.get? (xs++ys) i j=some t→t.isV=true:=by
  intro _ i k t ht
  obtain ⟨v,_,rfl,_⟩:=hget i k t ht
  rfl
 by_cases hroom2:xs.length+ys.length≤cap
 ·cases ho with
  | emp =>
   have:ys=[]:=List.eq_nil_of_length_eq_zero (by simp at hroom2; exact List.length_eq_zero_iff.2 hroom2)
   subst this
   have hn:news=[]:=List.eq_nil_of_length_eq_zero (by simpa using hnl)
   subst hn
   exact .inl ⟨_,run_append_nothing w t tx ty e j hu i1 none 0 0 (Nat.le_refl _) x hsrc,.emp e F⟩
  | row _ _ b o _ cs fr _ G X g1 g2 g3 g4 g5 g6 g7 g8 g9 g10 g11 g12 =>
   have hle:o+xs.length*P.cellsOf e+news.length≤cs.size:=by
    have:(xs.length+ys.length)*P.cellsOf e≤cap*P.cellsOf e:=Nat.mul_le_mul_right _ hroom2
    rw [Nat.add_mul] at this; omega
   have hrun:=run_append_room_src (P:=P) w t tx ty e j hu i1 b o xs.length cap x ys.length news hsrc hroom2 (by
    intro k hk
    rw [cell_of g1,hcs,Array.getElem?_eq_getElem (by omega)]; rfl) (by
    intro k hk
    have:=g3 (o+xs.length*P.cellsOf e+k) (by omega)
    rw [hcs]
    simp [World.frozen?,g1]
    omega)
   rw [hcs] at hrun
   obtain ⟨cs',x1,x2⟩:=setCells_wrt b e fr news (o+xs.length*P.cellsOf e) w cs g1 hle
   refine .inr (.inl ⟨_,_,b,cs,fr,cs',hrun,g2,x1,?_⟩)
   rw [←hlen2]
   refine (OwnT.simple (b:=b) (o:=o) x1.new (by rw [x1.sz]; exact g3) (by rw [x1.sz]; exact g4) (by omega) g6 hrow ?_ hflat).mono (fun b' hb=>by rw [hb]; exact g2) (fun _ _ _=>rfl)
   intro i' k t ht
   obtain ⟨v,h1,h2⟩:=hget i' k t ht
   refine ⟨v,?_,.inl h2⟩
   rw [x2]
   by_cases hlo:i'*P.cellsOf e+k<olds.length
   ·rw [List.getElem?_append_left hlo] at h1
    rw [if_neg (by omega)]
    have:=b4 _ rfl _ _ h1
    rw [add_plain,cell_of g1] at this
    rw [Nat.add_assoc]; exact this
   ·rw [List.getElem?_append_right (by omega)] at h1
    have hk:=(gSm h1).1
    rw [if_pos (by omega)]
    rw [←h1]; congr 1; omega
 ·have hfit:=growslice_fits (need:=xs.length+ys.length) (old:=cap) (bytes:=j.bytes) (by omega) (by rw [i3]; exact hroom)
  have hold:(Builtin.firstCells j.size xs.length (.slice base xs.length cap)).run P w.drew = .ok olds.toArray w.drew:=by
   cases base with
   | none =>
    have h1:=b3 rfl
    have:olds=[]:=List.eq_nil_of_length_eq_zero (by rw [b2,h1]; simp)
    rw [this]; exact run_firstCells_none _ _ _ _ _
   | some a=>rw [hcs]; exact run_firstCells_some w.drew (P.cellsOf e) xs.length a xs.length cap olds b2 (fun j u hj=>by simpa using b4 a rfl j u hj)
  have hrun:=run_append_grow_src (P:=P) w t tx ty e j z hu i1 i4 base xs.length cap olds hold x ys.length news hsrc (by omega) (by omega) hfit
  have hcap:xs.length+ys.length≤grownCap w (xs.length+ys.length) cap e∧grownCap w (xs.length+ys.length) cap e≤9223372036854775807:=by
   unfold grownCap Question.cut
   simp only
   have:w.tape w.drawn (.appendCap (xs.length+ys.length) cap e) % (2 ^ 63-(xs.length+ys.length))<2 ^ 63-(xs.length+ys.length):=Nat.mod_lt _ (by omega)
   omega
  generalize grownCap w (xs.length+ys.length) cap e=nc at hrun hcap
  refine .inr (.inr ⟨_,_,hrun,Ext.drewAlloc _ _,by rw [size_alloc]; rfl,?_⟩)
  rw [←hlen2]
  refine OwnT.simple (heap_new w.drew _) (fun o' _ h=>by simp at h) ?_ (by omega) hcap.2 hrow ?_ hflat
  ·have hz:(Builtin.zeroCells z.cells (nc-(xs.length+ys.length))).size=(nc-(xs.length+ys.length))*P.cellsOf e:=by
    simp [Builtin.zeroCells,i5,hsz]
   simp only [Array.size_append,List.size_toArray,List.length_append,b2,hnl,hz,Nat.zero_add]
   rw [←Nat.add_mul,←Nat.add_mul]
   have:xs.length+ys.length+(nc-(xs.length+ys.length))=nc:=by omega
   rw [this]; exact Nat.le_refl _
  ·intro i' k t ht
   obtain ⟨v,h1,h2⟩:=hget i' k t ht
   refine ⟨v,?_,.inl h2⟩
   rw [Nat.zero_add,Array.getElem?_append_left (by simpa using (gSm h1).1)]
   simpa using h1
theorem Rel.wrf {w0:World} {L:Nat→Nat→Prop} {C:Ctx} (R:Rel w0 L C) {q:Lf} {b:Nat} (hb:C.F q b) (hdead:∀ e xs,C.E.leaf q ≠ .own e xs)
  {w':World} {cs:Array Value} {ce:TypeId} {fr:Nat × Nat} {cs':Array Value} (x:Wrt C.w w' b cs ce fr cs'):Rel w0 L { C with w:=w' }:=by
 have hblk:∀ t ds,C.live t ds→(C.loc t).1≠b:=fun t ds hl h=>R.fcd t ds q hl (h▸hb)
 have hoth:∀ p e xs b',C.E.leaf p = .own e xs→C.F p b'→b'≠b:=by
  rintro p e xs b' hp hb' rfl
  have:=R.disj _ _ _ hb' hb
  subst this
  exact hdead _ _ hp
 have hcv:∀ p,C.E.leaf p ≠ .dead→Ctx.cv { C with w:=w' } p=C.cv p:=by
  rintro ⟨c,t,k⟩ hn
  cases c with
  | false=>rfl
  | true =>
   obtain ⟨ds,hl⟩:=Rel.liveOf (w0:=w0) (L:=L) hn
   show (w'.cell? _).getD undef=(C.w.cell? _).getD undef
   simp only [World.cell?,x.kept _ (hblk t ds hl)]
 have s:Same C { C with w:=w' } (fun q=>q) (fun _=>False) (fun _=>False):=by
  refine ⟨rfl,fun b' hb' hlb=>⟨hb',x.kept b' (by rintro rfl; exact hb' (.inl ⟨q,hb⟩))⟩,?_,fun t ds _ hl=>⟨ds,hl,rfl,rfl⟩,fun _ h=>h⟩
  intro p e xs _ hp
  refine ⟨xs,hp,rfl,hcv p (by rw [hp]; simp),fun i j e' ys hg=>⟨hg,fun b' o n cap v hc hv => ?_⟩⟩
  have ho:=R.ownLeaf hp
  rw [hc] at ho
  cases ho with
  | row _ _ _ _ _ csr frr F G X g1 g2 =>
   have hb2:=hoth p e xs b' hp g2
   simp only [World.cell?,x.kept b' hb2] at hv ⊢
   exact hv
 have go1:∀ p d v,C.E.leaf p=d→LRel C p d v→LRel { C with w:=w' } p d v:=by
  intro p d v hp hv
  by_cases ho:d.isOwn=true
  ·cases d<;>simp [D.isOwn] at ho
   cases hv with
   | own _ _ _ h=>exact .own _ _ _ _ (h.mono (fun _ h=>h) (fun b' hb' _=>x.kept b' (hoth p _ _ b' hp hb')))
  ·have:=LRel.same s hv p (by simpa using ho) ⟨fun q h=>by simp,fun t ht=>by simp⟩
   rwa [D.re_id] at this
 refine ⟨R.tmps,R.defers,?_,?_,R.disj,R.cdisj,R.fcd,fun p b hp => ?_,R.flent,R.clent,R.frame.wrt x fun j _ hlt=>R.flent q b hb hlt j,R.mnew,R.mL,R.glob⟩
 ·intro t d hd
  have hs:=R.slot t d hd
  exact hs.tr' fun k y v hy hv=>go1 _ _ _ (hs.at hd k y hy) hv
 ·intro t ds hl
  obtain ⟨c1,e1,f1,a1,a2,a3,a4⟩:=(R.cell t ds hl).out
  refine ⟨c1,e1,f1,(x.kept _ (hblk t ds hl)).trans a1,a2,a3,?_⟩
  intro i d hd
  obtain ⟨b1,b2,b3⟩:=a4 i d hd
  exact ⟨b1,b2,go1 _ _ _ (by rw [leaf_cell _ _ _ _ hl]; exact getD_some hd) b3⟩
 ·show b<w'.heap.size
  rw [x.size]; exact R.fbound p b hp
theorem Rel.put2 {w0:World} {L:Nat→Nat→Prop} {C:Ctx} (R:Rel w0 L C) {q:Lf} (hdead:∀ e xs,C.E.leaf q ≠ .own e xs) {t:Nat} (hno:(C.E.sl.getD t .dead).anyOwn=false) {e:TypeId} {zs:List (List T)} {v:Value}
  (ho:OwnT C.P C.w (.sl e zs) v (C.F q)):∃ F',Rel w0 L { C with E:={ C.E with sl:=C.E.sl.set t (.own e zs) },a:=C.a.put (some t) v,F:=F' }:=by
 have hnt:=notOwn_inS hno
 have R1:Rel w0 L { C with F:=fun p=>if p=⟨false,t,0⟩ then C.F q else if p=q then fun _=>False else C.F p }:=by
  refine R.reF _ ?_ ?_ ?_
  ·intro p e xs hp
   have h1:p≠⟨false,t,0⟩:=by rintro rfl; exact hnt _ _ _ hp ⟨rfl,rfl⟩
   have h2:p≠q:=by rintro rfl; exact hdead _ _ hp
   rw [if_neg h1,if_neg h2]
  ·intro p b hp
   split at hp
   ·exact ⟨_,hp⟩
   ·split at hp
    ·exact hp.elim
    ·exact ⟨_,hp⟩
  ·intro p p' b h1 h2
   by_cases a1:p=⟨false,t,0⟩
   ·by_cases a2:p'=⟨false,t,0⟩
    ·rw [a1,a2]
    ·rw [if_pos a1] at h1; rw [if_neg a2] at h2
     by_cases a3:p'=q
     ·rw [if_pos a3] at h2; exact h2.elim
     ·rw [if_neg a3] at h2; exact absurd (R.disj _ _ b h1 h2).symm a3
   ·rw [if_neg a1] at h1
    by_cases a3:p=q
    ·rw [if_pos a3] at h1; exact h1.elim
    ·rw [if_neg a3] at h1
     by_cases a2:p'=⟨false,t,0⟩
     ·rw [if_pos a2] at h2; exact absurd (R.disj _ _ b h1 h2) a3
     ·rw [if_neg a2] at h2
      by_cases a4:p'=q
      ·rw [if_pos a4] at h2; exact h2.elim
      ·rw [if_neg a4] at h2; exact R.disj _ _ b h1 h2
 refine ⟨_,R1.put1 t (.own e zs) v hno (.comp _ _ rfl (.leaf _ _ _ rfl ?_ (.own _ _ _ _ ?_)))⟩
 ·cases ho<;>rfl
 ·show OwnT C.P C.w (.sl e zs) v (if (⟨false,t,0⟩:Lf)=⟨false,t,0⟩ then C.F q else _)
  rw [if_pos rfl]; exact ho
theorem killP_dead {w0:World} {L:Nat→Nat→Prop} {C:Ctx} (R:Rel w0 L C) (p:Lf):(C.E.killP p).leaf p = .dead:=by
 unfold Env.killP Env.kill
 rw [mapP_leaf R _ (by
  intro r d h
  split
  ·rfl
  ·exact killB_leafy _ d h)]
 cases C.E.leaf p<;>simp [lf1]
section ops
variable {w0:World} {L:Nat→Nat→Prop} {C:Ctx} (R:Rel w0 L C)
variable {np:Nat} {K:Env→Prop} {next:Act→World→Prop} (hn:Nxt w0 L np C K next) {Q:Exit→Act→World→Prop} {o:Oper}
include R hn
theorem snd_fin {r:Nat} {p:Lf} {e:TypeId} {xs zs:List (List T)} {v:Value} (hd:o.dst=some r) {e0:TypeId} {xs0:List (List T)} (hp:C.E.leaf p = .own e0 xs0) (ho:OwnT C.P C.w (.sl e xs) v (C.F p))
  (hK:K (opAppend.fin C.E r p e zs))
  (h:(∃ v',(execOp C.a.eval o).run C.P C.w = .ok (.value v') C.w∧OwnT C.P C.w (.sl e zs) v' (C.F p)) ∨
   (∃ v' w' b cs fr cs',(execOp C.a.eval o).run C.P C.w = .ok (.value v') w'∧C.F p b∧Wrt C.w w' b cs e fr cs'∧OwnT C.P w' (.sl e zs) v' (C.F p)) ∨
   (∃ v' w',(execOp C.a.eval o).run C.P C.w = .ok (.value v') w'∧Ext C.w w'∧w'.heap.size=C.w.heap.size+1∧OwnT C.P w' (.sl e zs) v' (fun b=>b=C.w.heap.size))):o.wp C.P C.a C.w next Q:=by
 have R1:Rel w0 L { C with E:=C.E.killP p }:=R.kill _
 have hd1:(C.E.killP p).leaf p = .dead:=killP_dead R p
 generalize hE1:C.E.killP p=E1 at R1 hd1
 have hfin:opAppend.fin C.E r p e zs={ (if (E1.sl.getD r .dead).anyOwn then E1.killS r else E1) with sl:=(if (E1.sl.getD r .dead).anyOwn then E1.killS r else E1).sl.set r (.own e zs) }:=by
  unfold opAppend.fin; rw [hE1]
 have key:Rel w0 L { C with E:=(if (E1.sl.getD r .dead).anyOwn then E1.killS r else E1) }∧((if (E1.sl.getD r .dead).anyOwn then E1.killS r else E1).sl.getD r .dead).anyOwn=false∧∀ e xs,(if (E1.sl.getD r .dead).anyOwn then E1.killS r else E1).leaf p ≠ .own e xs:=by
  by_cases hb:(E1.sl.getD r .dead).anyOwn=true
  ·rw [if_pos hb]
   refine ⟨R1.kill (fun p => !p.c&&p.t==r),killS_anyOwn E1 r,fun e xs h => ?_⟩
   unfold Env.killS Env.kill at h
   rw [mapP_leaf R1 _ (by
    intro r d h
    split
    ·rfl
    ·exact killB_leafy _ d h)] at h
   have h2:lf1 (fun p d=>if (!p.c&&p.t==r) then D.dead else killB (fun p => !p.c&&p.t==r) d) p (E1.leaf p) = .own e xs:=h
   rw [hd1] at h2; cases h2
  ·rw [if_neg hb]
   exact ⟨R1,by simpa using hb,fun e xs h=>by rw [hd1] at h; cases h⟩
 rw [hfin] at hK
 generalize (if (E1.sl.getD r .dead).anyOwn then E1.killS r else E1)=E2 at key hK
 obtain ⟨R2,hno,hdead⟩:=key
 rcases h with ⟨v',h1,h2⟩ | ⟨v',w',b,cs,fr,cs',h1,hb,x,h2⟩ | ⟨v',w',h1,x,hs,h2⟩
 ·obtain ⟨F',R3⟩:=R2.put2 (q:=p) hdead (t:=r) hno h2
  refine wp_value h1 ?_
  rw [hd]; exact hn _ R3 rfl (fun _ _=>rfl) hK
 ·have R3:=R2.wrf (q:=p) hb hdead x
  obtain ⟨F',R4⟩:=R3.put2 (q:=p) hdead (t:=r) hno h2
  refine wp_value h1 ?_
  rw [hd]; exact hn _ R4 rfl (fun _ _=>rfl) hK
 ·obtain ⟨F',R3⟩:=R2.wr1 x r e zs v' (fun b=>b=C.w.heap.size) (by rintro b rfl; rw [hs]; exact ⟨Nat.le_refl _,Nat.lt_succ_self _⟩) h2
  rw [if_neg (by rw [hno]; simp)] at R3
  refine wp_value h1 ?_
  rw [hd]; exact hn _ R3 rfl (fun _ _=>rfl) hK
theorem snd_append {tb:Tab} (hT:TabOk C.P tb) {t tx:TypeId} {s x:Operand} (hx:∀ v,(Builtin.append_ #[t,tx] o.type #[C.a.eval s,C.a.eval x]).run C.P C.w=v→(execOp C.a.eval o).run C.P C.w=v.andThen fun n w => .ok (.value n) w)
  (h:(opAppend tb o.dst t tx s x).wp C.E (Done C.P K C.E)):o.wp C.P C.a C.w next Q:=by
 unfold opAppend at h
 split at h
 ·rename_i e r hk hd
  have hu:=hT.kd_slice hk
  cases ht:tb e with
  | none=>rw [ht] at h; exact h.elim
  | some i =>
   rw [ht] at h
   have hi:=hT e i ht
   simp only at h
   split at h
   ·rename_i hc
    simp only [Bool.and_eq_true,decide_eq_true_eq] at hc
    obtain ⟨⟨c1,c2⟩,c3⟩:=hc
    have hfl:flatP C.P e=true:=by rw [←hi.flat]; exact c1
    replace h:=opdR_wp R h
    obtain ⟨d,h,hv⟩:=h
    replace h:=opdR_wp R h
    obtain ⟨y,h,hvy⟩:=h
    replace h:=srcR_wp R hT hi hfl c2 hvy h
    obtain ⟨ys,news,h,hs⟩:=h
    split at h
    ·obtain ⟨hr,h⟩:=h
     have ex:=(hv rfl).nil_inv
     have hown:OwnT C.P C.w (.sl e []) (C.a.eval s) (fun _=>False):=by rw [ex]; exact .emp e _
     rcases append_core (tx:=tx) (ty:=o.type) hu hi hfl c2 c3 hown hs (by simpa using hr) with ⟨v',h1,h2⟩ | ⟨v',w',b,cs,fr,cs',h1,hb,_⟩ | ⟨v',w',h1,x1,hsz,h2⟩
     ·exact wp_value (hx _ h1) (wrS_own R hn (.refl _) h (G:=fun _=>False) (fun b hb=>hb.elim) (by simpa using h2))
     ·exact hb.elim
     ·exact wp_value (hx _ h1) (wrS_own R hn x1 h (G:=fun b=>b=C.w.heap.size) (by rintro b rfl; rw [hsz]; exact ⟨Nat.le_refl _,Nat.lt_succ_self _⟩) (by simpa using h2))
    ·rename_i p
     obtain ⟨ex,e',xs,hl⟩:=(hv rfl).ali_inv
     rw [leafR_wp,hl] at h
     obtain ⟨⟨hr,rfl⟩,h⟩:=h
     simp only [Rdr.wp,Done,Env.app,Env.app1] at h
     have hown:=R.ownLeaf hl
     rw [←ex] at hown
     refine snd_fin R hn hd hl hown h ?_
     rcases append_core (tx:=tx) (ty:=o.type) hu hi hfl c2 c3 hown hs hr with ⟨v',h1,h2⟩ | ⟨v',w',b,cs,fr,cs',h1,hb,x1,h2⟩ | ⟨v',w',h1,x1,hsz,h2⟩
     ·exact .inl ⟨v',hx _ h1,h2⟩
     ·exact .inr (.inl ⟨v',w',b,cs,fr,cs',hx _ h1,hb,x1,h2⟩)
     ·exact .inr (.inr ⟨v',w',hx _ h1,x1,hsz,h2⟩)
    ·rename_i p a b
     obtain ⟨e',xs,hl,g1,g2,hne,ex⟩:=(hv rfl).sub_inv
     rw [leafR_wp,hl] at h
     obtain ⟨⟨hr,rfl⟩,h⟩:=h
     simp only [Rdr.wp,Done,Env.app,Env.app1] at h
     have hown:=(R.ownLeaf hl).cut g1 g2 hne
     rw [←ex] at hown
     have hlen:((xs.drop a).take (b-a)).length=b-a:=by simp; omega
     refine snd_fin R hn hd hl hown h ?_
     rcases append_core (tx:=tx) (ty:=o.type) hu hi hfl c2 c3 hown hs (by rw [hlen]; exact hr) with ⟨v',h1,h2⟩ | ⟨v',w',b',cs,fr,cs',h1,hb,x1,h2⟩ | ⟨v',w',h1,x1,hsz,h2⟩
     ·exact .inl ⟨v',hx _ h1,h2⟩
     ·exact .inr (.inl ⟨v',w',b',cs,fr,cs',hx _ h1,hb,x1,h2⟩)
     ·exact .inr (.inr ⟨v',w',hx _ h1,x1,hsz,h2⟩)
    ·exact h.elim
   ·exact h.elim
 ·exact h.elim
end ops
def kept (cfg:Cfg) (dst:Option Tmp):Bool:=match dst with | some t=>cfg.keep t | none=>false
def dropL {α:Type} (f:Nat→Bool) (x:α):Nat→List α→List α
 | _,[]=>[]
 | k,d::ds=>(if f k then x else d)::dropL f x (k+1) ds
theorem dropL_length {α:Type} (f:Nat→Bool) (x:α):∀ (l:List α) (k:Nat),(dropL f x k l).length=l.length
 | [],_=>rfl
 | d::ds,k=>by simp [dropL,dropL_length f x ds]
theorem dropL_get {α:Type} (f:Nat→Bool) (x:α):∀ (l:List α) (k t:Nat),(dropL f x k l)[t]? = (l[t]?).map fun d=>if f (k+t) then x else d
 | [],k,t=>by simp [dropL]
 | d::ds,k,0=>by simp [dropL]
 | d::ds,k,t+1=>by
  simp only [dropL,List.getElem?_cons_succ]
  rw [dropL_get f x ds (k+1) t,show k+1+t=k+(t+1) by omega]
def dropSl (f:Nat→Bool) (l:List D):List D:=dropL f .dead 0 l
def dropCe (f:Nat→Bool) (l:List (Option (List D))):List (Option (List D)):=dropL f none 0 l
def fgB (f:Nat→Bool) (p:Lf) (d:D):D:=if f p.t then .dead else if d.crefs.any f then .dead else killB (fun q=>f q.t) d
def Env.forget (f:Nat→Bool) (E:Env):Env:=⟨dropSl f (E.mapP (fgB f)).sl,dropCe f (E.mapP (fgB f)).ce⟩
theorem dropSl_length (f:Nat→Bool) (l:List D):(dropSl f l).length=l.length:=dropL_length _ _ _ _
theorem dropSl_get {f:Nat→Bool} {t:Nat} {l:List D}:(f t=false→(dropSl f l)[t]? = l[t]?)∧(f t=true→∀ d,(dropSl f l)[t]? = some d→d = .dead):=by
 unfold dropSl
 rw [dropL_get,Nat.zero_add]
 refine ⟨fun h=>by simp [h],fun h d hd => ?_⟩
 cases hx:l[t]? <;> rw [hx] at hd<;>simp [h] at hd
 exact hd.symm
theorem dropCe_get {f:Nat→Bool} {t:Nat} {l:List (Option (List D))}:(f t=false→(dropCe f l)[t]? = l[t]?)∧(f t=true→∀ d,(dropCe f l)[t]? = some d→d=none):=by
 unfold dropCe
 rw [dropL_get,Nat.zero_add]
 refine ⟨fun h=>by simp [h],fun h d hd => ?_⟩
 cases hx:l[t]? <;> rw [hx] at hd<;>simp [h] at hd
 exact hd.symm
theorem Rel.fg {w0:World} {L:Nat→Nat→Prop} {C:Ctx} (R:Rel w0 L C) (f:Nat→Bool):Rel w0 L { C with E:=C.E.mapP (fgB f) }:=by
 have hg:∀ (p:Lf) (d:D),d.leafy=true→(fgB f p d).leafy=true:=by
  intro p d h
  unfold fgB
  split
  ·rfl
  ·split
   ·rfl
   ·exact killB_leafy _ d h
 have s:=Same.ofMap R (fgB f) C.F hg (fun p b h=>⟨p,h⟩) (fun q=>q) (fun q=>f q.t=true) (by
  intro q e xs hq hl
  rw [hl]
  simp [lf1,fgB,hq,killB,D.crefs])
 refine R.mapP _ C.F hg ?_ (fun p b h=>⟨p,h⟩) R.disj
 intro p d h1 h2 h3 hv
 unfold fgB
 split
 ·exact .dead _ _
 ·split
  ·exact .dead _ _
  ·rcases killB_cases (fun q=>f q.t) d with h | ⟨h,hq⟩
   ·simp only [h]; exact .dead _ _
   ·simp only [h]
    by_cases ho:d.isOwn=true
    ·cases d<;>simp [D.isOwn] at ho
     cases hv with
     | own _ _ _ h=>exact .own _ _ _ _ h
    ·have:=LRel.same s hv p (by simpa using ho) ⟨fun q h=>by have:=hq q h; simpa using this,fun t ht=>by simp⟩
     rwa [D.re_id] at this
theorem Rel.drop {w0:World} {L:Nat→Nat→Prop} {C:Ctx} (R:Rel w0 L C) (f:Nat→Bool) (H:∀ p e xs,C.E.leaf p = .own e xs→¬ f p.t=true) (Hc:∀ p t,t∈(C.E.leaf p).crefs→¬ f t=true):Rel w0 L { C with E:=⟨dropSl f C.E.sl,dropCe f C.E.ce⟩ }:=by
 have hlive:∀ t ds,({ C with E:=⟨dropSl f C.E.sl,dropCe f C.E.ce⟩ }:Ctx).live t ds→C.live t ds∧f t=false:=by
  intro t ds h
  have h:(dropCe f C.E.ce)[t]? = some (some ds):=h
  by_cases ht:f t=false
  ·rw [dropCe_get.1 ht] at h; exact ⟨h,ht⟩
  ·have:=dropCe_get.2 (by simpa using ht) _ h; cases this
 have hleaf:∀ q e xs,C.E.leaf q = .own e xs→(⟨dropSl f C.E.sl,dropCe f C.E.ce⟩:Env).leaf q=C.E.leaf q:=by
  rintro ⟨c,t,k⟩ e xs h
  have ht:f t=false:=by have:=H _ _ _ h; simpa using this
  cases c with
  | true =>
   show ((((dropCe f C.E.ce).getD t none).getD []).getD k .dead)=(((C.E.ce.getD t none).getD []).getD k .dead)
   rw [gDg (l:=dropCe f C.E.ce),gDg (l:=C.E.ce),dropCe_get.1 ht]
  | false =>
   show ((dropSl f C.E.sl).getD t .dead).leafOf k=(C.E.sl.getD t .dead).leafOf k
   rw [gDg,gDg,dropSl_get.1 ht]
 have s:Same C { C with E:=⟨dropSl f C.E.sl,dropCe f C.E.ce⟩ } (fun q=>q) (fun _=>False) (fun t=>f t=true):=by
  refine ⟨rfl,fun b hb _=>⟨?_,rfl⟩,fun q e xs _ hl=>⟨xs,(hleaf q e xs hl).trans hl,rfl,rfl,fun i j e' ys hg=>⟨hg,fun b o n cap v _ hv=>hv⟩⟩,fun t ds hb hl=>⟨ds,?_,rfl,rfl⟩,fun _ h=>h⟩
  ·rintro (⟨p,hp⟩ | ⟨t,ds,hl,e⟩)
   ·exact hb (.inl ⟨p,hp⟩)
   ·exact hb (.inr ⟨t,ds,(hlive t ds hl).1,e⟩)
  ·show (dropCe f C.E.ce)[t]? = _
   rw [dropCe_get.1 (by simpa using hb)]; exact hl
 have go1:∀ p d v,C.E.leaf p=d→LRel C p d v→LRel { C with E:=⟨dropSl f C.E.sl,dropCe f C.E.ce⟩ } p d v:=by
  intro p d v hpd hv
  by_cases ho:d.isOwn=true
  ·cases d<;>simp [D.isOwn] at ho
   cases hv with
   | own _ _ _ h=>exact .own _ _ _ _ h
  ·have:=LRel.same s hv p (by simpa using ho) ⟨fun q h=>by simp,fun t ht=>Hc p t (by rw [hpd]; exact ht)⟩
   rwa [D.re_id] at this
 refine ⟨by show C.a.tmps.size=(dropSl f C.E.sl).length; rw [dropSl_length]; exact R.tmps,R.defers,?_,?_,R.disj,?_,?_,R.fbound,R.flent,?_,R.frame,R.mnew,R.mL,R.glob⟩
 ·intro t d hd
  have hd:(dropSl f C.E.sl)[t]? = some d:=hd
  by_cases ht:f t=false
  ·rw [dropSl_get.1 ht] at hd
   have h0:=R.slot t d hd
   exact h0.tr' fun k x v hat hv=>go1 _ _ _ (h0.at hd k x hat) hv
  ·rw [dropSl_get.2 (by simpa using ht) d hd]
   exact .comp _ _ rfl (.dead _ _)
 ·intro t ds hl
  have hl0:=(hlive t ds hl).1
  obtain ⟨cs,e,fr,a1,a2,a3,a4⟩:=(R.cell t ds hl0).out
  refine ⟨cs,e,fr,a1,a2,a3,fun i d hd => ?_⟩
  obtain ⟨b1,b2,b3⟩:=a4 i d hd
  refine ⟨b1,b2,go1 _ _ _ ?_ b3⟩
  show ((C.E.ce.getD t none).getD []).getD i .dead=d
  rw [show C.E.ce.getD t none=some ds by rw [gDg,show C.E.ce[t]? = some (some ds) from hl0]; rfl]
  simp [gDg,hd]
 ·intro t ds t' ds' h1 h2 he
  exact R.cdisj t ds t' ds' (hlive _ _ h1).1 (hlive _ _ h2).1 he
 ·intro t ds p h1 hp
  exact R.fcd t ds p (hlive _ _ h1).1 hp
 ·intro t ds h1 hb i hi
  exact R.clent t ds (hlive _ _ h1).1 hb i hi
theorem killB_crefs (b:Lf→Bool) (d:D):∀ t,t∈(killB b d).crefs→t∈d.crefs:=by
 intro t ht
 cases d<;>simp only [killB] at ht<;>first | exact ht | (split at ht<;>first | exact ht | simp [D.crefs] at ht)
theorem Rel.forget {w0:World} {L:Nat→Nat→Prop} {C:Ctx} (R:Rel w0 L C) (f:Nat→Bool):Rel w0 L { C with E:=C.E.forget f }:=by
 have hg:∀ (p:Lf) (d:D),d.leafy=true→(fgB f p d).leafy=true:=by
  intro p d h
  unfold fgB
  split
  ·rfl
  ·split
   ·rfl
   ·exact killB_leafy _ d h
 refine (R.fg f).drop f ?_ ?_
 ·intro p e xs h hm
  have h:(C.E.mapP (fgB f)).leaf p = .own e xs:=h
  rw [mapP_leaf R _ hg] at h
  cases hd:C.E.leaf p<;>rw [hd] at h<;>simp [lf1,fgB,hm] at h
 ·intro p t ht hm
  have ht:t∈((C.E.mapP (fgB f)).leaf p).crefs:=ht
  rw [mapP_leaf R _ hg] at ht
  have key:∀ d,t∈(fgB f p d).crefs→False:=by
   intro d h
   unfold fgB at h
   split at h
   ·simp [D.crefs] at h
   ·split at h
    ·simp [D.crefs] at h
    ·rename_i h1 h2
     have:=killB_crefs _ d t h
     exact h2 (List.any_eq_true.2 ⟨t,this,hm⟩)
  cases hd:C.E.leaf p<;>rw [hd] at ht<;>first | exact key _ ht | simp [lf1,D.crefs] at ht
def Wk (E E':Env):Prop:=E'=E∨EWk E E'∨(∃ f,E'=E.forget f)∨(∃ q,E.frz q=some E')∨∃ c t k n,swapLeaves c t k n E=some E'
theorem Rel.weak' {w0:World} {L:Nat→Nat→Prop} {C:Ctx} (R:Rel w0 L C) {E':Env} (h:Wk C.E E'):∃ F',Rel w0 L { C with E:=E',F:=F' }:=by
 rcases h with rfl | h | ⟨f,rfl⟩ | ⟨q,h⟩ | ⟨c,t,k,n,h⟩
 ·exact ⟨_,R⟩
 ·exact ⟨_,R.weak h⟩
 ·exact ⟨_,R.forget f⟩
 ·exact ⟨_,R.frz h⟩
 ·exact Rel.swapLeaves n k R h
inductive Wks:Env→Env→Prop
 | refl (E:Env):Wks E E
 | step {E E1 E2:Env}:Wk E E1→Wks E1 E2→Wks E E2
theorem Rel.weaks {w0:World} {L:Nat→Nat→Prop} {E E':Env} (h:Wks E E'):∀ {C:Ctx},C.E=E→Rel w0 L C→∃ F',Rel w0 L { C with E:=E',F:=F' }:=by
 induction h with
 | refl E=>intro C e R; subst e; exact ⟨_,R⟩
 | step h1 _ ih =>
  intro C e R
  subst e
  obtain ⟨F1,R1⟩:=R.weak' h1
  obtain ⟨F2,R2⟩:=ih (C:={ C with E:=_,F:=F1 }) rfl R1
  exact ⟨F2,R2⟩
def opG (cfg:Cfg) (ops:List Oper) (o:Oper):Rdr Stp :=
 if kept cfg o.dst then .fail else
 match o.guard with
 | none=>opR cfg o
 | some (j,want)=>match (ops[j]?).bind (·.dst) with
  | some t => .slot t fun
   | .v (.bool b)=>if b=want then opR cfg o else wrS o.dst (.tup [])
   | .tup []=>wrS o.dst (.tup [])
   | _ => .fail
  | none => .fail
def pOps (P:Program) (cfg:Cfg) (ops:List Oper):List Oper→Env→(Env→Prop)→Prop
 | [],E,K=>K E
 | o::os,E,K=>(opG cfg ops o).wp E (Done P (fun E'=>pOps P cfg ops os E' K) E)
def condR (c:Operand):Rdr Bool:=opdR c fun | .v (.bool b) => .ret b | _ => .fail
def Exit.blk (id:Nat) (Q:Go.Exit→Env→Prop):Go.Exit→Env→Prop
 | .exit id',E=>if id'=id then Q .normal E else Q (.exit id') E
 | e,E=>Q e E
def Exit.nx (K:Env→Prop) (Q:Go.Exit→Env→Prop):Go.Exit→Env→Prop
 | .normal,E=>K E
 | e,E=>Q e E
def Rdr.wpF {α:Type} (S:Nat→Bool) (E:Env):Rdr α→(α→Prop)→Prop
 | .ret a,Q=>Q a
 | .fail,_=>False
 | .slot t k,Q=>S t=true∧(k (E.sl.getD t .dead)).wpF S E Q
 | .cell t k,Q=>S t=true∧S (t+1000)=true∧(k (E.ce.getD t none)).wpF S E Q
 | .all k,Q=>False
 | .len k,Q=>(k E.ce.length).wpF S E Q
 | .chk p k,Q=>p∧k.wpF S E Q
 | .asm p k,Q=>p∧k.wpF S E Q
def numOf (o:Oper):Option Tmp:=match o.dst with | some t=>some t | none=>match o.op with | .store _ (.tmp t) _=>some t | _=>none
def updE (E:Env) (t:Nat) (d:D) (c:Option (Nat × List D)):Env:=⟨E.sl.set t d,match c with | none=>E.ce | some (u,ds)=>E.ce.set u (some ds)⟩
def LentF (S:Nat→Bool) (E:Env) (u:Nat) (ls:List D):Prop:=S u=true∧S (u+1000)=true∧S (u+2000)=false∧((E.ce.getD u none).map List.length)=some ls.length∧((E.ce.getD u none).getD []).all (fun d => !d.isOwn)=true
def OutF (P:Program) (S:Nat→Bool) (E:Env) (dst:Option Tmp) (Q:Nat→D→Option (Nat × List D)→Prop):Stp→Prop
 | .done [.s t d]=>dst=some t∧S t=true∧Q t d none
 | .done [.c u (some ds),.s t d]=>u=t∧dst=some t∧S t=true∧Q t d (some (t,ds))
 | .done [.c u (some ds)]=>dst=some u∧S u=true∧Q u (E.sl.getD u .dead) (some (u,ds))
 | .call f Ein k=>∃ Eout t d,Sem P f Ein Eout∧dst=some t∧S t=true∧(E.sl.getD t .dead).anyOwn=false∧((k Eout=some [.ca [] [] [],.rw t d]∧Q t d none)∨∃ u ls,k Eout=some [.fz [],.ca [] [] [(u,0,ls)],.rw t d]∧LentF S E u ls∧Q t d (some (u,ls)))
 | _=>False
def fbS (fb:List Nat) (t:Nat):Bool := !fb.contains t
def pHead (P:Program) (cfg:Cfg) (ops:List Oper):List (Oper × List Nat)→Env→(Env→Prop)→Prop
 | [],E,K=>K E
 | (o,fb)::os,E,K=>(opG cfg ops o).wpF (fbS fb) E (OutF P (fbS fb) E (numOf o) fun t d c=>pHead P cfg ops os (updE E t d c) K)
def befs (o:Oper):List Nat:=(o.after.toList.filter (Region.binds .any)).map (·.on)
def dstAt (ops:List Oper) (j:Nat):Option Tmp:=(ops[j]?).bind numOf
def drawOk (ops:List Oper) (n:Nat) (fs:List (List Nat)):Bool :=
 decide (n≤ops.length)&&decide (fs.length=n)&&fs.all (fun fb=>fb.all fun x=>decide (x<2000)) &&
 (List.range ops.length).all (fun i=>match ops[i]? with | some o=>(befs o).all fun j=>decide (j<i) | none=>true) &&
 (List.range n).all (fun i=>match ops[i]?,fs[i]? with
  | some o,some fb=>(List.range n).all fun j=>decide (j=i) || (befs o).contains j || (match dstAt ops j with | some t=>fb.contains t | none=>false)
  | _,_=>false) &&
 (decide (n=ops.length) || (List.range n).all fun h=>(List.range (n+1)).any fun j=>match ops[j]? with | some o=>(befs o).contains h | none=>false) &&
 (List.range ops.length).all fun k=>decide (k≤n) || (match ops[k]? with | some o=>(befs o).contains (k-1) | none=>false)
def reachL (ops:List Oper):List Nat:=ops.foldl (fun acc o=>acc++[(befs o).foldl (fun m j=>m ||| (1 <<< j) ||| acc.getD j 0) 0]) []
def lentOk (fa fi:List Nat):Bool:=fa.all fun x=>decide (x<2000) || fi.contains (x-1000)
def apart (ops:List Oper) (fs:List (Option (List Nat))) (m i a:Nat):Bool :=
 m.testBit a || (match fs[a]?,fs[i]?,dstAt ops a,dstAt ops i with | some (some fa),some (some fi),some ta,some ti=>fi.contains ta&&fa.contains ti&&lentOk fa fi&&lentOk fi fa | _,_,_,_=>false)
def drawN (ops:List Oper) (fs:List (Option (List Nat))):Bool :=
 decide (fs.length=ops.length) &&
 (List.range ops.length).all (fun i=>match ops[i]? with | some o=>(befs o).all fun j=>decide (j<i) | none=>true) &&
 (List.range ops.length).all fun i=>(List.range i).all fun a=>apart ops fs ((reachL ops).getD i 0) i a
def pHeadN (P:Program) (cfg:Cfg) (ops:List Oper):List (Oper × Option (List Nat))→Env→(Env→Prop)→Prop
 | [],E,K=>K E
 | (o,some fb)::os,E,K=>(opG cfg ops o).wpF (fbS fb) E (OutF P (fbS fb) E (numOf o) fun t d c=>pHeadN P cfg ops os (updE E t d c) K)
 | (o,none)::os,E,K=>(opG cfg ops o).wp E (Done P (fun E'=>pHeadN P cfg ops os E' K) E)
def pDraw (P:Program) (cfg:Cfg) (ops:List Oper) (E:Env) (K:Env→Prop):Prop :=
 P.follows .mixedOrders=true∧∃ E0,Wks E E0∧((∃ n fs,drawOk ops n fs=true∧pHead P cfg ops ((ops.take n).zip fs) E0 fun E'=>pOps P cfg ops (ops.drop n) E' K)∨∃ fs,drawN ops fs=true∧pHeadN P cfg ops (ops.zip fs) E0 K)
def pwp (P:Program) (cfg:Cfg):Code→Env→(Go.Exit→Env→Prop)→Prop
 | .skip,E,Q=>Q .normal E
 | .seq x y,E,Q=>pwp P cfg x E (Exit.nx (fun E'=>pwp P cfg y E' Q) Q)
 | .region _ ops draw,E,Q=>if draw then pDraw P cfg ops.toList E (Q .normal) else pOps P cfg ops.toList ops.toList E (Q .normal)
 | .cond c x y,E,Q=>(condR c).wp E fun b=>if b=true then pwp P cfg x E Q else pwp P cfg y E Q
 | .block id c,E,Q=>pwp P cfg c E (Exit.blk id Q)
 | .loop c,E,Q=>∃ (I:Env→Prop) (μ:Env→Nat),(∃ E0,Wk E E0∧I E0)∧∀ E,I E→pwp P cfg c E (Exit.nx (fun E'=>∃ E'',Wk E' E''∧I E''∧μ E''<μ E) Q)
 | .exit id,E,Q=>Q (.exit id) E
 | .ret,E,Q=>Q .ret E
 | _,_,_=>False
def OpOk (P:Program) (cfg:Cfg):Prop :=
 ∀ (w0:World) (L:Nat→Nat→Prop) (C:Ctx),Rel w0 L C→C.P=P→∀ (K:Env→Prop) (next:Act→World→Prop),Nxt w0 L cfg.np C K next→∀ (Q:Go.Exit→Act→World→Prop) (o:Oper),
  (opR cfg o).wp C.E (Done P K C.E)→o.wp P C.a C.w next Q
theorem VRel.undef (C:Ctx):VRel C (.tup []) Go.undef:=⟨rfl,fun t => .tup [] #[] rfl fun i d h=>by simp at h⟩
theorem wanted_none {o:Oper} {y:Nat→Option Bool} (h:o.guard=none):Region.wanted o y=true:=by simp [Region.wanted,h]
theorem wp_dst {P:Program} {o:Oper} {a:Act} {w:World} {next:Act→World→Prop} {Q:Go.Exit→Act→World→Prop}
  (h:o.wp P a w (fun a' w'=>(∃ v,a'.tmps=(a.put o.dst v).tmps)→next a' w') Q):o.wp P a w next Q:=by
 unfold Oper.wp at h ⊢
 generalize (execOp a.eval o).run P w=r at h
 cases r with
 | ok n w' =>
  cases n<;>first
   | exact h ⟨_,rfl⟩
   | exact h
   | skip
  case enter f args =>
   refine Calls.mono h fun e w'' h => ?_
   cases e with
   | returned v=>exact h ⟨v,rfl⟩
   | panicked c=>exact h
   | outgrown=>exact h
  case row r args=>exact Rows.mono h fun v w'' h=>h ⟨v,rfl⟩
  case defer d =>
   refine h ⟨undef,?_⟩
   cases o.dst<;>rfl
 | halt e w'=>cases e<;>exact h
theorem put_keep {a:Act} {dst:Option Tmp} {v:Value} {t:Nat} (h:dst≠some t):(a.put dst v).tmps.getD t undef=a.tmps.getD t undef:=by
 cases dst with
 | none=>rfl
 | some d =>
  have hne:d≠t:=fun e=>h (by rw [e])
  simp only [Act.put]
  rw [Array.getD_eq_getD_getElem?,Array.getD_eq_getD_getElem?,Array.getElem?_setIfInBounds_ne hne]
def KeepA (cfg:Cfg) (C C':Ctx):Prop:=(∀ t,cfg.keep t=true→C'.a.tmps.getD t undef=C.a.tmps.getD t undef)∧C'.M=C.M
theorem KeepA.refl (cfg:Cfg) (C:Ctx):KeepA cfg C C:=⟨fun _ _=>rfl,rfl⟩
theorem KeepA.trans {cfg:Cfg} {A B C:Ctx} (h:KeepA cfg A B) (k:KeepA cfg B C):KeepA cfg A C:=⟨fun t ht=>(k.1 t ht).trans (h.1 t ht),k.2.trans h.2⟩
theorem pOps_sound {P:Program} {cfg:Cfg} (hop:OpOk P cfg) {w0:World} {L:Nat→Nat→Prop} {ops:Array Oper} {Q:Go.Exit→Act→World→Prop} {K:Env→Prop} :
  ∀ (l:List Oper) (C:Ctx),Rel w0 L C→C.P=P→pOps P cfg ops.toList l C.E K→(∀ C',Rel w0 L C'→C'.P=P→(∀ t,t<cfg.np→C'.loc t=C.loc t)→KeepA cfg C C'→K C'.E→Q .normal C'.a C'.w)→wpList P ops Q l C.a C.w
 | [],C,R,hP,h,hQ=>hQ C R hP (fun _ _=>rfl) (KeepA.refl cfg C) h
 | o::os,C,R,hP,h,hQ=>by
  subst hP
  simp only [pOps] at h
  unfold wpList
  unfold opG at h
  cases hkp:kept cfg o.dst with
  | true=>rw [hkp] at h; exact h.elim
  | false =>
  rw [hkp] at h
  simp only [Bool.false_eq_true,if_false] at h
  have hkd:∀ t,cfg.keep t=true→o.dst≠some t:=by
   intro t ht hd
   unfold kept at hkp
   rw [hd] at hkp
   simp only at hkp
   rw [ht] at hkp; cases hkp
  have hn:Nxt w0 L cfg.np C (fun E'=>pOps C.P cfg ops.toList os E' K) (fun a' w'=>(∃ v,a'.tmps=(C.a.put o.dst v).tmps)→wpList C.P ops Q os a' w'):=by
   intro C' R' hPM hl' hK' hv
   obtain ⟨v,hv⟩:=hv
   injection hPM with hP' hM'
   have hk1:KeepA cfg C C':=⟨fun t ht=>by rw [hv]; exact put_keep (hkd t ht),hM'⟩
   exact pOps_sound hop os C' R' hP' hK' fun C2 R2 hP2 hl2 hk2 hK2=>hQ C2 R2 hP2 (fun t ht=>(hl2 t ht).trans (hl' t ht)) (hk1.trans hk2) hK2
  split at h
  ·rename_i hg
   rw [if_pos (wanted_none hg)]
   exact .inl (wp_dst (hop w0 L C R rfl _ _ hn Q o h))
  ·rename_i j want hg
   split at h
   ·rename_i t ht
    simp only [Rdr.wp] at h
    split at h
    ·rename_i b hb
     have hy:yielded ops C.a.tmps j=some b:=by
      have hsl:C.E.sl[t]? = some (.v (.bool b)):=by
       rw [gDg] at hb
       cases hx:C.E.sl[t]? with
       | none=>rw [hx] at hb; simp at hb
       | some y=>rw [hx] at hb; simp at hb; rw [hb]
      have hs:=R.slot t _ hsl
      have hlt:t<C.a.tmps.size:=by rw [R.tmps]; exact (gSm hsl).1
      have hv:C.a.tmps.getD t undef = .bool b:=by
       generalize C.a.tmps.getD t undef=v at hs
       cases hs with
       | comp _ _ _ hc=>cases hc with | leaf _ _ a b c=>cases c with | v _ _=>rfl
      have ht':(ops[j]?).bind (·.dst)=some t:=by rw [←ht,Array.getElem?_toList]
      unfold yielded
      rw [ht']
      simp only [Option.bind_some]
      rw [Array.getElem?_eq_getElem hlt]
      have:C.a.tmps[t] = .bool b:=by rw [←hv]; simp [Array.getD,hlt]
      rw [this]
     split at h
     ·rename_i hw
      rw [if_pos (by simp [Region.wanted,hg,hy,hw])]
      exact .inl (wp_dst (hop w0 L C R rfl _ _ hn Q o h))
     ·rename_i hw
      rw [if_neg (by simp [Region.wanted,hg,hy,hw])]
      exact wrS_done R hn (.refl _) h (VRel.undef _) ⟨_,rfl⟩
    ·rename_i hb
     have hsl:C.E.sl[t]? = some (.tup []):=by
      rw [gDg] at hb
      cases hx:C.E.sl[t]? with
      | none=>rw [hx] at hb; simp at hb
      | some y=>rw [hx] at hb; simp at hb; rw [hb]
     have hs:=R.slot t _ hsl
     have hlt:t<C.a.tmps.size:=by rw [R.tmps]; exact (gSm hsl).1
     have hv:∀ b,C.a.tmps.getD t Go.undef ≠ .bool b:=by
      intro b hb
      rw [hb] at hs
      cases hs with
      | comp _ _ ht _=>simp [D.isTup] at ht
     have ht':(ops[j]?).bind (·.dst)=some t:=by rw [←ht,Array.getElem?_toList]
     have hy:yielded ops C.a.tmps j=none:=by
      unfold yielded
      rw [ht']
      simp only [Option.bind_some]
      rw [Array.getElem?_eq_getElem hlt]
      have e:C.a.tmps[t]=C.a.tmps.getD t Go.undef:=by simp [Array.getD,hlt]
      rw [e]
      split
      ·rename_i b he
       injection he with he
       exact absurd he (hv b)
      ·rfl
     rw [if_neg (by simp [Region.wanted,hg,hy])]
     exact wrS_done R hn (.refl _) h (VRel.undef _) ⟨_,rfl⟩
    ·exact h.elim
   ·exact h.elim
theorem Env.called_nil (E:Env):E.called [] [] []=E:=by
 show (E.mapP fun p d=>if (fun p=>inWc [] p || ([]:List Lf).contains p) p then .dead else killB (fun p=>inWc [] p || ([]:List Lf).contains p) d).mapP (wbG [])=E
 have e1:(fun (p:Lf) (d:D)=>if (fun p=>inWc [] p || ([]:List Lf).contains p) p then .dead else killB (fun p=>inWc [] p || ([]:List Lf).contains p) d)=fun _ d=>d:=by
  funext p d
  show (if (inWc [] p || ([]:List Lf).contains p)=true then D.dead else killB _ d)=d
  simp only [inWc,List.contains_nil,Bool.or_false,Bool.false_eq_true,if_false]
  cases d<;>simp [killB,inWc]
 have e2:wbG []=fun _ d=>d:=by
  funext p d
  simp only [wbG,wbFind]
  cases d<;>simp
 rw [e1,Env.mapP_id,e2,Env.mapP_id]
theorem opG_sound {P:Program} {cfg:Cfg} (hop:OpOk P cfg) {w0:World} {L:Nat→Nat→Prop} {ops:Array Oper} {Q:Go.Exit→Act→World→Prop} {K:Env→Prop} {next:Act→World→Prop} {o:Oper} {C:Ctx} (R:Rel w0 L C) (hP:C.P=P)
  (h:(opG cfg ops.toList o).wp C.E (Done P K C.E)) (hnx:∀ C',Rel w0 L C'→C'.P=P→(∀ t,t<cfg.np→C'.loc t=C.loc t)→KeepA cfg C C'→K C'.E→next C'.a C'.w) :
  if Region.wanted o (yielded ops C.a.tmps) then o.wp P C.a C.w next Q∨(o.asks P C.a C.w∧LetsOut Q) else next (C.a.put o.dst Go.undef) C.w:=by
 subst hP
 unfold opG at h
 cases hkp:kept cfg o.dst with
 | true=>rw [hkp] at h; exact h.elim
 | false =>
 rw [hkp] at h
 simp only [Bool.false_eq_true,if_false] at h
 have hkd:∀ t,cfg.keep t=true→o.dst≠some t:=by
  intro t ht hd
  unfold kept at hkp
  rw [hd] at hkp
  simp only at hkp
  rw [ht] at hkp; cases hkp
 have hn:Nxt w0 L cfg.np C K (fun a' w'=>(∃ v,a'.tmps=(C.a.put o.dst v).tmps)→next a' w'):=by
  intro C' R' hPM hl' hK' hv
  obtain ⟨v,hv⟩:=hv
  injection hPM with hP' hM'
  exact hnx C' R' hP' hl' ⟨fun t ht=>by rw [hv]; exact put_keep (hkd t ht),hM'⟩ hK'
 split at h
 ·rename_i hg
  rw [if_pos (wanted_none hg)]
  exact .inl (wp_dst (hop w0 L C R rfl _ _ hn Q o h))
 ·rename_i j want hg
  split at h
  ·rename_i t ht
   simp only [Rdr.wp] at h
   have ht':(ops[j]?).bind (·.dst)=some t:=by rw [←ht,Array.getElem?_toList]
   split at h
   ·rename_i b hb
    have hy:yielded ops C.a.tmps j=some b:=by
     have hsl:C.E.sl[t]? = some (.v (.bool b)):=by
      rw [gDg] at hb
      cases hx:C.E.sl[t]? with
      | none=>rw [hx] at hb; simp at hb
      | some y=>rw [hx] at hb; simp at hb; rw [hb]
     have hs:=R.slot t _ hsl
     have hlt:t<C.a.tmps.size:=by rw [R.tmps]; exact (gSm hsl).1
     have hv:C.a.tmps.getD t Go.undef = .bool b:=by
      generalize C.a.tmps.getD t Go.undef=v at hs
      cases hs with
      | comp _ _ _ hc=>cases hc with | leaf _ _ a b c=>cases c with | v _ _=>rfl
     unfold yielded
     rw [ht']
     simp only [Option.bind_some]
     rw [Array.getElem?_eq_getElem hlt]
     have:C.a.tmps[t] = .bool b:=by rw [←hv]; simp [Array.getD,hlt]
     rw [this]
    split at h
    ·rename_i hw
     rw [if_pos (by simp [Region.wanted,hg,hy,hw])]
     exact .inl (wp_dst (hop w0 L C R rfl _ _ hn Q o h))
    ·rename_i hw
     rw [if_neg (by simp [Region.wanted,hg,hy,hw])]
     exact wrS_done R hn (.refl _) h (VRel.undef _) ⟨_,rfl⟩
   ·rename_i hb
    have hsl:C.E.sl[t]? = some (.tup []):=by
     rw [gDg] at hb
     cases hx:C.E.sl[t]? with
     | none=>rw [hx] at hb; simp at hb
     | some y=>rw [hx] at hb; simp at hb; rw [hb]
    have hs:=R.slot t _ hsl
    have hlt:t<C.a.tmps.size:=by rw [R.tmps]; exact (gSm hsl).1
    have hv:∀ b,C.a.tmps.getD t Go.undef ≠ .bool b:=by
     intro b hb
     rw [hb] at hs
     cases hs with
     | comp _ _ ht _=>simp [D.isTup] at ht
    have hy:yielded ops C.a.tmps j=none:=by
     unfold yielded
     rw [ht']
     simp only [Option.bind_some]
     rw [Array.getElem?_eq_getElem hlt]
     have e:C.a.tmps[t]=C.a.tmps.getD t Go.undef:=by simp [Array.getD,hlt]
     rw [e]
     split
     ·rename_i b he
      injection he with he
      exact absurd he (hv b)
     ·rfl
    rw [if_neg (by simp [Region.wanted,hg,hy])]
    exact wrS_done R hn (.refl _) h (VRel.undef _) ⟨_,rfl⟩
   ·exact h.elim
  ·exact h.elim
def AgreeS (S:Nat→Bool) (E E':Env):Prop:=E'.ce.length=E.ce.length∧∀ t,S t=true→E'.sl.getD t .dead=E.sl.getD t .dead∧(S (t+1000)=true→E'.ce.getD t none=E.ce.getD t none)
theorem wpF_det {α:Type} {S:Nat→Bool} {E:Env} {Q:α→Prop}:∀ (r:Rdr α),r.wpF S E Q→∃ s,Q s∧∀ E' Q',AgreeS S E E'→Q' s→r.wp E' Q'
 | .ret a,h=>⟨a,h,fun _ _ _ hq=>hq⟩
 | .fail,h=>h.elim
 | .slot t k,h=>by
  obtain ⟨s,h1,h2⟩:=wpF_det (k _) h.2
  exact ⟨s,h1,fun E' Q' ha hq=>by show (k (E'.sl.getD t .dead)).wp E' Q'; rw [(ha.2 t h.1).1]; exact h2 E' Q' ha hq⟩
 | .cell t k,h=>by
  obtain ⟨s,h1,h2⟩:=wpF_det (k _) h.2.2
  exact ⟨s,h1,fun E' Q' ha hq=>by show (k (E'.ce.getD t none)).wp E' Q'; rw [(ha.2 t h.1).2 h.2.1]; exact h2 E' Q' ha hq⟩
 | .all k,h=>h.elim
 | .len k,h=>by
  obtain ⟨s,h1,h2⟩:=wpF_det (k _) h
  exact ⟨s,h1,fun E' Q' ha hq=>by show (k E'.ce.length).wp E' Q'; rw [ha.1]; exact h2 E' Q' ha hq⟩
 | .chk p k,h=>by
  obtain ⟨s,h1,h2⟩:=wpF_det k h.2
  exact ⟨s,h1,fun E' Q' ha hq=>⟨h.1,h2 E' Q' ha hq⟩⟩
 | .asm p k,h=>by
  obtain ⟨s,h1,h2⟩:=wpF_det k h.2
  exact ⟨s,h1,fun E' Q' ha hq _=>h2 E' Q' ha hq⟩
theorem mapLv_same {g:Nat→D→D} {ds:List D} {k:Nat} (h:∀ i d,ds[i]? = some d→g (k+i) d=d):mapLv g k ds=ds:=by
 apply List.ext_getElem?
 intro i
 rw [mapLv_get]
 cases hd:ds[i]? with
 | none=>rfl
 | some d=>show some _=some _; rw [h i d hd]
theorem CRel.same {C:Ctx} {t k:Nat} {d:D} {v:Value} {g:Nat→D→D} (hd:∀ j,g j .dead = .dead) (hg:∀ j x v,LRel C ⟨false,t,j⟩ x v→g j x=x) (h:CRel C t k d v):d.mapP1 g k=d:=by
 cases h with
 | dead=>exact hd k
 | agg ds vs a b c =>
  show D.agg (mapLv g k _)=_
  rw [mapLv_same fun i d hi=>hg _ _ _ (c i d hi).2.2]
 | leaf d v a b c=>rw [leafy_mapP1 a]; exact hg _ _ _ c
theorem SRel.same {C:Ctx} {t:Nat} {d:D} {v:Value} {g:Nat→D→D} (hd:∀ j,g j .dead = .dead) (hg:∀ j x v,LRel C ⟨false,t,j⟩ x v→g j x=x) (h:SRel C t d v):d.mapP g=d:=by
 cases h with
 | comp _ _ a b=>rw [mapP_of a]; exact b.same hd hg
 | tup cs vs a b =>
  show D.tup (mapCs g 0 cs)=_
  congr 1
  apply List.ext_getElem?
  intro i
  rw [mapCs_get]
  cases hc:cs[i]? with
  | none=>rfl
  | some c =>
   have h:=((b i c hc).2).same hd hg
   rw [show 64*i=0+64*i by omega] at h
   exact congrArg some h
def Tight (E:Env):Prop:=∀ u (ls:List D),((E.ce.getD u none).map List.length)=some ls.length→((E.ce.getD u none).getD []).all (fun d => !d.isOwn)=true→E.called [] [] [(u,0,ls)]=⟨E.sl,E.ce.set u (some ls)⟩
theorem setRange_all {α:Type}:∀ (pre l xs:List α),l.length=xs.length→setRange (pre++l) pre.length xs=pre++xs
 | pre,[],[],_=>rfl
 | pre,a::l,x::xs,h=>by
  show setRange ((pre++a::l).set pre.length x) (pre.length+1) xs=_
  have e:(pre++a::l).set pre.length x=(pre++[x])++l:=by simp
  have:=setRange_all (pre++[x]) l xs (by simpa using h)
  rw [e]
  rw [show (pre++[x]).length=pre.length+1 by simp] at this
  rw [this]; simp
 | _,[],_::_,h=>by simp at h
 | _,_::_,[],h=>by simp at h
theorem Rel.tight {w0:World} {L:Nat→Nat→Prop} {C:Ctx} (R:Rel w0 L C):Tight C.E:=by
 intro u ls h1 h2
 cases hc:C.E.ce.getD u none with
 | none=>rw [hc] at h1; cases h1
 | some ds =>
 rw [hc] at h1 h2
 have hlen:ds.length=ls.length:=by simpa using h1
 have h2:ds.all (fun d => !d.isOwn)=true:=h2
 have hcu:C.E.ce[u]? = some (some ds):=by
  rw [gDg] at hc
  cases hx:C.E.ce[u]? with
  | none=>rw [hx] at hc; cases hc
  | some y=>rw [hx] at hc; simp at hc; rw [hc]
 let b:Lf→Bool:=fun p=>inWc [(u,0,ls)] p || ([]:List Lf).contains p
 have hb:∀ p,b p=(p.c&&p.t==u&&decide (p.k<ls.length)):=by
  intro p; simp [b,inWc]
 have hown:∀ q e xs,C.E.leaf q = .own e xs→b q=false:=by
  intro q e xs hq
  rw [hb]
  cases hqc:q.c with
  | false=>simp
  | true =>
   by_cases hqt:q.t=u
   ·have hl:C.E.leaf q=ds.getD q.k .dead:=by
     unfold Env.leaf
     rw [hqc,hqt,hc]; rfl
    rw [hl] at hq
    have hk:q.k<ds.length:=by
     by_cases h:q.k<ds.length
     ·exact h
     ·rw [gDg,List.getElem?_eq_none (by omega)] at hq; cases hq
    have:=List.all_eq_true.1 h2 _ (List.getElem_mem hk)
    rw [gDg,gEg hk] at hq
    simp only [Option.getD_some] at hq
    rw [hq] at this
    simp [D.isOwn] at this
   ·simp [hqt]
 have hkill:∀ p x v,LRel C p x v→killB b x=x:=by
  intro p x v h
  cases h<;>first
   | rfl
   | (rename_i q e xs hq; simp [killB,hown _ _ _ hq]; done)
   | skip
  all_goals (first | rfl | skip)
  ·rename_i q lo hi e xs hq _ _ _; simp [killB,hown _ _ _ hq]
  ·rename_i q i j e xs e' ys bb o n cap hq _ _ _; simp [killB,hown _ _ _ hq]
  ·rename_i q i j e xs bb o n cap hq _ _; simp [killB,hown _ _ _ hq]
 have e2:wbG []=fun _ d=>d:=by
  funext p d
  simp only [wbG,wbFind]
  cases d<;>simp
 have es:(C.E.kill b).sl=C.E.sl:=by
  apply List.ext_getElem?
  intro t
  show (mapSl _ 0 C.E.sl)[t]? = _
  rw [mapSl_get]
  cases hd:C.E.sl[t]? with
  | none=>rfl
  | some d =>
   show some _=some _
   congr 1
   refine (R.slot t d hd).same (fun _=>rfl) ?_
   intro j x v hx
   have hbf:b ⟨false,0+t,j⟩=false:=by rw [hb]; rfl
   have:=hkill _ _ _ hx
   cases x<;>first | rfl | (simp only [lf1,hbf,Bool.false_eq_true,if_false]; exact this)
 have ec:∀ t,t≠u→(C.E.kill b).ce[t]? = C.E.ce[t]? := by
  intro t ht
  show (mapCe _ 0 C.E.ce)[t]? = _
  rw [mapCe_get]
  cases hd:C.E.ce[t]? with
  | none=>rfl
  | some o =>
   cases o with
   | none=>rfl
   | some es =>
    show some (some _)=some (some _)
    rw [mapLv_same]
    intro i d hi
    have hbf:b ⟨true,0+t,0+i⟩=false:=by rw [hb]; simp [ht]
    obtain ⟨cs,e,fr,_,_,_,a4⟩:=(R.cell t es hd).out
    have:=hkill _ _ _ (a4 i d hi).2.2
    cases d<;>first | rfl | (simp only [lf1,hbf,Bool.false_eq_true,if_false]; exact this)
 have eu:∃ ds',(C.E.kill b).ce[u]? = some (some ds')∧ds'.length=ls.length:=by
  have ll:∀ (g:Nat→D→D) (l:List D) (k:Nat),(mapLv g k l).length=l.length:=by
   intro g l
   induction l with
   | nil=>intro k; rfl
   | cons a l ih=>intro k; simp [mapLv,ih]
  have e:(C.E.kill b).ce[u]? = some (some (mapLv (fun k=>lf1 (fun p d=>if b p then .dead else killB b d) ⟨true,0+u,k⟩) 0 ds)):=by
   show (mapCe _ 0 C.E.ce)[u]? = _
   rw [mapCe_get,hcu]; rfl
  exact ⟨_,e,(ll _ _ _).trans hlen⟩
 obtain ⟨ds',eu,el⟩:=eu
 show setCs ((C.E.kill b).mapP (wbG [])) [(u,0,ls)]=_
 rw [e2,Env.mapP_id]
 show (⟨(C.E.kill b).sl,(C.E.kill b).ce.set u (((C.E.kill b).ce.getD u none).map fun ds=>setRange ds 0 ls)⟩:Env)=_
 have eg:(C.E.kill b).ce.getD u none=some ds':=by rw [gDg,eu]; rfl
 rw [es,eg]
 have er:setRange ds' 0 ls=ls:=setRange_all [] ds' ls el
 simp only [Option.map_some,er]
 congr 1
 apply List.ext_getElem?
 intro t
 rw [List.getElem?_set,List.getElem?_set]
 by_cases h:u=t
 ·subst h
  have l1:u<(C.E.kill b).ce.length:=(gSm eu).1
  have l2:u<C.E.ce.length:=(gSm hcu).1
  simp [l1,l2]
 ·rw [if_neg h,if_neg h]
  exact ec t (fun e=>h e.symm)
def CellW (fb:List Nat) (t:Nat) (c:Option (Nat × List D)):Prop:=∀ u ds,c=some (u,ds)→u=t∨(fb.contains u=false∧fb.contains (u+1000)=false∧fb.contains (u+2000)=true)
def StepA (P:Program) (cfg:Cfg) (ops:List Oper) (o:Oper) (fb:List Nat) (E:Env) (t:Nat) (d:D) (c:Option (Nat × List D)):Prop :=
 numOf o=some t∧fb.contains t=false∧CellW fb t c∧∀ E',AgreeS (fbS fb) E E'→Tight E'→∀ K:Env→Prop,K (updE E' t d c)→(opG cfg ops o).wp E' (Done P K E')
theorem StepA.agree {P:Program} {cfg:Cfg} {ops:List Oper} {o:Oper} {fb:List Nat} {E E2:Env} {t:Nat} {d:D} {c:Option (Nat × List D)} (h:StepA P cfg ops o fb E t d c) (ha:AgreeS (fbS fb) E2 E):StepA P cfg ops o fb E2 t d c :=
 ⟨h.1,h.2.1,h.2.2.1,fun E' hE=>h.2.2.2 E' ⟨hE.1.trans ha.1.symm,fun t ht=>⟨(hE.2 t ht).1.trans (ha.2 t ht).1.symm,fun hc=>((hE.2 t ht).2 hc).trans ((ha.2 t ht).2 hc).symm⟩⟩⟩
def NotIn (fb:List Nat) (t:Nat) (c:Option (Nat × List D)):Prop:=fb.contains t=true∧∀ u ds,c=some (u,ds)→fb.contains u=true∨fb.contains (u+1000)=true
theorem notIn_of {fa fi:List Nat} {t:Nat} {c:Option (Nat × List D)} (h:fi.contains t=true) (hl:lentOk fa fi=true) (hw:CellW fa t c):NotIn fi t c:=by
 refine ⟨h,fun u ds hc => ?_⟩
 rcases hw u ds hc with rfl | ⟨_,_,h3⟩
 ·exact .inl h
 ·have h3:u+2000∈fa:=by simpa using h3
  have:=List.all_eq_true.1 hl _ h3
  rw [Bool.or_eq_true] at this
  rcases this with h | h
  ·have:=of_decide_eq_true h; omega
  ·exact .inr (by rwa [show u+2000-1000=u+1000 by omega] at h)
theorem fbS_true {fb:List Nat} {t:Nat}:fbS fb t=true↔fb.contains t=false:=by unfold fbS; simp
theorem agree_set {fb:List Nat} {E:Env} {t:Nat} {d:D} {c:Option (Nat × List D)} (h:NotIn fb t c):AgreeS (fbS fb) E (updE E t d c):=by
 refine ⟨by unfold updE; rcases c with _ | ⟨u,ds⟩<;>simp,fun u hu => ?_⟩
 have hne:t≠u:=by
  rintro rfl
  rw [fbS_true,h.1] at hu; cases hu
 refine ⟨?_,fun hu2 => ?_⟩
 ·show (E.sl.set t d).getD u .dead=E.sl.getD u .dead
  rw [gDg,List.getElem?_set_ne hne,←gDg]
 ·rcases c with _ | ⟨x,ds⟩
  ·rfl
  ·have hx:x≠u:=by
    rintro rfl
    rcases h.2 x ds rfl with h | h
    ·rw [fbS_true,h] at hu; cases hu
    ·rw [fbS_true,h] at hu2; cases hu2
   show (E.ce.set x (some ds)).getD u none=E.ce.getD u none
   rw [gDg,List.getElem?_set_ne hx,←gDg]
theorem agree_set' {fb:List Nat} {E:Env} {t:Nat} {d:D} {c:Option (Nat × List D)} (h:NotIn fb t c):AgreeS (fbS fb) (updE E t d c) E :=
 ⟨(agree_set (d:=d) (E:=E) h).1.symm,fun u hu=>⟨((agree_set (d:=d) (E:=E) h).2 u hu).1.symm,fun hc=>(((agree_set (d:=d) (E:=E) h).2 u hu).2 hc).symm⟩⟩
theorem updE_comm {E:Env} {a b:Nat} {d e:D} {x y:Option (Nat × List D)} (h:a≠b) (hc:∀ u us v vs,x=some (u,us)→y=some (v,vs)→u≠v):updE (updE E a d x) b e y=updE (updE E b e y) a d x:=by
 unfold updE
 rcases x with _ | ⟨u,us⟩<;>rcases y with _ | ⟨v,vs⟩<;>simp [List.set_comm _ _ h]
 exact List.set_comm _ _ (hc _ _ _ _ rfl rfl)
theorem cells_ne {fa fi:List Nat} {ta ti:Nat} {x y:Option (Nat × List D)} (hne:ta≠ti) (ha:fa.contains ta=false) (hi:fi.contains ti=false) (wa:CellW fa ta x) (wi:CellW fi ti y) (na:NotIn fi ta x) (ni:NotIn fa ti y):∀ u us v vs,x=some (u,us)→y=some (v,vs)→u≠v:=by
 rintro u us v vs hx hy rfl
 rcases wa _ _ hx with rfl | ⟨a1,a2,a3⟩
 ·rcases wi _ _ hy with rfl | ⟨b1,b2,b3⟩
  ·exact hne rfl
  ·rw [na.1] at b1; cases b1
 ·rcases ni.2 _ _ hy with h | h
  ·rw [h] at a1; cases a1
  ·rw [h] at a2; cases a2
theorem set_same {α:Type} {l:List α} {u:Nat} {x:α}:l.set u (l.getD u x)=l:=by
 apply List.ext_getElem?
 intro i
 rw [List.getElem?_set]
 split
 ·rename_i h
  subst h
  split
  ·rename_i h; rw [gDg,gEg h]; rfl
  ·rename_i h; rw [List.getElem?_eq_none (by omega)]
 ·rfl
def SeqH (P:Program) (cfg:Cfg) (ops:List Oper) (fs:List (List Nat)):List Nat→Env→(Env→Prop)→Prop
 | [],E,K=>K E
 | i::l,E,K=>∃ o fb t d c,ops[i]? = some o∧fs[i]? = some fb∧StepA P cfg ops o fb E t d c∧SeqH P cfg ops fs l (updE E t d c) K
theorem seqH_of {P:Program} {cfg:Cfg} {ops:List Oper} {fs:List (List Nat)} {K:Env→Prop}:∀ (l:List (Oper × List Nat)) (k:Nat) (E:Env),(∀ i x,l[i]? = some x→ops[k+i]? = some x.1∧fs[k+i]? = some x.2)→pHead P cfg ops l E K→SeqH P cfg ops fs (List.range' k l.length) E K
 | [],_,_,_,h=>h
 | (o,fb)::os,k,E,hl,h=>by
  obtain ⟨s,h1,h2⟩:=wpF_det _ h
  have h0:=hl 0 (o,fb) rfl
  rw [List.length_cons,List.range'_succ]
  have next:∀ t d c,fbS fb t=true→numOf o=some t→CellW fb t c→pHead P cfg ops os (updE E t d c) K→(∀ E',AgreeS (fbS fb) E E'→Tight E'→∀ K:Env→Prop,K (updE E' t d c)→(opG cfg ops o).wp E' (Done P K E'))→SeqH P cfg ops fs (k::List.range' (k+1) os.length) E K:=by
   intro t d c hS hd hW hK hst
   refine ⟨o,fb,t,d,c,h0.1,h0.2,⟨hd,by simpa [fbS] using hS,hW,hst⟩,?_⟩
   exact seqH_of os (k+1) _ (fun i x hx=>by have:=hl (i+1) x hx; rwa [show k+(i+1)=k+1+i by omega] at this) hK
  unfold OutF at h1
  split at h1
  ·rename_i t d
   obtain ⟨a1,a2,a3⟩:=h1
   exact next t d none a2 a1 (fun _ _ h=>by cases h) a3 fun E' ha _ K hK=>h2 E' _ ha hK
  ·rename_i u ds t d
   obtain ⟨rfl,a1,a2,a3⟩:=h1
   exact next u d (some (u,ds)) a2 a1 (fun _ _ h=>by cases h; exact .inl rfl) a3 fun E' ha _ K hK=>h2 E' _ ha hK
  ·rename_i u ds
   obtain ⟨a1,a2,a3⟩:=h1
   refine next u _ (some (u,ds)) a2 a1 (fun _ _ h=>by cases h; exact .inl rfl) a3 fun E' ha _ K hK=>h2 E' _ ha ?_
   have e:updE E' u (E.sl.getD u .dead) (some (u,ds))=⟨E'.sl,E'.ce.set u (some ds)⟩:=by
    unfold updE
    rw [←(ha.2 u a2).1,set_same]
   rw [e] at hK
   exact hK
  ·rename_i f Ein k'
   obtain ⟨Eout,t,d,b1,b3,b4,b5,hh⟩:=h1
   rcases hh with ⟨b2,b6⟩ | ⟨u,ls,b2,⟨l1,l2,l3,l4,l5⟩,b6⟩
   ·refine next t d none b4 b3 (fun _ _ h=>by cases h) b6 fun E' ha _ K hK=>h2 E' _ ha ⟨Eout,b1,_,b2,?_⟩
    have hno:(E'.sl.getD t .dead).anyOwn=false:=by rw [(ha.2 t b4).1]; exact b5
    have e:E'.app [.ca [] [] [],.rw t d]=⟨E'.sl.set t d,E'.ce⟩:=by
     show ((E'.called [] [] []).app1 (.rw t d))=_
     rw [Env.called_nil]
     show (if (E'.sl.getD t .dead).anyOwn then _ else _)=_
     rw [hno]; rfl
    rw [e]; exact hK
   ·refine next t d (some (u,ls)) b4 b3 (fun _ _ h=>by cases h; exact .inr ⟨fbS_true.1 l1,fbS_true.1 l2,by simpa [fbS] using l3⟩) b6 fun E' ha hT K hK=>h2 E' _ ha ⟨Eout,b1,_,b2,?_⟩
    have hno:(E'.sl.getD t .dead).anyOwn=false:=by rw [(ha.2 t b4).1]; exact b5
    have hcu:=(ha.2 u l1).2 l2
    have e:E'.app [.fz [],.ca [] [] [(u,0,ls)],.rw t d]=⟨E'.sl.set t d,E'.ce.set u (some ls)⟩:=by
     show ((E'.called [] [] [(u,0,ls)]).app1 (.rw t d))=_
     rw [hT u ls (by rw [hcu]; exact l4) (by rw [hcu]; exact l5)]
     show (if (E'.sl.getD t .dead).anyOwn then _ else _)=_
     rw [hno]; rfl
    rw [e]; exact hK
  ·exact h1.elim
theorem seqH_front {P:Program} {cfg:Cfg} {ops:List Oper} {fs:List (List Nat)} {K:Env→Prop} {i:Nat} {l2:List Nat}:∀ (l1:List Nat) (E:Env),
  (∀ a,a∈l1→∀ oa oi fa fi ta ti,ops[a]? = some oa→ops[i]? = some oi→fs[a]? = some fa→fs[i]? = some fi→numOf oa=some ta→numOf oi=some ti→fi.contains ta=true∧fa.contains ti=true∧lentOk fa fi=true∧lentOk fi fa=true) →
  SeqH P cfg ops fs (l1++i::l2) E K→∃ o fb t d c,ops[i]? = some o∧fs[i]? = some fb∧StepA P cfg ops o fb E t d c∧SeqH P cfg ops fs (l1++l2) (updE E t d c) K
 | [],E,_,h=>h
 | a::l1,E,hc,h=>by
  obtain ⟨oa,fa,ta,da,ca,p1,p2,p3,p4⟩:=h
  obtain ⟨oi,fi,ti,di,ci,q1,q2,q3,q4⟩:=seqH_front l1 _ (fun b hb=>hc b (List.mem_cons_of_mem _ hb)) p4
  obtain ⟨c1,c2,c3,c4⟩:=hc a List.mem_cons_self oa oi fa fi ta ti p1 q1 p2 q2 p3.1 q3.1
  have hne:ta≠ti:=by
   rintro rfl
   have:=q3.2.1
   rw [c1] at this; cases this
  have n1:=notIn_of c1 c3 p3.2.2.1
  have n2:=notIn_of c2 c4 q3.2.2.1
  refine ⟨oi,fi,ti,di,ci,q1,q2,q3.agree (agree_set n1),oa,fa,ta,da,ca,p1,p2,p3.agree (agree_set' n2),?_⟩
  rw [←updE_comm hne (cells_ne hne p3.2.1 q3.2.1 p3.2.2.1 q3.2.2.1 n1 n2)]
  exact q4
theorem ready_spec {ops:Array Oper} {listed:Array Bool} {i:Nat}:i∈Region.ready .any ops listed↔∃ o,ops[i]? = some o∧listed.getD i true=false∧∀ j,j∈befs o→listed.getD j false=true:=by
 unfold Region.ready
 rw [List.mem_filter,List.mem_range]
 constructor
 ·rintro ⟨h1,h2⟩
  rw [Array.getElem?_eq_getElem h1] at h2
  simp only [Bool.and_eq_true,Bool.not_eq_true',Option.map_some,Option.getD_some] at h2
  refine ⟨ops[i],Array.getElem?_eq_getElem h1,h2.1,fun j hj => ?_⟩
  unfold befs at hj
  rw [List.mem_map] at hj
  obtain ⟨e,he,rfl⟩:=hj
  rw [List.mem_filter] at he
  have:=h2.2
  rw [←Array.all_toList,List.all_eq_true] at this
  have:=this e he.1
  simpa [he.2] using this
 ·rintro ⟨o,h1,h2,h3⟩
  have hi:i<ops.size:=(Array.getElem?_eq_some_iff.1 h1).1
  refine ⟨hi,?_⟩
  rw [h1]
  simp only [h2,Bool.not_false,Option.map_some,Option.getD_some,Bool.true_and]
  rw [←Array.all_toList,List.all_eq_true]
  intro e he
  by_cases hb:Region.binds .any e=true
  ·have:=h3 e.on (List.mem_map.2 ⟨e,List.mem_filter.2 ⟨he,hb⟩,rfl⟩)
   simp [this]
  ·simp [hb]
theorem pDraw_go {P:Program} {cfg:Cfg} (hop:OpOk P cfg) {w0:World} {L:Nat→Nat→Prop} {ops:Array Oper} {Q:Go.Exit→Act→World→Prop} {K:Env→Prop} {n:Nat} {fs:List (List Nat)} (hok:drawOk ops.toList n fs=true) :
  ∀ (fuel:Nat) (l:List Nat) (k:Nat) (listed:Array Bool) (C:Ctx),Rel w0 L C→C.P=P →
   l.Pairwise (· < ·)→(∀ i,i∈l→i<n)→n≤k→k≤ops.size→(l≠[]→k=n)→fuel=l.length+(ops.size-k) →
   (∀ i,i<ops.size→(listed.getD i true=false↔(i∈l∨k≤i))∧(listed.getD i false=true↔¬ (i∈l∨k≤i))) →
   listed.size=ops.size →
   (∀ j o,ops[j]? = some o→listed.getD j false=true→∀ h,h∈befs o→listed.getD h false=true) →
   SeqH P cfg ops.toList fs l C.E (fun E=>pOps P cfg ops.toList (ops.toList.drop k) E K) →
   (∀ C',Rel w0 L C'→C'.P=P→(∀ t,t<cfg.np→C'.loc t=C.loc t)→KeepA cfg C C'→K C'.E→Q .normal C'.a C'.w)→wpAny P .any ops Q fuel listed C.a C.w:=by
 simp only [drawOk,Bool.and_eq_true,decide_eq_true_eq,List.all_eq_true,List.mem_range] at hok
 obtain ⟨⟨⟨⟨⟨⟨k1,k2⟩,k0⟩,k3⟩,k4⟩,k5⟩,k6⟩:=hok
 have hlent:∀ (a i:Nat) (fa fi:List Nat),fs[a]? = some fa→fs[i]? = some fi→lentOk fa fi=true:=by
  intro a i fa fi ha hi
  refine List.all_eq_true.2 fun x hx => ?_
  have:=k0 fa (List.mem_of_getElem? ha) x hx
  simp [this]
 have hsz:ops.toList.length=ops.size:=by simp
 have bef_lt:∀ i o j,ops[i]? = some o→j∈befs o→j<i:=by
  intro i o j ho hj
  have hi:i<ops.toList.length:=by rw [hsz]; exact (Array.getElem?_eq_some_iff.1 ho).1
  have:=k3 i hi
  rw [show ops.toList[i]? = some o by rw [Array.getElem?_toList]; exact ho] at this
  have this:((befs o).all fun j=>decide (j<i))=true:=this
  rw [List.all_eq_true] at this
  simpa using this j hj
 have indep:∀ i j oi fi t,i<n→j<n→j≠i→ops[i]? = some oi→fs[i]? = some fi→j ∉ befs oi→dstAt ops.toList j=some t→fi.contains t=true:=by
  intro i j oi fi t hi hj hne ho hf hb hd
  have:=k4 i hi
  rw [show ops.toList[i]? = some oi by rw [Array.getElem?_toList]; exact ho,hf] at this
  have this:((List.range n).all fun j=>decide (j=i) || (befs oi).contains j || match dstAt ops.toList j with | some t=>fi.contains t | none=>false)=true:=this
  rw [List.all_eq_true] at this
  have:=this j (List.mem_range.2 hj)
  simpa [hne,hb,hd] using this
 intro fuel
 induction fuel with
 | zero =>
  intro l k listed C R hP hsort hln hnk hks hkn hfu hli hlsz hdn hS hQ
  have hl0:l=[]:=by
   cases l with
   | nil=>rfl
   | cons x xs=>rw [List.length_cons] at hfu; omega
  subst hl0
  have hk:k=ops.size:=by simp at hfu; omega
  subst hk
  refine ⟨?_,?_⟩
  ·rw [List.eq_nil_iff_forall_not_mem]
   intro i hi
   obtain ⟨o,h1,h2,_⟩:=ready_spec.1 hi
   have hi:i<ops.size:=(Array.getElem?_eq_some_iff.1 h1).1
   rcases ((hli i hi).1.1 h2) with h | h
   ·simp at h
   ·omega
  ·have hS:pOps P cfg ops.toList (ops.toList.drop ops.size) C.E K:=hS
   rw [List.drop_of_length_le (by simp)] at hS
   exact hQ C R hP (fun _ _=>rfl) (KeepA.refl cfg C) hS
 | succ fuel ih =>
  intro l k listed C R hP hsort hln hnk hks hkn hfu hli hlsz hdn hS hQ
  have step:∀ (i:Nat) (o:Oper) (K':Env→Prop),ops[i]? = some o→i<ops.size→(opG cfg ops.toList o).wp C.E (Done P K' C.E) →
    (∀ C',Rel w0 L C'→C'.P=P→(∀ t,t<cfg.np→C'.loc t=C.loc t)→KeepA cfg C C'→K' C'.E→wpAny P .any ops Q fuel (listed.setIfInBounds i true) C'.a C'.w)→wpOp P ops Q i (wpAny P .any ops Q fuel (listed.setIfInBounds i true)) C.a C.w:=by
   intro i o K' ho hi h hnx
   unfold wpOp
   rw [ho]
   exact opG_sound hop R hP h hnx
  have setT:∀ i j,i<ops.size→(listed.setIfInBounds i true).getD j true=if j=i then true else listed.getD j true:=by
   intro i j hi
   rw [Array.getD_eq_getD_getElem?,Array.getD_eq_getD_getElem?]
   by_cases h:j=i
   ·subst h; rw [Array.getElem?_setIfInBounds_self_of_lt (by rw [hlsz]; exact hi)]; simp
   ·rw [Array.getElem?_setIfInBounds_ne (fun e=>h e.symm),if_neg h]
  have setF:∀ i j,i<ops.size→(listed.setIfInBounds i true).getD j false=if j=i then true else listed.getD j false:=by
   intro i j hi
   rw [Array.getD_eq_getD_getElem?,Array.getD_eq_getD_getElem?]
   by_cases h:j=i
   ·subst h; rw [Array.getElem?_setIfInBounds_self_of_lt (by rw [hlsz]; exact hi)]; simp
   ·rw [Array.getElem?_setIfInBounds_ne (fun e=>h e.symm),if_neg h]
  have down:∀ i o,ops[i]? = some o→i<ops.size→(∀ j,j∈befs o→listed.getD j false=true)→∀ j o',ops[j]? = some o'→(listed.setIfInBounds i true).getD j false=true→∀ h,h∈befs o'→(listed.setIfInBounds i true).getD h false=true:=by
   intro i o ho hi hb j o' ho' hj h hh
   rw [setF i j hi] at hj
   rw [setF i h hi]
   by_cases hji:j=i
   ·subst hji
    rw [ho] at ho'; injection ho' with ho'; subst ho'
    split
    ·rfl
    ·exact hb h hh
   ·rw [if_neg hji] at hj
    split
    ·rfl
    ·exact hdn j o' ho' hj h hh
  refine ⟨fun hre => ?_,fun i hi => ?_⟩
  ·-- something is ready
   exfalso
   have:∃ i,i<ops.size∧(i∈l∨k≤i)∧∀ j,j<i→¬ (j∈l∨k≤j):=by
    have hex:∃ i,i<ops.size∧(i∈l∨k≤i):=by
     cases l with
     | nil=>exact ⟨k,by simp at hfu; omega,.inr (Nat.le_refl _)⟩
     | cons x xs=>exact ⟨x,by have:=hln x List.mem_cons_self; omega,.inl List.mem_cons_self⟩
    obtain ⟨i,hi⟩:=hex
    induction i using Nat.strongRecOn with
    | _ i ihi =>
     by_cases h:∃ j,j<i∧(j∈l∨k≤j)
     ·obtain ⟨j,h1,h2⟩:=h
      exact ihi j h1 ⟨by omega,h2⟩
     ·exact ⟨i,hi.1,hi.2,fun j hj hh=>h ⟨j,hj,hh⟩⟩
   obtain ⟨i,hi,hmem,hmin⟩:=this
   have:i∈Region.ready .any ops listed:=by
    refine ready_spec.2 ⟨ops[i],Array.getElem?_eq_getElem hi,(hli i hi).1.2 hmem,fun j hj => ?_⟩
    have hlt:=bef_lt i _ j (Array.getElem?_eq_getElem hi) hj
    exact (hli j (by omega)).2.2 (hmin j hlt)
   rw [hre] at this
   simp at this
  ·obtain ⟨o,ho,hu,hb⟩:=ready_spec.1 hi
   have his:i<ops.size:=(Array.getElem?_eq_some_iff.1 ho).1
   rcases (hli i his).1.1 hu with hil | hik
   ·-- one of the head
    have hin:=hln i hil
    have hkn':k=n:=hkn (by intro h; rw [h] at hil; simp at hil)
    subst hkn'
    obtain ⟨l1,l2,rfl⟩:=List.append_of_mem hil
    have hpw:=List.pairwise_append.1 hsort
    have hlt1:∀ a,a∈l1→a<i:=fun a ha=>hpw.2.2 a ha i List.mem_cons_self
    have hlt2:∀ a,a∈l2→i<a:=fun a ha=>(List.pairwise_cons.1 hpw.2.1).1 a ha
    obtain ⟨o',fb,t,d,c,e1,e2,e3,e4⟩:=seqH_front l1 C.E (by
     intro a ha oa oi fa fi ta ti g1 g2 g3 g4 g5 g6
     have hai:=hlt1 a ha
     have han:a<k:=by omega
     have g1':ops[a]? = some oa:=by rw [←Array.getElem?_toList]; exact g1
     have g2':ops[i]? = some oi:=by rw [←Array.getElem?_toList]; exact g2
     rw [ho] at g2'; injection g2' with g2'; subst g2'
     have hna:a ∉ befs o:=by
      intro h
      have:=hb a h
      exact (hli a (by omega)).2.1 this (.inl (by simp [ha]))
     have hni:i ∉ befs oa:=by
      intro h
      have:=bef_lt a oa i g1' h
      omega
     exact ⟨indep i a o fi ta hin han (by omega) ho g4 hna (by simp [dstAt,g1,g5]),indep a i oa fa ti han hin (by omega) g1' g3 hni (by simp [dstAt,g2,g6]),hlent a i fa fi g3 g4,hlent i a fi fa g4 g3⟩) hS
    have e1':ops[i]? = some o':=by rw [←Array.getElem?_toList]; exact e1
    rw [ho] at e1'; injection e1' with e1'; subst e1'
    have hnd:(l1++i::l2).Nodup:=hsort.imp (fun h=>Nat.ne_of_lt h)
    refine step i o (fun E=>SeqH P cfg ops.toList fs (l1++l2) E (fun E=>pOps P cfg ops.toList (ops.toList.drop k) E K)) ho his (e3.2.2.2 C.E ⟨rfl,fun _ _=>⟨rfl,fun _=>rfl⟩⟩ R.tight _ e4) ?_
    intro C' R' hP' hl' hk' hK'
    refine ih (l1++l2) k _ C' R' hP' ?_ ?_ hnk hks (fun _=>rfl) ?_ ?_ (by simpa using hlsz) (down i o ho his hb) hK' ?_
    ·exact hsort.sublist (by simp)
    ·intro j hj; exact hln j (by simp at hj ⊢; rcases hj with h | h<;>simp [h])
    ·simp at hfu ⊢; omega
    ·intro j hj
     rw [setT i j his,setF i j his]
     have hli':=hli j hj
     have hmem:∀ x,x≠i→(x∈l1++i::l2↔x∈l1++l2):=by intro x hx; simp [hx]
     by_cases hji:j=i
     ·subst hji
      have hnin:j ∉ l1++l2:=by
       intro h
       rcases List.mem_append.1 h with h | h
       ·have:=hlt1 j h; omega
       ·have:=hlt2 j h; omega
      rw [if_pos rfl,if_pos rfl]
      refine ⟨⟨fun h=>(by cases h),fun h => ?_⟩,⟨fun _ h => ?_,fun _=>rfl⟩⟩
      ·rcases h with h | h
       ·exact absurd h hnin
       ·omega
      ·rcases h with h | h
       ·exact hnin h
       ·omega
     ·rw [if_neg hji,if_neg hji]
      rw [hli'.1,hli'.2,hmem j hji]
      exact ⟨Iff.rfl,Iff.rfl⟩
    ·intro C2 R2 hP2 hl2 hk2 hK2
     exact hQ C2 R2 hP2 (fun t ht=>(hl2 t ht).trans (hl' t ht)) (hk'.trans hk2) hK2
   ·-- one of the tail: the first, and the head is done
    have hun:∀ j,j∈befs o→¬ (j∈l∨k≤j):=fun j hj h=>by
     have hlt:=bef_lt i o j ho hj
     exact (hli j (by omega)).2.1 (hb j hj) h
    have hik':i=k:=by
     by_cases h:i=k
     ·exact h
     ·exfalso
      have:=k6 i (by rw [hsz]; exact his)
      rw [show ops.toList[i]? = some o by rw [Array.getElem?_toList]; exact ho] at this
      have h2:i-1∈befs o:=by
       rcases Bool.or_eq_true _ _▸this with h | h
       ·have:=of_decide_eq_true h; omega
       ·simpa using h
      exact hun _ h2 (.inr (by omega))
    subst hik'
    have hl0:l=[]:=by
     cases hl:l with
     | nil=>rfl
     | cons x xs =>
      exfalso
      have hkn':=hkn (by rw [hl]; simp)
      subst hkn'
      rcases (by simpa using k5:i=ops.size∨_) with h | h
      ·omega
      ·-- from each of the head a road leads on
       have road:∀ m h,i-h=m→h∈l→False:=by
        intro m
        induction m using Nat.strongRecOn with
        | _ m ihm =>
         intro h0 hm hh
         have hlt:=hln h0 hh
         have:=h h0 hlt
         obtain ⟨j,hj,hj2⟩:=this
         cases hoj:ops[j]? with
         | none=>rw [hoj] at hj2; simp at hj2
         | some oj =>
          rw [hoj] at hj2
          have hj2:h0∈befs oj:=by simpa using hj2
          have hlt2:=bef_lt j oj h0 hoj hj2
          by_cases hji:j=i
          ·subst hji
           rw [ho] at hoj; injection hoj with hoj; subst hoj
           exact hun h0 hj2 (.inl hh)
          ·have hjs:j<ops.size:=(Array.getElem?_eq_some_iff.1 hoj).1
           have hjl:j∈l:=by
            by_cases hlj:listed.getD j false=true
            ·have:=hdn j oj hoj hlj h0 hj2
             exact absurd (.inl hh) ((hli h0 (by omega)).2.1 this)
            ·have:j∈l∨i≤j:=by
              by_cases hc:j∈l∨i≤j
              ·exact hc
              ·exact absurd ((hli j hjs).2.2 hc) hlj
             rcases this with h | h
             ·exact h
             ·omega
           exact ihm (i-j) (by omega) j rfl hjl
       exact road _ x rfl (by rw [hl]; simp)
    subst hl0
    have hS:pOps P cfg ops.toList (ops.toList.drop i) C.E K:=hS
    have hdr:ops.toList.drop i=o::ops.toList.drop (i+1):=by
     rw [List.drop_eq_getElem_cons (by simpa using his)]
     congr 1
     have:ops.toList[i]? = some o:=by rw [Array.getElem?_toList]; exact ho
     rw [gEg (by simpa using his)] at this
     injection this
    rw [hdr] at hS
    refine step i o (fun E=>pOps P cfg ops.toList (ops.toList.drop (i+1)) E K) ho his hS ?_
    intro C' R' hP' hl' hk' hK'
    refine ih [] (i+1) _ C' R' hP' List.Pairwise.nil (by simp) (by omega) (by omega) (by simp) (by simp at hfu ⊢; omega) ?_ (by simpa using hlsz) (down i o ho his hb) hK' ?_
    ·intro j hj
     rw [setT i j his,setF i j his]
     have hli':=hli j hj
     by_cases hji:j=i
     ·subst hji
      rw [if_pos rfl,if_pos rfl]
      refine ⟨⟨fun h=>(by cases h),fun h => ?_⟩,⟨fun _ h => ?_,fun _=>rfl⟩⟩
      ·rcases h with h | h
       ·simp at h
       ·omega
      ·rcases h with h | h
       ·simp at h
       ·omega
     ·rw [if_neg hji,if_neg hji]
      rw [hli'.1,hli'.2]
      have:(j∈([]:List Nat)∨i≤j)↔(j∈([]:List Nat)∨i+1≤j):=by
       simp; omega
      rw [this]
      exact ⟨Iff.rfl,Iff.rfl⟩
    ·intro C2 R2 hP2 hl2 hk2 hK2
     exact hQ C2 R2 hP2 (fun t ht=>(hl2 t ht).trans (hl' t ht)) (hk'.trans hk2) hK2
theorem wp_mono {α:Type} {E:Env} {Q Q':α→Prop}:∀ (r:Rdr α),(∀ a,Q a→Q' a)→r.wp E Q→r.wp E Q'
 | .ret a,h,x=>h a x
 | .fail,h,x=>x
 | .slot t k,h,x=>wp_mono (k _) h x
 | .cell t k,h,x=>wp_mono (k _) h x
 | .all k,h,x=>wp_mono (k _) h x
 | .len k,h,x=>wp_mono (k _) h x
 | .chk p k,h,x=>⟨x.1,wp_mono k h x.2⟩
 | .asm p k,h,x=>fun hp=>wp_mono k h (x hp)
theorem Done_mono {P:Program} {K K':Env→Prop} {E:Env} (h:∀ E,K E→K' E):∀ s,Done P K E s→Done P K' E s
 | .done ws,x=>h _ x
 | .call f Ein k,⟨Eo,a,ws,b,x⟩=>⟨Eo,a,ws,b,h _ x⟩
def SeqN (P:Program) (cfg:Cfg) (ops:List Oper) (fs:List (Option (List Nat))):List Nat→Env→(Env→Prop)→Prop
 | [],E,K=>K E
 | i::l,E,K=>∃ o,ops[i]? = some o∧((∃ fb t d c,fs[i]? = some (some fb)∧StepA P cfg ops o fb E t d c∧SeqN P cfg ops fs l (updE E t d c) K)∨(fs[i]? = some none∧(opG cfg ops o).wp E (Done P (fun E'=>SeqN P cfg ops fs l E' K) E)))
theorem seqN_of {P:Program} {cfg:Cfg} {ops:List Oper} {fs:List (Option (List Nat))} {K:Env→Prop}:∀ (l:List (Oper × Option (List Nat))) (k:Nat) (E:Env),(∀ i x,l[i]? = some x→ops[k+i]? = some x.1∧fs[k+i]? = some x.2)→pHeadN P cfg ops l E K→SeqN P cfg ops fs (List.range' k l.length) E K
 | [],_,_,_,h=>h
 | (o,none)::os,k,E,hl,h=>by
  have h0:=hl 0 (o,none) rfl
  rw [List.length_cons,List.range'_succ]
  refine ⟨o,h0.1,.inr ⟨h0.2,wp_mono _ (fun s hs=>Done_mono (fun E' hE => ?_) s hs) h⟩⟩
  exact seqN_of os (k+1) _ (fun i x hx=>by have:=hl (i+1) x hx; rwa [show k+(i+1)=k+1+i by omega] at this) hE
 | (o,some fb)::os,k,E,hl,h=>by
  obtain ⟨s,h1,h2⟩:=wpF_det _ h
  have h0:=hl 0 (o,some fb) rfl
  rw [List.length_cons,List.range'_succ]
  have next:∀ t d c,fbS fb t=true→numOf o=some t→CellW fb t c→pHeadN P cfg ops os (updE E t d c) K→(∀ E',AgreeS (fbS fb) E E'→Tight E'→∀ K:Env→Prop,K (updE E' t d c)→(opG cfg ops o).wp E' (Done P K E'))→SeqN P cfg ops fs (k::List.range' (k+1) os.length) E K:=by
   intro t d c hS hd hW hK hst
   refine ⟨o,h0.1,.inl ⟨fb,t,d,c,h0.2,⟨hd,by simpa [fbS] using hS,hW,hst⟩,?_⟩⟩
   exact seqN_of os (k+1) _ (fun i x hx=>by have:=hl (i+1) x hx; rwa [show k+(i+1)=k+1+i by omega] at this) hK
  unfold OutF at h1
  split at h1
  ·rename_i t d
   obtain ⟨a1,a2,a3⟩:=h1
   exact next t d none a2 a1 (fun _ _ h=>by cases h) a3 fun E' ha _ K hK=>h2 E' _ ha hK
  ·rename_i u ds t d
   obtain ⟨rfl,a1,a2,a3⟩:=h1
   exact next u d (some (u,ds)) a2 a1 (fun _ _ h=>by cases h; exact .inl rfl) a3 fun E' ha _ K hK=>h2 E' _ ha hK
  ·rename_i u ds
   obtain ⟨a1,a2,a3⟩:=h1
   refine next u _ (some (u,ds)) a2 a1 (fun _ _ h=>by cases h; exact .inl rfl) a3 fun E' ha _ K hK=>h2 E' _ ha ?_
   have e:updE E' u (E.sl.getD u .dead) (some (u,ds))=⟨E'.sl,E'.ce.set u (some ds)⟩:=by
    unfold updE
    rw [←(ha.2 u a2).1,set_same]
   rw [e] at hK
   exact hK
  ·rename_i f Ein k'
   obtain ⟨Eout,t,d,b1,b3,b4,b5,hh⟩:=h1
   rcases hh with ⟨b2,b6⟩ | ⟨u,ls,b2,⟨l1,l2,l3,l4,l5⟩,b6⟩
   ·refine next t d none b4 b3 (fun _ _ h=>by cases h) b6 fun E' ha _ K hK=>h2 E' _ ha ⟨Eout,b1,_,b2,?_⟩
    have hno:(E'.sl.getD t .dead).anyOwn=false:=by rw [(ha.2 t b4).1]; exact b5
    have e:E'.app [.ca [] [] [],.rw t d]=⟨E'.sl.set t d,E'.ce⟩:=by
     show ((E'.called [] [] []).app1 (.rw t d))=_
     rw [Env.called_nil]
     show (if (E'.sl.getD t .dead).anyOwn then _ else _)=_
     rw [hno]; rfl
    rw [e]; exact hK
   ·refine next t d (some (u,ls)) b4 b3 (fun _ _ h=>by cases h; exact .inr ⟨fbS_true.1 l1,fbS_true.1 l2,by simpa [fbS] using l3⟩) b6 fun E' ha hT K hK=>h2 E' _ ha ⟨Eout,b1,_,b2,?_⟩
    have hno:(E'.sl.getD t .dead).anyOwn=false:=by rw [(ha.2 t b4).1]; exact b5
    have hcu:=(ha.2 u l1).2 l2
    have e:E'.app [.fz [],.ca [] [] [(u,0,ls)],.rw t d]=⟨E'.sl.set t d,E'.ce.set u (some ls)⟩:=by
     show ((E'.called [] [] [(u,0,ls)]).app1 (.rw t d))=_
     rw [hT u ls (by rw [hcu]; exact l4) (by rw [hcu]; exact l5)]
     show (if (E'.sl.getD t .dead).anyOwn then _ else _)=_
     rw [hno]; rfl
    rw [e]; exact hK
  ·exact h1.elim
theorem seqN_front {P:Program} {cfg:Cfg} {ops:List Oper} {fs:List (Option (List Nat))} {K:Env→Prop} {i:Nat} {l2:List Nat} {oi:Oper} (hi:ops[i]? = some oi):∀ (l1:List Nat) (E:Env),
  (∀ a,a∈l1→∀ oa,ops[a]? = some oa→∃ fa fi,fs[a]? = some (some fa)∧fs[i]? = some (some fi)∧∀ ta ti,numOf oa=some ta→numOf oi=some ti→fi.contains ta=true∧fa.contains ti=true∧lentOk fa fi=true∧lentOk fi fa=true) →
  SeqN P cfg ops fs (l1++i::l2) E K→SeqN P cfg ops fs (i::(l1++l2)) E K
 | [],E,_,h=>h
 | a::l1,E,hc,h=>by
  obtain ⟨oa,p1,h⟩:=h
  obtain ⟨fa,fi,f1,f2,f3⟩:=hc a List.mem_cons_self oa p1
  rcases h with ⟨fa',ta,da,ca,g1,p3,p4⟩ | ⟨g1,_⟩
  ·rw [f1] at g1; injection g1 with g1; injection g1 with g1; subst g1
   obtain ⟨oi',q1,h⟩:=seqN_front hi l1 _ (fun b hb=>hc b (List.mem_cons_of_mem _ hb)) p4
   rw [hi] at q1; injection q1 with q1; subst q1
   rcases h with ⟨fi',ti,di,ci,g2,q3,q4⟩ | ⟨g2,_⟩
   ·rw [f2] at g2; injection g2 with g2; injection g2 with g2; subst g2
    obtain ⟨c1,c2,c3,c4⟩:=f3 ta ti p3.1 q3.1
    have hne:ta≠ti:=by
     rintro rfl
     have:=q3.2.1
     rw [c1] at this; cases this
    have n1:=notIn_of c1 c3 p3.2.2.1
    have n2:=notIn_of c2 c4 q3.2.2.1
    refine ⟨oi,hi,.inl ⟨fi,ti,di,ci,f2,q3.agree (agree_set n1),oa,p1,.inl ⟨fa,ta,da,ca,f1,p3.agree (agree_set' n2),?_⟩⟩⟩
    rw [←updE_comm hne (cells_ne hne p3.2.1 q3.2.1 p3.2.2.1 q3.2.2.1 n1 n2)]
    exact q4
   ·rw [f2] at g2; cases g2
  ·rw [f1] at g1; cases g1
theorem foldl_bit (acc:List Nat):∀ (l:List Nat) (m j:Nat),(l.foldl (fun m j=>m ||| (1 <<< j) ||| acc.getD j 0) m).testBit j=true→m.testBit j=true∨∃ k,k∈l∧(k=j∨(acc.getD k 0).testBit j=true)
 | [],m,j,h => .inl h
 | k::l,m,j,h=>by
  rcases foldl_bit acc l _ j h with h | ⟨k',h1,h2⟩
  ·simp only [Nat.testBit_or,Bool.or_eq_true,Nat.one_shiftLeft,Nat.testBit_two_pow,decide_eq_true_eq] at h
   rcases h with (h | h) | h
   ·exact .inl h
   ·exact .inr ⟨k,List.mem_cons_self,.inl h⟩
   ·exact .inr ⟨k,List.mem_cons_self,.inr h⟩
  ·exact .inr ⟨k',List.mem_cons_of_mem _ h1,h2⟩
theorem reach_spec:∀ (ops:List Oper),(reachL ops).length=ops.length∧∀ i o,ops[i]? = some o→(∀ j,j∈befs o→j<i)→∀ j,((reachL ops).getD i 0).testBit j=true→∃ k,k∈befs o∧(k=j∨((reachL ops).getD k 0).testBit j=true):=by
 have key:∀ (n:Nat) (ops:List Oper),ops.length=n→(reachL ops).length=ops.length∧∀ i o,ops[i]? = some o→(∀ j,j∈befs o→j<i)→∀ j,((reachL ops).getD i 0).testBit j=true→∃ k,k∈befs o∧(k=j∨((reachL ops).getD k 0).testBit j=true):=by
  intro n
  induction n with
  | zero =>
   intro ops hn
   have:ops=[]:=List.length_eq_zero_iff.1 hn
   subst this
   exact ⟨rfl,fun i o h=>by simp at h⟩
  | succ n ih =>
   intro ops hn
   have hne:ops≠[]:=by intro h; rw [h] at hn; simp at hn
   have hd:=List.dropLast_concat_getLast hne
   generalize ops.dropLast=q at hd
   generalize ops.getLast hne=x at hd
   subst hd
   have hq:q.length=n:=by simpa using hn
   obtain ⟨h1,h2⟩:=ih q hq
   have e:reachL (q++[x])=reachL q++[(befs x).foldl (fun m j=>m ||| (1 <<< j) ||| (reachL q).getD j 0) 0]:=by
    unfold reachL
    rw [List.foldl_append]; rfl
   have eg:∀ k,k<n→(reachL (q++[x])).getD k 0=(reachL q).getD k 0:=by
    intro k hk
    rw [e,gDg,gDg,List.getElem?_append_left (by omega)]
   refine ⟨by rw [e]; simp [h1],fun i o ho hb j hj => ?_⟩
   by_cases hi:i<n
   ·rw [List.getElem?_append_left (by omega)] at ho
    rw [eg i hi] at hj
    obtain ⟨k,k1,k2⟩:=h2 i o ho hb j hj
    have:=hb k k1
    exact ⟨k,k1,by rw [eg k (by omega)]; exact k2⟩
   ·have hin:i=n:=by
     have:=(gSm ho).1
     simp at this; omega
    subst hin
    rw [List.getElem?_append_right (by omega)] at ho
    have ho:x=o:=by simpa [hq] using ho
    subst ho
    have hg:(reachL (q++[x])).getD i 0=(befs x).foldl (fun m j=>m ||| (1 <<< j) ||| (reachL q).getD j 0) 0:=by
     rw [e,gDg,List.getElem?_append_right (by omega),h1,hq]; simp
    rw [hg] at hj
    rcases foldl_bit _ _ _ _ hj with h | ⟨k,k1,k2⟩
    ·simp at h
    ·have:=hb k k1
     exact ⟨k,k1,by rw [eg k this]; exact k2⟩
 exact fun ops=>key _ ops rfl
theorem pDrawN_go {P:Program} {cfg:Cfg} (hop:OpOk P cfg) {w0:World} {L:Nat→Nat→Prop} {ops:Array Oper} {Q:Go.Exit→Act→World→Prop} {K:Env→Prop} {fs:List (Option (List Nat))} (hok:drawN ops.toList fs=true) :
  ∀ (fuel:Nat) (l:List Nat) (listed:Array Bool) (C:Ctx),Rel w0 L C→C.P=P →
   l.Pairwise (· < ·)→(∀ i,i∈l→i<ops.size)→fuel=l.length →
   (∀ i,i<ops.size→(listed.getD i true=false↔i∈l)∧(listed.getD i false=true↔¬ i∈l)) →
   listed.size=ops.size →
   (∀ j o,ops[j]? = some o→listed.getD j false=true→∀ h,h∈befs o→listed.getD h false=true) →
   SeqN P cfg ops.toList fs l C.E K →
   (∀ C',Rel w0 L C'→C'.P=P→(∀ t,t<cfg.np→C'.loc t=C.loc t)→KeepA cfg C C'→K C'.E→Q .normal C'.a C'.w)→wpAny P .any ops Q fuel listed C.a C.w:=by
 simp only [drawN,Bool.and_eq_true,decide_eq_true_eq,List.all_eq_true,List.mem_range] at hok
 obtain ⟨⟨k1,k3⟩,k4⟩:=hok
 have hsz:ops.toList.length=ops.size:=by simp
 have bef_lt:∀ i o j,ops[i]? = some o→j∈befs o→j<i:=by
  intro i o j ho hj
  have hi:i<ops.toList.length:=by rw [hsz]; exact (Array.getElem?_eq_some_iff.1 ho).1
  have:=k3 i hi
  rw [show ops.toList[i]? = some o by rw [Array.getElem?_toList]; exact ho] at this
  have this:((befs o).all fun j=>decide (j<i))=true:=this
  rw [List.all_eq_true] at this
  simpa using this j hj
 have hreach:=(reach_spec ops.toList).2
 intro fuel
 induction fuel with
 | zero =>
  intro l listed C R hP hsort hln hfu hli hlsz hdn hS hQ
  have hl0:l=[]:=List.length_eq_zero_iff.1 hfu.symm
  subst hl0
  refine ⟨?_,hQ C R hP (fun _ _=>rfl) (KeepA.refl cfg C) hS⟩
  rw [List.eq_nil_iff_forall_not_mem]
  intro i hi
  obtain ⟨o,h1,h2,_⟩:=ready_spec.1 hi
  have hi:i<ops.size:=(Array.getElem?_eq_some_iff.1 h1).1
  have:=(hli i hi).1.1 h2
  simp at this
 | succ fuel ih =>
  intro l listed C R hP hsort hln hfu hli hlsz hdn hS hQ
  have step:∀ (i:Nat) (o:Oper) (K':Env→Prop),ops[i]? = some o→i<ops.size→(opG cfg ops.toList o).wp C.E (Done P K' C.E) →
    (∀ C',Rel w0 L C'→C'.P=P→(∀ t,t<cfg.np→C'.loc t=C.loc t)→KeepA cfg C C'→K' C'.E→wpAny P .any ops Q fuel (listed.setIfInBounds i true) C'.a C'.w)→wpOp P ops Q i (wpAny P .any ops Q fuel (listed.setIfInBounds i true)) C.a C.w:=by
   intro i o K' ho hi h hnx
   unfold wpOp
   rw [ho]
   exact opG_sound hop R hP h hnx
  have setT:∀ i j,i<ops.size→(listed.setIfInBounds i true).getD j true=if j=i then true else listed.getD j true:=by
   intro i j hi
   rw [Array.getD_eq_getD_getElem?,Array.getD_eq_getD_getElem?]
   by_cases h:j=i
   ·subst h; rw [Array.getElem?_setIfInBounds_self_of_lt (by rw [hlsz]; exact hi)]; simp
   ·rw [Array.getElem?_setIfInBounds_ne (fun e=>h e.symm),if_neg h]
  have setF:∀ i j,i<ops.size→(listed.setIfInBounds i true).getD j false=if j=i then true else listed.getD j false:=by
   intro i j hi
   rw [Array.getD_eq_getD_getElem?,Array.getD_eq_getD_getElem?]
   by_cases h:j=i
   ·subst h; rw [Array.getElem?_setIfInBounds_self_of_lt (by rw [hlsz]; exact hi)]; simp
   ·rw [Array.getElem?_setIfInBounds_ne (fun e=>h e.symm),if_neg h]
  refine ⟨fun hre => ?_,fun i hi => ?_⟩
  ·exfalso
   cases hl:l with
   | nil=>rw [hl] at hfu; simp at hfu
   | cons x xs =>
    have hx:x<ops.size:=hln x (by rw [hl]; exact List.mem_cons_self)
    have:x∈Region.ready .any ops listed:=by
     refine ready_spec.2 ⟨ops[x],Array.getElem?_eq_getElem hx,(hli x hx).1.2 (by rw [hl]; exact List.mem_cons_self),fun j hj => ?_⟩
     have hlt:=bef_lt x _ j (Array.getElem?_eq_getElem hx) hj
     refine (hli j (by omega)).2.2 fun hjl => ?_
     rw [hl] at hjl hsort
     rcases List.mem_cons.1 hjl with h | h
     ·omega
     ·have:=(List.pairwise_cons.1 hsort).1 j h; omega
    rw [hre] at this
    simp at this
  ·obtain ⟨o,ho,hu,hb⟩:=ready_spec.1 hi
   have his:i<ops.size:=(Array.getElem?_eq_some_iff.1 ho).1
   have ho':ops.toList[i]? = some o:=by rw [Array.getElem?_toList]; exact ho
   have hil:=(hli i his).1.1 hu
   have hall:∀ n j,i-j≤n→((reachL ops.toList).getD i 0).testBit j=true→listed.getD j false=true:=by
    have key:∀ m a oa,a<m→ops[a]? = some oa→(∀ h,h∈befs oa→listed.getD h false=true)→∀ j,((reachL ops.toList).getD a 0).testBit j=true→listed.getD j false=true:=by
     intro m
     induction m with
     | zero=>intro a oa h; omega
     | succ m ihm =>
      intro a oa ham hoa hbs j hj
      obtain ⟨k,q1,q2⟩:=hreach a oa (by rw [Array.getElem?_toList]; exact hoa) (fun j hj=>bef_lt a oa j hoa hj) j hj
      have hk:=hbs k q1
      rcases q2 with rfl | q2
      ·exact hk
      ·have hka:=bef_lt a oa k hoa q1
       have has:a<ops.size:=(Array.getElem?_eq_some_iff.1 hoa).1
       have hks:k<ops.size:=by omega
       exact ihm k ops[k] (by omega) (Array.getElem?_eq_getElem hks) (hdn k _ (Array.getElem?_eq_getElem hks) hk) j q2
    intro n j _ hj
    exact key (i+1) i o (by omega) ho hb j hj
   obtain ⟨l1,l2,rfl⟩:=List.append_of_mem hil
   have hpw:=List.pairwise_append.1 hsort
   have hlt1:∀ a,a∈l1→a<i:=fun a ha=>hpw.2.2 a ha i List.mem_cons_self
   have hlt2:∀ a,a∈l2→i<a:=fun a ha=>(List.pairwise_cons.1 hpw.2.1).1 a ha
   have hfront:=seqN_front ho' l1 C.E (by
    intro a ha oa hoa
    have hai:=hlt1 a ha
    have h4:=k4 i (by rw [hsz]; exact his) a hai
    unfold apart at h4
    rw [Bool.or_eq_true] at h4
    rcases h4 with h4 | h4
    ·have:=hall _ a (Nat.le_refl _) h4
     exact absurd (by simp [ha]) ((hli a (by omega)).2.1 this)
    ·split at h4
     ·rename_i fa fi ta ti g1 g2 g3 g4
      simp only [Bool.and_eq_true] at h4
      refine ⟨fa,fi,g1,g2,fun ta' ti' d1 d2 => ?_⟩
      have e1:ta=ta':=by simpa [dstAt,hoa,d1] using g3.symm
      have e2:ti=ti':=by simpa [dstAt,ho',d2] using g4.symm
      rw [←e1,←e2]; exact ⟨h4.1.1.1,h4.1.1.2,h4.1.2,h4.2⟩
     ·cases h4) hS
   obtain ⟨o',q1,hfront⟩:=hfront
   rw [ho'] at q1; injection q1 with q1; subst q1
   have go:(opG cfg ops.toList o).wp C.E (Done P (fun E=>SeqN P cfg ops.toList fs (l1++l2) E K) C.E):=by
    rcases hfront with ⟨fb,t,d,c,_,e3,e4⟩ | ⟨_,e4⟩
    ·exact e3.2.2.2 C.E ⟨rfl,fun _ _=>⟨rfl,fun _=>rfl⟩⟩ R.tight _ e4
    ·exact e4
   refine step i o _ ho his go ?_
   intro C' R' hP' hl' hk' hK'
   refine ih (l1++l2) _ C' R' hP' ?_ ?_ ?_ ?_ (by simpa using hlsz) ?_ hK' ?_
   ·exact hsort.sublist (by simp)
   ·intro j hj; exact hln j (by simp at hj ⊢; rcases hj with h | h<;>simp [h])
   ·simp at hfu ⊢; omega
   ·intro j hj
    rw [setT i j his,setF i j his]
    have hli':=hli j hj
    have hmem:∀ x,x≠i→(x∈l1++i::l2↔x∈l1++l2):=by intro x hx; simp [hx]
    by_cases hji:j=i
    ·subst hji
     have hnin:j ∉ l1++l2:=by
      intro h
      rcases List.mem_append.1 h with h | h
      ·have:=hlt1 j h; omega
      ·have:=hlt2 j h; omega
     rw [if_pos rfl,if_pos rfl]
     exact ⟨⟨fun h=>(by cases h),fun h=>absurd h hnin⟩,⟨fun _=>hnin,fun _=>rfl⟩⟩
    ·rw [if_neg hji,if_neg hji]
     rw [hli'.1,hli'.2,hmem j hji]
     exact ⟨Iff.rfl,Iff.rfl⟩
   ·intro j o2 ho2 hj h hh
    rw [setF i j his] at hj
    rw [setF i h his]
    by_cases hji:j=i
    ·subst hji
     rw [ho] at ho2; injection ho2 with ho2; subst ho2
     split
     ·rfl
     ·exact hb h hh
    ·rw [if_neg hji] at hj
     split
     ·rfl
     ·exact hdn j o2 ho2 hj h hh
   ·intro C2 R2 hP2 hl2 hk2 hK2
    exact hQ C2 R2 hP2 (fun t ht=>(hl2 t ht).trans (hl' t ht)) (hk'.trans hk2) hK2
theorem pDraw_sound0 {P:Program} {cfg:Cfg} (hop:OpOk P cfg) {w0:World} {L:Nat→Nat→Prop} {id:Nat} {ops:Array Oper} {Q:Go.Exit→Act→World→Prop} {K:Env→Prop} {C:Ctx} (R:Rel w0 L C) (hP:C.P=P)
  (hm:P.follows .mixedOrders=true) (h:(∃ n fs,drawOk ops.toList n fs=true∧pHead P cfg ops.toList ((ops.toList.take n).zip fs) C.E fun E'=>pOps P cfg ops.toList (ops.toList.drop n) E' K)∨∃ fs,drawN ops.toList fs=true∧pHeadN P cfg ops.toList (ops.toList.zip fs) C.E K) (hQ:∀ C',Rel w0 L C'→C'.P=P→(∀ t,t<cfg.np→C'.loc t=C.loc t)→KeepA cfg C C'→K C'.E→Q .normal C'.a C'.w):(Code.region id ops true).wp P Q C.a C.w:=by
 rcases h with ⟨n,fs,hok,h⟩ | ⟨fs,hok,h⟩
 case inr =>
  have hok':=hok
  simp only [drawN,Bool.and_eq_true,decide_eq_true_eq,List.all_eq_true,List.mem_range] at hok'
  obtain ⟨⟨k1,k3⟩,k4⟩:=hok'
  have hsz:ops.toList.length=ops.size:=by simp
  have R1:=R.drew (w':={ C.w with drawn:=C.w.drawn+1 }) ⟨rfl,rfl,rfl,Nat.le_refl _,fun _ _=>rfl⟩
  have hzl:(ops.toList.zip fs).length=ops.size:=by rw [List.length_zip,k1]; simp
  have hseq:=seqN_of (fs:=fs) (ops.toList.zip fs) 0 C.E (by
   intro i x hx
   rw [Nat.zero_add]
   exact List.getElem?_zip_eq_some.1 hx) h
  rw [hzl] at hseq
  refine wp_region_any hm ?_
  refine pDrawN_go hop hok ops.size (List.range' 0 ops.size) _ { C with w:={ C.w with drawn:=C.w.drawn+1 } } R1 hP ?_ ?_ (by simp) ?_ (by simp) ?_ hseq ?_
  ·exact List.pairwise_lt_range'
  ·intro i hi; rw [List.mem_range'_1] at hi; omega
  ·intro i hi
   have e1:(Array.replicate ops.size false).getD i true=false:=by simp [Array.getD,hi]
   have e2:(Array.replicate ops.size false).getD i false=false:=by simp [Array.getD,hi]
   rw [e1,e2,List.mem_range'_1]
   refine ⟨⟨fun _=>by omega,fun _=>rfl⟩,⟨fun h=>(by cases h),fun h=>absurd (by omega) h⟩⟩
  ·intro j o ho hj
   have hjs:j<ops.size:=(Array.getElem?_eq_some_iff.1 ho).1
   have e2:(Array.replicate ops.size false).getD j false=false:=by simp [Array.getD,hjs]
   rw [e2] at hj; cases hj
  ·intro C' R' hP' hl' hk' hK'
   exact hQ C' R' hP' hl' hk' hK'
 have hok':=hok
 simp only [drawOk,Bool.and_eq_true,decide_eq_true_eq,List.all_eq_true,List.mem_range] at hok'
 obtain ⟨⟨⟨⟨⟨⟨k1,k2⟩,k0⟩,k3⟩,k4⟩,k5⟩,k6⟩:=hok'
 have hsz:ops.toList.length=ops.size:=by simp
 have R1:=R.drew (w':={ C.w with drawn:=C.w.drawn+1 }) ⟨rfl,rfl,rfl,Nat.le_refl _,fun _ _=>rfl⟩
 have hzl:((ops.toList.take n).zip fs).length=n:=by simp; omega
 have hseq:=seqH_of (fs:=fs) ((ops.toList.take n).zip fs) 0 C.E (by
  intro i x hx
  rw [Nat.zero_add]
  obtain ⟨h1,h2⟩:=List.getElem?_zip_eq_some.1 hx
  refine ⟨?_,h2⟩
  have hi:i<n:=by
   have:=(gSm hx).1
   omega
  rw [List.getElem?_take_of_lt hi] at h1
  exact h1) h
 rw [hzl] at hseq
 refine wp_region_any hm ?_
 refine pDraw_go hop hok ops.size (List.range' 0 n) n _ { C with w:={ C.w with drawn:=C.w.drawn+1 } } R1 hP ?_ ?_ (Nat.le_refl _) (by omega) (fun _=>rfl) (by simp; omega) ?_ (by simp) ?_ hseq ?_
 ·exact List.pairwise_lt_range'
 ·intro i hi; rw [List.mem_range'_1] at hi; omega
 ·intro i hi
  have e1:(Array.replicate ops.size false).getD i true=false:=by simp [Array.getD,hi]
  have e2:(Array.replicate ops.size false).getD i false=false:=by simp [Array.getD,hi]
  rw [e1,e2,List.mem_range'_1]
  refine ⟨⟨fun _=>by omega,fun _=>rfl⟩,⟨fun h=>(by cases h),fun h=>absurd (by omega) h⟩⟩
 ·intro j o ho hj
  have hjs:j<ops.size:=(Array.getElem?_eq_some_iff.1 ho).1
  have e2:(Array.replicate ops.size false).getD j false=false:=by simp [Array.getD,hjs]
  rw [e2] at hj; cases hj
 ·intro C' R' hP' hl' hk' hK'
  exact hQ C' R' hP' hl' hk' hK'
theorem pDraw_sound {P:Program} {cfg:Cfg} (hop:OpOk P cfg) {w0:World} {L:Nat→Nat→Prop} {id:Nat} {ops:Array Oper} {Q:Go.Exit→Act→World→Prop} {K:Env→Prop} {C:Ctx} (R:Rel w0 L C) (hP:C.P=P)
  (h:pDraw P cfg ops.toList C.E K) (hQ:∀ C',Rel w0 L C'→C'.P=P→(∀ t,t<cfg.np→C'.loc t=C.loc t)→KeepA cfg C C'→K C'.E→Q .normal C'.a C'.w):(Code.region id ops true).wp P Q C.a C.w:=by
 obtain ⟨hm,E0,hw,h⟩:=h
 obtain ⟨F',R0⟩:=Rel.weaks hw rfl R
 exact pDraw_sound0 (C:={ C with E:=E0,F:=F' }) hop R0 hP hm h fun C' R' hP' hl' hk' hK'=>hQ C' R' hP' hl' hk' hK'
theorem pwp_sound {P:Program} {cfg:Cfg} (hop:OpOk P cfg) {w0:World} {L:Nat→Nat→Prop} :
  ∀ (c:Code) (C:Ctx) (Q:Go.Exit→Act→World→Prop) (Qp:Go.Exit→Env→Prop),Rel w0 L C→C.P=P→pwp P cfg c C.E Qp →
   (∀ e C',Rel w0 L C'→C'.P=P→(∀ t,t<cfg.np→C'.loc t=C.loc t)→KeepA cfg C C'→Qp e C'.E→Q e C'.a C'.w)→c.wp P Q C.a C.w:=by
 intro c
 induction c with
 | skip=>intro C Q Qp R hP h hQ; exact wp_skip (hQ _ C R hP (fun _ _=>rfl) (KeepA.refl cfg C) h)
 | seq x y ihx ihy =>
  intro C Q Qp R hP h hQ
  refine wp_seq (ihx C _ _ R hP h ?_)
  intro e C' R' hP' hl' hk' hq
  cases e with
  | normal=>exact ihy C' Q Qp R' hP' hq fun e C2 R2 hP2 hl2 hk2 hq2=>hQ e C2 R2 hP2 (fun t ht=>(hl2 t ht).trans (hl' t ht)) (hk'.trans hk2) hq2
  | _=>exact hQ _ C' R' hP' hl' hk' hq
 | region id ops draw =>
  intro C Q Qp R hP h hQ
  cases draw with
  | true =>
   have h:pDraw P cfg ops.toList C.E (Qp .normal):=h
   exact pDraw_sound hop R hP h fun C' R' hP' hl' hk' hK=>hQ _ C' R' hP' hl' hk' hK
  | false =>
  have h:pOps P cfg ops.toList ops.toList C.E (Qp .normal):=h
  exact wp_region_list (pOps_sound hop _ C R hP h fun C' R' hP' hl' hk' hK=>hQ _ C' R' hP' hl' hk' hK)
 | cond c x y ihx ihy =>
  intro C Q Qp R hP h hQ
  simp only [pwp,condR] at h
  replace h:=opdR_wp R h
  obtain ⟨d,h,hv⟩:=h
  split at h
  ·rename_i b
   have e:=(hv rfl).v_inv.1
   refine wp_cond (t:=b) e ?_
   simp only [Rdr.wp] at h
   split at h
   ·rename_i hb; rw [if_pos hb]; exact ihx C Q Qp R hP h hQ
   ·rename_i hb; rw [if_neg hb]; exact ihy C Q Qp R hP h hQ
  ·exact h.elim
 | block id c ih =>
  intro C Q Qp R hP h hQ
  refine wp_block (ih C _ _ R hP h ?_)
  intro e C' R' hP' hl' hk' hq
  cases e with
  | exit id' =>
   simp only [Exit.blk] at hq
   simp only [Go.Exit.inBlock]
   split at hq
   ·rename_i h; rw [if_pos h]; exact hQ _ C' R' hP' hl' hk' hq
   ·rename_i h; rw [if_neg h]; exact hQ _ C' R' hP' hl' hk' hq
  | _=>exact hQ _ C' R' hP' hl' hk' hq
 | loop c ih =>
  intro C Q Qp R hP h hQ
  obtain ⟨I,μ,⟨E0,hw0,h0⟩,hr⟩:=h
  refine wp_loop_rounds (μ E0+1) ?_
  have key:∀ (n:Nat) (C1:Ctx),Rel w0 L C1→C1.P=P→(∀ t,t<cfg.np→C1.loc t=C.loc t)→KeepA cfg C C1→I C1.E→μ C1.E<n→Code.rounds P c Q n C1.a C1.w:=by
   intro n
   induction n with
   | zero=>intro C1 _ _ _ _ _ h; omega
   | succ n ihn =>
    intro C1 R1 hP1 hl1 hk1 hI hμ
    rw [rounds_succ]
    refine ih C1 _ _ R1 hP1 (hr C1.E hI) ?_
    intro e C2 R2 hP2 hl2 hk2 hq
    have hk:KeepA cfg C C2:=hk1.trans hk2
    have hl:∀ t,t<cfg.np→C2.loc t=C.loc t:=fun t ht=>(hl2 t ht).trans (hl1 t ht)
    cases e with
    | normal =>
     obtain ⟨E'',hw,hI',hμ'⟩:=hq
     obtain ⟨F2,R3⟩:=R2.weak' hw
     exact ihn { C2 with E:=E'',F:=F2 } R3 hP2 hl hk hI' (by show μ E''<n; omega)
    | _=>exact hQ _ C2 R2 hP2 hl hk hq
  obtain ⟨F1,R1⟩:=R.weak' hw0
  exact key _ { C with E:=E0,F:=F1 } R1 hP (fun _ _=>rfl) (KeepA.refl cfg C) h0 (Nat.lt_succ_self _)
 | exit id=>intro C Q Qp R hP h hQ; exact wp_exit (hQ _ C R hP (fun _ _=>rfl) (KeepA.refl cfg C) h)
 | ret=>intro C Q Qp R hP h hQ; exact wp_ret (hQ _ C R hP (fun _ _=>rfl) (KeepA.refl cfg C) h)
 | _=>intro C Q Qp R hP h; exact h.elim
theorem Frame.trans' {w0:World} {L:Nat→Nat→Prop} {w w':World} {lent:Nat→Nat→Prop} (h:Frame w0 L w) (k:Frame w lent w') (hL:∀ b o,lent b o→b<w0.heap.size→L b o):Frame w0 L w':=by
 refine ⟨k.os.trans h.os,k.tape.trans h.tape,k.output.trans h.output,Nat.le_trans h.size k.size,?_,?_⟩
 ·intro b hb hl
  rw [k.kept b (Nat.lt_of_lt_of_le hb h.size) (fun o ho=>hl o (hL b o ho hb))]
  exact h.kept b hb hl
 ·intro b cs e fr hc
  have hb:b<w0.heap.size:=(Array.getElem?_eq_some_iff.1 hc).1
  obtain ⟨c1,h1,h2,h3⟩:=h.part b cs e fr hc
  obtain ⟨c2,k1,k2,k3⟩:=k.part b c1 e fr h1
  exact ⟨c2,k1,k2.trans h2,fun o ho=>(k3 o (fun hl=>ho (hL b o hl hb))).trans (h3 o ho)⟩
theorem Rel.havoc {w0:World} {L:Nat→Nat→Prop} {C:Ctx} (R:Rel w0 L C) {w':World} {lent:Nat→Nat→Prop} (hw:Frame C.w lent w') {PL:Lf→Prop} {CR:Nat→Nat→Prop}
  (hlent:∀ b o,lent b o→(∃ q,PL q∧C.F q b)∨∃ c ds k,C.live c ds∧CR c k∧k<ds.length∧(C.loc c).1=b∧o=(C.loc c).2+k)
  (hdead:∀ c k,CR c k→C.E.leaf ⟨true,c,k⟩ = .dead) (hone:∀ c ds k,C.live c ds→CR c k→k<ds.length→∀ cs e fr,w'.heap[(C.loc c).1]? = some (.cells cs e fr)→one (cs.getD ((C.loc c).2+k) undef)=true)
  (wb:List (Lf × TypeId × List (List T))) {F'':Lf→Nat→Prop}
  (hwb:∀ p e xs,wbFind wb p=some (e,xs)→PL p∧∃ xs0,C.E.leaf p = .own e xs0∧xs.length=xs0.length∧OwnT C.P w' (.sl e xs) (C.cv p) (F'' p))
  (hpl:∀ p e xs,PL p→C.E.leaf p = .own e xs→(wbFind wb p).isSome=true)
  (f1:∀ p e xs,C.E.leaf p = .own e xs→wbFind wb p=none→F'' p=C.F p)
  (f2:∀ p b,F'' p b→(C.F p b∧wbFind wb p=none∧∃ e xs,C.E.leaf p = .own e xs)∨(∃ q,PL q∧C.F q b)∨(C.w.heap.size≤b∧b<w'.heap.size))
  (f3:∀ p q b,F'' p b→F'' q b→p=q):Rel w0 L { C with E:=C.E.mapP (wbG wb),w:=w',F:=F'' }:=by
 have hg:∀ p d,d.leafy=true→(wbG wb p d).leafy=true:=by
  intro p d h
  unfold wbG
  split
  ·rfl
  ·split
   ·split<;>rfl
   ·exact h
 have nolent1:∀ p e xs b,C.E.leaf p = .own e xs→wbFind wb p=none→C.F p b→∀ o,¬ lent b o:=by
  intro p e xs b hp hn hb o hl
  rcases hlent b o hl with ⟨q,hq,hqb⟩ | ⟨c,ds,k,hc,_,_,hcb,_⟩
  ·have:=R.disj _ _ _ hb hqb
   subst this
   have:=hpl p e xs hq hp
   rw [hn] at this; simp at this
  ·exact R.fcd c ds p hc (hcb▸hb)
 have nolent2:∀ b,¬ C.Owned b→∀ o,¬ lent b o:=by
  intro b hb o hl
  rcases hlent b o hl with ⟨q,_,hqb⟩ | ⟨c,ds,k,hc,_,_,hcb,_⟩
  ·exact hb (.inl ⟨q,hqb⟩)
  ·exact hb (.inr ⟨c,ds,hc,hcb⟩)
 have nolent3:∀ t ds k,C.live t ds→¬ CR t k→¬ lent (C.loc t).1 ((C.loc t).2+k):=by
  intro t ds k ht hn hl
  rcases hlent _ _ hl with ⟨q,_,hqb⟩ | ⟨c,ds',k',hc,hcr,hk,hcb,ho⟩
  ·exact R.fcd t ds q ht hqb
  ·have:=R.cdisj c ds' t ds hc ht hcb
   subst this
   have:k'=k:=by omega
   subst this
   exact hn hcr
 have cells:∀ t ds,C.live t ds→∃ cs e fr cs',C.w.heap[(C.loc t).1]? = some (.cells cs e fr)∧w'.heap[(C.loc t).1]? = some (.cells cs' e fr)∧cs'.size=cs.size∧Thawed cs.size fr∧(C.loc t).2+ds.length≤cs.size ∧
   (∀ k,¬ CR t k→cs'[(C.loc t).2+k]? = cs[(C.loc t).2+k]?):=by
  intro t ds ht
  obtain ⟨cs,e,fr,a1,a2,a3,a4⟩:=(R.cell t ds ht).out
  obtain ⟨cs',b1,b2,b3⟩:=hw.part _ cs e fr a1
  exact ⟨cs,e,fr,cs',a1,b1,b2,a2,a3,fun k hk=>b3 _ (nolent3 t ds k ht hk)⟩
 have kept1:∀ p e xs b,C.E.leaf p = .own e xs→wbFind wb p=none→C.F p b→w'.heap[b]? = C.w.heap[b]? := fun p e xs b hp hn hb=>hw.kept b (R.fbound p b hb) (nolent1 p e xs b hp hn hb)
 generalize hC':({ C with E:=C.E.mapP (wbG wb),w:=w',F:=F'' }:Ctx)=C'
 have hP:C'.P=C.P:=by rw [←hC']
 have hE:C'.E=C.E.mapP (wbG wb):=by rw [←hC']
 have ha:C'.a=C.a:=by rw [←hC']
 have hw':C'.w=w':=by rw [←hC']
 have hF:C'.F=F'':=by rw [←hC']
 have hloc:C'.loc=C.loc:=by rw [←hC']
 have hleaf:∀ p,C'.E.leaf p=lf1 (wbG wb) p (C.E.leaf p):=by intro p; rw [hE,mapP_leaf R _ hg]
 have hlive:∀ t ds',C'.live t ds'→∃ ds,C.live t ds∧ds'=mapLv (fun j=>lf1 (wbG wb) ⟨true,t,j⟩) 0 ds:=by
  intro t ds' h
  have h2:C'.E.ce[t]? = some (some ds'):=h
  rw [hE] at h2
  simp only [Env.mapP] at h2
  rw [mapCe_get] at h2
  cases h3:C.E.ce[t]? with
  | none=>rw [h3] at h2; simp at h2
  | some o =>
   cases o with
   | none=>rw [h3] at h2; simp at h2
   | some ds=>rw [h3] at h2; simp at h2; exact ⟨ds,h3,h2.symm⟩
 have hlv2:∀ t ds,C.live t ds→C'.live t (mapLv (fun j=>lf1 (wbG wb) ⟨true,t,j⟩) 0 ds):=by
  intro t ds h
  show C'.E.ce[t]? = _
  rw [hE]
  simp only [Env.mapP]
  rw [mapCe_get,show C.E.ce[t]? = some (some ds) from h]
  simp
 have hcv:∀ p,C.E.leaf p ≠ .dead→C'.cv p=C.cv p:=by
  rintro ⟨c,t,k⟩ hn
  unfold Ctx.cv
  rw [ha,hw',hloc]
  cases c with
  | false=>rfl
  | true =>
   obtain ⟨ds,hl⟩:=Rel.liveOf (w0:=w0) (L:=L) hn
   obtain ⟨cs,e,fr,cs',a1,a2,a3,a4,a5,a6⟩:=cells t ds hl
   simp only [if_true]
   rw [cell_of a1,cell_of a2,a6 k (fun h=>hn (hdead _ _ h))]
 have hF2:∀ p b,F'' p b→C.Owned b∨(C.w.heap.size≤b∧b<w'.heap.size):=by
  intro p b h
  rcases f2 p b h with ⟨h,_⟩ | ⟨q,_,h⟩ | h
  ·exact .inl (.inl ⟨p,h⟩)
  ·exact .inl (.inl ⟨q,h⟩)
  ·exact .inr h
 have hF3:∀ p b,F'' p b→(∃ q,C.F q b)∨(C.w.heap.size≤b∧b<w'.heap.size):=by
  intro p b h
  rcases f2 p b h with ⟨h,_⟩ | ⟨q,_,h⟩ | h
  ·exact .inl ⟨p,h⟩
  ·exact .inl ⟨q,h⟩
  ·exact .inr h
 have s:Same C C' (fun q=>q) (fun q=>(wbFind wb q).isSome=true) (fun _=>False):=by
  refine ⟨hP,fun b hb hlb=>⟨?_,by rw [hw']; exact hw.kept b hlb (nolent2 b hb)⟩,?_,?_,by rw [←hC']; exact fun _ h=>h⟩
  ·rintro (⟨p,hp⟩ | ⟨t,ds',hl,hb'⟩)
   ·rw [hF] at hp
    rcases hF2 p b hp with h | h
    ·exact hb h
    ·omega
   ·obtain ⟨ds,h1,_⟩:=hlive t ds' hl
    rw [hloc] at hb'
    exact hb (.inr ⟨t,ds,h1,hb'⟩)
  ·intro p e xs hbad hp
   have hn:C.E.leaf p ≠ .dead:=by rw [hp]; simp
   cases hf:wbFind wb p with
   | none =>
    refine ⟨xs,?_,rfl,hcv p hn,fun i j e' ys hg=>⟨hg,fun b o n cap v hc hv => ?_⟩⟩
    ·rw [hleaf,hp]
     show wbG wb p (.own e xs)=_
     unfold wbG; rw [hf]
    ·have ho:=R.ownLeaf hp
     rw [hc] at ho
     rw [hw']
     cases ho with
     | row _ _ _ _ _ csr frr F G X g1 g2 =>
      simp only [World.cell?,kept1 p e xs b hp hf g2] at hv ⊢
      exact hv
   | some ex=>rw [hf] at hbad; simp at hbad
  ·intro t ds _ hl
   exact ⟨_,hlv2 t ds hl,mapLv_length ..,by rw [hloc]⟩
 have lf2:∀ q e xs,C.E.leaf q = .own e xs→∃ xs',C'.E.leaf q = .own e xs'∧xs'.length=xs.length∧C'.cv q=C.cv q:=by
  intro q e xs hq
  have hn:C.E.leaf q ≠ .dead:=by rw [hq]; simp
  cases hf:wbFind wb q with
  | none =>
   obtain ⟨xs',h1,h2,h3,_⟩:=s.lf q e xs (by simp [hf]) hq
   exact ⟨xs',h1,h2,h3⟩
  | some ex =>
   obtain ⟨e1,xs1⟩:=ex
   obtain ⟨_,xs0,h1,h2,h3⟩:=hwb q e1 xs1 hf
   rw [hq] at h1; injection h1 with q1 q2; subst q1; subst q2
   refine ⟨xs1,?_,h2,hcv q hn⟩
   rw [hleaf,hq]
   show wbG wb q (.own e xs)=_
   unfold wbG; rw [hf]
 have go1:∀ p d v,C.E.leaf p=d→v=C.cv p→LRel C p d v→LRel C' p (lf1 (wbG wb) p d) v:=by
  intro p d v hp hvc hv
  cases hf:wbFind wb p with
  | some ex =>
   obtain ⟨e1,xs1⟩:=ex
   obtain ⟨_,xs0,h1,h2,h3⟩:=hwb p e1 xs1 hf
   rw [hp] at h1; subst h1; subst hvc
   show LRel C' p (wbG wb p (.own e1 xs0)) _
   have:wbG wb p (.own e1 xs0) = .own e1 xs1:=by unfold wbG; rw [hf]
   rw [this]
   refine .own _ _ _ _ ?_
   rw [hP,hw',hF]; exact h3
  | none =>
   have hnela:(∀ q i j,d ≠ .ela q i j)→lf1 (wbG wb) p d=d:=by
    intro h
    cases d<;>first | rfl | (simp only [lf1,wbG,hf]; done) | exact absurd rfl (h _ _ _)
   have other:(∀ q i j,d ≠ .ela q i j)→d.isOwn=false→(∀ q,d.base=some q→(wbFind wb q).isSome=false)→LRel C' p (lf1 (wbG wb) p d) v:=by
    intro h1 ho h2
    rw [hnela h1]
    have:=LRel.same s hv p ho ⟨fun q hq=>by simp [h2 q hq],fun t ht=>by simp⟩
    rwa [D.re_id] at this
   cases d with
   | dead=>exact .dead _ _
   | own e xs =>
    rw [hnela (by simp)]
    cases hv with
    | own _ _ _ h =>
     refine .own _ _ _ _ ?_
     rw [hP,hw',hF,f1 p e xs hp hf]
     exact h.mono (fun _ h=>h) (fun b hb _=>kept1 p e xs b hp hf hb)
   | ali q =>
    rw [hnela (by simp)]
    cases hv with
    | ali _ e xs hl =>
     obtain ⟨xs',a1,a2,a3⟩:=lf2 q e xs hl
     have:=LRel.ali (C:=C') p q e xs' a1
     rwa [a3] at this
   | sub q lo hi =>
    rw [hnela (by simp)]
    cases hv with
    | sub _ _ _ e xs hl h1 h2 hne =>
     obtain ⟨xs',a1,a2,a3⟩:=lf2 q e xs hl
     have:=LRel.sub (C:=C') p q lo hi e xs' a1 h1 (by omega) hne
     rwa [a3,hP] at this
   | eref q i j =>
    rw [hnela (by simp)]
    cases hv with
    | eref _ _ _ e xs b o n cap hl hc hi =>
     obtain ⟨xs',a1,a2,a3⟩:=lf2 q e xs hl
     have:=LRel.eref (C:=C') p q i j e xs' b o n cap a1 (a3.trans hc) (by omega)
     rwa [hP] at this
   | ela q i j =>
    show LRel C' p (wbG wb p (.ela q i j)) v
    have e1:wbG wb p (.ela q i j)=if (wbFind wb q).isSome then .dead else .ela q i j:=by unfold wbG; rw [hf]
    rw [e1]
    split
    ·exact .dead _ _
    ·rename_i hq
     have:=LRel.same s hv p rfl ⟨fun q' hq'=>by simp only [D.base,Option.some.injEq] at hq'; subst hq'; exact hq,fun t ht=>by simp⟩
     rwa [D.re_id] at this
   | _=>exact other (by simp) rfl (fun q hq=>by simp [D.base] at hq)
 refine ⟨?_,by rw [ha]; exact R.defers,?_,?_,by rw [hF]; exact f3,?_,?_,?_,?_,?_,?_,by rw [←hC']; exact R.mnew,by rw [←hC']; exact R.mL,by rw [←hC']; exact R.glob⟩
 ·rw [ha,hE]
  show C.a.tmps.size=(mapSl (lf1 (wbG wb)) 0 C.E.sl).length
  rw [mapSl_length]; exact R.tmps
 ·intro t d' hd'
  rw [hE] at hd'
  rw [ha]
  have h2:(mapSl (lf1 (wbG wb)) 0 C.E.sl)[t]? = some d':=hd'
  rw [mapSl_get] at h2
  cases h3:C.E.sl[t]? with
  | none=>rw [h3] at h2; simp at h2
  | some d =>
   rw [h3] at h2
   have h4:d'=d.mapP (fun j=>lf1 (wbG wb) ⟨false,t,j⟩):=by simpa using h2.symm
   subst h4
   have hs:=R.slot t d h3
   refine hs.map rfl _ (leafyG hg _) (fun _=>rfl) fun k y hy hl => ?_
   exact ⟨lf1_leafy hg _ _ hl,fun hv=>go1 _ _ _ (hs.at h3 k y hy) rfl hv⟩
 ·intro t ds' hl
  obtain ⟨ds,h1,rfl⟩:=hlive t ds' hl
  obtain ⟨cs,e,fr,cs',a1,a2,a3,a4,a5,a6⟩:=cells t ds h1
  obtain ⟨cs0,e0,fr0,b1,b2,b3,b4⟩:=(R.cell t ds h1).out
  rw [a1] at b1
  injection b1 with b1
  injection b1 with q1 q2 q3
  subst q1; subst q2; subst q3
  refine ⟨cs',e,fr,by rw [hw',hloc]; exact a2,by rw [a3]; exact a4,by rw [hloc,mapLv_length,a3]; exact a5,?_⟩
  intro i d hd
  rw [mapLv_get] at hd
  cases hx:ds[i]? with
  | none=>rw [hx] at hd; simp at hd
  | some y =>
   rw [hx] at hd
   have:d=lf1 (wbG wb) ⟨true,t,0+i⟩ y:=by simpa using hd.symm
   subst this
   rw [Nat.zero_add,hloc]
   obtain ⟨c1,c2,c3⟩:=b4 i y hx
   have hlf:C.E.leaf ⟨true,t,i⟩=y:=by rw [leaf_cell _ _ _ _ h1]; exact getD_some hx
   by_cases hy:y = .dead
   ·subst hy
    refine ⟨rfl,?_,.dead _ _⟩
    by_cases hcr:CR t i
    ·exact hone t ds i h1 hcr (gSm hx).1 cs' e fr a2
    ·rw [arrGetD,a6 i hcr,←arrGetD]; exact c2
   ·have e1:cs'.getD ((C.loc t).2+i) undef=cs.getD ((C.loc t).2+i) undef:=by
     rw [arrGetD,arrGetD,a6 i (fun h=>hy (by rw [←hlf]; exact hdead _ _ h))]
    rw [e1]
    exact ⟨lf1_leafy hg _ _ c1,c2,go1 _ _ _ hlf (cell_cv a1).symm c3⟩
 ·intro t1 d1 t2 d2 h1 h2 he
  rw [hloc] at he
  obtain ⟨x1,y1,_⟩:=hlive _ _ h1
  obtain ⟨x2,y2,_⟩:=hlive _ _ h2
  exact R.cdisj _ _ _ _ y1 y2 he
 ·intro t' ds' p hl' hp
  rw [hF,hloc] at hp
  obtain ⟨x1,y1,_⟩:=hlive _ _ hl'
  rcases hF3 p _ hp with ⟨q,h⟩ | h
  ·exact R.fcd _ _ q y1 h
  ·obtain ⟨cs,e,fr,cs',a1,_⟩:=cells t' x1 y1
   have:=(Array.getElem?_eq_some_iff.1 a1).1
   omega
 ·intro p b hp
  rw [hF] at hp
  rw [hw']
  rcases hF3 p b hp with ⟨q,h⟩ | h
  ·exact Nat.lt_of_lt_of_le (R.fbound q b h) hw.size
  ·exact h.2
 ·intro p b hp hb o
  rw [hF] at hp
  rcases hF3 p b hp with ⟨q,h⟩ | h
  ·exact R.flent q b h hb o
  ·have:=R.frame.size; omega
 ·intro t' ds' hl' hb i hi
  rw [hloc] at hb ⊢
  obtain ⟨x1,y1,rfl⟩:=hlive _ _ hl'
  rw [mapLv_length] at hi
  exact R.clent _ _ y1 hb i hi
 ·rw [hw']
  refine R.frame.trans' hw fun b o hl hb => ?_
  rcases hlent b o hl with ⟨q,_,hq⟩ | ⟨c,ds,k,hc,_,hk,rfl,rfl⟩
  ·exact R.flent q b hq hb o
  ·exact R.clent c ds hc hb k hk
theorem Rel.setc {w0:World} {L:Nat→Nat→Prop} {C:Ctx} (R:Rel w0 L C) {c k:Nat} {ds ls:List D} (hl:C.live c ds) (hk:k+ls.length≤ds.length)
  (hdead:∀ j,k≤j→j<k+ls.length→C.E.leaf ⟨true,c,j⟩ = .dead)
  (hls:∀ (i:Nat) (d:D),ls[i]? = some d→d.leafy=true∧one (C.cv ⟨true,c,k+i⟩)=true∧LRel C ⟨true,c,k+i⟩ d (C.cv ⟨true,c,k+i⟩)) :
  Rel w0 L { C with E:={ C.E with ce:=C.E.ce.set c (some (setRange ds k ls)) } }:=by
 obtain ⟨cs,e,fr,a1,a2,a3,a4⟩:=(R.cell c ds hl).out
 have hlt:c<C.E.ce.length:=(gSm hl).1
 generalize hC':({ C with E:={ C.E with ce:=C.E.ce.set c (some (setRange ds k ls)) } }:Ctx)=C'
 have hP:C'.P=C.P:=by rw [←hC']
 have hE:C'.E={ C.E with ce:=C.E.ce.set c (some (setRange ds k ls)) }:=by rw [←hC']
 have ha:C'.a=C.a:=by rw [←hC']
 have hw:C'.w=C.w:=by rw [←hC']
 have hF:C'.F=C.F:=by rw [←hC']
 have hloc:C'.loc=C.loc:=by rw [←hC']
 have hlen:(setRange ds k ls).length=ds.length:=setRange_length ..
 have hlv:∀ t' ds',C'.live t' ds'→(t'=c∧ds'=setRange ds k ls)∨(t'≠c∧C.live t' ds'):=by
  intro t' ds' h
  have h:C'.E.ce[t']? = some (some ds'):=h
  rw [hE] at h
  simp only at h
  by_cases hne:t'=c
  ·subst hne
   rw [List.getElem?_set_self hlt] at h
   injection h with h; injection h with h
   exact .inl ⟨rfl,h.symm⟩
  ·rw [List.getElem?_set_ne (fun h=>hne h.symm)] at h
   exact .inr ⟨hne,h⟩
 have hlv1:∀ t' ds',C'.live t' ds'→∃ ds0,C.live t' ds0∧ds0.length=ds'.length:=by
  intro t' ds' h
  rcases hlv t' ds' h with ⟨rfl,rfl⟩ | ⟨_,h⟩
  ·exact ⟨ds,hl,hlen.symm⟩
  ·exact ⟨ds',h,rfl⟩
 have hlv2:∀ t' ds',C.live t' ds'→∃ ds'',C'.live t' ds''∧ds''.length=ds'.length∧C'.loc t'=C.loc t':=by
  intro t' ds' h
  by_cases hne:t'=c
  ·subst hne
   have:ds'=ds:=by
    have h1:C.E.ce[t']? = some (some ds'):=h
    have h2:C.E.ce[t']? = some (some ds):=hl
    rw [h2] at h1; injection h1 with h1; injection h1 with h1; exact h1.symm
   subst this
   refine ⟨setRange ds' k ls,?_,hlen,by rw [hloc]⟩
   show C'.E.ce[t']? = _
   rw [hE]
   exact List.getElem?_set_self hlt
  ·refine ⟨ds',?_,rfl,by rw [hloc]⟩
   show C'.E.ce[t']? = _
   rw [hE]
   show (C.E.ce.set c _)[t']? = _
   rw [List.getElem?_set_ne (fun h=>hne h.symm)]; exact h
 have hleaf:∀ q:Lf,¬ (q.c=true∧q.t=c∧k≤q.k∧q.k<k+ls.length)→C'.E.leaf q=C.E.leaf q:=by
  rintro ⟨cc,t',j⟩ hq
  rw [hE]
  cases cc with
  | false=>rfl
  | true =>
   by_cases hne:t'=c
   ·subst hne
    have h1:({ C.E with ce:=C.E.ce.set t' (some (setRange ds k ls)) }:Env).leaf ⟨true,t',j⟩=(setRange ds k ls).getD j .dead:=leaf_cell _ _ _ _ (List.getElem?_set_self hlt)
    rw [h1,leaf_cell _ _ _ _ hl,gDg,setRange_get _ _ _ _ hk,if_neg (fun h=>hq ⟨rfl,rfl,h⟩),←gDg]
   ·have e1:(C.E.ce.set c (some (setRange ds k ls))).getD t' none=C.E.ce.getD t' none:=by
     rw [gDg,List.getElem?_set_ne (fun h=>hne h.symm),←gDg]
    show (((C.E.ce.set c (some (setRange ds k ls))).getD t' none).getD []).getD j .dead=((C.E.ce.getD t' none).getD []).getD j .dead
    rw [e1]
 have hout:∀ q e xs',C.E.leaf q = .own e xs'→¬ (q.c=true∧q.t=c∧k≤q.k∧q.k<k+ls.length):=by
  rintro ⟨cc,t',j⟩ e xs' h ⟨h1,h2,h3,h4⟩
  simp only at h1 h2 h3 h4
  subst h1; subst h2
  rw [hdead j h3 h4] at h; cases h
 have hcv:∀ q,C'.cv q=C.cv q:=by intro q; unfold Ctx.cv; rw [ha,hw,hloc]
 have hown:∀ b,C'.Owned b→C.Owned b:=by
  rintro b (⟨p,hp⟩ | ⟨t',ds',hl',hb⟩)
  ·rw [hF] at hp; exact .inl ⟨p,hp⟩
  ·obtain ⟨d0,h0,_⟩:=hlv1 t' ds' hl'
   rw [hloc] at hb
   exact .inr ⟨t',d0,h0,hb⟩
 have s:Same C C' (fun q=>q) (fun _=>False) (fun _=>False):=by
  refine ⟨hP,fun b hb hlb=>⟨fun h=>hb (hown b h),by rw [hw]⟩,?_,fun t' ds' _ h=>hlv2 t' ds' h,by rw [←hC']; exact fun _ h=>h⟩
  intro q e xs' _ hq
  exact ⟨xs',by rw [hleaf q (hout q e xs' hq)]; exact hq,rfl,hcv q,fun i j e' ys hg=>⟨hg,fun b o n cap v hc hv=>by rw [hw]; exact hv⟩⟩
 have go1:∀ p d' v,LRel C p d' v→LRel C' p d' v:=by
  intro p d' v' hv
  by_cases ho:d'.isOwn=true
  ·cases d'<;>simp [D.isOwn] at ho
   cases hv with
   | own _ _ _ h =>
    refine .own _ _ _ _ ?_
    rw [hP,hw,hF]; exact h
  ·have:=LRel.same s hv p (by simpa using ho) ⟨fun q h=>by simp,fun t ht=>by simp⟩
   rwa [D.re_id] at this
 refine ⟨by rw [ha,hE]; exact R.tmps,by rw [ha]; exact R.defers,?_,?_,by rw [hF]; exact R.disj,?_,?_,?_,by rw [hF]; exact R.flent,?_,by rw [hw]; exact R.frame,by rw [←hC']; exact R.mnew,by rw [←hC']; exact R.mL,by rw [←hC']; exact R.glob⟩
 ·intro t' d hd
  rw [hE] at hd
  rw [ha]
  exact (R.slot t' d hd).tr' fun k x v hx hv=>go1 _ _ _ hv
 ·intro t' ds' hl'
  rcases hlv t' ds' hl' with ⟨rfl,rfl⟩ | ⟨hnc,hl''⟩
  ·refine ⟨cs,e,fr,by rw [hw,hloc]; exact a1,a2,by rw [hloc,hlen]; exact a3,?_⟩
   intro i d hd
   rw [hloc]
   rw [setRange_get _ _ _ _ hk] at hd
   by_cases hr:k≤i∧i<k+ls.length
   ·rw [if_pos hr] at hd
    obtain ⟨b1,b2,b3⟩:=hls _ d hd
    have e1:k+(i-k)=i:=by omega
    rw [e1,cell_cv a1] at b2 b3
    exact ⟨b1,b2,go1 _ _ _ b3⟩
   ·rw [if_neg hr] at hd
    obtain ⟨b1,b2,b3⟩:=a4 i d hd
    exact ⟨b1,b2,go1 _ _ _ b3⟩
  ·obtain ⟨cs1,e1,fr1,g1,g2,g3,g4⟩:=(R.cell t' ds' hl'').out
   refine ⟨cs1,e1,fr1,by rw [hw,hloc]; exact g1,g2,by rw [hloc]; exact g3,?_⟩
   intro i d hd
   rw [hloc]
   obtain ⟨b1,b2,b3⟩:=g4 i d hd
   exact ⟨b1,b2,go1 _ _ _ b3⟩
 ·intro t1 d1 t2 d2 h1 h2 he
  rw [hloc] at he
  obtain ⟨x1,y1,_⟩:=hlv1 _ _ h1
  obtain ⟨x2,y2,_⟩:=hlv1 _ _ h2
  exact R.cdisj _ _ _ _ y1 y2 he
 ·intro t' ds' p hl' hp
  rw [hF,hloc] at hp
  obtain ⟨x1,y1,_⟩:=hlv1 _ _ hl'
  exact R.fcd _ _ p y1 hp
 ·intro p b hp
  rw [hF] at hp
  rw [hw]
  exact R.fbound p b hp
 ·intro t' ds' hl' hb i hi
  rw [hloc] at hb ⊢
  obtain ⟨x1,y1,y3⟩:=hlv1 _ _ hl'
  exact R.clent _ _ y1 hb i (by omega)
def mvF (F:Lf→Nat→Prop) (t T:Nat):Lf→Nat→Prop:=fun p=>if p.c=false∧p.t=t then F ⟨false,T,p.k⟩ else if p.c=false∧p.t=T then fun _=>False else F p
theorem Rel.mvF {w0:World} {L:Nat→Nat→Prop} {C:Ctx} (R:Rel w0 L C) {t T:Nat} (hT:C.E.sl.length≤T) (hno:(C.E.sl.getD t .dead).anyOwn=false):Rel w0 L { C with F:=Fw.mvF C.F t T }:=by
 have hnt:=notOwn_inS hno
 have hTd:∀ k e xs,C.E.leaf ⟨false,T,k⟩ ≠ .own e xs:=by
  intro k e xs h
  have:C.E.sl.getD T .dead = .dead:=by rw [gDg,List.getElem?_eq_none hT]; rfl
  have h2:(C.E.sl.getD T .dead).leafOf k = .own e xs:=h
  rw [this] at h2
  have:=own_anyOwn h2
  simp [D.anyOwn,D.comps,D.leaves1,D.isOwn] at this
 refine R.reF _ ?_ ?_ ?_
 ·intro p e xs hp
  unfold Fw.mvF
  rw [if_neg (show ¬ (p.c=false∧p.t=t) from hnt p e xs hp),if_neg]
  rintro ⟨h1,h2⟩
  obtain ⟨c,t',k⟩:=p
  simp only at h1 h2
  subst h1; subst h2
  exact hTd k e xs hp
 ·intro p b hp
  unfold Fw.mvF at hp
  split at hp
  ·exact ⟨_,hp⟩
  ·split at hp
   ·exact hp.elim
   ·exact ⟨_,hp⟩
 ·intro p q b h1 h2
  unfold Fw.mvF at h1 h2
  by_cases a1:p.c=false∧p.t=t
  ·by_cases a2:q.c=false∧q.t=t
   ·rw [if_pos a1] at h1; rw [if_pos a2] at h2
    have:=R.disj _ _ b h1 h2
    injection this with _ _ h3
    obtain ⟨c,t1,k1⟩:=p
    obtain ⟨c',t2,k2⟩:=q
    simp only at a1 a2 h3
    rw [a1.1,a1.2,a2.1,a2.2,h3]
   ·rw [if_pos a1] at h1; rw [if_neg a2] at h2
    by_cases a3:q.c=false∧q.t=T
    ·rw [if_pos a3] at h2; exact h2.elim
    ·rw [if_neg a3] at h2
     have:=R.disj _ _ b h1 h2
     exact absurd ⟨by rw [←this],by rw [←this]⟩ a3
  ·rw [if_neg a1] at h1
   by_cases a3:p.c=false∧p.t=T
   ·rw [if_pos a3] at h1; exact h1.elim
   ·rw [if_neg a3] at h1
    by_cases a2:q.c=false∧q.t=t
    ·rw [if_pos a2] at h2
     have:=R.disj _ _ b h1 h2
     exact absurd ⟨by rw [this],by rw [this]⟩ a3
    ·rw [if_neg a2] at h2
     by_cases a4:q.c=false∧q.t=T
     ·rw [if_pos a4] at h2; exact h2.elim
     ·rw [if_neg a4] at h2; exact R.disj _ _ b h1 h2
def CL (P:Program) (w:World) (S:Nat→Prop) (d:D) (v:Value):Prop :=
 d.leafy=true∧d.isOwn=false∧one v=true∧∀ (C':Ctx) (p:Lf),C'.P=P→C'.w=w→(∀ b,S b→b<w.heap.size→C'.Rd b)→LRel C' p d v
theorem CL.mono {P:Program} {w:World} {S S':Nat→Prop} {d:D} {v:Value} (h:CL P w S d v) (hs:∀ b,S b→S' b):CL P w S' d v :=
 ⟨h.1,h.2.1,h.2.2.1,fun C' p a b c=>h.2.2.2 C' p a b fun x hx hl=>c x (hs x hx) hl⟩
def Bor (C:Ctx) (bor:List Lf) (borc:List Nat) (b:Nat):Prop:=C.Rd b∨(∃ q e xs,q∈bor∧C.E.leaf q = .own e xs∧C.F q b)∨∃ c ds,c∈borc∧C.live c ds∧0<ds.length∧(C.loc c).1=b
theorem Bor.mono {C:Ctx} {x x':List Lf} {y y':List Nat} (h1:∀ q,q∈x→q∈x') (h2:∀ q,q∈y→q∈y') {b:Nat} (h:Bor C x y b):Bor C x' y' b:=by
 rcases h with h | ⟨q,e,xs,a,c,d⟩ | ⟨c,ds,a,d,e⟩
 ·exact .inl h
 ·exact .inr (.inl ⟨q,e,xs,h1 q a,c,d⟩)
 ·exact .inr (.inr ⟨c,ds,h2 c a,d,e⟩)
theorem rowsR_base {w0:World} {L:Nat→Nat→Prop} {C:Ctx} (R:Rel w0 L C) {α:Type} {d:D} {v:Value} {q:Lf} (hb:d = .ali q∨(∃ a b,d = .sub q a b)∨∃ i j,d = .ela q i j) (hv:LRel C ⟨false,0,0⟩ d v) {k:TypeId→List (List T)→Rdr α} {Q:α→Prop} (h:(rowsR d k).wp C.E Q) :
  ∃ e xs,(k e xs).wp C.E Q∧RdT C.P C.w (Bor C [q] []) (.sl e xs) v:=by
 have hS:∀ e xs b,C.E.leaf q = .own e xs→C.F q b→Bor C [q] [] b:=fun e xs b h1 h2 => .inr (.inl ⟨q,e,xs,List.mem_singleton.2 rfl,h1,h2⟩)
 rcases hb with rfl | ⟨a,b,rfl⟩ | ⟨i,j,rfl⟩
 ·simp only [rowsR] at h
  rw [leafR_wp] at h
  cases hv with
  | ali _ e xs hl =>
   simp only [hl] at h
   exact ⟨e,xs,h,(R.ownLeaf hl).rd fun b hb=>hS e xs b hl hb⟩
 ·simp only [rowsR] at h
  rw [leafR_wp] at h
  cases hv with
  | sub _ _ _ e xs hl h2 h3 hne =>
   simp only [hl] at h
   exact ⟨e,_,h,RdT.cut ((R.ownLeaf hl).rd fun b hb=>hS e xs b hl hb) h2 h3 hne⟩
 ·simp only [rowsR] at h
  rw [leafR_wp] at h
  cases hv with
  | ela _ _ _ e xs e' ys b o n cap v hl hg hc hw =>
   simp only [hl] at h
   have hg':T.get xs i j = .sl e' ys:=by
    unfold T.get? at hg
    unfold T.get
    cases hx:xs[i]? with
    | none=>rw [hx] at hg; simp at hg
    | some r=>rw [hx] at hg; rw [getD_some hx]; exact getD_some (by simpa using hg)
   simp only [hg'] at h
   have ho:=R.ownLeaf hl
   rw [hc] at ho
   refine ⟨e',ys,h,?_⟩
   cases ho with
   | row _ _ _ _ _ cs fr _ G X h1 h2 h3 h4 h5 h6 h7 h8 h9 h10 h11 h12 =>
    have e1:=h10 i j _ hg
    have e2:=h11 i j _ hg
    have:v=X i j:=by
     simp only [World.cell?,h1] at hw
     simp at hw
     rw [e1] at hw; injection hw with hw; exact hw.symm
    rw [this]
    exact e2.rd fun b' hb'=>hS e xs b' hl (h8 i j b' hb').1
theorem CL.imm {P:Program} {w:World} {S:Nat→Prop} {e:TypeId} {xs:List (List T)} {v:Value} (h:RdT P w S (.sl e xs) v):CL P w S (.imm e xs) v :=
 ⟨rfl,rfl,h.one,fun C' p hP hw hS => .imm _ _ _ _ (by rw [hP,hw]; exact h.mono fun b hb hl=>⟨hS b hb hl,rfl⟩)⟩
theorem coeLeaf_wp {w0:World} {L:Nat→Nat→Prop} {C:Ctx} (R:Rel w0 L C) {α:Type} {e:TypeId} {d:D} {v:Value} (hv:LRel C ⟨false,0,0⟩ d v) (hone:one v=true) {k:D→List Lf→Rdr α} {Q:α→Prop} (h:(coeLeaf e d k).wp C.E Q) :
  ∃ d' bs,(k d' bs).wp C.E Q∧CL C.P C.w (Bor C bs []) d' v:=by
 have fin:∀ d' bs,(k d' bs).wp C.E Q→CL C.P C.w (Bor C bs []) d' v→∃ d' bs,(k d' bs).wp C.E Q∧CL C.P C.w (Bor C bs []) d' v :=
  fun d' bs h1 h2=>⟨d',bs,h1,h2⟩
 cases d with
 | v x=>exact fin _ _ h ⟨rfl,rfl,hone,fun C' p _ _ _=>by cases hv with | v _ hs=>exact .v _ _ hs⟩
 | nil =>
  refine fin _ _ h ?_
  cases hv with
  | nil =>
   split
   ·exact ⟨rfl,rfl,rfl,fun C' p _ _ _ => .nil _⟩
   ·exact CL.imm (.emp _ _ _ (by omega))
 | imm e' xs =>
  refine fin _ _ h (CL.imm ?_)
  cases hv with
  | imm _ _ _ hr=>exact hr.mono fun b hb _=>⟨.inl hb,rfl⟩
 | rptr ds =>
  refine fin _ _ h ?_
  cases hv with
  | rptr _ b o cs ce fr X h1 h2 h3 h4 h5 =>
   refine ⟨rfl,rfl,rfl,fun C' p hP hw hS => ?_⟩
   refine .rptr p ds b o cs ce fr X (by rw [hw]; exact h1) (hS b (.inl h2) (Array.getElem?_eq_some_iff.1 h1).1) h3 h4 fun i d hd => ?_
   have hp:=h4 i d hd
   have hl:=h5 i d hd
   generalize X i=xi at hl
   cases d<;>simp [D.pure] at hp
   ·cases hl with | v _ h=>exact .v _ _ h
   ·cases hl; exact .nil _
   ·cases hl with | imm _ _ _ h=>exact .imm _ _ _ _ (by rw [hP,hw]; exact h.mono fun b hb hl=>⟨hS b (.inl hb) hl,rfl⟩)
 | clo f ds =>
  cases ds with
  | nil =>
   refine fin _ _ h ?_
   cases hv with
   | clo _ _ vs h1 h2 h3=>exact ⟨rfl,rfl,rfl,fun C' p _ _ _ => .clo _ _ _ _ h1 (fun i d hd=>by simp at hd) (fun i d hd=>by simp at hd)⟩
  | cons=>exact h.elim
 | ali q =>
  have h:(rowsR (.ali q) fun e' xs=>k (.imm e' xs) [q]).wp C.E Q:=h
  obtain ⟨e',xs,h1,h2⟩:=rowsR_base R (.inl rfl) hv h
  exact fin _ _ h1 (CL.imm h2)
 | sub q a b =>
  have h:(rowsR (.sub q a b) fun e' xs=>k (.imm e' xs) [q]).wp C.E Q:=h
  obtain ⟨e',xs,h1,h2⟩:=rowsR_base R (.inr (.inl ⟨a,b,rfl⟩)) hv h
  exact fin _ _ h1 (CL.imm h2)
 | ela q i j =>
  have h:(rowsR (.ela q i j) fun e' xs=>k (.imm e' xs) [q]).wp C.E Q:=h
  obtain ⟨e',xs,h1,h2⟩:=rowsR_base R (.inr (.inr ⟨i,j,rfl⟩)) hv h
  exact fin _ _ h1 (CL.imm h2)
 | _=>exact h.elim
theorem coeLeaves_wp {w0:World} {L:Nat→Nat→Prop} {C:Ctx} (R:Rel w0 L C) {α:Type}:∀ (es:List TypeId) (ds:List D) (vs:List Value) {k:List D→List Lf→Rdr α} {Q:α→Prop},ds.length=vs.length →
  (∀ (i:Nat) (d:D),ds[i]? = some d→one (vs.getD i undef)=true∧LRel C ⟨false,0,0⟩ d (vs.getD i undef))→(coeLeaves es ds k).wp C.E Q →
  ∃ ds' bs,(k ds' bs).wp C.E Q∧ds'.length=ds.length∧∀ (i:Nat) (d:D),ds'[i]? = some d→CL C.P C.w (Bor C bs []) d (vs.getD i undef)
 | es,[],vs,k,Q,hl,hv,h=>⟨[],[],by cases es<;>exact h,rfl,fun i d hd=>by simp at hd⟩
 | es,d::ds,[],k,Q,hl,hv,h=>by simp at hl
 | es,d::ds,v::vs,k,Q,hl,hv,h=>by
  have h:(coeLeaf (es.headD 0) d fun d bs=>coeLeaves es.tail ds fun ds bs'=>k (d::ds) (bs++bs')).wp C.E Q:=by cases es<;>exact h
  obtain ⟨a1,a2⟩:=hv 0 d rfl
  obtain ⟨d',bs,h,hc⟩:=coeLeaf_wp R a2 a1 h
  obtain ⟨ds',bs',h,hlen,hcs⟩:=coeLeaves_wp R es.tail ds vs (by simpa using hl) (fun i d hd=>by simpa using hv (i+1) d (by simpa using hd)) h
  refine ⟨d'::ds',bs++bs',h,by simp [hlen],fun i d hd => ?_⟩
  cases i with
  | zero =>
   simp at hd; subst hd
   exact hc.mono fun b hb=>hb.mono (fun q hq=>List.mem_append_left _ hq) (fun q hq=>hq)
  | succ i =>
   have:=hcs i d (by simpa using hd)
   have e:(v::vs).getD (i+1) undef=vs.getD i undef:=rfl
   rw [e]
   exact this.mono fun b hb=>hb.mono (fun q hq=>List.mem_append_right _ hq) (fun q hq=>hq)
def CS (P:Program) (w:World) (S:Nat→Prop) (d:D) (v:Value):Prop :=
 CL P w S d v∨∃ ds vs,d = .agg ds∧v = .agg vs∧ds.length=vs.size∧ds.length≤64∧∀ (i:Nat) (d:D),ds[i]? = some d→CL P w S d (vs.getD i undef)
def LfIs (C:Ctx) (wb:List (Lf × Lf)) (bor:List Lf) (borc:List Nat) (r:Lf) (d:D) (v:Value):Prop :=
 CL C.P C.w (Bor C bor borc) d v∨(∃ e xs p,d = .own e xs∧(p,r)∈wb∧C.E.leaf p = .own e xs∧v=C.cv p)∨∃ e,d = .own e []∧v = .slice none 0 0
def CoIs (C:Ctx) (wb:List (Lf × Lf)) (bor:List Lf) (borc:List Nat) (i:Nat) (d:D) (v:Value):Prop :=
 LfIs C wb bor borc ⟨false,i,0⟩ d v∨∃ ds vs,d = .agg ds∧v = .agg vs∧ds.length=vs.size∧ds.length≤64∧∀ (k:Nat) (d:D),ds[k]? = some d→LfIs C wb bor borc ⟨false,i,k⟩ d (vs.getD k undef)
theorem LfIs.mono {C:Ctx} {wb wb':List (Lf × Lf)} {bor bor':List Lf} {borc borc':List Nat} {r:Lf} {d:D} {v:Value} (h:LfIs C wb bor borc r d v) (h2:∀ x,x∈wb→x∈wb') (h4:∀ x,x∈bor→x∈bor') (h5:∀ x,x∈borc→x∈borc') :
  LfIs C wb' bor' borc' r d v:=by
 rcases h with h | ⟨e,xs,p,a,b,c,f⟩ | h
 ·exact .inl (h.mono fun x hx=>hx.mono h4 h5)
 ·exact .inr (.inl ⟨e,xs,p,a,h2 _ b,c,f⟩)
 ·exact .inr (.inr h)
theorem CoIs.mono {C:Ctx} {wb wb':List (Lf × Lf)} {bor bor':List Lf} {borc borc':List Nat} {i:Nat} {d:D} {v:Value} (h:CoIs C wb bor borc i d v) (h2:∀ x,x∈wb→x∈wb') (h4:∀ x,x∈bor→x∈bor') (h5:∀ x,x∈borc→x∈borc') :
  CoIs C wb' bor' borc' i d v:=by
 rcases h with h | ⟨ds,vs,a,b,c,f,g⟩
 ·exact .inl (h.mono h2 h4 h5)
 ·exact .inr ⟨ds,vs,a,b,c,f,fun k d hd=>(g k d hd).mono h2 h4 h5⟩
def ArgIs (C:Ctx) (acc:CallAcc) (i:Nat) (d:D) (v:Value):Prop :=
 (acc.ce[i]? = some none∧CoIs C acc.wb acc.bor acc.borc i d v) ∨
 (∃ c j n ds,(c,j,n,i)∈acc.wc∧C.live c ds∧d = .cref i 0∧acc.ce[i]? = some (some ((ds.drop j).take n))∧j+n≤ds.length∧0<n∧((ds.drop j).take n).all lendable=true∧v = .pointer (some ⟨(C.loc c).1,(C.loc c).2+j,none⟩))
structure AccOk (C:Ctx) (acc:CallAcc) (vs:List Value):Prop where
 len:acc.args.length=vs.length
 lce:acc.ce.length=vs.length
 arg:∀ (i:Nat) (d:D) (v:Value),acc.args[i]? = some d→vs[i]? = some v→ArgIs C acc i d v
 wbi:∀ p r,(p,r)∈acc.wb→r.c=false∧r.t<vs.length∧∃ e xs,(acc.args.getD r.t .dead).leafOf r.k = .own e xs∧C.E.leaf p = .own e xs∧vleafOf (vs.getD r.t undef) r.k=C.cv p
 wci:∀ c j n i,(c,j,n,i)∈acc.wc→i<vs.length∧∃ ds,C.live c ds∧j+n≤ds.length∧0<n∧acc.ce[i]? = some (some ((ds.drop j).take n))
 wbu:∀ p q r,(p,r)∈acc.wb→(q,r)∈acc.wb→p=q
 wcu:∀ x y i,(x,i)∈acc.wc.map (fun x=>((x.1,x.2.1,x.2.2.1),x.2.2.2))→(y,i)∈acc.wc.map (fun x=>((x.1,x.2.1,x.2.2.1),x.2.2.2))→x=y
theorem ArgIs.mono {C:Ctx} {acc acc':CallAcc} {i:Nat} {d:D} {v:Value} (h:ArgIs C acc i d v) (h1:∀ o,acc.ce[i]? = some o→acc'.ce[i]? = some o) (h2:∀ x,x∈acc.wb→x∈acc'.wb) (h3:∀ x,x∈acc.wc→x∈acc'.wc)
  (h4:∀ x,x∈acc.bor→x∈acc'.bor) (h5:∀ x,x∈acc.borc→x∈acc'.borc):ArgIs C acc' i d v:=by
 rcases h with ⟨a,b⟩ | ⟨c,j,n,ds,a1,a2,a3,a4,a5⟩
 ·exact .inl ⟨h1 _ a,b.mono h2 h4 h5⟩
 ·exact .inr ⟨c,j,n,ds,h3 _ a1,a2,a3,h1 _ a4,a5⟩
theorem AccOk.push {C:Ctx} {acc acc':CallAcc} {vs:List Value} (h:AccOk C acc vs) {d:D} {o:Option (List D)} {v:Value} (ha:acc'.args=acc.args++[d]) (hc:acc'.ce=acc.ce++[o])
  (h2:∀ x,x∈acc'.wb→x∈acc.wb∨x.2.t=vs.length) (h2':∀ x,x∈acc.wb→x∈acc'.wb) (h3:∀ x,x∈acc'.wc→x∈acc.wc∨x.2.2.2=vs.length) (h3':∀ x,x∈acc.wc→x∈acc'.wc)
  (h4:∀ x,x∈acc.bor→x∈acc'.bor) (h5:∀ x,x∈acc.borc→x∈acc'.borc)
  (hnew:ArgIs C acc' vs.length d v)
  (hwb:∀ p r,(p,r)∈acc'.wb→r.t=vs.length→r.c=false∧∃ e xs,d.leafOf r.k = .own e xs∧C.E.leaf p = .own e xs∧vleafOf v r.k=C.cv p) (hwbu:∀ p q r,r.t=vs.length→(p,r)∈acc'.wb→(q,r)∈acc'.wb→p=q)
  (hwc:∀ c j n,(c,j,n,vs.length)∈acc'.wc→∃ ds,C.live c ds∧j+n≤ds.length∧0<n∧o=some ((ds.drop j).take n))
  (hwcu:∀ c j n c' j' n',(c,j,n,vs.length)∈acc'.wc→(c',j',n',vs.length)∈acc'.wc→c=c'∧j=j'∧n=n'):AccOk C acc' (vs++[v]):=by
 have hlt:∀ {α:Type} {l:List α} {i:Nat} {x y:α},l.length=vs.length→(l++[y])[i]? = some x→(i<vs.length∧l[i]? = some x)∨(i=vs.length∧x=y):=by
  intro α l i x y hl hx
  by_cases hi:i<l.length
  ·rw [List.getElem?_append_left hi] at hx; exact .inl ⟨by omega,hx⟩
  ·have h1:=(gSm hx).1
   simp at h1
   have:i=l.length:=by omega
   subst this
   simp at hx
   exact .inr ⟨hl,hx.symm⟩
 have hce1:∀ i,i<vs.length→acc'.ce[i]? = acc.ce[i]? := by
  intro i hi
  rw [hc,List.getElem?_append_left (by rw [h.lce]; exact hi)]
 have wbold:∀ p r,(p,r)∈acc'.wb→r.t≠vs.length→(p,r)∈acc.wb:=by
  intro p r hp hi
  rcases h2 _ hp with h | h
  ·exact h
  ·exact absurd h hi
 have wcold:∀ c j n i,(c,j,n,i)∈acc'.wc→i≠vs.length→(c,j,n,i)∈acc.wc:=by
  intro c j n i hp hi
  rcases h3 _ hp with h | h
  ·exact h
  ·exact absurd h hi
 refine ⟨by rw [ha]; simp [h.len],by rw [hc]; simp [h.lce],?_,?_,?_,?_,?_⟩
 ·intro i d' v' hd hv
  rw [ha] at hd
  rcases hlt h.len hd with ⟨hi,hd⟩ | ⟨rfl,rfl⟩
  ·rcases hlt rfl hv with ⟨_,hv⟩ | ⟨h1,_⟩
   ·exact (h.arg i d' v' hd hv).mono (fun o ho=>by rw [hce1 i hi]; exact ho) h2' h3' h4 h5
   ·omega
  ·rcases hlt rfl hv with ⟨h1,_⟩ | ⟨_,rfl⟩
   ·omega
   ·exact hnew
 ·intro p r hp
  by_cases hi:r.t=vs.length
  ·obtain ⟨h0,e,xs,h1,h2,h3⟩:=hwb p r hp hi
   refine ⟨h0,by simp [hi],e,xs,?_,h2,?_⟩
   ·have:acc'.args.getD r.t .dead=d:=by
     rw [ha,hi,gDg,List.getElem?_append_right (by rw [h.len]; exact Nat.le_refl _),h.len]; simp
    rw [this]; exact h1
   ·have:(vs++[v]).getD r.t undef=v:=by
     rw [hi,gDg,List.getElem?_append_right (Nat.le_refl _)]; simp
    rw [this]; exact h3
  ·obtain ⟨h0,a,e,xs,b,c,f⟩:=h.wbi p r (wbold p r hp hi)
   refine ⟨h0,by simp; omega,e,xs,?_,c,?_⟩
   ·have:acc'.args.getD r.t .dead=acc.args.getD r.t .dead:=by
     rw [ha,gDg,List.getElem?_append_left (by rw [h.len]; exact a),←gDg]
    rw [this]; exact b
   ·have:(vs++[v]).getD r.t undef=vs.getD r.t undef:=by
     rw [gDg,List.getElem?_append_left a,←gDg]
    rw [this]; exact f
 ·intro c j n i hp
  by_cases hi:i=vs.length
  ·subst hi
   obtain ⟨ds,h1,h2,h3,h4⟩:=hwc c j n hp
   refine ⟨by simp,ds,h1,h2,h3,?_⟩
   rw [hc,List.getElem?_append_right (by rw [h.lce]; exact Nat.le_refl _),h.lce]; simp [h4]
  ·obtain ⟨a,ds,b,c,f,g⟩:=h.wci c j n i (wcold c j n i hp hi)
   exact ⟨by simp; omega,ds,b,c,f,by rw [hce1 i a]; exact g⟩
 ·intro p q r hp hq
  by_cases hi:r.t=vs.length
  ·exact hwbu p q r hi hp hq
  ·exact h.wbu p q r (wbold p r hp hi) (wbold q r hq hi)
 ·intro x y i hx hy
  obtain ⟨⟨c,j,n,i1⟩,hx1,hx2⟩:=List.mem_map.1 hx
  obtain ⟨⟨c',j',n',i2⟩,hy1,hy2⟩:=List.mem_map.1 hy
  simp only [Prod.mk.injEq] at hx2 hy2
  obtain ⟨e1,e2⟩:=hx2
  obtain ⟨e3,e4⟩:=hy2
  rw [←e1,←e3]
  rw [e2] at hx1
  rw [e4] at hy1
  by_cases hi:i=vs.length
  ·subst hi
   obtain ⟨rfl,rfl,rfl⟩:=hwcu c j n c' j' n' hx1 hy1
   rfl
  ·exact h.wcu _ _ i (List.mem_map.2 ⟨_,wcold c j n i hx1 hi,rfl⟩) (List.mem_map.2 ⟨_,wcold c' j' n' i hy1 hi,rfl⟩)
theorem AccOk.arg1 {C:Ctx} {acc:CallAcc} {vs:List Value} (h:AccOk C acc vs) {d:D} {v:Value} {w:List (Lf × Lf)} {bs:List Lf} {bc:List Nat}
  (hw:∀ p r,(p,r)∈w→r.c=false∧r.t=acc.args.length∧∃ e xs,d.leafOf r.k = .own e xs∧C.E.leaf p = .own e xs∧vleafOf v r.k=C.cv p) (hu:∀ p q r,(p,r)∈w→(q,r)∈w→p=q)
  (hd:CoIs C w bs bc acc.args.length d v):AccOk C { acc.push d bs bc with wb:=acc.wb++w } (vs++[v]):=by
 have hold:∀ p r,(p,r)∈acc.wb→r.t≠vs.length:=by
  intro p r hp; have:=(h.wbi p r hp).2.1; omega
 refine h.push (o:=none) rfl rfl ?_ (fun x hx=>List.mem_append_left _ hx) (fun x hx => .inl hx) (fun x hx=>hx) (fun x hx=>List.mem_append_left _ hx) (fun x hx=>List.mem_append_left _ hx) ?_ ?_ ?_ ?_ ?_
 ·rintro ⟨p,r⟩ hx
  rcases List.mem_append.1 hx with h1 | h1
  ·exact .inl h1
  ·right; rw [←h.len]; exact (hw p r h1).2.1
 ·refine .inl ⟨?_,?_⟩
  ·show (acc.ce++[none])[vs.length]? = _
   rw [List.getElem?_append_right (by rw [h.lce]; exact Nat.le_refl _),h.lce]; simp
  ·rw [←h.len]
   exact hd.mono (fun x hx=>List.mem_append_right _ hx) (fun x hx=>List.mem_append_right _ hx) (fun x hx=>List.mem_append_right _ hx)
 ·intro p r hx hr
  rcases List.mem_append.1 hx with h1 | h1
  ·exact absurd hr (hold p r h1)
  ·exact ⟨(hw p r h1).1,(hw p r h1).2.2⟩
 ·intro p q r hr hx hy
  rcases List.mem_append.1 hx with h1 | h1
  ·exact absurd hr (hold p r h1)
  ·rcases List.mem_append.1 hy with h2 | h2
   ·exact absurd hr (hold q r h2)
   ·exact hu p q r h1 h2
 ·intro c j n hp; have:=(h.wci c j n _ hp).1; omega
 ·intro c j n c' j' n' hp _; have:=(h.wci c j n _ hp).1; omega
theorem AccOk.rd {C:Ctx} {acc:CallAcc} {vs:List Value} (h:AccOk C acc vs) {d:D} {v:Value} {bs:List Lf} {bc:List Nat} (hd:CS C.P C.w (Bor C bs bc) d v):AccOk C (acc.push d bs bc) (vs++[v]):=by
 have:=h.arg1 (d:=d) (v:=v) (w:=[]) (bs:=bs) (bc:=bc) (fun p r hx=>by cases hx) (fun p q r hx=>by cases hx) (by
  rcases hd with h1 | ⟨ds,xs,h1,h2,h3,h4,h5⟩
  ·exact .inl (.inl h1)
  ·exact .inr ⟨ds,xs,h1,h2,h3,h4,fun k d hk => .inl (h5 k d hk)⟩)
 have e:({ acc.push d bs bc with wb:=acc.wb++[] }:CallAcc)=acc.push d bs bc:=by
  rw [List.append_nil]; rfl
 rwa [e] at this
theorem AccOk.cell {C:Ctx} {acc:CallAcc} {vs:List Value} (h:AccOk C acc vs) {c j n:Nat} {ds:List D} (hl:C.live c ds) (h1:j+n≤ds.length) (h2:0<n) (h3:((ds.drop j).take n).all lendable=true) :
  AccOk C { acc with args:=acc.args++[.cref acc.args.length 0],ce:=acc.ce++[some ((ds.drop j).take n)],wc:=acc.wc++[(c,j,n,acc.args.length)] } (vs++[.pointer (some ⟨(C.loc c).1,(C.loc c).2+j,none⟩)]):=by
 have hce:(acc.ce++[some ((ds.drop j).take n)])[vs.length]? = some (some ((ds.drop j).take n)):=by
  rw [List.getElem?_append_right (by rw [h.lce]; exact Nat.le_refl _),h.lce]; simp
 have hmem:∀ x,x∈acc.wc++[(c,j,n,acc.args.length)]→x∈acc.wc∨x=(c,j,n,vs.length):=by
  intro x hx
  rcases List.mem_append.1 hx with h1 | h1
  ·exact .inl h1
  ·rw [List.mem_singleton] at h1; rw [h1,h.len]; exact .inr rfl
 refine h.push (d := .cref acc.args.length 0) (o:=some ((ds.drop j).take n)) rfl rfl (fun x hx => .inl hx) (fun x hx=>hx) ?_ (fun x hx=>List.mem_append_left _ hx) (fun x hx=>hx) (fun x hx=>hx) ?_ ?_ ?_ ?_ ?_
 ·intro x hx
  rcases hmem x hx with h | rfl
  ·exact .inl h
  ·exact .inr rfl
 ·refine .inr ⟨c,j,n,ds,?_,hl,by rw [h.len],hce,h1,h2,h3,rfl⟩
  show (c,j,n,vs.length)∈acc.wc++[(c,j,n,acc.args.length)]
  rw [h.len]; simp
 ·intro p r hp hr; have:=(h.wbi p _ hp).2.1; omega
 ·intro p q r hr hp _; have:=(h.wbi p _ hp).2.1; omega
 ·intro c' j' n' hp
  rcases hmem _ hp with a | a
  ·have:=(h.wci c' j' n' _ a).1; omega
  ·injection a with a b; injection b with b d; injection d with d _; subst a; subst b; subst d
   exact ⟨ds,hl,h1,h2,rfl⟩
 ·intro c1 j1 n1 c2 j2 n2 hp hq
  rcases hmem _ hp with a | a
  ·have:=(h.wci c1 j1 n1 _ a).1; omega
  ·rcases hmem _ hq with b | b
   ·have:=(h.wci c2 j2 n2 _ b).1; omega
   ·injection a with a a2; injection a2 with a2 a3; injection a3 with a3 _
    injection b with b b2; injection b2 with b2 b3; injection b3 with b3 _
    subst a; subst a2; subst a3; subst b; subst b2; subst b3
    exact ⟨rfl,rfl,rfl⟩
theorem CL.cell {w0:World} {L:Nat→Nat→Prop} {C:Ctx} (R:Rel w0 L C) {c j:Nat} {ds ls':List D} {bs:List Lf} (hl:C.live c ds) (hj:j+ls'.length≤ds.length) (hpos:0<ls'.length) (hpure:ls'.all D.pure=true)
  (h:∀ (i:Nat) (d:D),ls'[i]? = some d→CL C.P C.w (Bor C bs []) d (C.cv ⟨true,c,j+i⟩)) :
  CL C.P C.w (Bor C bs [c]) (.rptr ls') (.pointer (some ⟨(C.loc c).1,(C.loc c).2+j,none⟩)):=by
 obtain ⟨cs,e,fr,a1,a2,a3,a4⟩:=(R.cell c ds hl).out
 refine ⟨rfl,rfl,rfl,fun C' p hP hw hS => ?_⟩
 refine .rptr p ls' _ _ cs e fr (fun i=>cs.getD ((C.loc c).2+(j+i)) undef) (by rw [hw]; exact a1) (hS _ (.inr (.inr ⟨c,ds,List.mem_singleton.2 rfl,hl,by omega,rfl⟩)) (Array.getElem?_eq_some_iff.1 a1).1) ?_ ?_ ?_
 ·intro i d hd
  have hi:=(gSm hd).1
  obtain ⟨b1,b2,b3⟩:=a4 (j+i) ds[j+i] (gEg (by omega))
  refine ⟨?_,b2⟩
  rw [Nat.add_assoc]
  exact getD_get? (by omega)
 ·intro i d hd
  exact List.all_eq_true.1 hpure d (List.mem_of_getElem? hd)
 ·intro i d hd
  obtain ⟨_,_,_,h4⟩:=h i d hd
  have:=h4 C' p hP hw (fun b hb hl=>hS b (hb.mono (fun _ h=>h) (fun _ h=>by cases h)) hl)
  rw [cell_cv a1] at this
  exact this
theorem cellLeaves_wp {w0:World} {L:Nat→Nat→Prop} {C:Ctx} (R:Rel w0 L C) {α:Type} {es:List TypeId} {c j n:Nat} {ds:List D} (hl:C.live c ds) {k:List D→List Lf→Rdr α} {Q:α→Prop}
  (h:(coeLeaves es (mvList true c j ((ds.drop j).take n)) k).wp C.E Q) :
  ∃ ls' bs,(k ls' bs).wp C.E Q∧ls'.length=((ds.drop j).take n).length∧∀ (i:Nat) (d:D),ls'[i]? = some d→CL C.P C.w (Bor C bs []) d (C.cv ⟨true,c,j+i⟩):=by
 obtain ⟨cs,e,fr,a1,a2,a3,a4⟩:=(R.cell c ds hl).out
 have hlen:(mvList true c j ((ds.drop j).take n)).length=((ds.drop j).take n).length:=mvList_length ..
 obtain ⟨ls',bs,h1,h2,h3⟩:=coeLeaves_wp R es _ ((List.range ((ds.drop j).take n).length).map fun i=>C.cv ⟨true,c,j+i⟩) (by rw [hlen]; simp) (by
  intro i d hd
  have hi:i<((ds.drop j).take n).length:=by rw [←hlen]; exact (gSm hd).1
  rw [getD_range_map hi]
  rw [mvList_get] at hd
  rw [List.length_take,List.length_drop] at hi
  rw [List.getElem?_take_of_lt (by omega),List.getElem?_drop] at hd
  cases hx:ds[j+i]? with
  | none=>rw [hx] at hd; simp at hd
  | some y =>
   rw [hx] at hd
   simp only [Option.map_some,Option.some.injEq] at hd
   subst hd
   obtain ⟨b1,b2,b3⟩:=a4 (j+i) y hx
   rw [←cell_cv a1] at b2 b3
   obtain ⟨c1,c2⟩:=mvLeaf_rel (by rw [leaf_cell _ _ _ _ hl]; exact getD_some hx) b3
   exact ⟨b2,c2 _⟩) h
 refine ⟨ls',bs,h1,by rw [h2,hlen],fun i d hd => ?_⟩
 have hi:i<((ds.drop j).take n).length:=by rw [←hlen,←h2]; exact (gSm hd).1
 have:=h3 i d hd
 rwa [getD_range_map hi] at this
theorem drop_take_all {α:Type} (l:List α) (j:Nat):(l.drop j).take (l.length-j)=l.drop j:=by
 rw [List.take_of_length_le]; simp
theorem coeCapt_wp {w0:World} {L:Nat→Nat→Prop} {C:Ctx} (R:Rel w0 L C) {α:Type}:∀ (cs:List D) (vs:List Value) {k:List D→List Lf→List Nat→Rdr α} {Q:α→Prop},cs.length=vs.length →
  (∀ (i:Nat) (d:D),cs[i]? = some d→d.capt=true∧LRel C ⟨false,0,0⟩ d (vs.getD i undef))→(coeCapt cs k).wp C.E Q →
  ∃ ds' bs bc,(k ds' bs bc).wp C.E Q∧ds'.length=cs.length∧∀ (i:Nat) (d:D),ds'[i]? = some d→d.capt=true∧CL C.P C.w (Bor C bs bc) d (vs.getD i undef)
 | [],vs,k,Q,hl,hv,h=>⟨[],[],[],h,rfl,fun i d hd=>by simp at hd⟩
 | d::ds,[],k,Q,hl,hv,h=>by simp at hl
 | d::ds,v::vs,k,Q,hl,hv,h=>by
  obtain ⟨a1,a2⟩:=hv 0 d rfl
  have a2:LRel C ⟨false,0,0⟩ d v:=a2
  have tail:∀ (d':D) (bs0:List Lf) (bc0:List Nat),d'.capt=true→CL C.P C.w (Bor C bs0 bc0) d' v→∀ {k':List D→List Lf→List Nat→Rdr α},(coeCapt ds k').wp C.E Q →
    (∀ ds' bs bc,(k' ds' bs bc).wp C.E Q→(k (d'::ds') (bs0++bs) (bc0++bc)).wp C.E Q) →
    ∃ ds' bs bc,(k ds' bs bc).wp C.E Q∧ds'.length=(d::ds).length∧∀ (i:Nat) (d:D),ds'[i]? = some d→d.capt=true∧CL C.P C.w (Bor C bs bc) d ((v::vs).getD i undef):=by
   intro d' bs0 bc0 hc hcl k' hk' hkk
   obtain ⟨ds',bs,bc,h1,h2,h3⟩:=coeCapt_wp R ds vs (by simpa using hl) (fun i d hd=>by simpa using hv (i+1) d (by simpa using hd)) hk'
   refine ⟨d'::ds',bs0++bs,bc0++bc,hkk _ _ _ h1,by simp [h2],fun i d hd => ?_⟩
   cases i with
   | zero =>
    simp at hd; subst hd
    exact ⟨hc,hcl.mono fun b hb=>hb.mono (fun q hq=>List.mem_append_left _ hq) (fun q hq=>List.mem_append_left _ hq)⟩
   | succ i =>
    obtain ⟨b1,b2⟩:=h3 i d (by simpa using hd)
    exact ⟨b1,b2.mono fun b hb=>hb.mono (fun q hq=>List.mem_append_right _ hq) (fun q hq=>List.mem_append_right _ hq)⟩
  cases d with
  | v x=>exact tail (.v x) [] [] rfl ⟨rfl,rfl,by cases a2 with | v _ hs=>exact scal_one hs,fun C' p _ _ _=>by cases a2 with | v _ hs=>exact .v _ _ hs⟩ h (fun _ _ _ h=>h)
  | nil=>exact tail .nil [] [] rfl ⟨rfl,rfl,by cases a2; rfl,fun C' p _ _ _=>by cases a2; exact .nil _⟩ h (fun _ _ _ h=>h)
  | imm e xs =>
   refine tail (.imm e xs) [] [] rfl (CL.imm ?_) h (fun _ _ _ h=>h)
   cases a2 with
   | imm _ _ _ hr=>exact hr.mono fun b hb _=>⟨.inl hb,rfl⟩
  | rptr ls =>
   refine tail (.rptr ls) [] [] rfl ?_ h (fun _ _ _ h=>h)
   obtain ⟨d',bs,h1,h2⟩:=coeLeaf_wp R (e:=0) (k:=fun d bs=>(.ret (d,bs):Rdr (D × List Lf))) (Q:=fun x=>x.1 = .rptr ls∧x.2=[]) a2 (by cases a2; rfl) ⟨rfl,rfl⟩
   obtain ⟨q1,q2⟩:=h1
   simp only at q1 q2
   subst q1; subst q2
   exact h2
  | cref c j =>
   have h:(Rdr.cell c fun
    | some ls=>coeLeaves [] (mvList true c j (ls.drop j)) fun ls bs=>if ls.all D.pure&&decide (0<ls.length) then coeCapt ds fun ds bs' bc=>k (.rptr ls::ds) (bs++bs') (c::bc) else .fail
    | none => .fail).wp C.E Q:=h
   cases a2 with
   | cref _ _ ls hlv hle =>
    simp only [Rdr.wp] at h
    rw [show C.E.ce.getD c none=some ls from getD_some hlv] at h
    simp only at h
    rw [←drop_take_all] at h
    obtain ⟨ls',bs,h,hlen,hc⟩:=cellLeaves_wp R hlv h
    split at h
    ·rename_i hcond
     simp only [Bool.and_eq_true,decide_eq_true_eq] at hcond
     rw [drop_take_all,List.length_drop] at hlen
     exact tail (.rptr ls') bs [c] rfl (CL.cell R hlv (by omega) hcond.2 hcond.1 hc) h (fun _ _ _ h=>h)
    ·exact h.elim
  | _=>exact h.elim
theorem coeLeaf_leafy {α:Type} {e:TypeId} {d:D} {k:D→List Lf→Rdr α} {E:Env} {Q:α→Prop} (h:(coeLeaf e d k).wp E Q):d.leafy=true∧d ≠ .dead∧d.isTup=false:=by
 cases d<;>first | exact h.elim | exact ⟨rfl,by simp,rfl⟩
theorem lendLeaf_leafy {α:Type} {e:TypeId} {r:Lf} {d:D} {k:D→List (Lf × Lf)→List Lf→Rdr α} {E:Env} {Q:α→Prop} (h:(lendLeaf e r d k).wp E Q):d.leafy=true∧d ≠ .dead∧d.isTup=false:=by
 unfold lendLeaf at h
 split at h
 ·exact ⟨rfl,by simp,rfl⟩
 ·exact ⟨rfl,by simp,rfl⟩
 ·exact coeLeaf_leafy h
theorem lendLeaf_wp {w0:World} {L:Nat→Nat→Prop} {C:Ctx} (R:Rel w0 L C) {α:Type} {e:TypeId} {r:Lf} {d:D} {v:Value} {k:D→List (Lf × Lf)→List Lf→Rdr α} {Q:α→Prop} (a:LRel C ⟨false,0,0⟩ d v) (b:one v=true)
  (h:(lendLeaf e r d k).wp C.E Q):∃ d' w bs,(k d' w bs).wp C.E Q∧LfIs C w bs [] r d' v∧(∀ p q,(p,q)∈w→q=r∧∃ e xs,d' = .own e xs∧C.E.leaf p = .own e xs∧v=C.cv p)∧(∀ p q r,(p,r)∈w→(q,r)∈w→p=q):=by
 unfold lendLeaf at h
 split at h
 ·rename_i p
  cases a with
  | ali _ e' xs hl =>
   simp only [rowsR] at h
   rw [leafR_wp,hl] at h
   refine ⟨_,_,_,h,.inr (.inl ⟨e',xs,p,rfl,List.mem_singleton.2 rfl,hl,rfl⟩),?_,?_⟩
   ·intro p' q hx
    rw [List.mem_singleton] at hx
    injection hx with h1 h2
    subst h1; subst h2
    exact ⟨rfl,e',xs,rfl,hl,rfl⟩
   ·intro p' q' r' hx hy
    rw [List.mem_singleton] at hx hy
    injection hx with h1 h2
    injection hy with h3 h4
    rw [h1,h3]
 ·cases a
  split at h
  ·exact ⟨_,_,_,h,.inl ⟨rfl,rfl,rfl,fun C' p _ _ _ => .nil _⟩,fun p q hx=>(by cases hx),fun p q r hx=>by cases hx⟩
  ·exact ⟨_,_,_,h,.inr (.inr ⟨_,rfl,rfl⟩),fun p q hx=>(by cases hx),fun p q r hx=>by cases hx⟩
 ·obtain ⟨d',bs,h1,h2⟩:=coeLeaf_wp R a b h
  exact ⟨d',[],bs,h1,.inl h2,fun p q hx=>(by cases hx),fun p q r hx=>by cases hx⟩
theorem lendLeaves_wp {w0:World} {L:Nat→Nat→Prop} {C:Ctx} (R:Rel w0 L C) {α:Type} (i:Nat):∀ (ds:List D) (vs:List Value) (j:Nat) (es:List TypeId) {k:List D→List (Lf × Lf)→List Lf→Rdr α} {Q:α→Prop},ds.length=vs.length →
  (∀ (n:Nat) (d:D),ds[n]? = some d→one (vs.getD n undef)=true∧LRel C ⟨false,0,0⟩ d (vs.getD n undef))→(lendLeaves i j es ds k).wp C.E Q →
  ∃ ds' w bs,(k ds' w bs).wp C.E Q∧ds'.length=ds.length∧(∀ (n:Nat) (d:D),ds'[n]? = some d→LfIs C w bs [] ⟨false,i,j+n⟩ d (vs.getD n undef)) ∧
   (∀ p r,(p,r)∈w→r.c=false∧r.t=i∧j≤r.k∧r.k<j+ds.length∧∃ e xs,ds'.getD (r.k-j) .dead = .own e xs∧C.E.leaf p = .own e xs∧vs.getD (r.k-j) undef=C.cv p)∧(∀ p q r,(p,r)∈w→(q,r)∈w→p=q)
 | [],vs,j,es,k,Q,hl,hv,h=>⟨[],[],[],by cases es<;>exact h,rfl,fun n d hd=>by simp at hd,fun p r hx=>(by cases hx),fun p q r hx=>by cases hx⟩
 | d::ds,[],j,es,k,Q,hl,hv,h=>by simp at hl
 | d::ds,v::vs,j,es,k,Q,hl,hv,h=>by
  simp only [lendLeaves] at h
  obtain ⟨b,a⟩:=hv 0 d rfl
  obtain ⟨d',w,bs,h,hc,hw,hu⟩:=lendLeaf_wp R (v:=v) a b h
  obtain ⟨ds',w',bs',h,hlen,hc',hw',hu'⟩:=lendLeaves_wp R i ds vs (j+1) es.tail (by simpa using hl) (fun n d hd=>by simpa using hv (n+1) d (by simpa using hd)) h
  refine ⟨d'::ds',w++w',bs++bs',h,by simp [hlen],?_,?_,?_⟩
  ·intro n d0 hd
   cases n with
   | zero =>
    simp at hd; subst hd
    exact hc.mono (fun x hx=>List.mem_append_left _ hx) (fun x hx=>List.mem_append_left _ hx) (fun x hx=>hx)
   | succ n =>
    have:=(hc' n d0 (by simpa using hd)).mono (wb':=w++w') (bor':=bs++bs') (borc':=[]) (fun x hx=>List.mem_append_right _ hx) (fun x hx=>List.mem_append_right _ hx) (fun x hx=>hx)
    have e:j+(n+1)=j+1+n:=by omega
    rw [e]
    simpa using this
  ·intro p r hx
   rcases List.mem_append.1 hx with h1 | h1
   ·obtain ⟨rfl,e,xs,c1,c2,c3⟩:=hw p r h1
    refine ⟨rfl,rfl,Nat.le_refl _,by simp,e,xs,?_,c2,?_⟩
    ·simp [c1]
    ·simp [c3]
   ·obtain ⟨c1,c2,c3,c4,e,xs,c5,c6,c7⟩:=hw' p r h1
    have e1:r.k-j=(r.k-(j+1))+1:=by omega
    refine ⟨c1,c2,by omega,by simp; omega,e,xs,?_,c6,?_⟩
    ·rw [e1]; simpa using c5
    ·rw [e1]; simpa using c7
  ·intro p q r hx hy
   have lo:∀ p r,(p,r)∈w→r.k=j:=by
    intro p r hx; rw [(hw p r hx).1]
   have hi:∀ p r,(p,r)∈w'→j+1≤r.k:=fun p r hx=>(hw' p r hx).2.2.1
   rcases List.mem_append.1 hx with h1 | h1
   ·rcases List.mem_append.1 hy with h2 | h2
    ·exact hu p q r h1 h2
    ·have:=lo _ _ h1; have:=hi _ _ h2; omega
   ·rcases List.mem_append.1 hy with h2 | h2
    ·have:=hi _ _ h1; have:=lo _ _ h2; omega
    ·exact hu' p q r h1 h2
theorem argR_wp {w0:World} {L:Nat→Nat→Prop} {C:Ctx} (R:Rel w0 L C) {tb:Tab} {pt:TypeId} {m:Nat} {d:D} {v:Value} {acc:CallAcc} {vs:List Value} (ha:AccOk C acc vs) (hv:d.isTup=false→VRel C d v)
  {k:CallAcc→Rdr Stp} {Q:Stp→Prop} (h:(argR tb pt m d acc k).wp C.E Q):∃ acc',(k acc').wp C.E Q∧AccOk C acc' (vs++[v]):=by
 unfold argR at h
 split at h
 ·-- lent
  split at h
  ·rename_i ds
   obtain ⟨xs,rfl,h1,h2,h3⟩:=(hv rfl).agg_inv
   split at h
   ·obtain ⟨ds',w,bs,h,hlen,hc,hw,hu⟩:=lendLeaves_wp R acc.args.length ds xs.toList 0 _ (by simpa using h1) (fun i d hd=>by
     obtain ⟨a,b,c,e⟩:=h3 i d hd
     rw [arr_list_getD]; exact ⟨c,e _⟩) h
    refine ⟨_,h,ha.arg1 ?_ hu (.inr ⟨ds',xs,rfl,rfl,by omega,by omega,fun i d hd => ?_⟩)⟩
    ·intro p r hx
     obtain ⟨a1,a2,a3,a4,e,ys,a5,a6,a7⟩:=hw p r hx
     have hk:r.k<64:=by omega
     refine ⟨a1,a2,e,ys,?_,a6,?_⟩
     ·have:(D.agg ds').leafOf r.k=ds'.getD r.k .dead:=by
       unfold D.leafOf D.comps D.leaves1
       rw [Nat.div_eq_of_lt hk,Nat.mod_eq_of_lt hk]; rfl
      rw [this]; simpa using a5
     ·have:vleafOf (.agg xs) r.k=xs.toList.getD r.k undef:=by
       unfold vleafOf vcomps
       rw [Nat.div_eq_of_lt hk,Nat.mod_eq_of_lt hk]; rfl
      rw [this]; simpa using a7
    ·have:=hc i d hd
     rwa [arr_list_getD,Nat.zero_add] at this
   ·exact h.elim
  ·exact h.elim
  ·rename_i hna hnt
   obtain ⟨q1,q2,q3⟩:=lendLeaf_leafy h
   obtain ⟨a,b⟩:=(hv q3).lf q1 q2
   obtain ⟨d',w,bs,h,hc,hw,hu⟩:=lendLeaf_wp R a b h
   refine ⟨_,h,ha.arg1 ?_ hu (.inl hc)⟩
   intro p r hx
   obtain ⟨rfl,e,ys,a5,a6,a7⟩:=hw p r hx
   refine ⟨rfl,rfl,e,ys,?_,a6,?_⟩
   ·subst a5
    show (D.own e ys).leafOf 0=_
    rfl
   ·rw [←a7]
    show vleafOf v 0=v
    cases v<;>simp [one] at b<;>rfl
 ·split at h
  ·rename_i c j e hk
   obtain ⟨ds,hl,hj,ex⟩:=(hv rfl).cref_inv
   split at h
   ·exact h.elim
   ·rename_i ie hie
    simp only [Rdr.wp] at h
    rw [show C.E.ce.getD c none=some ds from getD_some hl] at h
    simp only at h
    split at h
    ·rename_i hc
     simp only [Bool.and_eq_true,decide_eq_true_eq] at hc
     rw [ex]
     exact ⟨_,h,ha.cell hl hc.1.2 hc.2 hc.1.1⟩
    ·exact h.elim
  ·exact h.elim
 ·split at h
  ·rename_i c j
   obtain ⟨ds,hl,hj,ex⟩:=(hv rfl).cref_inv
   simp only [Rdr.wp] at h
   rw [show C.E.ce.getD c none=some ds from getD_some hl] at h
   simp only at h
   split at h
   ·rename_i hc
    simp only [Bool.and_eq_true,decide_eq_true_eq] at hc
    rw [ex]
    exact ⟨_,h,ha.cell hl hc.1.2 hc.2 hc.1.1⟩
   ·exact h.elim
  ·exact h.elim
 ·split at h
  ·rename_i ds
   obtain ⟨xs,rfl,h1,h2,h3⟩:=(hv rfl).agg_inv
   split at h
   ·obtain ⟨ds',bs,h,hlen,hc⟩:=coeLeaves_wp R _ ds xs.toList (by simpa using h1) (fun i d hd=>by
     obtain ⟨a,b,c,e⟩:=h3 i d hd
     rw [arr_list_getD]; exact ⟨c,e _⟩) h
    refine ⟨_,h,ha.rd (.inr ⟨ds',xs,rfl,rfl,by omega,by omega,fun i d hd => ?_⟩)⟩
    have:=hc i d hd
    rwa [arr_list_getD] at this
   ·exact h.elim
  ·rename_i c j
   obtain ⟨ds,hl,hj,ex⟩:=(hv rfl).cref_inv
   split at h
   ·split at h
    ·exact h.elim
    ·rename_i ie hie
     simp only [Rdr.wp] at h
     rw [show C.E.ce.getD c none=some ds from getD_some hl] at h
     simp only at h
     split at h
     ·rename_i hc
      obtain ⟨ls',bs,h,hlen,hcl⟩:=cellLeaves_wp R hl h
      split at h
      ·rename_i hp
       rw [List.length_take,List.length_drop] at hlen
       rw [ex]
       exact ⟨_,h,ha.rd (.inl (CL.cell R hl (by omega) (by omega) hp hcl))⟩
      ·exact h.elim
     ·exact h.elim
   ·exact h.elim
  ·rename_i f cs
   have hl:=((hv rfl).lf rfl (by simp)).1
   generalize v=v' at hl
   cases hl with
   | clo _ _ xs h1 h2 h3 =>
    obtain ⟨ds',bs,bc,h,hlen,hc⟩:=coeCapt_wp R cs xs.toList (by simpa using h1) (fun i d hd=>⟨h2 i d hd,by rw [arr_list_getD]; exact h3 i d hd⟩) h
    refine ⟨_,h,ha.rd (.inl ⟨rfl,rfl,rfl,fun C' p hP hw hS => .clo _ _ _ _ (by omega) (fun i d hd=>(hc i d hd).1) fun i d hd => ?_⟩)⟩
    obtain ⟨_,_,_,_,h4⟩:=hc i d hd
    have:=h4 C' p hP hw hS
    rwa [arr_list_getD] at this
  ·exact h.elim
  ·obtain ⟨q1,q2,q3⟩:=coeLeaf_leafy h
   obtain ⟨a,b⟩:=(hv q3).lf q1 q2
   obtain ⟨d',bs,h,hc⟩:=coeLeaf_wp R a b h
   exact ⟨_,h,ha.rd (.inl hc)⟩
theorem argsR_wp {w0:World} {L:Nat→Nat→Prop} {C:Ctx} (R:Rel w0 L C) {tb:Tab} {md:Nat→Nat} {k:CallAcc→Rdr Stp} {Q:Stp→Prop}:∀ (pts:List TypeId) (ds:List D) (ws:List Value) {acc:CallAcc} {vs:List Value},AccOk C acc vs →
  ds.length=ws.length→(∀ (i:Nat) (d:D),ds[i]? = some d→d.isTup=false→VRel C d (ws.getD i undef))→(argsR tb md pts ds acc k).wp C.E Q→∃ acc',(k acc').wp C.E Q∧AccOk C acc' (vs++ws)
 | pts,[],[],acc,vs,ha,_,_,h=>by
  cases pts with
  | nil=>exact ⟨acc,h,by simpa using ha⟩
  | cons=>exact h.elim
 | pts,[],w::ws,acc,vs,ha,hl,_,h=>by simp at hl
 | pts,d::ds,[],acc,vs,ha,hl,_,h=>by simp at hl
 | pts,d::ds,w::ws,acc,vs,ha,hl,hv,h=>by
  cases pts with
  | nil=>exact h.elim
  | cons pt pts =>
   simp only [argsR] at h
   obtain ⟨acc1,h,ha1⟩:=argR_wp R ha (hv 0 d rfl) h
   obtain ⟨acc2,h,ha2⟩:=argsR_wp R pts ds ws ha1 (by simpa using hl) (fun i d hd=>hv (i+1) d (by simpa using hd)) h
   exact ⟨acc2,h,by simpa using ha2⟩
theorem distinct_inj {α β:Type} [DecidableEq β] (f:α→β):∀ {l:List α},distinct (l.map f)=true→∀ {a b:α},a∈l→b∈l→f a=f b→a=b
 | [],_,a,b,ha,_,_=>by cases ha
 | x::l,h,a,b,ha,hb,hf=>by
  simp only [List.map_cons,distinct,Bool.and_eq_true,Bool.not_eq_true',List.contains_eq_mem,decide_eq_false_iff_not] at h
  rcases List.mem_cons.1 ha with e1 | h1
  ·rcases List.mem_cons.1 hb with e2 | h2
   ·rw [e1,e2]
   ·exact absurd (List.mem_map.2 ⟨b,h2,by rw [←hf,e1]⟩) h.1
  ·rcases List.mem_cons.1 hb with e2 | h2
   ·exact absurd (List.mem_map.2 ⟨a,h1,by rw [hf,e2]⟩) h.1
   ·exact distinct_inj f h.2 h1 h2 hf
structure AccFine (acc:CallAcc):Prop where
 p1:∀ p i j,(p,i)∈acc.wb→(p,j)∈acc.wb→i=j
 p2:∀ c j n i j' n' i',(c,j,n,i)∈acc.wc→(c,j',n',i')∈acc.wc→j=j'∧n=n'∧i=i'
 p3:∀ p i j n k,(p,i)∈acc.wb→(p.t,j,n,k)∈acc.wc→p.c=false
 p4:∀ q i,q∈acc.bor→(q,i) ∉ acc.wb
 p5:∀ q j n k,q∈acc.bor→(q.t,j,n,k)∈acc.wc→q.c=false
 p6:∀ c j n k,c∈acc.borc→(c,j,n,k) ∉ acc.wc
theorem CallAcc.fine {acc:CallAcc} (h:acc.ok=true):AccFine acc:=by
 simp only [CallAcc.ok,Bool.and_eq_true,List.all_eq_true,Bool.not_eq_true',Bool.and_eq_false_iff,List.contains_eq_mem,decide_eq_false_iff_not] at h
 obtain ⟨⟨⟨⟨h1,h2⟩,h3⟩,h4⟩,h5⟩:=h
 have mc:∀ {c j n k},(c,j,n,k)∈acc.wc→c∈acc.wc.map (·.1):=fun h=>List.mem_map.2 ⟨_,h,rfl⟩
 have mp:∀ {p i},(p,i)∈acc.wb→p∈acc.wb.map (·.1):=fun h=>List.mem_map.2 ⟨_,h,rfl⟩
 refine ⟨?_,?_,?_,?_,?_,?_⟩
 ·intro p i j a b
  have:=distinct_inj (·.1) h1 a b rfl
  injection this
 ·intro c j n i j' n' i' a b
  have:=distinct_inj (·.1) h2 a b rfl
  injection this with _ e; injection e with e1 e; injection e with e2 e3
  exact ⟨e1,e2,e3⟩
 ·intro p i j n k a b
  rcases h3 p (mp a) with h | h
  ·exact h
  ·exact absurd (mc b) h
 ·intro q i a b
  exact (h4 q a).1 (mp b)
 ·intro q j n k a b
  rcases (h4 q a).2 with h | h
  ·exact h
  ·exact absurd (mc b) h
 ·intro c j n k a b
  exact h5 c a (mc b)
def FIn (C:Ctx) (acc:CallAcc) (p:Lf) (b:Nat):Prop :=
 (p.c=false∧∃ q,(q,p)∈acc.wb∧C.F q b)∨(p.c=true∧∃ c j n,(c,j,n,p.t)∈acc.wc∧p.k<n∧C.F ⟨true,c,j+p.k⟩ b)
def locIn (C:Ctx) (acc:CallAcc) (i:Nat):Nat × Nat :=
 match acc.wc.find? (fun x=>x.2.2.2==i) with
 | some (c,j,_,_)=>((C.loc c).1,(C.loc c).2+j)
 | none=>(0,0)
def Lent (C:Ctx) (acc:CallAcc) (b:Nat):Prop:=(∃ p,FIn C acc p b)∨∃ c j n i,(c,j,n,i)∈acc.wc∧(C.loc c).1=b
def MIn (C:Ctx) (acc:CallAcc) (b:Nat):Prop:=C.w.heap.size≤b∨Lent C acc b∨Bor C acc.bor acc.borc b
def CIn (C:Ctx) (acc:CallAcc) (vs:List Value):Ctx :=
 { P:=C.P,E:=⟨acc.args,acc.ce⟩,a:={ tmps:=vs.toArray,defers:=[] },w:=C.w,F:=FIn C acc,loc:=locIn C acc,M:=MIn C acc }
section
variable {w0:World} {L:Nat→Nat→Prop} {C:Ctx} (R:Rel w0 L C) {acc:CallAcc} {vs:List Value} (ha:AccOk C acc vs) (hf:AccFine acc)
include ha in
theorem locIn_eq {c j n i:Nat} (h:(c,j,n,i)∈acc.wc):locIn C acc i=((C.loc c).1,(C.loc c).2+j):=by
 unfold locIn
 cases hx:acc.wc.find? (fun x=>x.2.2.2==i) with
 | none =>
  have:=List.find?_eq_none.1 hx _ h
  simp at this
 | some y =>
  have h1:=List.mem_of_find?_eq_some hx
  have h2:=List.find?_some hx
  obtain ⟨c',j',n',i'⟩:=y
  simp only [beq_iff_eq] at h2
  subst h2
  have:=ha.wcu (c,j,n) (c',j',n') i' (List.mem_map.2 ⟨_,h,rfl⟩) (List.mem_map.2 ⟨_,h1,rfl⟩)
  injection this with e1 e; injection e with e2 e3
  subst e1; subst e2; subst e3
  rfl
include ha in
theorem liveIn {i:Nat} {ds':List D} (h:(CIn C acc vs).live i ds'):∃ c j n ds,(c,j,n,i)∈acc.wc∧C.live c ds∧j+n≤ds.length∧0<n∧ds'=(ds.drop j).take n∧((ds.drop j).take n).all lendable=true∧ds'.length=n:=by
 have h:acc.ce[i]? = some (some ds'):=h
 have hi:i<vs.length:=by rw [←ha.lce]; exact (gSm h).1
 have hlt:i<acc.args.length:=by rw [ha.len]; exact hi
 have h1:acc.args[i]? = some acc.args[i]:=gEg hlt
 rcases ha.arg i _ _ h1 (gEg hi) with ⟨a,_⟩ | ⟨c,j,n,ds,a1,a2,a3,a4,a5,a6,a7,a8⟩
 ·rw [h] at a; cases a
 ·rw [h] at a4; injection a4 with a4; injection a4 with a4
  exact ⟨c,j,n,ds,a1,a2,a5,a6,a4,a7,by rw [a4]; simp; omega⟩
include R in
theorem lent_owned {b:Nat} (ha:AccOk C acc vs) (h:Lent C acc b):C.Owned b:=by
 have _:=R
 rcases h with ⟨p,⟨_,q,_,h⟩ | ⟨_,c,j,n,_,_,h⟩⟩ | ⟨c,j,n,i,h,hb⟩
 ·exact .inl ⟨q,h⟩
 ·exact .inl ⟨_,h⟩
 ·obtain ⟨_,ds,hl,_⟩:=ha.wci c j n i h
  exact .inr ⟨c,ds,hl,hb⟩
include R ha in
theorem ownedIn {b:Nat} (h:(CIn C acc vs).Owned b):Lent C acc b:=by
 have _:=R
 rcases h with ⟨p,hp⟩ | ⟨i,ds',hl,hb⟩
 ·exact .inl ⟨p,hp⟩
 ·obtain ⟨c,j,n,ds,h1,h2,h3,h4,h5,_⟩:=liveIn ha hl
  have hb:(locIn C acc i).1=b:=hb
  rw [locIn_eq ha h1] at hb
  exact .inr ⟨c,j,n,i,h1,hb⟩
include R ha hf in
theorem bor_notLent {b:Nat} (h:Bor C acc.bor acc.borc b):¬ Lent C acc b:=by
 intro hl
 rcases h with h | ⟨q,e,xs,hq,hle,hqb⟩ | ⟨c,ds,hc,hlv,hpos,hb⟩
 ·exact h.1 (lent_owned R ha hl)
 ·rcases hl with ⟨p,⟨_,q',hw,hb'⟩ | ⟨_,c,j,n,hw,_,hb'⟩⟩ | ⟨c,j,n,i,hw,hb'⟩
  ·have:=R.disj _ _ _ hqb hb'
   subst this
   exact hf.p4 _ _ hq hw
  ·have:=R.disj _ _ _ hqb hb'
   subst this
   have:=hf.p5 _ _ _ _ hq hw
   simp at this
  ·obtain ⟨_,ds,hl,_⟩:=ha.wci c j n i hw
   exact R.fcd c ds q hl (by rw [hb']; exact hqb)
 ·rcases hl with ⟨p,⟨_,q',hw,hb'⟩ | ⟨_,c',j,n,hw,_,hb'⟩⟩ | ⟨c',j,n,i,hw,hb'⟩
  ·exact R.fcd c ds q' hlv (by rw [hb]; exact hb')
  ·exact R.fcd c ds _ hlv (by rw [hb]; exact hb')
  ·obtain ⟨_,ds',hl',_⟩:=ha.wci c' j n i hw
   have:=R.cdisj _ _ _ _ hlv hl' (hb.trans hb'.symm)
   subst this
   exact hf.p6 _ _ _ _ hc hw
include R ha hf in
theorem bor_rd {b:Nat} (h:Bor C acc.bor acc.borc b):(CIn C acc vs).Rd b :=
 ⟨fun ho=>bor_notLent R ha hf h (ownedIn R ha ho),.inr (.inr h)⟩
theorem own_one {P:Program} {w:World} {e:TypeId} {xs:List (List T)} {v:Value} {F:Nat→Prop} (h:OwnT P w (.sl e xs) v F):one v=true:=by
 cases h<;>rfl
include R ha hf in
theorem Rel.entry:Rel C.w (lentOf (CIn C acc vs).E (CIn C acc vs).F (CIn C acc vs).loc) (CIn C acc vs):=by
 have hP:(CIn C acc vs).P=C.P:=rfl
 have lfs:∀ (r:Lf) d v,r.c=false→LfIs C acc.wb acc.bor acc.borc r d v→d.leafy=true∧one v=true∧LRel (CIn C acc vs) r d v:=by
  intro r d v hr h
  rcases h with ⟨h1,h2,h3,h4⟩ | ⟨e,xs,p,rfl,h2,h3,rfl⟩ | ⟨e,rfl,rfl⟩
  ·exact ⟨h1,h3,h4 _ _ rfl rfl fun b hb _=>bor_rd R ha hf hb⟩
  ·have ho:=R.ownLeaf h3
   exact ⟨rfl,own_one ho,.own _ _ _ _ (ho.mono (fun b hb => .inl ⟨hr,p,h2,hb⟩) (fun _ _ _=>rfl))⟩
  ·exact ⟨rfl,rfl,.own _ _ _ _ (.emp _ _)⟩
 have cls:∀ (t:Nat) d v,CoIs C acc.wb acc.bor acc.borc t d v→SRel (CIn C acc vs) t d v:=by
  intro t d v h
  rcases h with h | ⟨ds,xs,rfl,rfl,h3,h4,h5⟩
  ·obtain ⟨a1,a2,a3⟩:=lfs _ d v rfl h
   exact .comp _ _ (by cases d<;>first | rfl | simp [D.leafy] at a1) (.leaf _ _ _ a1 a2 a3)
  ·refine .comp _ _ rfl (.agg _ _ _ h3 h4 fun i d hd => ?_)
   have:=lfs _ d _ rfl (h5 i d hd)
   rwa [Nat.zero_add]
 refine ⟨by simp [CIn,ha.len],rfl,?_,?_,?_,?_,?_,?_,?_,?_,?_,?_,?_,?_⟩
 ·intro i d hd
  have hd:acc.args[i]? = some d:=hd
  have hi:i<vs.length:=by rw [←ha.len]; exact (gSm hd).1
  have hv:vs[i]? = some vs[i]:=gEg hi
  have e:(CIn C acc vs).a.tmps.getD i undef=vs[i]:=by simp [CIn,Array.getD,hi]
  rw [e]
  rcases ha.arg i d _ hd hv with ⟨_,b⟩ | ⟨c,j,n,ds,a1,a2,rfl,a4,a5,a6,a7,a8⟩
  ·exact cls i d _ b
  ·rw [a8]
   refine .comp _ _ rfl (.leaf _ _ _ rfl rfl ?_)
   have:=LRel.cref (C:=CIn C acc vs) ⟨false,i,0⟩ i 0 _ (show (CIn C acc vs).live i _ from a4) (Nat.zero_le _)
   have e2:(CIn C acc vs).loc i=((C.loc c).1,(C.loc c).2+j):=locIn_eq ha a1
   rw [e2] at this
   exact this
 ·intro i ds' hl
  obtain ⟨c,j,n,ds,h1,h2,h3,h4,rfl,h6,h7⟩:=liveIn ha hl
  obtain ⟨cs,e,fr,a1,a2,a3,a4⟩:=(R.cell c ds h2).out
  have e2:(CIn C acc vs).loc i=((C.loc c).1,(C.loc c).2+j):=locIn_eq ha h1
  refine ⟨cs,e,fr,by rw [e2]; exact a1,a2,by rw [e2,h7]; show (C.loc c).2+j+n≤_; omega,fun k d hd => ?_⟩
  have hk:k<n:=by rw [←h7]; exact (gSm hd).1
  rw [e2]
  have hd2:=hd
  rw [List.getElem?_take_of_lt hk,List.getElem?_drop] at hd
  obtain ⟨b1,b2,b3⟩:=a4 (j+k) d hd
  have e3:(C.loc c).2+j+k=(C.loc c).2+(j+k):=by omega
  show d.leafy=true∧one (cs.getD ((C.loc c).2+j+k) undef)=true∧LRel _ _ d (cs.getD ((C.loc c).2+j+k) undef)
  rw [e3]
  refine ⟨b1,b2,?_⟩
  have hld:=List.all_eq_true.1 h6 d (List.mem_of_getElem? hd2)
  generalize cs.getD ((C.loc c).2+(j+k)) undef=v at b3
  cases d<;>simp [lendable] at hld
  ·cases b3 with | v _ h=>exact .v _ _ h
  ·cases b3; exact .nil _
  ·cases b3 with
   | own _ _ _ h=>exact .own _ _ _ _ (h.mono (fun b hb => .inr ⟨rfl,c,j,n,h1,hk,hb⟩) (fun _ _ _=>rfl))
  ·cases b3 with
   | imm _ _ _ h=>exact .imm _ _ _ _ (h.mono fun b hb hl=>⟨bor_rd R ha hf (.inl hb),rfl⟩)
 ·intro p q b h1 h2
  obtain ⟨pc,pt,pk⟩:=p
  obtain ⟨qc,qt,qk⟩:=q
  rcases h1 with ⟨rfl,x,hx,hxb⟩ | ⟨rfl,c,j,n,hx,hk,hxb⟩
  ·rcases h2 with ⟨rfl,y,hy,hyb⟩ | ⟨rfl,c',j',n',hy,hk',hyb⟩
   ·have:=R.disj _ _ _ hxb hyb
    subst this
    exact hf.p1 _ _ _ hx hy
   ·have:=R.disj _ _ _ hxb hyb
    subst this
    have:=hf.p3 _ _ _ _ _ hx hy
    simp at this
  ·rcases h2 with ⟨rfl,y,hy,hyb⟩ | ⟨rfl,c',j',n',hy,hk',hyb⟩
   ·have:=R.disj _ _ _ hyb hxb
    subst this
    have:=hf.p3 _ _ _ _ _ hy hx
    simp at this
   ·have:=R.disj _ _ _ hxb hyb
    injection this with _ e1 e2
    subst e1
    obtain ⟨rfl,rfl,e3⟩:=hf.p2 _ _ _ _ _ _ _ hx hy
    simp only at e2 e3
    rw [e3]
    have:pk=qk:=by omega
    rw [this]
 ·intro i ds i' ds' h1 h2 he
  obtain ⟨c,j,n,d1,a1,a2,_⟩:=liveIn ha h1
  obtain ⟨c',j',n',d2,b1,b2,_⟩:=liveIn ha h2
  have he:(locIn C acc i).1=(locIn C acc i').1:=he
  rw [locIn_eq ha a1,locIn_eq ha b1] at he
  have:=R.cdisj _ _ _ _ a2 b2 he
  subst this
  exact (hf.p2 _ _ _ _ _ _ _ a1 b1).2.2
 ·intro i ds p h1 hp
  obtain ⟨c,j,n,d1,a1,a2,_⟩:=liveIn ha h1
  have e2:(CIn C acc vs).loc i=((C.loc c).1,(C.loc c).2+j):=locIn_eq ha a1
  rw [e2] at hp
  rcases hp with ⟨_,q,_,h⟩ | ⟨_,c',j',n',_,_,h⟩
  ·exact R.fcd c d1 _ a2 h
  ·exact R.fcd c d1 _ a2 h
 ·intro p b hp
  rcases hp with ⟨_,q,_,h⟩ | ⟨_,c',j',n',_,_,h⟩
  ·exact R.fbound _ b h
  ·exact R.fbound _ b h
 ·intro p b hp _ o
  exact .inl ⟨p,hp⟩
 ·intro i ds hl _ k hk
  exact .inr ⟨i,ds,hl,rfl,by omega,by omega⟩
 ·exact ⟨rfl,rfl,rfl,Nat.le_refl _,fun _ _ _=>rfl,fun b cs e fr h=>⟨cs,h,rfl,fun _ _=>rfl⟩⟩
 ·intro b hb; exact .inl hb
 ·intro b o h
  rcases h with ⟨p,hp⟩ | ⟨i,ds,hl,hb,_⟩
  ·exact .inr (.inl (.inl ⟨p,hp⟩))
  ·exact .inr (.inl (ownedIn R ha (.inr ⟨i,ds,hl,hb⟩)))
 ·obtain ⟨B,g1,g2,g3⟩:=R.glob
  have gF:∀ q b,C.F q b→B≤b:=by
   intro q b hp
   by_cases hb:b<w0.heap.size
   ·exact g2 b 0 (R.flent q b hp hb 0)
   ·omega
  refine ⟨B,Nat.le_trans g1 R.frame.size,?_,fun w hw=>g3 w fun b hb=>(hw b hb).trans (R.frame.kept b (by omega) fun o hl=>by have:=g2 b o hl; omega)⟩
  rintro b o (⟨p,⟨_,q,_,h⟩ | ⟨_,c',j',n',_,_,h⟩⟩ | ⟨i,ds',hl,hb,_⟩)
  ·exact gF _ _ h
  ·exact gF _ _ h
  ·obtain ⟨c,j,n,d1,a1,a2,a3,a4,_⟩:=liveIn ha (show (CIn C acc vs).live i ds' from hl)
   have e2:(CIn C acc vs).loc i=((C.loc c).1,(C.loc c).2+j):=locIn_eq ha a1
   rw [e2] at hb
   have hb:(C.loc c).1=b:=hb
   by_cases hlt:b<w0.heap.size
   ·exact g2 b _ (hb▸R.clent c d1 a2 (by omega) 0 (by omega))
   ·omega
end
theorem mapP_live {C:Ctx} {g:Lf→D→D} {t:Nat} {ds:List D} (h:C.live t ds):({ C with E:=C.E.mapP g }:Ctx).live t (mapLv (fun j=>lf1 g ⟨true,t,j⟩) 0 ds):=by
 show (C.E.mapP g).ce[t]? = _
 simp only [Env.mapP]
 rw [mapCe_get,show C.E.ce[t]? = some (some ds) from h]
 simp
theorem mapP_live' {C:Ctx} {g:Lf→D→D} {t:Nat} {ds':List D} (h:({ C with E:=C.E.mapP g }:Ctx).live t ds'):∃ ds,C.live t ds∧ds.length=ds'.length:=by
 have h2:(C.E.mapP g).ce[t]? = some (some ds'):=h
 simp only [Env.mapP] at h2
 rw [mapCe_get] at h2
 cases h3:C.E.ce[t]? with
 | none=>rw [h3] at h2; simp at h2
 | some o =>
  cases o with
  | none=>rw [h3] at h2; simp at h2
  | some ds=>rw [h3] at h2; simp at h2; exact ⟨ds,h3,by rw [←h2,mapLv_length]⟩
theorem mapP_sl (E:Env) (g:Lf→D→D):(E.mapP g).sl.length=E.sl.length:=by simp only [Env.mapP,mapSl_length]
structure Frz (C:Ctx) (ps:List Lf) (E0:Env) (F0:Lf→Nat→Prop):Prop where
 sub:∀ p b,F0 p b→C.F p b
 gone:∀ q e xs,q∈ps→C.E.leaf q = .own e xs→∀ b,¬ F0 q b
 out:∀ p,p ∉ ps→F0 p=C.F p
 own:∀ p e xs,p ∉ ps→C.E.leaf p = .own e xs→E0.leaf p = .own e xs
 own':∀ p e xs,E0.leaf p = .own e xs→C.E.leaf p = .own e xs
 live:∀ c ds,C.live c ds→∃ ds',E0.ce[c]? = some (some ds')∧ds'.length=ds.length
 live':∀ c ds',E0.ce[c]? = some (some ds')→∃ ds,C.live c ds∧ds.length=ds'.length
 len:E0.sl.length=C.E.sl.length
theorem Frz.refl (C:Ctx):Frz C [] C.E C.F :=
 ⟨fun _ _ h=>h,fun q e xs h=>(by cases h),fun _ _=>rfl,fun _ _ _ _ h=>h,fun _ _ _ h=>h,fun c ds h=>⟨ds,h,rfl⟩,fun c ds h=>⟨ds,h,rfl⟩,rfl⟩
theorem Rel.frzs {w0 : World} {L : Nat → Nat → Prop} : ∀ (ps : List Lf) {C : Ctx},Rel w0 L C → ∃ F0,Rel w0 L { C with E := C.E.frzs ps,F := F0 } ∧ Frz C ps (C.E.frzs ps) F0
  | [],C,R => ⟨C.F,R,Frz.refl C⟩
  | q :: ps,C,R => by
    simp only [Env.frzs]
    cases hq : C.E.frz q with
    | none =>
      simp only [Option.getD_none]
      obtain ⟨F0,R0,f⟩ := Rel.frzs ps R
      have hno : ∀ e xs,C.E.leaf q ≠ .own e xs := by
        intro e xs h; unfold Env.frz at hq; rw [h] at hq; simp at hq
      refine ⟨F0,R0,⟨f.sub,?_,fun p hp => f.out p (fun h => hp (List.mem_cons_of_mem _ h)),fun p e xs hp => f.own p e xs (fun h => hp (List.mem_cons_of_mem _ h)),f.own',f.live,f.live',f.len⟩⟩
      intro p e xs hp hl
      rcases List.mem_cons.1 hp with rfl | hp
      · exact absurd hl (hno e xs)
      · exact f.gone p e xs hp hl
    | some E1 =>
      simp only [Option.getD_some]
      have R1 := R.frz hq
      have hown : ∃ e xs,C.E.leaf q = .own e xs := by
        unfold Env.frz at hq
        split at hq
        · exact ⟨_,_,by assumption⟩
        · cases hq
      obtain ⟨e0,xs0,hle⟩ := hown
      have hE1 : E1 = C.E.mapP fun r d => if r = q then .imm e0 xs0 else frzB q e0 xs0 d := by
        unfold Env.frz at hq; rw [hle] at hq; injection hq with hq; exact hq.symm
      obtain ⟨F0,R0,f⟩ := Rel.frzs ps R1
      have hg : ∀ (r : Lf) (d : D),d.leafy = true → (if r = q then D.imm e0 xs0 else frzB q e0 xs0 d).leafy = true := by
        intro r d hd; split
        · rfl
        · cases d <;> simp only [frzB] <;> first | exact hd | (split <;> first | rfl | (split <;> rfl))
      have hlf : ∀ p,E1.leaf p = lf1 (fun r d => if r = q then D.imm e0 xs0 else frzB q e0 xs0 d) p (C.E.leaf p) := by
        intro p; rw [hE1,mapP_leaf R _ hg]
      have hkeep : ∀ p e xs,p ≠ q → C.E.leaf p = .own e xs → E1.leaf p = .own e xs := by
        intro p e xs hp hl
        rw [hlf,hl]
        show (if p = q then D.imm e0 xs0 else frzB q e0 xs0 (.own e xs)) = _
        rw [if_neg hp]; rfl
      have hkeep' : ∀ p e xs,E1.leaf p = .own e xs → C.E.leaf p = .own e xs ∧ p ≠ q := by
        intro p e xs hl
        rw [hlf] at hl
        by_cases hp : p = q
        · subst hp; rw [hle] at hl
          have hl : (if p = p then D.imm e0 xs0 else frzB p e0 xs0 (.own e0 xs0)) = .own e xs := hl
          rw [if_pos rfl] at hl; cases hl
        · refine ⟨?_,hp⟩
          cases hd : C.E.leaf p with
          | own e' xs' =>
            rw [hd] at hl
            have hl : (if p = q then D.imm e0 xs0 else frzB q e0 xs0 (.own e' xs')) = .own e xs := hl
            rw [if_neg hp] at hl; exact hl
          | dead => rw [hd] at hl; cases hl
          | _ =>
            rw [hd] at hl
            simp only [lf1,if_neg hp,frzB] at hl
            first
              | cases hl
              | (split at hl
                 · first | (cases hl; done) | (split at hl <;> cases hl)
                 · cases hl)
      have hl1 : ∀ c ds,C.live c ds → ∃ ds',E1.ce[c]? = some (some ds') ∧ ds'.length = ds.length := by
        intro c ds h
        have := mapP_live (g := fun r d => if r = q then D.imm e0 xs0 else frzB q e0 xs0 d) h
        rw [hE1]
        exact ⟨_,this,mapLv_length ..⟩
      have hl2 : ∀ c ds',E1.ce[c]? = some (some ds') → ∃ ds,C.live c ds ∧ ds.length = ds'.length := by
        intro c ds' h
        rw [hE1] at h
        exact mapP_live' (C := C) h
      refine ⟨F0,R0,⟨?_,?_,?_,?_,?_,?_,?_,?_⟩⟩
      · intro p b h
        have := f.sub p b h
        have this : (if p = q then fun _ => False else C.F p) b := this
        split at this
        · exact this.elim
        · exact this
      · intro p e xs hp hl b hb
        by_cases hpq : p = q
        · subst hpq
          have := f.sub p b hb
          have this : (if p = p then fun _ => False else C.F p) b := this
          rw [if_pos rfl] at this; exact this
        · rcases List.mem_cons.1 hp with h | hp
          · exact hpq h
          · exact f.gone p e xs hp (hkeep p e xs hpq hl) b hb
      · intro p hp
        rw [f.out p (fun h => hp (List.mem_cons_of_mem _ h))]
        show (if p = q then fun _ => False else C.F p) = _
        rw [if_neg (fun h => hp (by rw [h]; exact List.mem_cons_self ..))]
      · intro p e xs hp hl
        exact f.own p e xs (fun h => hp (List.mem_cons_of_mem _ h)) (hkeep p e xs (fun h => hp (by rw [h]; exact List.mem_cons_self ..)) hl)
      · intro p e xs hl
        exact (hkeep' p e xs (f.own' p e xs hl)).1
      · intro c ds h
        obtain ⟨ds1,a,b⟩ := hl1 c ds h
        obtain ⟨ds2,a2,b2⟩ := f.live c ds1 a
        exact ⟨ds2,a2,by omega⟩
      · intro c ds' h
        obtain ⟨ds1,a,b⟩ := f.live' c ds' h
        obtain ⟨ds2,a2,b2⟩ := hl2 c ds1 a
        exact ⟨ds2,a2,by omega⟩
      · rw [f.len]
        show E1.sl.length = _
        rw [hE1,mapP_sl]
theorem wbs_find {Ein Eout:Env}:∀ {l:List (Lf × Lf)} {w:List (Lf × TypeId × List (List T))},wbs Ein Eout l=some w →
  (∀ p e xs,wbFind w p=some (e,xs)→∃ i xs0,(p,i)∈l∧Ein.leaf i = .own e xs0∧Eout.leaf i = .own e xs)∧(∀ p i,(p,i)∈l→(wbFind w p).isSome=true∨Eout.leaf i = .dead)
 | [],w,h=>by
  simp [wbs] at h; subst h
  exact ⟨fun p e xs h=>by simp [wbFind] at h,fun p i h=>by cases h⟩
 | (q,j)::l,w,h=>by
  simp only [wbs] at h
  split at h
  ·rename_i e0 xs0 e xs ws h1 h2 h3
   split at h
   ·rename_i he
    injection h with h
    subst h
    subst he
    obtain ⟨a,b⟩:=wbs_find h3
    refine ⟨?_,?_⟩
    ·intro p e' xs' hp
     simp only [wbFind] at hp
     split at hp
     ·rename_i hpq
      injection hp with hp
      injection hp with hp1 hp2
      subst hp1; subst hp2; subst hpq
      exact ⟨j,xs0,List.mem_cons_self ..,h1,h2⟩
     ·obtain ⟨i,x,c1,c2⟩:=a p e' xs' hp
      exact ⟨i,x,List.mem_cons_of_mem _ c1,c2⟩
    ·intro p i hp
     simp only [wbFind]
     split
     ·exact .inl rfl
     ·rename_i hpq
      rcases List.mem_cons.1 hp with h | h
      ·injection h with h _; exact absurd h.symm hpq
      ·exact b p i h
   ·cases h
  ·rename_i e0 xs0 ws h1 h2 h3
   injection h with h
   subst h
   obtain ⟨a,b⟩:=wbs_find h3
   refine ⟨fun p e xs hp => ?_,fun p i hp => ?_⟩
   ·obtain ⟨i,x,c1,c2⟩:=a p e xs hp
    exact ⟨i,x,List.mem_cons_of_mem _ c1,c2⟩
   ·rcases List.mem_cons.1 hp with h | h
    ·injection h with _ h; subst h; exact .inr h2
    ·exact b p i h
  ·cases h
theorem gones_mem {Eout:Env} {l:List (Lf × Lf)} {p:Lf}:(gones Eout l).contains p=true↔∃ i,(p,i)∈l∧Eout.leaf i = .dead:=by
 have hd:∀ d:D,d.isDead=true↔d = .dead:=by intro d; cases d<;>simp [D.isDead]
 simp only [gones,List.contains_eq_mem,List.mem_map,List.mem_filter,hd,decide_eq_true_eq]
 constructor
 ·rintro ⟨⟨q,i⟩,⟨h1,h2⟩,rfl⟩; exact ⟨i,h1,h2⟩
 ·rintro ⟨i,h1,h2⟩; exact ⟨(p,i),⟨h1,h2⟩,rfl⟩
theorem wcs_mem {Eout:Env}:∀ {l:List (Nat × Nat × Nat × Nat)} {w:List (Nat × Nat × List D)},wcs Eout l=some w →
  (∀ x,x∈w→∃ i,(x.1,x.2.1,x.2.2.length,i)∈l∧Eout.ce.getD i none=some x.2.2∧x.2.2.all D.resLeaf=true)∧(∀ c j n i,(c,j,n,i)∈l→∃ ls,(c,j,ls)∈w∧ls.length=n∧Eout.ce.getD i none=some ls)
 | [],w,h=>by
  simp [wcs] at h; subst h
  exact ⟨fun x h=>(by cases h),fun c j n i h=>(by cases h)⟩
 | (c0,j0,n0,i0)::l,w,h=>by
  simp only [wcs] at h
  split at h
  ·rename_i ls ws h1 h2
   split at h
   ·rename_i hc
    injection h with h
    subst h
    obtain ⟨rfl,hc2⟩:=hc
    obtain ⟨a,b⟩:=wcs_mem h2
    refine ⟨?_,?_⟩
    ·intro x hx
     rcases List.mem_cons.1 hx with rfl | hx
     ·exact ⟨i0,List.mem_cons_self ..,h1,hc2⟩
     ·obtain ⟨i,q1,q2⟩:=a x hx
      exact ⟨i,List.mem_cons_of_mem _ q1,q2⟩
    ·intro c j n i hx
     rcases List.mem_cons.1 hx with h | hx
     ·injection h with e1 e; injection e with e2 e; injection e with e3 e4
      subst e1; subst e2; subst e3; subst e4
      exact ⟨ls,List.mem_cons_self ..,rfl,h1⟩
     ·obtain ⟨ls',q1,q2,q3⟩:=b c j n i hx
      exact ⟨ls',List.mem_cons_of_mem _ q1,q2,q3⟩
   ·cases h
  ·cases h
theorem inWc_mem:∀ {w:List (Nat × Nat × List D)} {p:Lf},inWc w p=true↔∃ x,x∈w∧p.c=true∧p.t=x.1∧x.2.1≤p.k∧p.k<x.2.1+x.2.2.length
 | [],p=>by simp [inWc]
 | (c,j,ls)::w,p=>by
  simp only [inWc,Bool.or_eq_true,Bool.and_eq_true,beq_iff_eq,decide_eq_true_eq]
  rw [inWc_mem]
  constructor
  ·rintro (⟨⟨⟨a,b⟩,c1⟩,d⟩ | ⟨x,hx,h⟩)
   ·exact ⟨_,List.mem_cons_self ..,a,b,c1,d⟩
   ·exact ⟨x,List.mem_cons_of_mem _ hx,h⟩
  ·rintro ⟨x,hx,h1,h2,h3,h4⟩
   rcases List.mem_cons.1 hx with rfl | hx
   ·exact .inl ⟨⟨⟨h1,h2⟩,h3⟩,h4⟩
   ·exact .inr ⟨x,hx,h1,h2,h3,h4⟩
def RL (P:Program) (w:World) (S G:Nat→Prop) (d:D) (v:Value):Prop :=
 d.leafy=true∧one v=true∧(d = .dead∨(d = .v v∧scal v=true)∨(d = .nil∧v = .slice none 0 0)∨(∃ e xs,d = .imm e xs∧RdT P w S (.sl e xs) v)∨(∃ e xs,d = .own e xs∧OwnT P w (.sl e xs) v G)∨∃ f,d = .clo f []∧v = .func (.func f) #[] #[])
theorem RL.rel {C:Ctx} {S G:Nat→Prop} {p:Lf} {d:D} {v:Value} (h:RL C.P C.w S G d v) (hS:∀ e xs b,d = .imm e xs→S b→b<C.w.heap.size→C.Rd b) (hG:∀ e xs,d = .own e xs→∀ b,G b→C.F p b):LRel C p d v:=by
 obtain ⟨_,_,h⟩:=h
 rcases h with rfl | ⟨rfl,h⟩ | ⟨rfl,rfl⟩ | ⟨e,xs,rfl,h⟩ | ⟨e,xs,rfl,h⟩ | ⟨f,rfl,rfl⟩
 ·exact .dead _ _
 ·exact .v _ _ h
 ·exact .nil _
 ·exact .imm _ _ _ _ (h.mono fun b hb hl=>⟨hS e xs b rfl hb hl,rfl⟩)
 ·exact .own _ _ _ _ (h.mono (fun b hb=>hG e xs rfl b hb) (fun _ _ _=>rfl))
 ·exact .clo _ _ _ _ rfl (fun i d hd=>by simp at hd) (fun i d hd=>by simp at hd)
theorem LRel.rl {C:Ctx} {p:Lf} {d:D} {v:Value} (h:LRel C p d v) (hd:d.resLeaf=true) (hl:d.leafy=true) (ho:one v=true):RL C.P C.w C.Rd (C.F p) d v:=by
 refine ⟨hl,ho,?_⟩
 cases d<;>simp [D.resLeaf] at hd
 ·exact .inl rfl
 ·cases h with | v _ h=>exact .inr (.inl ⟨rfl,h⟩)
 ·cases h; exact .inr (.inr (.inl ⟨rfl,rfl⟩))
 ·cases h with | own _ _ _ h=>exact .inr (.inr (.inr (.inr (.inl ⟨_,_,rfl,h⟩))))
 ·cases h with | imm _ _ _ h=>exact .inr (.inr (.inr (.inl ⟨_,_,rfl,h⟩)))
 ·rename_i f ds
  subst hd
  cases h with
  | clo _ _ vs h1 _ _ =>
   have:vs = #[]:=Array.eq_empty_of_size_eq_zero (by simpa using h1.symm)
   subst this
   exact .inr (.inr (.inr (.inr (.inr ⟨f,rfl,rfl⟩))))
theorem Rel.setCs {w0:World} {L:Nat→Nat→Prop} {S:Nat→Prop}:∀ (wc:List (Nat × Nat × List D)) {C:Ctx},Rel w0 L C →
  (∀ x,x∈wc→∃ ds,C.live x.1 ds∧x.2.1+x.2.2.length≤ds.length)→(wc.map (·.1)).Nodup →
  (∀ x,x∈wc→∀ j,x.2.1≤j→j<x.2.1+x.2.2.length→C.E.leaf ⟨true,x.1,j⟩ = .dead) →
  (∀ x,x∈wc→∀ (i:Nat) (d:D),x.2.2[i]? = some d→RL C.P C.w S (C.F ⟨true,x.1,x.2.1+i⟩) d (C.cv ⟨true,x.1,x.2.1+i⟩)) →
  (∀ x d e xs,x∈wc→d∈x.2.2→d = .imm e xs→∀ b,S b→b<C.w.heap.size→C.Rd b) →
  Rel w0 L { C with E:=Fw.setCs C.E wc }∧(Fw.setCs C.E wc).sl=C.E.sl∧(∀ b,C.Rd b→({ C with E:=Fw.setCs C.E wc }:Ctx).Rd b)
 | [],C,R,_,_,_,_,_=>⟨R,rfl,fun _ h=>h⟩
 | (c,j,ls)::wc,C,R,hl,hn,hd,hr,hS=>by
  obtain ⟨ds,h1,h2⟩:=hl _ (List.mem_cons_self ..)
  simp only [List.map_cons,List.nodup_cons] at hn
  have e0:C.E.ce.getD c none=some ds:=getD_some h1
  have R1:=R.setc (c:=c) (k:=j) (ds:=ds) (ls:=ls) h1 h2 (hd _ (List.mem_cons_self ..)) (by
   intro i d hi
   have h:=hr _ (List.mem_cons_self ..) i d hi
   exact ⟨h.1,h.2.1,h.rel (fun e xs b he hb hlb=>hS _ d e xs (List.mem_cons_self ..) (List.mem_of_getElem? hi) he b hb hlb) (fun _ _ _ b hb=>hb)⟩)
  have hE:Fw.setCs C.E ((c,j,ls)::wc)=Fw.setCs { C.E with ce:=C.E.ce.set c (some (setRange ds j ls)) } wc:=by
   simp only [Fw.setCs,e0,Option.map_some]
  have hlt:c<C.E.ce.length:=(gSm h1).1
  have hlv:∀ t ds',t≠c→(({ C with E:={ C.E with ce:=C.E.ce.set c (some (setRange ds j ls)) } }:Ctx).live t ds'↔C.live t ds'):=by
   intro t ds' hne
   show (C.E.ce.set c _)[t]? = _↔_
   rw [List.getElem?_set_ne (fun h=>hne h.symm)]
   exact Iff.rfl
  have hRd:∀ b,C.Rd b→({ C with E:={ C.E with ce:=C.E.ce.set c (some (setRange ds j ls)) } }:Ctx).Rd b:=by
   rintro b ⟨ho,hm⟩
   refine ⟨?_,hm⟩
   rintro (⟨p,hp⟩ | ⟨t,ds',hl',hb⟩)
   ·exact ho (.inl ⟨p,hp⟩)
   ·by_cases hne:t=c
    ·subst hne; exact ho (.inr ⟨t,ds,h1,hb⟩)
    ·exact ho (.inr ⟨t,ds',(hlv t ds' hne).1 hl',hb⟩)
  have hne:∀ x,x∈wc→x.1≠c:=fun x hx h=>hn.1 (List.mem_map.2 ⟨x,hx,h⟩)
  have ih:=Rel.setCs (S:=S) wc R1 (by
   intro x hx
   obtain ⟨d0,a,b⟩:=hl x (List.mem_cons_of_mem _ hx)
   exact ⟨d0,(hlv _ _ (hne x hx)).2 a,b⟩) hn.2 (by
   intro x hx k k1 k2
   have:=hd x (List.mem_cons_of_mem _ hx) k k1 k2
   have e1:(C.E.ce.set c (some (setRange ds j ls))).getD x.1 none=C.E.ce.getD x.1 none:=by
    rw [gDg,List.getElem?_set_ne (fun h=>hne x hx h.symm),←gDg]
   show (((C.E.ce.set c (some (setRange ds j ls))).getD x.1 none).getD []).getD k .dead = .dead
   rw [e1]; exact this) (by
   intro x hx i d hi
   exact hr x (List.mem_cons_of_mem _ hx) i d hi) (by
   intro x d e xs hx hdm he b hb hlb
   exact hRd b (hS x d e xs (List.mem_cons_of_mem _ hx) hdm he b hb hlb))
  obtain ⟨i1,i2,i3⟩:=ih
  rw [hE]
  exact ⟨i1,i2,fun b hb=>i3 b (hRd b hb)⟩
section ret
variable {w0:World} {L:Nat→Nat→Prop} {C:Ctx} (R:Rel w0 L C) {acc:CallAcc} {vs:List Value} (ha:AccOk C acc vs) (hf:AccFine acc)
 {w':World} {Eout:Env} {F':Lf→Nat→Prop} {loc':Nat→Nat × Nat} {v:Value}
 (Ro:Rel C.w (lentOf (CIn C acc vs).E (CIn C acc vs).F (CIn C acc vs).loc) { P:=C.P,E:=Eout,a:={ tmps:=vs.toArray.push v,defers:=[] },w:=w',F:=F',loc:=loc',M:=MIn C acc })
 (hloc:∀ t,t<acc.args.length→loc' t=locIn C acc t)
theorem outBlk (R:Rel w0 L C) (ha:AccOk C acc vs) (hf:AccFine acc) (Ro:Rel C.w (lentOf (CIn C acc vs).E (CIn C acc vs).F (CIn C acc vs).loc) { P:=C.P,E:=Eout,a:={ tmps:=vs.toArray.push v,defers:=[] },w:=w',F:=F',loc:=loc',M:=MIn C acc }) {r:Lf} {b:Nat} (h:F' r b) :
  (∃ p,FIn C acc p b)∨(C.w.heap.size≤b∧b<w'.heap.size):=by
 by_cases hb:b<C.w.heap.size
 ·left
  have hl:=Ro.flent r b h hb
  rcases hl 0 with ⟨p,hp⟩ | ⟨t,ds,h1,h2,h3,h4⟩
  ·exact ⟨p,hp⟩
  ·rcases hl ((locIn C acc t).2+ds.length) with ⟨p,hp⟩ | ⟨t',ds',h1',h2',h3',h4'⟩
   ·exact ⟨p,hp⟩
   ·have:=(Rel.entry R ha hf).cdisj t ds t' ds' h1 h1' (h2.trans h2'.symm)
    subst this
    have:ds'=ds:=by
     have a:acc.ce[t]? = some (some ds):=h1
     have b:acc.ce[t]? = some (some ds'):=h1'
     rw [a] at b; injection b with b; injection b with b; exact b.symm
    subst this
    have h4':(locIn C acc t).2+ds'.length<(locIn C acc t).2+ds'.length:=h4'
    omega
 ·exact .inr ⟨by omega,Ro.fbound r b h⟩
end ret
theorem RL.monoG {P:Program} {w:World} {S G G':Nat→Prop} {d:D} {v:Value} (h:RL P w S G d v) (hg:∀ b,G b→G' b):RL P w S G' d v:=by
 obtain ⟨a,b,h⟩:=h
 refine ⟨a,b,?_⟩
 rcases h with h | h | h | h | ⟨e,xs,h1,h2⟩ | h
 ·exact .inl h
 ·exact .inr (.inl h)
 ·exact .inr (.inr (.inl h))
 ·exact .inr (.inr (.inr (.inl h)))
 ·exact .inr (.inr (.inr (.inr (.inl ⟨e,xs,h1,h2.mono hg (fun _ _ _=>rfl)⟩))))
 ·exact .inr (.inr (.inr (.inr (.inr h))))
theorem distinct_nodup {α:Type} [DecidableEq α]:∀ {l:List α},distinct l=true→l.Nodup
 | [],_=>List.nodup_nil
 | x::l,h=>by
  simp only [distinct,Bool.and_eq_true,Bool.not_eq_true',List.contains_eq_mem,decide_eq_false_iff_not] at h
  exact List.nodup_cons.2 ⟨h.1,distinct_nodup h.2⟩
theorem wcs_fst {Eout:Env}:∀ {l:List (Nat × Nat × Nat × Nat)} {w:List (Nat × Nat × List D)},wcs Eout l=some w→w.map (·.1)=l.map (·.1)
 | [],w,h=>by simp [wcs] at h; subst h; rfl
 | (c0,j0,n0,i0)::l,w,h=>by
  simp only [wcs] at h
  split at h
  ·rename_i ls ws h1 h2
   split at h
   ·injection h with h; subst h; simp [wcs_fst h2]
   ·cases h
  ·cases h
def F2 (acc:CallAcc) (T:Nat) (w1:List (Lf × TypeId × List (List Fw.T))) (E1:Env) (F0 F':Lf→Nat→Prop) (p:Lf) (b:Nat):Prop :=
 (∃ i,(p,i)∈acc.wb∧F' i b)∨(p.c=true∧∃ j n i,(p.t,j,n,i)∈acc.wc∧j≤p.k∧p.k<j+n∧F' ⟨true,i,p.k-j⟩ b) ∨
 (p.c=false∧p.t=T∧F' ⟨false,acc.args.length,p.k⟩ b)∨(wbFind w1 p=none∧(∃ e xs,E1.leaf p = .own e xs)∧F0 p b)
theorem Rel.ret1 {w0:World} {L:Nat→Nat→Prop} {C:Ctx} (R:Rel w0 L C) {acc:CallAcc} {vs:List Value} (ha:AccOk C acc vs) (hf:AccFine acc) (hnd:(acc.wc.map (·.1)).Nodup)
  {w':World} {Eout:Env} {F':Lf→Nat→Prop} {loc':Nat→Nat × Nat} {v:Value}
  (Ro:Rel C.w (lentOf (CIn C acc vs).E (CIn C acc vs).F (CIn C acc vs).loc) { P:=C.P,E:=Eout,a:={ tmps:=vs.toArray.push v,defers:=[] },w:=w',F:=F',loc:=loc',M:=MIn C acc })
  (hloc:∀ t,t<acc.args.length→loc' t=locIn C acc t) {w1:List (Lf × TypeId × List (List Fw.T))} {w2:List (Nat × Nat × List D)} (h1:wbs ⟨acc.args,acc.ce⟩ Eout acc.wb=some w1) (h2:wcs Eout acc.wc=some w2)
  {ps:List Lf} {E0:Env} {F0:Lf→Nat→Prop} (R0:Rel w0 L { C with E:=E0,F:=F0 }) (fz:Frz C ps E0 F0) (hps:∀ q,q∈ps→q∈acc.bor)
  (him:(∃ x,x∈w2∧∃ d,d∈x.2.2∧d.isImm=true)→ps=acc.bor∧acc.borc=[]) :
  ∃ F'',Rel w0 L { C with E:=E0.called (gones Eout acc.wb) w1 w2,w:=w',F:=F'' }∧(∀ k b,F' ⟨false,acc.args.length,k⟩ b→F'' ⟨false,C.E.sl.length,k⟩ b)∧(E0.called (gones Eout acc.wb) w1 w2).sl.length=C.E.sl.length ∧
   (ps=acc.bor∧acc.borc=[]→∀ b,({ P:=C.P,E:=Eout,a:={ tmps:=vs.toArray.push v,defers:=[] },w:=w',F:=F',loc:=loc',M:=MIn C acc }:Ctx).Rd b→b<w'.heap.size→({ C with E:=E0.called (gones Eout acc.wb) w1 w2,w:=w',F:=F'' }:Ctx).Rd b):=by
 obtain ⟨b1,b2⟩:=wbs_find h1
 obtain ⟨c1,c2⟩:=wcs_mem h2
 have hgo:∀ p,(gones Eout acc.wb).contains p=true↔∃ i,(p,i)∈acc.wb∧Eout.leaf i = .dead:=fun p=>gones_mem
 generalize gones Eout acc.wb=go at hgo ⊢
 have R1:Rel w0 L { C with E:=E0.kill fun p=>inWc w2 p || go.contains p,F:=F0 }:=R0.kill _
 have hE1:∀ p,(E0.kill fun p=>inWc w2 p || go.contains p).leaf p=lf1 (fun p d=>if inWc w2 p || go.contains p then D.dead else killB (fun p=>inWc w2 p || go.contains p) d) p (E0.leaf p):=by
  intro p
  unfold Env.kill
  exact mapP_leaf R0 _ (by
   intro r d h
   split
   ·rfl
   ·exact killB_leafy _ d h) p
 have hlive1:∀ c ds,C.live c ds→∃ ds1,(E0.kill fun p=>inWc w2 p || go.contains p).ce[c]? = some (some ds1)∧ds1.length=ds.length:=by
  intro c ds h
  obtain ⟨d0,a,b⟩:=fz.live c ds h
  have:=mapP_live (C:={ C with E:=E0,F:=F0 }) (g:=fun p d=>if inWc w2 p || go.contains p then D.dead else killB (fun p=>inWc w2 p || go.contains p) d) a
  exact ⟨_,this,by rw [mapLv_length]; exact b⟩
 have hlive1':∀ c ds1,(E0.kill fun p=>inWc w2 p || go.contains p).ce[c]? = some (some ds1)→∃ ds,C.live c ds∧ds.length=ds1.length:=by
  intro c ds1 h
  obtain ⟨d0,a,b⟩:=mapP_live' (C:={ C with E:=E0,F:=F0 }) (g:=fun p d=>if inWc w2 p || go.contains p then D.dead else killB (fun p=>inWc w2 p || go.contains p) d) h
  obtain ⟨ds,a2,b2⟩:=fz.live' c d0 a
  exact ⟨ds,a2,by omega⟩
 have hE1len:(E0.kill fun p=>inWc w2 p || go.contains p).sl.length=C.E.sl.length:=by unfold Env.kill; rw [mapP_sl,fz.len]
 generalize hE1g:(E0.kill fun p=>inWc w2 p || go.contains p)=E1 at R1 hE1 hlive1 hlive1' hE1len
 have deadK:∀ p,(inWc w2 p || go.contains p)=true→E1.leaf p = .dead:=by
  intro p h
  rw [hE1]
  cases E0.leaf p<;>simp only [lf1,h,if_true]
 have dead1:∀ p,inWc w2 p=true→E1.leaf p = .dead:=fun p h=>deadK p (by rw [h]; rfl)
 have deadG:∀ p,go.contains p=true→E1.leaf p = .dead:=fun p h=>deadK p (by rw [h]; simp)
 have own1:∀ p e xs,E1.leaf p = .own e xs→E0.leaf p = .own e xs∧inWc w2 p=false:=by
  intro p e xs h
  cases hin:(inWc w2 p || go.contains p) with
  | true=>rw [deadK p hin] at h; cases h
  | false =>
   have hin0:inWc w2 p=false:=by rw [Bool.or_eq_false_iff] at hin; exact hin.1
   refine ⟨?_,hin0⟩
   rw [hE1] at h
   cases hd:E0.leaf p with
   | own e' xs'=>rw [hd] at h; simp only [lf1,hin,killB] at h; simpa using h
   | dead=>rw [hd] at h; cases h
   | _ =>
    rw [hd] at h
    simp only [lf1,hin,killB] at h
    first | (simp at h; done) | (simp only [Bool.false_eq_true,if_false] at h; split at h<;>cases h)
 have inWcE:∀ p,inWc w2 p=true→∃ j n i,p.c=true∧(p.t,j,n,i)∈acc.wc∧j≤p.k∧p.k<j+n:=by
  intro p h
  obtain ⟨x,hx,q1,q2,q3,q4⟩:=inWc_mem.1 h
  obtain ⟨i,m,_⟩:=c1 x hx
  exact ⟨x.2.1,x.2.2.length,i,q1,by rw [q2]; exact m,q3,q4⟩
 have inWcI:∀ c j n i k,(c,j,n,i)∈acc.wc→j≤k→k<j+n→inWc w2 ⟨true,c,k⟩=true:=by
  intro c j n i k h q1 q2
  obtain ⟨ls,m1,m2,_⟩:=c2 c j n i h
  exact inWc_mem.2 ⟨_,m1,rfl,rfl,q1,by rw [m2]; exact q2⟩
 have wbNo:∀ p i,(p,i)∈acc.wb→p ∉ ps∧inWc w2 p=false:=by
  intro p i h
  refine ⟨fun hp=>hf.p4 p i (hps p hp) h,?_⟩
  cases hin:inWc w2 p with
  | false=>rfl
  | true =>
   obtain ⟨j,n,i',q1,q2,_⟩:=inWcE p hin
   have:=hf.p3 p i j n i' h q2
   rw [this] at q1; cases q1
 have wbOwn:∀ p i,(p,i)∈acc.wb→Eout.leaf i ≠ .dead→∃ e xs,(acc.args.getD i.t .dead).leafOf i.k = .own e xs∧C.E.leaf p = .own e xs∧E1.leaf p = .own e xs∧vleafOf (vs.getD i.t undef) i.k=C.cv p∧i.t<vs.length∧i.c=false:=by
  intro p i h hnd
  obtain ⟨hc,hi,e,xs,q1,q2,q3⟩:=ha.wbi p i h
  obtain ⟨n1,n2⟩:=wbNo p i h
  refine ⟨e,xs,q1,q2,?_,q3,hi,hc⟩
  have n3:go.contains p=false:=by
   cases hg:go.contains p with
   | false=>rfl
   | true =>
    obtain ⟨i',m1,m2⟩:=(hgo p).1 hg
    have:=hf.p1 _ _ _ h m1
    subst this
    exact absurd m2 hnd
  rw [hE1,fz.own p e xs n1 q2]
  simp only [lf1,n2,n3,killB,Bool.or_false,Bool.false_eq_true,if_false]
 have cellNo:∀ c j n i k,(c,j,n,i)∈acc.wc→(⟨true,c,k⟩:Lf) ∉ ps:=by
  intro c j n i k h hp
  have:=hf.p5 ⟨true,c,k⟩ j n i (hps _ hp) h
  cases this
 have finPL:∀ r b,FIn C acc r b→∃ q,((∃ i,(q,i)∈acc.wb)∨inWc w2 q=true)∧F0 q b:=by
  rintro r b (⟨_,q,h,hb⟩ | ⟨_,c,j,n,h,hk,hb⟩)
  ·exact ⟨q,.inl ⟨_,h⟩,by rw [fz.out q (wbNo q _ h).1]; exact hb⟩
  ·exact ⟨⟨true,c,j+r.k⟩,.inr (inWcI c j n _ _ h (by omega) (by omega)),by rw [fz.out _ (cellNo c j n _ _ h)]; exact hb⟩
 have outPL:∀ r b,F' r b→(∃ q,((∃ i,(q,i)∈acc.wb)∨inWc w2 q=true)∧F0 q b)∨(C.w.heap.size≤b∧b<w'.heap.size):=by
  intro r b h
  rcases outBlk R ha hf Ro h with ⟨p,hp⟩ | h
  ·exact .inl (finPL p b hp)
  ·exact .inr h
 have noPL:∀ p e xs,E1.leaf p = .own e xs→wbFind w1 p=none→¬ ((∃ i,(p,i)∈acc.wb)∨inWc w2 p=true):=by
  rintro p e xs hp hn (⟨i,h⟩ | h)
  ·rcases b2 p i h with this | this
   ·rw [hn] at this; cases this
   ·rw [deadG p ((hgo p).2 ⟨i,h,this⟩)] at hp; cases hp
  ·rw [dead1 p h] at hp; cases hp
 have sc:∀ i ls,i<acc.args.length→Eout.ce.getD i none=some ls→∀ c j n,(c,j,n,i)∈acc.wc→∃ cs e fr,w'.heap[(C.loc c).1]? = some (.cells cs e fr) ∧
   ∀ (k:Nat) (d:D),ls[k]? = some d→d.leafy=true∧one (cs.getD ((C.loc c).2+(j+k)) undef)=true∧LRel { P:=C.P,E:=Eout,a:={ tmps:=vs.toArray.push v,defers:=[] },w:=w',F:=F',loc:=loc',M:=MIn C acc } ⟨true,i,k⟩ d (cs.getD ((C.loc c).2+(j+k)) undef):=by
  intro i ls hi hls c j n hm
  have hl:Eout.ce[i]? = some (some ls):=by
   rw [gDg] at hls
   cases hx:Eout.ce[i]? with
   | none=>rw [hx] at hls; cases hls
   | some y=>rw [hx] at hls; simp at hls; rw [hls]
  obtain ⟨cs,e,fr,a1,a2,a3,a4⟩:=(Ro.cell i ls hl).out
  have e1:loc' i=((C.loc c).1,(C.loc c).2+j):=by rw [hloc i hi,locIn_eq ha hm]
  refine ⟨cs,e,fr,?_,fun k d hd => ?_⟩
  ·have a1:w'.heap[(loc' i).1]? = some (.cells cs e fr):=a1
   rw [e1] at a1; exact a1
  ·have:=a4 k d hd
   have e2:(loc' i).2+k=(C.loc c).2+(j+k):=by rw [e1]; show (C.loc c).2+j+k=_; omega
   have this:d.leafy=true∧one (cs.getD ((loc' i).2+k) undef)=true∧LRel _ ⟨true,i,k⟩ d (cs.getD ((loc' i).2+k) undef):=this
   rw [e2] at this; exact this
 have R2:=R1.havoc (w':=w') Ro.frame (PL:=fun q=>(∃ i,(q,i)∈acc.wb)∨inWc w2 q=true) (CR:=fun c k=>inWc w2 ⟨true,c,k⟩=true) (by
   rintro b o (⟨p,hp⟩ | ⟨t,ds,g1,g2,g3,g4⟩)
   ·exact .inl (finPL p b hp)
   ·obtain ⟨c,j,n,dsC,m1,m2,m3,m4,m5,m6,m7⟩:=liveIn ha (show (CIn C acc vs).live t ds from g1)
    have e1:(CIn C acc vs).loc t=((C.loc c).1,(C.loc c).2+j):=locIn_eq ha m1
    rw [e1] at g2 g3 g4
    simp only at g2 g3 g4
    obtain ⟨ds1,l1,l2⟩:=hlive1 c dsC m2
    exact .inr ⟨c,ds1,o-(C.loc c).2,l1,inWcI c j n t _ m1 (by omega) (by omega),by omega,g2,by show o=(C.loc c).2+_; omega⟩) (fun c k h=>dead1 _ h) (by
   intro c ds k hl hcr hk cs e fr hcs
   obtain ⟨x,hx,q1,q2,q3,q4⟩:=inWc_mem.1 hcr
   simp only at q2 q3 q4
   obtain ⟨i,m,g1,g2⟩:=c1 x hx
   rw [←q2] at m
   have hi:i<acc.args.length:=by rw [ha.len]; exact (ha.wci _ _ _ _ m).1
   obtain ⟨cs2,e2,fr2,s1,s2⟩:=sc i _ hi g1 c _ _ m
   have hcs:w'.heap[(C.loc c).1]? = some (.cells cs e fr):=hcs
   rw [s1] at hcs; injection hcs with hcs; injection hcs with hcs; subst hcs
   have hx2:x.2.2[k-x.2.1]? = some x.2.2[k-x.2.1]:=gEg (by omega)
   have:=(s2 _ _ hx2).2.1
   have e3:x.2.1+(k-x.2.1)=k:=by omega
   rw [e3] at this; exact this) w1 (F'':=F2 acc C.E.sl.length w1 E1 F0 F') (by
   intro p e xs hp
   obtain ⟨i,xs0,m1,m2,m3⟩:=b1 p e xs hp
   obtain ⟨e0,xs1,q1,q2,q3,q4,q5,q6⟩:=wbOwn p i m1 (by rw [m3]; simp)
   obtain ⟨ic,it,ik⟩:=i
   simp only at q1 q4 q5 q6
   subst q6
   have m2:(acc.args.getD it .dead).leafOf ik = .own e xs0:=m2
   rw [q1] at m2
   injection m2 with m2 m4
   subst m2; subst m4
   have ho:=Ro.ownLeaf m3
   have hoC:=R.ownLeaf q2
   have hcv:Ctx.cv { P:=C.P,E:=Eout,a:={ tmps:=vs.toArray.push v,defers:=[] },w:=w',F:=F',loc:=loc',M:=MIn C acc } ⟨false,it,ik⟩=C.cv p:=by
    show vleafOf ((vs.toArray.push v).getD it undef) ik=C.cv p
    have:(vs.toArray.push v).getD it undef=vs.getD it undef:=by
     rw [arrGetD,Array.getElem?_push,if_neg (by simp; omega)]
     simp
    rw [this,q4]
   rw [hcv] at ho
   refine ⟨.inl ⟨_,m1⟩,xs1,q3,?_,ho.mono (fun b hb => .inl ⟨_,m1,hb⟩) (fun _ _ _=>rfl)⟩
   exact ho.lenV.trans hoC.lenV.symm) (by
   rintro p e xs (⟨i,h⟩ | h) hp
   ·rcases b2 p i h with this | this
    ·exact this
    ·rw [deadG p ((hgo p).2 ⟨i,h,this⟩)] at hp; cases hp
   ·rw [dead1 p h] at hp; cases hp) (by
   intro p e xs hp hn
   funext b
   apply propext
   constructor
   ·rintro (⟨i,h,_⟩ | ⟨h,j,n,i,m,m1,m2,_⟩ | ⟨h,ht,_⟩ | ⟨_,_,h⟩)
    ·exact absurd (.inl ⟨i,h⟩) (noPL p e xs hp hn)
    ·obtain ⟨pc,pt,pk⟩:=p
     simp only at h; subst h
     exact absurd (.inr (inWcI _ _ _ _ _ m m1 m2)) (noPL _ e xs hp hn)
    ·exfalso
     obtain ⟨pc,pt,pk⟩:=p
     simp only at h ht; subst h; subst ht
     have hp:(E1.sl.getD C.E.sl.length .dead).leafOf pk = .own e xs:=hp
     have e1:E1.sl.getD C.E.sl.length .dead = .dead:=by rw [gDg,List.getElem?_eq_none (by omega)]; rfl
     rw [e1] at hp
     have:=own_anyOwn hp
     simp [D.anyOwn,D.comps,D.leaves1,D.isOwn] at this
    ·exact h
   ·intro h; exact .inr (.inr (.inr ⟨hn,⟨e,xs,hp⟩,h⟩))) (by
   rintro p b (⟨i,m,h⟩ | ⟨_,j,n,i,m,_,_,h⟩ | ⟨_,_,h⟩ | ⟨h1,h2,h⟩)
   ·exact .inr (outPL _ b h)
   ·exact .inr (outPL _ b h)
   ·exact .inr (outPL _ b h)
   ·exact .inl ⟨h,h1,h2⟩) (by
   have old:∀ p q r b,(wbFind w1 p=none∧(∃ e xs,E1.leaf p = .own e xs)∧F0 p b)→F' r b→p=q:=by
    rintro p q r b ⟨g1,⟨e,xs,g2⟩,g3⟩ h
    rcases outPL r b h with ⟨q',hq,hb⟩ | hb
    ·have:=R0.disj _ _ _ g3 hb
     subst this
     exact absurd hq (noPL _ _ _ g2 g1)
    ·have:=R0.fbound _ _ g3
     have this:b<C.w.heap.size:=this
     omega
   intro p q b hp hq
   obtain ⟨pc,pt,pk⟩:=p
   obtain ⟨qc,qt,qk⟩:=q
   rcases hp with ⟨i,m,h⟩ | ⟨hc,j,n,i,m,m1,m2,h⟩ | ⟨hc,ht,h⟩ | hp
   ·rcases hq with ⟨i',m',h'⟩ | ⟨hc',j',n',i',m',m1',m2',h'⟩ | ⟨hc',ht',h'⟩ | hq
    ·have:=Ro.disj _ _ _ h h'
     subst this
     exact ha.wbu _ _ _ m m'
    ·have:=Ro.disj _ _ _ h h'
     have q:=(ha.wbi _ _ m).1
     rw [this] at q; cases q
    ·have:=Ro.disj _ _ _ h h'
     have q:=(ha.wbi _ _ m).2.1
     rw [this,←ha.len] at q
     exact absurd q (Nat.lt_irrefl _)
    ·exact (old _ _ _ b hq h).symm
   ·rcases hq with ⟨i',m',h'⟩ | ⟨hc',j',n',i',m',m1',m2',h'⟩ | ⟨hc',ht',h'⟩ | hq
    ·have:=Ro.disj _ _ _ h h'
     have q:=(ha.wbi _ _ m').1
     rw [←this] at q; cases q
    ·have:=Ro.disj _ _ _ h h'
     injection this with _ e e2; subst e
     simp only at hc hc' m m' m1 m1' e2
     have:=ha.wcu (pt,j,n) (qt,j',n') i (List.mem_map.2 ⟨_,m,rfl⟩) (List.mem_map.2 ⟨_,m',rfl⟩)
     injection this with x1 x2; injection x2 with x2 x3
     subst hc; subst hc'; subst x1; subst x2; subst x3
     have:pk=qk:=by omega
     rw [this]
    ·have:=Ro.disj _ _ _ h h'
     injection this with e _ _; cases e
    ·exact (old _ _ _ b hq h).symm
   ·rcases hq with ⟨i',m',h'⟩ | ⟨hc',j',n',i',m',m1',m2',h'⟩ | ⟨hc',ht',h'⟩ | hq
    ·have:=Ro.disj _ _ _ h h'
     have q:=(ha.wbi _ _ m').2.1
     rw [←this,←ha.len] at q
     exact absurd q (Nat.lt_irrefl _)
    ·have:=Ro.disj _ _ _ h h'
     injection this with e _ _; cases e
    ·have:=Ro.disj _ _ _ h h'
     injection this with _ _ e
     simp only at hc hc' ht ht' e
     rw [hc,hc',ht,ht',e]
    ·exact (old _ _ _ b hq h).symm
   ·rcases hq with ⟨i',m',h'⟩ | ⟨hc',j',n',i',m',m1',m2',h'⟩ | ⟨hc',ht',h'⟩ | hq
    ·exact old _ _ _ b hp h'
    ·exact old _ _ _ b hp h'
    ·exact old _ _ _ b hp h'
    ·exact R0.disj _ _ b hp.2.2 hq.2.2)
 have mC:∀ c ds,C.live c ds→0<ds.length→C.M (C.loc c).1:=by
  intro c ds h hpos
  by_cases hb:(C.loc c).1<w0.heap.size
  ·exact R.mL _ _ (R.clent c ds h hb 0 hpos)
  ·exact R.mnew _ (by omega)
 have finC:∀ r b,FIn C acc r b→∃ q,C.F q b:=by
  rintro r b (⟨_,q,_,hb⟩ | ⟨_,c,j,n,_,_,hb⟩)
  ·exact ⟨q,hb⟩
  ·exact ⟨_,hb⟩
 have rd2:ps=acc.bor∧acc.borc=[]→∀ b,({ P:=C.P,E:=Eout,a:={ tmps:=vs.toArray.push v,defers:=[] },w:=w',F:=F',loc:=loc',M:=MIn C acc }:Ctx).Rd b →
   ({ C with E:=E1.mapP (wbG w1),w:=w',F:=F2 acc C.E.sl.length w1 E1 F0 F' }:Ctx).Rd b:=by
  rintro ⟨hp1,hp2⟩ b ⟨ho,hm⟩
  have hm:MIn C acc b:=hm
  refine ⟨?_,?_⟩
  ·rintro (⟨p,hp⟩ | ⟨t,ds',hl,hb⟩)
   ·rcases hp with ⟨i,_,h⟩ | ⟨_,j,n,i,_,_,_,h⟩ | ⟨_,_,h⟩ | ⟨g1,⟨e,xs,g2⟩,g3⟩
    ·exact ho (.inl ⟨_,h⟩)
    ·exact ho (.inl ⟨_,h⟩)
    ·exact ho (.inl ⟨_,h⟩)
    ·rcases hm with h | (⟨r,h⟩ | ⟨c,j,n,i,m,hb⟩) | h | ⟨q,e',xs',hq,hl,hqb⟩ | ⟨c,ds,hc,_⟩
     ·have:=R0.fbound _ _ g3
      have this:b<C.w.heap.size:=this
      omega
     ·obtain ⟨q,hq,hqb⟩:=finPL r b h
      have:=R0.disj _ _ _ g3 hqb
      subst this
      exact noPL _ _ _ g2 g1 hq
     ·obtain ⟨_,ds,hl,_⟩:=ha.wci c j n i m
      exact R.fcd c ds p hl (by rw [hb]; exact fz.sub _ _ g3)
     ·exact h.1 (.inl ⟨p,fz.sub _ _ g3⟩)
     ·have:=R.disj _ _ _ hqb (fz.sub _ _ g3)
      subst this
      exact fz.gone _ _ _ (by rw [hp1]; exact hq) hl b g3
     ·rw [hp2] at hc; cases hc
   ·obtain ⟨d1,l1,_⟩:=mapP_live' (C:={ C with E:=E1,w:=w',F:=F2 acc C.E.sl.length w1 E1 F0 F' }) hl
    obtain ⟨dC,lC,_⟩:=hlive1' t d1 l1
    have hb:(C.loc t).1=b:=hb
    rcases hm with h | (⟨r,h⟩ | ⟨c,j,n,i,m,hb'⟩) | h | ⟨q,e',xs',hq,hl,hqb⟩ | ⟨c,ds,hc,_⟩
    ·obtain ⟨cs,e,fr,a1,_⟩:=(R.cell t dC lC).out
     have:=(Array.getElem?_eq_some_iff.1 a1).1
     omega
    ·obtain ⟨q,hq⟩:=finC r b h
     exact R.fcd t dC q lC (by rw [hb]; exact hq)
    ·obtain ⟨hi,ds,hl,_⟩:=ha.wci c j n i m
     have:=R.cdisj _ _ _ _ lC hl (hb.trans hb'.symm)
     subst this
     obtain ⟨ls,_,_,q3⟩:=c2 _ _ _ _ m
     have hll:Eout.ce[i]? = some (some ls):=by
      rw [gDg] at q3
      cases hx:Eout.ce[i]? with
      | none=>rw [hx] at q3; cases q3
      | some y=>rw [hx] at q3; simp at q3; rw [q3]
     refine ho (.inr ⟨i,ls,hll,?_⟩)
     show (loc' i).1=b
     rw [hloc i (by rw [ha.len]; exact hi),locIn_eq ha m]; exact hb
    ·exact h.1 (.inr ⟨t,dC,lC,hb⟩)
    ·exact R.fcd t dC q lC (by rw [hb]; exact hqb)
    ·rw [hp2] at hc; cases hc
  ·show C.M b
   rcases hm with h | (⟨r,h⟩ | ⟨c,j,n,i,m,hb'⟩) | h | ⟨q,e',xs',hq,hl,hqb⟩ | ⟨c,ds,hc,_⟩
   ·exact R.mnew b (by have:=R.frame.size; omega)
   ·obtain ⟨q,hq⟩:=finC r b h
    exact R.mF hq
   ·obtain ⟨hi,ds,hl,h5,h6,_⟩:=ha.wci c j n i m
    rw [←hb']; exact mC c ds hl (by omega)
   ·exact h.2
   ·exact R.mF hqb
   ·rw [hp2] at hc; cases hc
 have hg1:∀ p d,d.leafy=true→(wbG w1 p d).leafy=true:=by
  intro p d h
  unfold wbG
  split
  ·rfl
  ·split
   ·split<;>rfl
   ·exact h
 have key:=Rel.setCs (S:=({ P:=C.P,E:=Eout,a:={ tmps:=vs.toArray.push v,defers:=[] },w:=w',F:=F',loc:=loc',M:=MIn C acc }:Ctx).Rd) w2 R2 (by
   intro x hx
   obtain ⟨i,m,_⟩:=c1 x hx
   obtain ⟨_,ds,hl,h5,_⟩:=ha.wci _ _ _ _ m
   obtain ⟨d1,l1,l2⟩:=hlive1 _ ds hl
   have:=mapP_live (C:={ C with E:=E1,w:=w',F:=F2 acc C.E.sl.length w1 E1 F0 F' }) (g:=wbG w1) l1
   exact ⟨_,this,by rw [mapLv_length]; omega⟩) (by rw [wcs_fst h2]; exact hnd) (by
   intro x hx j q1 q2
   show (E1.mapP (wbG w1)).leaf _=_
   rw [mapP_leaf R1 _ hg1,dead1 _ (inWc_mem.2 ⟨x,hx,rfl,rfl,q1,q2⟩)]
   rfl) (by
   intro x hx i d hi
   obtain ⟨k,m,g1,g2⟩:=c1 x hx
   have hk:k<acc.args.length:=by rw [ha.len]; exact (ha.wci _ _ _ _ m).1
   obtain ⟨cs,e,fr,s1,s2⟩:=sc k _ hk g1 _ _ _ m
   obtain ⟨t1,t2,t3⟩:=s2 i d hi
   have hr:=List.all_eq_true.1 g2 d (List.mem_of_getElem? hi)
   have hcv:Ctx.cv { C with E:=E1.mapP (wbG w1),w:=w',F:=F2 acc C.E.sl.length w1 E1 F0 F' } ⟨true,x.1,x.2.1+i⟩=cs.getD ((C.loc x.1).2+(x.2.1+i)) undef:=cell_cv (C:={ C with E:=E1.mapP (wbG w1),w:=w',F:=F2 acc C.E.sl.length w1 E1 F0 F' }) s1
   rw [hcv]
   have hi2:i<x.2.2.length:=(gSm hi).1
   refine (t3.rl hr t1 t2).monoG fun b hb => ?_
   refine .inr (.inl ⟨rfl,x.2.1,x.2.2.length,k,m,by show x.2.1≤x.2.1+i; omega,by show x.2.1+i<_; omega,?_⟩)
   have e3:x.2.1+i-x.2.1=i:=by omega
   show F' ⟨true,k,x.2.1+i-x.2.1⟩ b
   rw [e3]; exact hb) (by
   intro x d e xs hx hd he b hb hlb
   exact rd2 (him ⟨x,hx,d,hd,by rw [he]; rfl⟩) b hb)
 obtain ⟨i1,i2,i3⟩:=key
 unfold Env.called
 rw [hE1g]
 refine ⟨F2 acc C.E.sl.length w1 E1 F0 F',i1,fun k b h => .inr (.inr (.inl ⟨rfl,rfl,h⟩)),?_,fun h b hb _=>i3 b (rd2 h b hb)⟩
 rw [i2]
 show (E1.mapP (wbG w1)).sl.length=_
 rw [mapP_sl]; exact hE1len
theorem SRel.mv {C C':Ctx} {t t':Nat} {d:D} {v:Value} (h:SRel C t d v) (hgo:∀ k x v,At d k x→x.leafy=true→one v=true→LRel C ⟨false,t,k⟩ x v→LRel C' ⟨false,t',k⟩ x v):SRel C' t' d v:=by
 have comp:∀ k0 (c:D) v,(∀ j x,j<64→c.leaves1[j]? = some x→At d (k0+j) x)→CRel C t k0 c v→CRel C' t' k0 c v:=by
  intro k0 c v hat hc
  cases hc with
  | dead=>exact .dead _ _
  | agg ds vs hl h64 h =>
   refine .agg _ _ _ hl h64 fun i x hx => ?_
   obtain ⟨a1,a2,a3⟩:=h i x hx
   exact ⟨a1,a2,hgo _ _ _ (hat i x (by have:=(gSm hx).1; omega) (by simpa [D.leaves1] using hx)) a1 a2 a3⟩
  | leaf _ _ a b c' =>
   have:=hgo k0 c v (by have:=hat 0 c (by omega) (by rw [leafy_leaves1 a]; rfl); simpa using this) a b c'
   exact .leaf _ _ _ a b this
 cases h with
 | tup cs vs hl h =>
  refine .tup _ _ hl fun i c hc => ?_
  obtain ⟨a1,a2⟩:=h i c hc
  exact ⟨a1,comp _ c _ (fun j x hj hx=>At.tup cs i j c x hc hj hx) a2⟩
 | comp _ _ ht hc=>exact .comp _ _ ht (comp 0 d v (fun j x hj hx=>by rw [Nat.zero_add]; exact At.comp d j x ht hj hx) hc)
theorem at_anyL {d:D} {k:Nat} {x:D} (ha:At d k x) {p:D→Bool} (h:p x=true):d.anyL p=true:=by
 unfold D.anyL
 cases ha with
 | comp _ _ _ ht hk hx =>
  have:d.comps=[d]:=by cases d<;>first | rfl | simp [D.isTup] at ht
  rw [this,List.any_eq_true]
  exact ⟨d,by simp,List.any_eq_true.2 ⟨_,List.mem_of_getElem? hx,h⟩⟩
 | tup cs i j c _ hc hj hx =>
  simp only [D.comps]
  rw [List.any_eq_true]
  exact ⟨c,List.mem_of_getElem? hc,List.any_eq_true.2 ⟨_,List.mem_of_getElem? hx,h⟩⟩
theorem accOk_nil (C:Ctx):AccOk C ⟨[],[],[],[],[],[]⟩ [] :=
 ⟨rfl,rfl,fun i d v h=>by simp at h,fun p i h=>(by cases h),fun c j n i h=>(by cases h),fun p q i h=>(by cases h),fun x y i h=>(by cases h)⟩
section ops
variable {w0:World} {L:Nat→Nat→Prop} {C:Ctx} (R:Rel w0 L C)
variable {np:Nat} {K:Env→Prop} {next:Act→World→Prop} (hn:Nxt w0 L np C K next) {Q:Go.Exit→Act→World→Prop} {o:Oper}
include R hn
theorem snd_back {E3:Env} {F3:Lf→Nat→Prop} {w':World} (R3:Rel w0 L { C with E:=E3,w:=w',F:=F3 }) (hlen:E3.sl.length=C.E.sl.length) {dst:Option Tmp} {ret:D} {v:Value} {Co:Ctx} {n:Nat} (hP:Co.P=C.P) (hw:Co.w=w') (hs:SRel Co n ret v)
  (hres:ret.anyL (fun d => !d.resLeaf)=false) (hG:∀ k b,Co.F ⟨false,n,k⟩ b→F3 ⟨false,C.E.sl.length,k⟩ b)
  (hRd:ret.anyL D.isImm=true→∀ b,Co.Rd b→b<w'.heap.size→({ C with E:=E3,w:=w',F:=F3 }:Ctx).Rd b)
  (hK:K (E3.app (match dst with | none=>[] | some t=>[.rw t ret]))):next (C.a.put dst v) w':=by
 have _:=R
 cases dst with
 | none=>exact hn _ R3 rfl (fun _ _=>rfl) hK
 | some t =>
  have hK:K (E3.app1 (.rw t ret)):=hK
  have key:∃ E4:Env,E3.app1 (.rw t ret)={ E4 with sl:=E4.sl.set t ret }∧Rel w0 L { C with E:=E4,w:=w',F:=F3 }∧(E4.sl.getD t .dead).anyOwn=false∧E4.sl.length=E3.sl.length∧(∀ (t':Nat) (ds:List D),E4.ce[t']? = some (some ds)→∃ ds',E3.ce[t']? = some (some ds')):=by
   by_cases hb:(E3.sl.getD t .dead).anyOwn=true
   ·refine ⟨E3.killS t,?_,R3.kill (fun p => !p.c&&p.t==t),killS_anyOwn E3 t,?_,?_⟩
    ·simp only [Env.app1,hb,if_true]
    ·unfold Env.killS Env.kill; rw [mapP_sl]
    ·intro t' ds h
     obtain ⟨d0,a,_⟩:=mapP_live' (C:={ C with E:=E3,w:=w',F:=F3 }) h
     exact ⟨d0,a⟩
   ·refine ⟨E3,?_,R3,by simpa using hb,rfl,fun t' ds h=>⟨ds,h⟩⟩
    simp only [Env.app1,hb]
    rfl
  obtain ⟨E4,e4,R4,hno,hl4,hlv⟩:=key
  rw [e4] at hK
  have R5:=R4.mvF (t:=t) (T:=C.E.sl.length) (by show E4.sl.length≤_; omega) hno
  refine hn _ (R5.put1 t ret v hno (hs.mv ?_)) rfl (fun _ _=>rfl) hK
  intro k x vx hx h1 h2 hl
  have hr:x.resLeaf=true:=by
   cases hx':x.resLeaf with
   | true=>rfl
   | false=>rw [at_anyL (p:=fun d => !d.resLeaf) hx (by rw [hx']; rfl)] at hres; cases hres
  have hrl:=hl.rl hr h1 h2
  rw [hP,hw] at hrl
  refine RL.rel (C:={ C with E:=E4,w:=w',F:=Fw.mvF F3 t C.E.sl.length }) hrl ?_ ?_
  ·rintro e xs b rfl hb hlt
   obtain ⟨g1,g2⟩:=hRd (at_anyL hx rfl) b hb hlt
   refine ⟨?_,g2⟩
   rintro (⟨p,hp⟩ | ⟨t',ds,hlv',hb'⟩)
   ·apply g1
    have hp:Fw.mvF F3 t C.E.sl.length p b:=hp
    unfold Fw.mvF at hp
    split at hp
    ·exact .inl ⟨_,hp⟩
    ·split at hp
     ·exact hp.elim
     ·exact .inl ⟨_,hp⟩
   ·obtain ⟨ds',h⟩:=hlv t' ds hlv'
    exact g1 (.inr ⟨t',ds',h,hb'⟩)
  ·intro e xs _ b hb
   show Fw.mvF F3 t C.E.sl.length ⟨false,t,k⟩ b
   unfold Fw.mvF
   rw [if_pos ⟨rfl,rfl⟩]
   exact hG k b hb
theorem snd_came {acc:CallAcc} {ws:List Value} {wsx:List W} {Eout:Env} (ha:AccOk C acc ws) (hf:AccFine acc) (hnd:(acc.wc.map (·.1)).Nodup) (hret:retW acc o.dst Eout=some wsx) (hK:K (C.E.app wsx))
  {v:Value} {w':World} {F':Lf→Nat→Prop} {loc':Nat→Nat × Nat} (hloc:∀ t,t<acc.args.length→loc' t=locIn C acc t)
  (Ro:Rel C.w (lentOf (CIn C acc ws).E (CIn C acc ws).F (CIn C acc ws).loc) { P:=C.P,E:=Eout,a:={ tmps:=ws.toArray.push v,defers:=[] },w:=w',F:=F',loc:=loc',M:=MIn C acc }):next (C.a.put o.dst v) w':=by
 unfold retW at hret
 split at hret
 ·rename_i w1 w2 h1 h2
  split at hret
  ·cases hret
  ·rename_i hcond
   simp only [Bool.or_eq_true,decide_eq_true_eq,not_or,Bool.not_eq_true,Decidable.not_not,Bool.and_eq_false_iff,Bool.not_eq_false',List.isEmpty_iff] at hcond
   obtain ⟨⟨q1,q2⟩,q3⟩:=hcond
   injection hret with hret
   subst hret
   have hsl:Eout.sl[acc.args.length]? = some (Eout.sl.getD acc.args.length .dead):=by
    rw [gDg,gEg (by omega)]; rfl
   have hs:=Ro.slot _ _ hsl
   have hvv:({ tmps:=ws.toArray.push v,defers:=[] }:Act).tmps.getD acc.args.length undef=v:=by
    show (ws.toArray.push v).getD acc.args.length undef=v
    rw [ha.len,arrGetD]
    simp
   have hs:SRel _ acc.args.length (Eout.sl.getD acc.args.length .dead) (({ tmps:=ws.toArray.push v,defers:=[] }:Act).tmps.getD acc.args.length undef):=hs
   rw [hvv] at hs
   have fin:∀ (ps:List Lf) (E0:Env) (F0:Lf→Nat→Prop),Rel w0 L { C with E:=E0,F:=F0 }→Frz C ps E0 F0→(∀ q,q∈ps→q∈acc.bor)→(retIm acc Eout w2=true→ps=acc.bor∧acc.borc=[]) →
     K (E0.app (.ca (gones Eout acc.wb) w1 w2::(match o.dst with | none=>[] | some t=>[.rw t (Eout.sl.getD acc.args.length .dead)])))→next (C.a.put o.dst v) w':=by
    intro ps E0 F0 R0 fz hps him hK
    obtain ⟨F3,R3,g1,g2,g3⟩:=Rel.ret1 R ha hf hnd Ro hloc h1 h2 R0 fz hps (by
     rintro ⟨x,hx,d,hd,hi⟩
     apply him
     unfold retIm
     rw [Bool.or_eq_true]
     right
     rw [List.any_eq_true]
     exact ⟨x,hx,List.any_eq_true.2 ⟨d,hd,hi⟩⟩)
    exact snd_back R hn R3 g2 (Co:={ P:=C.P,E:=Eout,a:={ tmps:=ws.toArray.push v,defers:=[] },w:=w',F:=F',loc:=loc',M:=MIn C acc }) (n:=acc.args.length) rfl rfl hs q1 (fun k b hb=>g1 k b hb) (fun hi b hb hlt=>g3 (him (by unfold retIm; rw [hi]; rfl)) b hb hlt) hK
   cases him:retIm acc Eout w2 with
   | false =>
    rw [him] at hK
    exact fin [] C.E C.F R (Frz.refl C) (fun q h=>by cases h) (fun h=>by rw [him] at h; cases h) hK
   | true =>
    rw [him] at hK
    obtain ⟨F0,R0,fz⟩:=Rel.frzs acc.bor R
    have hb:acc.borc=[]:=by
     rcases q2 with h | h
     ·rw [him] at h; cases h
     ·exact h
    exact fin acc.bor (C.E.frzs acc.bor) F0 R0 fz (fun q h=>h) (fun _=>⟨rfl,hb⟩) hK
 ·cases hret
theorem snd_callR {cfg : Cfg} {f : FuncId} {ds : List D} {ws : List Value} (hlen : ds.length = ws.length) (hv : ∀ (i : Nat) (d : D),ds[i]? = some d → d.isTup = false → VRel C d (ws.getD i undef))
    (hx : (execOp C.a.eval o).run C.P C.w = (callFunc f ws.toArray).run C.P C.w) (h : (callR cfg o.dst f ds).wp C.E (Done C.P K C.E)) : o.wp C.P C.a C.w next Q := by
  unfold callR at h
  obtain ⟨acc,h,ha⟩ := argsR_wp R _ ds ws (accOk_nil C) hlen hv h
  rw [List.nil_append] at ha
  split at h
  · rename_i hok
    have hf := CallAcc.fine hok
    have hnd : (acc.wc.map (·.1)).Nodup := by
      simp only [CallAcc.ok,Bool.and_eq_true] at hok
      exact distinct_nodup hok.1.1.1.2
    obtain ⟨Eout,hsem,wsx,hret,hK⟩ := h
    have hc := hsem C.w { tmps := ws.toArray,defers := [] } (FIn C acc) (locIn C acc) (MIn C acc) (Rel.entry R ha hf)
    have back : ∀ v w',(∃ F' loc',(∀ t,t < acc.args.length → loc' t = locIn C acc t) ∧ Rel C.w (lentOf (CIn C acc ws).E (CIn C acc ws).F (CIn C acc ws).loc) { P := C.P,E := Eout,a := { tmps := ws.toArray.push v,defers := [] },w := w',F := F',loc := loc',M := MIn C acc }) → next (C.a.put o.dst v) w' := by
     rintro v w' ⟨F',loc',hloc,Ro⟩
     exact snd_came R hn ha hf hnd hret hK hloc Ro
    rcases hc with ⟨c1,c2⟩ | ⟨v,w',c1,c2⟩
    · unfold Oper.wp
      rw [hx,c1,Oper.upon_enter]
      refine Calls.mono c2 ?_
      rintro e w' ⟨v,rfl,h⟩
      exact back v w' h
    · exact wp_value (hx.trans c1) (back v w' c2)
  · exact h.elim
end ops
theorem mapM_inv:∀ (vs:List Value) (l:List (List UInt8 × Value)),(vs.mapM fun | .agg cs=>(match cs.toList with | [.string s,x]=>some (toL s,x) | _=>none) | _=>none)=some l→vs=l.map fun p => .agg #[vS p.1,p.2]
 | [],l,h=>by simp at h; subst h; rfl
 | v::vs,l,h=>by
  rw [List.mapM_cons] at h
  cases v with
  | agg cs =>
   obtain ⟨cs⟩:=cs
   match cs,h with
   | [.string s,x],h =>
    simp only [Option.pure_def,Option.bind_eq_bind,Option.bind_some] at h
    cases hr:(vs.mapM fun | .agg cs=>(match cs.toList with | [.string s,x]=>some (toL s,x) | _=>none) | _=>none) with
    | none=>rw [hr] at h; simp at h
    | some l' =>
     rw [hr] at h
     simp at h
     subst h
     rw [mapM_inv vs l' hr]
     rfl
  | _=>simp at h
theorem mapD_inv {m:Value} {l:List (List UInt8 × Value)} (h:mapD m=some l):m=mapV l:=by
 unfold mapD at h
 split at h
 ·rename_i vs
  have:=mapM_inv _ _ h
  unfold mapV
  rw [←this]
 ·cases h
theorem OwnT.map {P:Program} {w:World} {m v:Value} {F:Nat→Prop} {l:List (List UInt8 × Value)} (h:OwnT P w (.sl mapE [[.v m]]) v F) (hm:mapD m=some l) :
  ∃ (es:Array MapEntry) (r ck:Nat),v = .map (some r)∧w.heap[r]? = some (.map es ck)∧F r∧es.toList.map (fun e=>(e.key,e.val))=l.map (fun p=>(vS p.1,p.2))∧∀ p,p∈l→scal p.2=true:=by
 have e:=mapD_inv hm
 generalize hx:([[.v m]]:List (List T))=xs at h
 generalize he:mapE=e0 at h
 cases h with
 | emp=>cases hx
 | row _ _ b o cap cs fr _ G X h1 h2 h3 h4 h5 h6 h7 h8 h9 h10 h11 h12 =>
  have h:=h11 0 0 (.v m) (by rw [←hx]; rfl)
  cases h with
  | v _ _ hs=>rw [e] at hs; simp [mapV,scal] at hs
 | mp l' es r ck _ h1 h2 h3 h4 =>
  injection hx with hx _
  injection hx with hx _
  injection hx with hx
  rw [hx,mapD_mapV] at hm
  cases hm
  exact ⟨es,r,ck,rfl,h1,h2,h3,h4⟩
def fndM:List (List UInt8 × Value)→List UInt8→Nat→Option (Nat × Value)
 | [],_,_=>none
 | p::l,s,i=>if p.1==s then some (i,p.2) else fndM l s (i+1)
theorem fndM_val:∀ (l:List (List UInt8 × Value)) (s:List UInt8) (i:Nat),(fndM l s i).map (·.2)=mapF l s
 | [],_,_=>rfl
 | p::l,s,i=>by
  rw [fndM,mapF]
  split
  ·rfl
  ·exact fndM_val l s (i+1)
theorem findNow_fnd (s:ByteArray):∀ (es:List MapEntry) (l:List (List UInt8 × Value)) (i:Nat),es.map (fun e=>(e.key,e.val))=l.map (fun p=>(vS p.1,p.2))→Instr.findNow .string (.string s) es i=some (fndM l (toL s) i)
 | [],[],i,_=>rfl
 | [],p::l,i,h=>by simp at h
 | e::es,[],i,h=>by simp at h
 | e::es,p::l,i,h=>by
  simp only [List.map_cons,List.cons.injEq,Prod.mk.injEq] at h
  obtain ⟨⟨h1,h2⟩,h3⟩:=h
  have ih:=findNow_fnd s es l (i+1) h3
  rw [Instr.findNow,fndM,h1]
  simp only [Instr.sameNow]
  have e1:(s==ofL p.1)=(p.1==toL s):=by
   rw [Bool.eq_iff_iff,MapKept.bytes_beq,beq_iff_eq]
   constructor
   ·rintro rfl; rfl
   ·intro h; rw [h]; rfl
  rw [e1]
  cases hb:p.1==toL s with
  | true=>simp [h2]
  | false=>simpa using ih
theorem fndM_none:∀ {l:List (List UInt8 × Value)} {s:List UInt8} {i:Nat},fndM l s i=none→∀ x,mapU l s x=l++[(s,x)]
 | [],_,_,_,_=>rfl
 | p::l,s,i,h,x=>by
  rw [fndM] at h
  split at h
  ·cases h
  ·rename_i hb
   rw [mapU,if_neg hb,fndM_none h x]; rfl
theorem fndM_some:∀ {l:List (List UInt8 × Value)} {s:List UInt8} {i j:Nat} {v:Value},fndM l s i=some (j,v)→∃ k q,j=i+k∧l[k]? = some q∧q.1=s∧∀ x,mapU l s x=l.set k (q.1,x)
 | [],_,_,_,_,h=>by cases h
 | p::l,s,i,j,v,h=>by
  rw [fndM] at h
  split at h
  ·rename_i hb
   injection h with h
   injection h with h1 h2
   exact ⟨0,p,by omega,rfl,eq_of_beq hb,fun x=>by rw [mapU,if_pos hb]; rfl⟩
  ·rename_i hb
   obtain ⟨k,q,h1,h2,h3,h4⟩:=fndM_some h
   exact ⟨k+1,q,by omega,h2,h3,fun x=>by rw [mapU,if_neg hb,h4 x]; rfl⟩
theorem mapU_scal:∀ {l:List (List UInt8 × Value)} {s:List UInt8} {x:Value},(∀ p,p∈l→scal p.2=true)→scal x=true→∀ p,p∈mapU l s x→scal p.2=true
 | [],s,x,_,hx,p,hp=>by
  rw [mapU,List.mem_singleton] at hp
  subst hp; exact hx
 | q::l,s,x,hl,hx,p,hp=>by
  rw [mapU] at hp
  split at hp
  ·rcases List.mem_cons.1 hp with rfl | hp
   ·exact hx
   ·exact hl p (List.mem_cons_of_mem _ hp)
  ·rcases List.mem_cons.1 hp with rfl | hp
   ·exact hl p (List.mem_cons_self ..)
   ·exact mapU_scal (fun p hp=>hl p (List.mem_cons_of_mem _ hp)) hx p hp
theorem Frame.map {w0:World} {L:Nat→Nat→Prop} {w w':World} (h:Frame w0 L w) {b:Nat} {es:Array MapEntry} {ck:Nat} (h1:w.heap[b]? = some (.map es ck)) (ho:w'.os=w.os) (ht:w'.tape=w.tape) (hp:w'.output=w.output)
  (hz:w'.heap.size=w.heap.size) (hk:∀ i,i≠b→w'.heap[i]? = w.heap[i]?) (hl:b<w0.heap.size→∀ o,L b o):Frame w0 L w' where
 os:=ho.trans h.os
 tape:=ht.trans h.tape
 output:=hp.trans h.output
 size:=by rw [hz]; exact h.size
 kept i hi hn:=by
  by_cases e:i=b
  ·subst e; exact absurd (hl hi 0) (hn 0)
  ·rw [hk i e]; exact h.kept i hi hn
 part i cs e fr hw:=by
  obtain ⟨cs',a,c,d⟩:=h.part i cs e fr hw
  by_cases hib:i=b
  ·subst hib; rw [h1] at a; cases a
  ·exact ⟨cs',by rw [hk i hib]; exact a,c,d⟩
theorem mapF_mem:∀ {l:List (List UInt8 × Value)} {s:List UInt8} {v:Value},mapF l s=some v→∃ p,p∈l∧p.2=v
 | [],_,_,h=>by cases h
 | p::l,s,v,h=>by
  rw [mapF] at h
  split at h
  ·injection h with h; exact ⟨p,List.mem_cons_self ..,h⟩
  ·obtain ⟨q,hq,e⟩:=mapF_mem h
   exact ⟨q,List.mem_cons_of_mem _ hq,e⟩
theorem zero_run {P:Program} {e:TypeId} {i:TI} {z:Value} {w:World} (hi:TIok P e i) (hz:zeroV i=some z):(zeroValue e).run P w = .ok z w∧scal z=true:=by
 obtain ⟨j,zz,i1,i2,i3,i4,i5,i6,i7⟩:=hi.info
 unfold zeroV at hz
 split at hz
 ·rename_i z' hst hzero
  injection hz with hz
  subst hz
  have h1:=hi.zone hst j zz i1 i4
  have e1:zz.cells = #[zz]:=by cases zz<;>first | rfl | simp [one] at h1
  rw [hzero,e1] at i6
  have i6:[D.v z']=[constLeaf zz]:=by simpa using i6
  injection i6 with i6 _
  unfold constLeaf at i6
  split at i6
  ·cases i6
  ·split at i6
   ·rename_i hs
    injection i6 with i6
    subst i6
    exact ⟨by simp [zeroValue,typeInfo,i1,i4],hs⟩
   ·cases i6
 ·cases hz
section ops
variable {w0:World} {L:Nat→Nat→Prop} {C:Ctx} (R:Rel w0 L C) {np:Nat} {K:Env→Prop} {next:Act→World→Prop} (hn:Nxt w0 L np C K next) {Q:Exit→Act→World→Prop} {o:Oper}
theorem strMap_und {P:Program} {tb:Tab} (hT:TabOk P tb) {t e:TypeId} (h:tb.strMap t=some e):∃ k,P.underlying t=some (.map k e)∧P.underlying k=some .string:=by
 unfold Tab.strMap at h
 split at h
 ·rename_i k e' hk
  split at h
  ·rename_i hs
   injection h with h
   subst h
   obtain ⟨i,h1,h2,h3⟩:=hT.kd hk
   have:=h3.k
   unfold KOk at this
   rw [h2] at this
   exact ⟨k,this,hT.kd_str hs⟩
  ·cases h
 ·cases h
include R hn
theorem snd_makeMap {tb:Tab} (hT:TabOk C.P tb) {t:TypeId} {r:Option Operand} (ho:o.op = .makeMap t r) (h:(opMakeMap tb o.dst t r).wp C.E (Done C.P K C.E)):o.wp C.P C.a C.w next Q:=by
 unfold opMakeMap at h
 split at h
 ·refine wp_value (w':=C.w.alloc (.map #[] 0)) (v := .map (some C.w.heap.size)) ?_ (wrS_own R hn (Ext.alloc _ _) h (G:=fun b=>b=C.w.heap.size) ?_ ?_)
  ·simp [execOp,ho,Instr.makeMap,newObj,Sem.run]
  ·rintro b rfl; exact ⟨Nat.le_refl _,by rw [size_alloc]; omega⟩
  ·exact .mp [] #[] C.w.heap.size 0 _ (heap_new C.w _) rfl rfl (fun p hp=>by cases hp)
 ·exact h.elim
omit hn in
theorem mapR_wp {α:Type} {x:Operand} {k:Lf→List (List UInt8 × Value)→Rdr α} {Q:α→Prop} (h:(mapR x k).wp C.E Q) :
  ∃ p l,(k p l).wp C.E Q∧C.a.eval x=C.cv p∧C.E.leaf p = .own mapE [[.v (mapV l)]]:=by
 unfold mapR at h
 replace h:=opdR_wp R h
 obtain ⟨d,h,hv⟩:=h
 split at h
 ·rename_i p
  rw [leafR_wp] at h
  split at h
  ·rename_i e m hl
   split at h
   ·rename_i he
    have he:=eq_of_beq he
    subst he
    split at h
    ·rename_i l hm
     exact ⟨p,l,h,(hv rfl).ali_inv.1,by rw [hl,mapD_inv hm]⟩
    ·exact h.elim
   ·exact h.elim
  ·exact h.elim
 ·exact h.elim
theorem snd_lookup {tb:Tab} (hT:TabOk C.P tb) {t:TypeId} {x ix:Operand} {ok:Bool} (ho:o.op = .lookup t x ix ok) (h:(opLookup tb o.dst t x ix ok).wp C.E (Done C.P K C.E)):o.wp C.P C.a C.w next Q:=by
 unfold opLookup at h
 split at h
 ·exact h.elim
 rename_i hok
 have hok:ok=false:=by simpa using hok
 subst hok
 cases hs:tb.strMap t with
 | none=>rw [hs] at h; exact h.elim
 | some e =>
  rw [hs] at h
  obtain ⟨k,hu,hk⟩:=strMap_und hT hs
  simp only [Option.bind_some] at h
  cases he:tb e with
  | none=>rw [he] at h; exact h.elim
  | some i =>
   rw [he] at h
   simp only at h
   cases hz:zeroV i with
   | none=>rw [hz] at h; exact h.elim
   | some z =>
    rw [hz] at h
    simp only at h
    obtain ⟨p,l,h,ex,hl⟩:=mapR_wp R h
    replace h:=opdR_wp R h
    obtain ⟨d,h,hv⟩:=h
    split at h
    ·rename_i s
     obtain ⟨ei,hsc⟩:=(hv rfl).v_inv
     obtain ⟨es,r,ck,hval,hb,hF,hes,hsl⟩:=(R.ownLeaf hl).map (mapD_mapV l)
     rw [hval] at ex
     have hf:=findNow_fnd s es.toList l 0 hes
     have hfv:=fndM_val l (toL s) 0
     obtain ⟨hiz,hzs⟩:=zero_run (hT e i he) hz (w:=C.w)
     have hmem:∀ v,mapF l (toL s)=some v→scal v=true:=fun v hv=>by
      obtain ⟨p,hp,rfl⟩:=mapF_mem hv
      exact hsl p hp
     refine wp_value (w':=C.w) (v:=(mapF l (toL s)).getD z) ?_ (wrS_done R hn (.refl _) h (.v ?_))
     ·have hkey:MapKept.IsKey .string (.string s):=trivial
      rw [←hfv]
      cases hq:fndM l (toL s) 0 with
      | none =>
       rw [hq] at hf
       simp [execOp,ho,ex,ei,Instr.lookup,run_underlying hu,MapKept.run_getObj_map hb,MapKept.run_checkKey hk hkey,MapKept.run_findKey hk hf,hiz]
      | some y =>
       rw [hq] at hf
       simp [execOp,ho,ex,ei,Instr.lookup,run_underlying hu,MapKept.run_getObj_map hb,MapKept.run_checkKey hk hkey,MapKept.run_findKey hk hf]
     ·cases hq:mapF l (toL s) with
      | none=>exact hzs
      | some v=>exact hmem v hq
    ·exact h.elim
theorem snd_mapUpdate {tb:Tab} (hT:TabOk C.P tb) {t:TypeId} {m k x:Operand} (ho:o.op = .mapUpdate t m k x) (h:(opMapUpdate tb o.dst t m k x).wp C.E (Done C.P K C.E)):o.wp C.P C.a C.w next Q:=by
 unfold opMapUpdate at h
 split at h
 ·rename_i e hs hd
  obtain ⟨kk,hu,hk⟩:=strMap_und hT hs
  obtain ⟨p,l,h,em,hl⟩:=mapR_wp R h
  replace h:=opdR_wp R h
  obtain ⟨dk,h,hvk⟩:=h
  split at h
  ·rename_i s
   obtain ⟨ek,_⟩:=(hvk rfl).v_inv
   replace h:=opdR_wp R h
   obtain ⟨dx,h,hvx⟩:=h
   split at h
   ·rename_i v
    obtain ⟨ev,hsv⟩:=(hvx rfl).v_inv
    obtain ⟨es,r,ck,hval,hb,hF,hes,hsl⟩:=(R.ownLeaf hl).map (mapD_mapV l)
    rw [hval] at em
    have hf:=findNow_fnd s es.toList l 0 hes
    have hkey:MapKept.IsKey .string (.string s):=trivial
    obtain ⟨es',ck',hrun,hes'⟩:∃ es' ck',(Instr.mapUpdate t (.map (some r)) (.string s) v).run C.P C.w = .ok () { C.w with heap:=C.w.heap.setIfInBounds r (.map es' ck') }∧es'.toList.map (fun e=>(e.key,e.val))=(mapU l (toL s) v).map (fun p=>(vS p.1,p.2)):=by
     cases hq:fndM l (toL s) 0 with
     | none =>
      rw [hq] at hf
      refine ⟨es.push ⟨.string s,v,ck⟩,ck+1,?_,?_⟩
      ·simp [Instr.mapUpdate,run_underlying hu,MapKept.run_getObj_map hb,MapKept.run_checkKey hk hkey,MapKept.run_findKey hk hf,MapKept.run_setObj_map _ hb]
      ·rw [fndM_none hq]
       simp [hes]
       rfl
     | some y =>
      obtain ⟨j,v0⟩:=y
      rw [hq] at hf
      obtain ⟨k0,q,h1,h2,h3,h4⟩:=fndM_some hq
      rw [Nat.zero_add] at h1
      subst h1
      have hlen:es.toList.length=l.length:=by have:=congrArg List.length hes; simpa using this
      have hjl:j<es.toList.length:=by rw [hlen]; exact (gSm h2).1
      obtain ⟨e0,hje⟩:∃ e0,es[j]? = some e0:=⟨es.toList[j],by rw [←Array.getElem?_toList]; exact gEg hjl⟩
      have hjl0:es.toList[j]? = some e0:=by rw [Array.getElem?_toList]; exact hje
      have hkeyj:e0.key = .string s:=by
       have:=congrArg (·[j]?) hes
       simp only [List.getElem?_map,hjl0,h2,Option.map_some,Option.some.injEq,Prod.mk.injEq] at this
       rw [this.1,h3]; rfl
      refine ⟨es.modify j fun e=>{ e with key := .string s,val:=v },ck,?_,?_⟩
      ·simp [Instr.mapUpdate,run_underlying hu,MapKept.run_getObj_map hb,MapKept.run_checkKey hk hkey,MapKept.run_findKey hk hf,hje,hkeyj,MapKept.run_keyThatStays hkey,MapKept.run_setObj_map _ hb]
      ·rw [h4,Array.toList_modify]
       refine List.ext_getElem? fun i => ?_
       have hi:=congrArg (·[i]?) hes
       simp only [List.getElem?_map] at hi
       simp only [List.getElem?_map,List.getElem?_modify,List.getElem?_set]
       by_cases hij:j=i
       ·subst hij
        have hjl2:j<l.length:=by rw [←hlen]; exact hjl
        rw [hjl0]
        simp [hjl2,h3,ofL_toL]
       ·simpa [hij] using hi
    have hset:=MapKept.heap_set hb (o' := .map es' ck')
    have hown:OwnT C.P { C.w with heap:=C.w.heap.setIfInBounds r (.map es' ck') } (.sl mapE [[.v (mapV (mapU l (toL s) v))]]) (C.cv p) (C.F p):=by
     rw [hval]; exact .mp _ es' r ck' _ hset.1 hF hes' (mapU_scal hsl hsv)
    have R2:=R.rowF (xs':=[[.v (mapV (mapU l (toL s) v))]]) (w':={ C.w with heap:=C.w.heap.setIfInBounds r (.map es' ck') }) hl rfl (by
     intro i j t ht
     unfold T.get? at ht
     match i,ht with
     | 0,ht =>
      match j,ht with
      | 0,ht=>cases ht; rfl) (fun i hi=>hset.2 i hi) (by simp) (R.frame.map (w':={ C.w with heap:=C.w.heap.setIfInBounds r (.map es' ck') }) hb rfl rfl rfl (by simp) hset.2 (fun hlt=>R.flent p r hF hlt)) hF hown
    refine wp_skip' (w':={ C.w with heap:=C.w.heap.setIfInBounds r (.map es' ck') }) hd ?_ (hn _ R2 rfl (fun _ _=>rfl) h)
    simp only [execOp,ho,em,ek,ev,bind_pure_comp,Sem.run_map,hrun,Result.andThen_ok]
   ·exact h.elim
  ·exact h.elim
 ·exact h.elim
end ops
end Go.Proofs.YtbdfdfhamlmodaaGreatDoor.Fw
