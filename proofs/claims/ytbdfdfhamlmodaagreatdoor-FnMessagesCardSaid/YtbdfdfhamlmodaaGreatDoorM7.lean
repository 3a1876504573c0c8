/- The law FnMessages returns true for all arguments, and the arguments read as they did. Conditions: the tables of the library that the row lists, as the program's text lays them (tied by the card). -/
import Derived.Test.YtbdfdfhamlmodaaGreatDoorRows
import Derived.Test.YtbdfdfhamlmodaaGreatDoorCards
import Derived.Test.YtbdfdfhamlmodaaGreatDoorTie
import Derived.WalkKit
import Derived.ProofKit
import Derived.OpenShut
import Derived.ShutString
import Derived.ChangeOld
import Derived.Below
import Derived.Carry
import Derived.SizedLaws
import Derived.HandedShaped
import Derived.Shelf.Vars
import Derived.Handy
import Derived.Lay
import Derived.LaidLaws
import Derived.SevenTiedAt
import Derived.Lib.LaidTab
import Derived.Test.YtbdfdfhamlmodaaGreatDoorM6
set_option linter.unusedSimpArgs false
set_option linter.unusedVariables false
namespace Go.Proofs.YtbdfdfhamlmodaaGreatDoor.fnMessages
open Go.ChangeShapes Go.WideShapes Go.ChangeAt Go.RowKit Go.Proofs.YtbdfdfhamlmodaaGreatDoor.Fw
theorem own:ownKnob Tryz.prog.godebug=none:=by kernel_rfl
theorem laidOut:laidOutB Tryz.prog=true:=by kernel_rfl
theorem shU8:ShT Tryz.prog 5 [.int .u8] := .int _ _ Tryz.underlying5 (by kernel_rfl)
theorem shBytes:ShT Tryz.prog 22 [.sl 5 [.int .u8]] := .slice _ _ _ Tryz.underlying22 (by kernel_rfl) (by decide) (fun _=>rfl) shU8
theorem rows_of:∀ (xs:List (List T)),(∀ r,r∈xs→WTs [.int .u8] r)→∃ l:List UInt8,xs=bytesRows l:=by
 intro xs
 induction xs with
 | nil=>intro _; exact ⟨[],rfl⟩
 | cons r xs ih =>
  intro h
  obtain ⟨l,rfl⟩:=ih fun r hr=>h r (List.mem_cons_of_mem _ hr)
  obtain ⟨t0,r',rfl,h0,hr⟩:=(h r List.mem_cons_self).cons
  obtain rfl:=hr.nil
  obtain ⟨a,rfl,ha⟩:=h0.int_inv
  have ha2:0≤a∧a≤255:=by simpa [Lit.wf,IntKind.min,IntKind.max,IntKind.signed,IntKind.bits] using ha
  refine ⟨UInt8.ofNat a.toNat::l,?_⟩
  have e:((UInt8.ofNat a.toNat).toNat:Int)=a:=by simp; omega
  show _=[.v (.int .u8 ((UInt8.ofNat a.toNat).toNat:Int))]::bytesRows l
  rw [e]
theorem laidMet_tail {P:Program} {x:String × DataW Unit} {rest:List (String × DataW Unit)} {W:World} (h:laidMet P (x::rest) W):laidMet P rest W:=by
 obtain ⟨ps,⟨g',t',cs,fuel,p,q,_,_,_,_,hq,rfl⟩,hnd,hc⟩:=h
 exact ⟨q,hq,(List.nodup_append.1 hnd).2.1,fun b off hm=>hc b off (List.mem_append.2 (.inr hm))⟩
theorem gTab:Tryz.prog.globalNamed "internal/strconv.uint64pow10" = some 1:=by kernel_rfl
theorem gTabType:(Tryz.prog.globals[1]?).map (·.type)=some 208:=by kernel_rfl
theorem cellsTab:Tryz.prog.cellsOf 208=20:=by kernel_rfl
theorem cellsElem:Tryz.prog.cellsOf 191=1:=by kernel_rfl
theorem iface_of_laid {P:Program} {W:World} {name:String} {d:DataW Unit} {rest:List (String × DataW Unit)} {g:Nat} {t:TypeId} (hg:P.globalNamed name=some g) (hty:(P.globals[g]?).map (·.type)=some t) (ht:∃ m,P.underlying t=some (.interface m))
  (h:laidMet P ((name,d)::rest) W):∃ v,W.cell? ⟨g,0,none⟩=some v∧isErrV v:=by
 obtain ⟨ps,⟨g',t',cs,fuel,p,q,hg',ht',hvar,hd,_,_⟩,_⟩:=h
 obtain rfl:=Option.some.inj (hg.symm.trans hg')
 obtain rfl:=Option.some.inj (hty.symm.trans ht')
 obtain ⟨m,ht⟩:=ht
 have key:∃ v,cs.toList=[v]∧isErrV v:=by
  cases fuel with
  | zero=>cases hd
  | succ n =>
   unfold DataW.trod at hd
   rw [ht] at hd
   generalize cs.toList=l at hd
   match l,hd with
   | [.nilIface],_=>exact ⟨_,rfl,.inl rfl⟩
   | [.iface te pe],_=>exact ⟨_,rfl,.inr ⟨te,pe,rfl⟩⟩
 obtain ⟨v,hv,he⟩:=key
 refine ⟨v,?_,he⟩
 have:=World.var?_cell hg hvar 0
 rw [this,←Array.getElem?_toList,hv]
 rfl
theorem globs {W:World} (h:laidMetH Tryz.prog Rows.fnMessagesRow.laid W) (hs:W.ShapedOpen Tryz.prog):GlobOk Tryz.prog W:=by
 have h1:laidMet Tryz.prog Rows.fnMessagesRow.laid W:=h
 have h3:=laidMet_tail (laidMet_tail h1)
 have ht:Lib.TabIs Tryz.prog W "internal/strconv.uint64pow10" .u64 Lib.pow10Tab:=Lib.tabIs_of_head gTab gTabType Tryz.underlying208 Tryz.underlying191 cellsElem cellsTab h3
 have h5:=laidMet_tail (laidMet_tail h3)
 have h6:=laidMet_tail h5
 refine ⟨fun x hx _ => ?_,fun x hx g hg => ?_⟩
 ·have hx:x=([105,110,116,101,114,110,97,108,47,115,116,114,99,111,110,118,46,117,105,110,116,54,52,112,111,119,49,48],.u64,Lib.pow10Tab):=List.mem_singleton.1 hx
  rw [hx]
  have e:tabName [105,110,116,101,114,110,97,108,47,115,116,114,99,111,110,118,46,117,105,110,116,54,52,112,111,119,49,48] = "internal/strconv.uint64pow10" := by decide
  show Lib.TabIs Tryz.prog W (tabName _) _ _
  rw [e]
  exact ht
 ·simp only [knownVars,List.mem_cons,List.not_mem_nil,or_false] at hx
  rcases hx with rfl | rfl | rfl
  ·have e:Tryz.prog.globalNamed (tabName [105,110,116,101,114,110,97,108,47,98,121,116,101,97,108,103,46,77,97,120,76,101,110])=some 0:=by kernel_rfl
   obtain rfl:=Option.some.inj (e.symm.trans hg)
   obtain ⟨m,hm⟩:=cell_of_shapedOpen_int (t:=3) (zero := #[.int .i64 0]) (k := .i64) hs (of_decide_eq_true (by kernel_rfl)) (by kernel_rfl) rfl (by kernel_rfl) (by kernel_rfl) Tryz.underlying3
   exact ⟨_,hm,m,rfl⟩
  ·have e:Tryz.prog.globalNamed (tabName [115,116,114,99,111,110,118,46,69,114,114,83,121,110,116,97,120])=some 2:=by kernel_rfl
   obtain rfl:=Option.some.inj (e.symm.trans hg)
   exact iface_of_laid (by kernel_rfl) (by kernel_rfl) ⟨_,Tryz.underlying117⟩ h6
  ·have e:Tryz.prog.globalNamed (tabName [115,116,114,99,111,110,118,46,69,114,114,82,97,110,103,101])=some 3:=by kernel_rfl
   obtain rfl:=Option.some.inj (e.symm.trans hg)
   exact iface_of_laid (by kernel_rfl) (by kernel_rfl) ⟨_,Tryz.underlying117⟩ h5
theorem wrap_and {H:Type} {enc:TypeId × Value→H} {a:Assume} {C:Checked} {os:Os} {f:FuncId} {fn:Func} {s:ChangeSpec} {conds:List PathCond} {apart fresh handsOn again:Bool} {X:World→Array Value→Prop}
  (hX:∀ (w w':World) (args:Array Value),w.heap=w'.heap→X w args→X w' args)
  (own:ownKnob C.prog.godebug=none) (started:os.Started) (noInit:C.prog.inits.idxOf? f=none) (hfn:C.prog.funcs[f]? = some fn)
  (witness:∃ (w:World) (tape:Tape) (i:Input),w.os=os∧(w.forCall tape i).Shaped C.prog∧i.vars=[]∧Input.okWide C.prog (w.forCall tape i) .any w.heap.size f i ∧
   ((s.pre enc C.prog fn conds apart (w.forCall tape i).memory i.args∧X (w.forCall tape i).memory i.args)∧sizedMet enc C.prog fn (OpenSpec.ofChange s) apart (w.forCall tape i).memory i.args)∧a.holds C.prog (lone (Frame.enter C.prog f i.args .normal) [] (w.forCall tape i)))
  (contract:∀ (W:World) (base:Nat) (args:Array Value) (ds gs:List (DataW H)) (before:List MemPlace),
   (∀ (j:Nat) t v,fn.params[j]? = some t→args[j]? = some v→Value.okWide C.prog W .any base t v) →
   DataW.Whole enc C.prog fn.params.toList s.vars apart W args.toList ds gs before →
   conds.all (PathCond.test C.prog ⟨fn.params.toList,ds,s.plain.varTypes C.prog,gs⟩)=true →
   (DataW.weightsEach C.prog (fn.params.toList++s.plain.varTypes C.prog) (ds++gs)).all (· ≤ reachBytes)=true→X W args→W.ShapedOpen C.prog →
   a.holds C.prog (lone (Frame.enter C.prog f args .normal) [] W) →
   Calls C.prog f args W fun e W'=>∃ v,e = .returned v∧s.post enc C.prog fn apart fresh handsOn again W args v W') :
  ReturnsInHanded a C os f .any (fun w args=>(s.pre enc C.prog fn conds apart w args∧X w args)∧sizedMet enc C.prog fn (OpenSpec.ofChange s) apart w args) (s.post enc C.prog fn apart fresh handsOn again):=by
 refine returnsInHanded_of_calls own started noInit witness ?_
 intro w tape i _ hsh _ hok hpre hholds
 obtain ⟨_,_,_,fn',hfn',_,_,_,_,hval⟩:=hok
 have e:fn'=fn:=Option.some.inj (hfn'.symm.trans hfn)
 subst e
 obtain ⟨⟨⟨ds,gs,before,hw,hc⟩,hx⟩,hz⟩:=hpre
 have hw':=DataW.Whole.of_heap (w':=w.forCall tape i) (by rfl) hw
 refine (contract (w.forCall tape i) w.heap.size i.args ds gs before hval hw' hc (hz.weights hw) (hX _ _ _ (by rfl) hx) hsh hholds).mono fun e W' ⟨v,he,hp⟩ => ?_
 subst he
 exact ChangeSpec.post_blind hp
theorem walk (v0:Value) (W:World) (hg:GlobOk Tryz.prog W) (t0:T) (w0:WT (.sl 5 [.int .u8]) t0)
  (hr0:∀ (n:Nat) (ds:List D) (args:Array Value) (i:Nat),SRel (C0 Tryz.prog ⟨ds,List.replicate n none⟩ args W) i t0.toD v0) :
  Calls Tryz.prog 3 #[v0] W fun e W'=>e = .returned (.bool true)∧Below W.heap.size W W':=by
 obtain ⟨xs,rfl,hx,hxs⟩:=w0.sl_inv
 obtain ⟨l,rfl⟩:=rows_of xs hxs
 refine calls_of_sem (ds:=[.imm 5 (bytesRows l)]) (c3 l (by rw [bytesRows_length] at hx; exact hx)) (enter_of Tryz.func3 rfl rfl) hg rfl ?_ rfl
 intro i x hx
 match i,hx with
 | 0,hx=>injection hx with hx; subst hx; exact hr0 _ _ _ _
 | n+1,hx=>simp at hx
set_option maxRecDepth 100000 in
theorem lifted (os:Os) (started:os.Started) (H:Type) (enc:TypeId × Value→H) :
  ReturnsInHanded {} Tryz.checked os 3 .any (fun w args=>(Rows.fnMessagesSpec.pre enc Tryz.prog Tryz.f3 [] false w args∧laidMetH Tryz.prog Rows.fnMessagesRow.laid w)∧sizedMet enc Tryz.prog Tryz.f3 (OpenSpec.ofChange Rows.fnMessagesSpec) false w args)
   (Rows.fnMessagesSpec.post enc Tryz.prog Tryz.f3 false true false false):=by
 refine wrap_and (C:=Tryz.checked) (X:=fun w _=>laidMetH Tryz.prog Rows.fnMessagesRow.laid w) (fun _ _ _ hh h=>h.of_heap hh) own started (by kernel_rfl) Tryz.func3
  (ChangeSpec.witness_shaped (enc:=enc) (C:=Tryz.checked) (os:=os) (X:=fun w _=>laidMetH Tryz.prog Rows.fnMessagesRow.laid w) false (World.laidAll Tryz.prog os Rows.fnMessagesRow.laid) #[.slice none 0 0] 8 (World.laidAll_os _ _ _)
   (World.shaped_of_ZipB (by kernel_rfl) (by kernel_rfl)) (by kernel_rfl) (by kernel_rfl) (by kernel_rfl)
   (by rw [MakeChecks.laidMetH_plain _ _ _ (by kernel_rfl)]; exact laidMet_laidAll _ (by kernel_rfl) (by kernel_rfl))) ?_
 intro W base args ds gs before hval0 hW hcnd hsz0 hL hSh _
 have hval:∀ (j:Nat) t v,Tryz.f3.params[j]? = some t→args[j]? = some v→Value.okWide Tryz.prog W .any base t v:=hval0
 have hW':=hW
 obtain ⟨p,q,hA0,hV,rfl,hfz,hnd⟩:=hW
 have hA:DataW.TrodAll enc Tryz.prog W 0 (fun _=>true) true Tryz.f3.params.toList args.toList ds p:=hA0
 rw [Tryz.params3] at hA hval
 obtain ⟨v0,vs0,d0,ds0,p0,q0,hargs,rfl,rfl,h0,r0⟩:=trodAll_cons hA
 obtain ⟨rfl,rfl,rfl⟩:=trodAll_nil r0
 obtain rfl:args = #[v0]:=by cases args; simp_all
 obtain ⟨rfl,rfl⟩:=trodVars_none hV
 obtain ⟨a0,n0,c0,e0⟩:=okWide_slice Tryz.underlying22 (hval 0 22 v0 rfl rfl)
 obtain ⟨t0,w0,hr0⟩:=arg_one shBytes (by rw [e0]; rfl) h0
 have lt0:∀ x∈p0,x.block<W.heap.size:=by obtain ⟨m,hm⟩:=h0; exact DataW.trod_lt m _ _ _ hm
 clear hA0 hval0 hsz0
 refine (walk v0 W (globs hL hSh) t0 w0 hr0).mono fun e W' ⟨he,bel⟩ => ?_
 subst he
 exact ⟨_,rfl,_,_,_,[],_,[],hW',trodAll_mk1 (shut_bool Tryz.underlying4 _),trodAll_cons_mk (Below.trod laidOut (by kernel_rfl) (of_decide_eq_true (by kernel_rfl)) h0 bel lt0) trodAll_mk0,rfl,bel.frame _,fun h=>by cases h⟩
theorem over:Rows.FnMessagesSaid :=
 OpenClaim.holds_of_wide 3 Tryz.f3 rfl rfl rfl rfl rfl rfl rfl ⟨rfl,rfl,rfl,rfl,rfl⟩ rfl rfl rfl rfl rfl (by kernel_rfl) Tryz.func3 (by kernel_rfl)
  (of_decide_eq_true (by kernel_rfl)) (by unfold Func.isWrapper; first | (rw [if_pos (by decide +kernel)]; kernel_rfl) | (rw [if_neg (by decide +kernel)]; exact ⟨rfl,rfl⟩))
  (fun os started H enc _=>lifted os started H enc)
theorem plain (f:FuncId) (fn:Func) (hf:Tryz.pinned.checked.prog.funcNamed "loop.example/g00651/laws.FnMessages" = some f) (hfn:Tryz.pinned.checked.prog.funcs[f]? = some fn) :
  true=Tryz.pinned.checked.prog.looks []∧∀ (j:Nat) t,fn.params[j]? = some t→Tryz.pinned.checked.prog.wantsStandIn t=false:=by
 obtain rfl:f=3:=Option.some.inj ((show Tryz.prog.funcNamed "loop.example/g00651/laws.FnMessages" = some 3 by kernel_rfl).symm.trans hf) |>.symm
 obtain rfl:fn=Tryz.f3:=(Option.some.inj (Tryz.func3.symm.trans hfn)).symm
 refine ⟨by kernel_rfl,fun j t ht => ?_⟩
 rw [Tryz.params3] at ht
 have ht:t=22:=by simpa using Array.mem_of_getElem? ht
 subst ht
 exact (show Tryz.prog.wantsStandIn 22=false by kernel_rfl)
theorem card:Rows.FnMessagesCardSaid :=
 Claim7.holds_tied_plain_at .later [] _ _ _ _ over (fun _ h=>by cases h) (by kernel_rfl) (fun _ h=>by cases h) fnMessages_row_tie rfl ⟨rfl,rfl⟩ (by kernel_rfl) rfl plain (by kernel_rfl)
end Go.Proofs.YtbdfdfhamlmodaaGreatDoor.fnMessages
namespace Go.Proofs.YtbdfdfhamlmodaaGreatDoor
theorem fnMessages_card:Rows.FnMessagesCardSaid:=fnMessages.card
end Go.Proofs.YtbdfdfhamlmodaaGreatDoor
