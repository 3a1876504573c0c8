/- Framework, part Ext: a function that the model carries out itself, over scalars. -/
import Derived.Test.YtcnogcachboibaaFwSem
import Derived.Laws.Externs
import Derived.Lib.Bytealg
namespace Go.Proofs.Ytcnogcachboibaa.Fw
open Go
set_option linter.unusedVariables false

theorem set_push (a : Array Value) (r : Value) : (a ++ Array.replicate 1 undef).setIfInBounds a.size r = a.push r := by
  cases a with
  | mk l =>
    apply Array.ext'
    simp [List.set_append_right]

theorem sem_ext {P : Program} {f : FuncId} {fn : Func} {e : Array Value → Go.Sem Value} {xs : List Value} {r : Value} (hf : P.funcs[f]? = some fn) (hname : (fn.name == "runtime.NumGoroutine") = false)
    (hb : fn.body.isNone = true) (hn : Extern.findNext fn = none) (he : Extern.find fn = some e) (hx : ∀ w, (e xs.toArray).run P w = .ok r w) (hs : scal r = true) (hsx : xs.all scal = true) (ho : one r = true) {ce : List (Option (List D))} (hce : ce.length = xs.length) :
    Sem P f ⟨xs.map .v, ce⟩ ⟨xs.map .v ++ [.v r], ce ++ [none]⟩ := by
  intro w a F loc M R
  have hl : a.tmps.size = xs.length := by have := R.tmps; simpa using this
  have ha : a.tmps = xs.toArray := by
    apply Array.ext
    · simpa using hl
    · intro i h1 h2
      have hi : i < xs.length := by omega
      have hd : (xs.map D.v)[i]? = some (.v xs[i]) := by rw [List.getElem?_map, List.getElem?_eq_getElem hi]; rfl
      have := R.slot i _ hd
      have ev : a.tmps.getD i undef = a.tmps[i] := by simp [Array.getD, h1]
      have this : SRel _ i (.v xs[i]) (a.tmps.getD i undef) := this
      rw [ev] at this
      generalize a.tmps[i] = v0 at this
      generalize hx0 : xs[i] = x0 at this
      cases this with
      | comp _ _ _ hc => cases hc with | leaf _ _ _ _ c => cases c; simp [hx0]
  refine .inr ⟨r, w, ?_, F, loc, fun _ _ => rfl, ?_⟩
  · have hm := hx w
    rw [← ha] at hm
    simp only [callFunc, Sem.run_bind, run_program, Result.andThen_ok, hf, hname, hb, hn, he, Bool.false_eq_true, if_false, if_true, run_mark, bind_pure_comp, Sem.run_map, hm]
  · have R1 := R.pad 1
    have hlen : (xs.map D.v).length = xs.length := by simp
    have R2 := R1.put1 xs.length (.v r) r (by
      show ((xs.map D.v ++ List.replicate 1 D.dead).getD xs.length .dead).anyOwn = false
      rw [List.getD_eq_getElem?_getD, List.getElem?_append_right (by simp)]
      simp [D.anyOwn, D.comps, D.leaves1, D.isOwn]) (.comp _ _ rfl (.leaf _ _ _ rfl ho (.v _ _ hs)))
    have e1 : (xs.map D.v ++ List.replicate 1 D.dead).set xs.length (.v r) = xs.map D.v ++ [.v r] := by
      rw [List.set_append_right _ _ (by simp)]
      simp
    have e2 : (a.tmps ++ Array.replicate 1 undef).setIfInBounds xs.length r = a.tmps.push r := by
      rw [← hl]
      exact set_push a.tmps r
    have R3 : Rel w (lentOf ⟨xs.map .v, ce⟩ F loc) { P := P, E := ⟨(xs.map D.v ++ List.replicate 1 D.dead).set xs.length (.v r), ce ++ List.replicate 1 none⟩, a := { tmps := (a.tmps ++ Array.replicate 1 undef).setIfInBounds xs.length r, defers := [] }, w := w, F := F, loc := loc, M := M } := R2
    rw [e1, e2] at R3
    exact R3

theorem sem_indexByteString {P : Program} {f : FuncId} {fn : Func} (hf : P.funcs[f]? = some fn) (hname : (fn.name == "runtime.NumGoroutine") = false)
    (hb : fn.body.isNone = true) (hn : Extern.findNext fn = none) (he : Extern.find fn = some Extern.BytealgIndexByte.indexByte) (l : List UInt8) (c : Int) (hl : l.length ≤ 9223372036854775807) :
    Sem P f ⟨[.v (vS l), .v (vC c)], [none, none]⟩ ⟨[.v (vS l), .v (vC c), .v (vI (Lib.indexByte l c.toNat.toUInt8))], [none, none, none]⟩ :=
  sem_ext (xs := [vS l, vC c]) hf hname hb hn he (fun w => Lib.run_indexByteString (ofL l) c w) rfl (by simp [scal, vS, vC]; exact hl) rfl rfl
end Go.Proofs.Ytcnogcachboibaa.Fw
