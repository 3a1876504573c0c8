/- Framework, part N: new rows. -/
import Derived.Test.YtcnogcachboibaaFwM
namespace Go.Proofs.Ytcnogcachboibaa.Fw
open Go
set_option linter.unusedVariables false

/-- A leaf as plain data beside its cell: a scalar, or the nil slice. -/
def SimpT (t : T) (v : Value) : Prop := (t = .v v ∧ scal v = true) ∨ (∃ e, t = .sl e [] ∧ v = .slice none 0 0)

theorem OwnT.simple {P : Program} {w : World} {e : TypeId} {xs : List (List T)} {b o cap : Nat} {cs : Array Value} {fr : Nat × Nat} (h1 : w.heap[b]? = some (.cells cs e fr)) (h3 : Thawed cs.size fr)
    (h4 : o + cap * P.cellsOf e ≤ cs.size) (h5 : xs.length ≤ cap) (h6 : cap ≤ 9223372036854775807) (h7 : ∀ (i : Nat) (r : List T), xs[i]? = some r → r.length = P.cellsOf e)
    (hX : ∀ i j t, T.get? xs i j = some t → ∃ v, cs[o + i * P.cellsOf e + j]? = some v ∧ SimpT t v) (hf : flatP P e = true → ∀ i j t, T.get? xs i j = some t → t.isV = true) :
    OwnT P w (.sl e xs) (.slice (some ⟨b, o, none⟩) xs.length cap) (fun b' => b' = b) := by
  refine .row e xs b o cap cs fr _ (fun _ _ _ => False) (fun i j => cs.getD (o + i * P.cellsOf e + j) undef) h1 rfl h3 h4 h5 h6 h7 (fun _ _ _ h => h.elim) (fun _ _ _ _ _ h => h.elim) ?_ ?_ hf
  · intro i j t ht
    obtain ⟨v, a, b⟩ := hX i j t ht
    rw [arrGetD, a]; rfl
  · intro i j t ht
    obtain ⟨v, a, b⟩ := hX i j t ht
    rw [arrGetD, a]
    rcases b with ⟨rfl, b⟩ | ⟨e', rfl, rfl⟩
    · exact .v v _ b
    · exact .emp e' _

theorem heap_new (w : World) (o : Obj) : (w.alloc o).heap[w.heap.size]? = some o := by
  show (w.heap.push o)[w.heap.size]? = _
  simp
theorem Ext.drewAlloc (w : World) (o : Obj) : Ext w (w.drew.alloc o) := (Ext.drew w).trans (Ext.alloc _ o)
theorem size_alloc (w : World) (o : Obj) : (w.alloc o).heap.size = w.heap.size + 1 := by
  show (w.heap.push o).size = _
  simp

theorem toTs_get : ∀ (es : List TypeId) (ds : List D) (ts : List T), toTs es ds = some ts → ts.length = ds.length ∧ es.length = ds.length ∧ ∀ (j : Nat) (t : T), ts[j]? = some t → ∃ e d, es[j]? = some e ∧ ds[j]? = some d ∧ d.toT e = some t
  | [], [], ts, h => by simp [toTs] at h; subst h; exact ⟨rfl, rfl, fun j t h => by simp at h⟩
  | [], d :: ds, ts, h => by simp [toTs] at h
  | e :: es, [], ts, h => by simp [toTs] at h
  | e :: es, d :: ds, ts, h => by
    simp only [toTs] at h
    cases h1 : d.toT e with
    | none => rw [h1] at h; simp at h
    | some t =>
      cases h2 : toTs es ds with
      | none => rw [h1, h2] at h; simp at h
      | some ts' =>
        rw [h1, h2] at h
        simp only [Option.some.injEq] at h
        subst h
        obtain ⟨a, b, c⟩ := toTs_get es ds ts' h2
        refine ⟨by simp [a], by simp [b], fun j t' h => ?_⟩
        cases j with
        | zero => simp at h; subst h; exact ⟨e, d, rfl, rfl, h1⟩
        | succ j => simpa using c j t' (by simpa using h)
theorem rowsOf_get (les : List TypeId) : ∀ (rs : List (List D)) (xs : List (List T)), rowsOf les rs = some xs → xs.length = rs.length ∧ ∀ (i : Nat) (x : List T), xs[i]? = some x → ∃ r, rs[i]? = some r ∧ toTs les r = some x
  | [], xs, h => by simp [rowsOf] at h; subst h; exact ⟨rfl, fun i x h => by simp at h⟩
  | r :: rs, xs, h => by
    simp only [rowsOf] at h
    cases h1 : toTs les r with
    | none => rw [h1] at h; simp at h
    | some x =>
      cases h2 : rowsOf les rs with
      | none => rw [h1, h2] at h; simp at h
      | some xs' =>
        rw [h1, h2] at h
        simp only [Option.some.injEq] at h
        subst h
        obtain ⟨a, b⟩ := rowsOf_get les rs xs' h2
        refine ⟨by simp [a], fun i x' h => ?_⟩
        cases i with
        | zero => simp at h; subst h; exact ⟨r, rfl, h1⟩
        | succ i => simpa using b i x' (by simpa using h)

theorem toT_simp {C : Ctx} {e : TypeId} {d : D} {t : T} {v : Value} (h : d.toT e = some t) (hl : LRel C ⟨false, 0, 0⟩ d v) : SimpT t v ∧ (e = 0 → t.isV = true) := by
  cases d <;> simp only [D.toT] at h <;> try (cases h; done)
  · injection h with h; subst h
    cases hl with | v _ hs => exact ⟨.inl ⟨rfl, hs⟩, fun _ => rfl⟩
  · split at h
    · cases h
    · rename_i he
      injection h with h; subst h
      cases hl
      exact ⟨.inr ⟨e, rfl, rfl⟩, fun h => by simp [h] at he⟩

theorem constLeaf_toT {e : TypeId} {x : Value} {t : T} (h : (constLeaf x).toT e = some t) (hx : one x = true) : SimpT t x ∧ (e = 0 → t.isV = true) := by
  unfold constLeaf at h
  split at h
  · simp only [D.toT] at h
    split at h
    · cases h
    · rename_i he
      injection h with h; subst h
      exact ⟨.inr ⟨e, rfl, rfl⟩, fun h => by simp [h] at he⟩
  · split at h
    · rename_i hs
      simp only [D.toT, Option.some.injEq] at h
      subst h
      exact ⟨.inl ⟨rfl, hs⟩, fun _ => rfl⟩
    · simp [D.toT] at h

theorem flat_les {P : Program} {t : TypeId} {i : TI} (hT : TIok P t i) (h : flatP P t = true) {j : Nat} {e : TypeId} (he : i.les[j]? = some e) : e = 0 := by
  have := hT.flat
  rw [h] at this
  have := List.all_eq_true.1 this e (List.mem_of_getElem? he)
  simpa using this

section ops
variable {w0 : World} {L : Nat → Nat → Prop} {C : Ctx} (R : Rel w0 L C)
variable {np : Nat} {K : Env → Prop} {next : Act → World → Prop} (hn : Nxt w0 L np C K next) {Q : Exit → Act → World → Prop} {o : Oper}
include R hn

theorem snd_makeSlice {tb : Tab} (hT : TabOk C.P tb) {t : TypeId} {l c : Operand} (ho : o.op = .makeSlice t l c) (h : (opMakeSlice tb o.dst t l c).wp C.E (Done C.P K C.E)) : o.wp C.P C.a C.w next Q := by
  unfold opMakeSlice at h
  split at h
  · rename_i e hk
    have hu := hT.kd_slice hk
    cases ht : tb e with
    | none => rw [ht] at h; exact h.elim
    | some i =>
      rw [ht] at h
      have hi := hT e i ht
      simp only at h
      cases hz : zeroT i with
      | none => rw [hz] at h; exact h.elim
      | some z =>
        rw [hz] at h
        simp only at h
        replace h := opdR_wp R h
        obtain ⟨dl, h, hvl⟩ := h
        replace h := opdR_wp R h
        obtain ⟨dc, h, hvc⟩ := h
        split at h
        · rename_i kl n kc m
          have el := (hvl rfl).v_inv.1
          have ec := (hvc rfl).v_inv.1
          obtain ⟨⟨h0, h1, h2, h3⟩, h⟩ := h
          obtain ⟨j, zv, i1, i2, i3, i4, i5, i6, i7⟩ := hi.info
          have hbb : (j.bytes : Int) * m ≤ 281474976710656 := by
            rw [i3]
            have : ((i.bytes * m.toNat : Nat) : Int) ≤ 140737488355328 := by rw [Nat.mul_comm]; omega
            rw [Int.natCast_mul, Int.toNat_of_nonneg (by omega)] at this
            omega
          have hrun := run_make (P := C.P) C.w t e j zv hu i1 i4 kl kc n m h0 h1 hbb h2
          have hsz : C.P.cellsOf e = i.size := hi.cellsOf
          obtain ⟨q1, q2, q3⟩ := toTs_get _ _ _ hz
          have hzl : z.length = i.size := by rw [q1, i6]; simp [i5]
          have hlen : (List.replicate n.toNat z).length = n.toNat := by simp
          have hval : Value.slice (some ⟨C.w.heap.size, 0, none⟩) n.toNat m.toNat = .slice (some ⟨C.w.heap.size, 0, none⟩) (List.replicate n.toNat z).length m.toNat := by rw [hlen]
          refine wp_value (w' := C.w.alloc (.cells (madeCells zv.cells (m.toNat * j.size)) e)) (v := .slice (some ⟨C.w.heap.size, 0, none⟩) n.toNat m.toNat) ?_ (wrS_own R hn (Ext.alloc _ _) h (G := fun b => b = C.w.heap.size) ?_ ?_)
          · simp only [execOp, ho, el, ec, bind_pure_comp, Sem.run_map, hrun, Result.andThen_ok]
          · rintro b rfl; rw [size_alloc]; omega
          · rw [hval]
            have hget : ∀ i' j' t', T.get? (List.replicate n.toNat z) i' j' = some t' → i' < n.toNat ∧ z[j']? = some t' := by
              intro i' j' t' hg
              unfold T.get? at hg
              rw [List.getElem?_replicate] at hg
              split at hg
              · rename_i hlt; exact ⟨hlt, by simpa using hg⟩
              · simp at hg
            refine OwnT.simple (heap_new _ _) ?_ ?_ (by rw [hlen]; omega) (by omega) ?_ ?_ ?_
            · intro o' _ h; simp at h
            · rw [size_madeCells, hsz, i2]; omega
            · intro i' r hr
              rw [List.getElem?_replicate] at hr
              split at hr
              · injection hr with hr; rw [← hr, hzl, hsz]
              · cases hr
            · intro i' j' t' hg
              obtain ⟨g1, g2⟩ := hget i' j' t' hg
              obtain ⟨e', d, g3, g4, g5⟩ := q3 j' t' g2
              have hj : j' < i.size := by rw [← hzl]; exact (List.getElem?_eq_some_iff.1 g2).1
              have hlt : 0 + i' * C.P.cellsOf e + j' < m.toNat * j.size := by
                rw [hsz, i2]
                have : (i' + 1) * i.size ≤ m.toNat * i.size := Nat.mul_le_mul_right _ (by omega)
                rw [Nat.add_mul] at this; omega
              have hmod : (0 + i' * C.P.cellsOf e + j') % zv.cells.size = j' := by
                rw [i5, hsz, Nat.zero_add, Nat.add_comm, Nat.add_mul_mod_self_right, Nat.mod_eq_of_lt hj]
              refine ⟨zv.cells[j']!, ?_, ?_⟩
              · unfold madeCells
                rw [Array.getElem?_map, Array.getElem?_range, if_pos hlt]
                simp only [Option.map_some, hmod]
              · rw [i6, List.getElem?_map] at g4
                have hjz : j' < zv.cells.size := by omega
                rw [Array.getElem?_toList, Array.getElem?_eq_getElem hjz] at g4
                simp only [Option.map_some, Option.some.injEq] at g4
                subst g4
                have : zv.cells[j']! = zv.cells[j'] := by simp [hjz]
                rw [this]
                exact (constLeaf_toT g5 (List.all_eq_true.1 i7 _ (by simp))).1
            · intro hfl i' j' t' hg
              obtain ⟨g1, g2⟩ := hget i' j' t' hg
              obtain ⟨e', d, g3, g4, g5⟩ := q3 j' t' g2
              have he := flat_les hi hfl g3
              rw [i6, List.getElem?_map] at g4
              cases hx : zv.cells.toList[j']? with
              | none => rw [hx] at g4; simp at g4
              | some y =>
                rw [hx] at g4
                simp only [Option.map_some, Option.some.injEq] at g4
                subst g4
                exact (constLeaf_toT g5 (List.all_eq_true.1 i7 _ (List.mem_of_getElem? hx))).2 he
        · exact h.elim
  · exact h.elim

theorem snd_buildSlice {tb : Tab} (hT : TabOk C.P tb) {t : TypeId} {n : Nat} {ps : Array (Nat × Operand)} (ho : o.op = .buildSlice t n ps) (h : (opBuildSlice tb o.dst t n ps.toList).wp C.E (Done C.P K C.E)) : o.wp C.P C.a C.w next Q := by
  unfold opBuildSlice at h
  split at h
  · rename_i e hk
    have hu := hT.kd_slice hk
    have hse := hT.kd_size hk C.w
    cases ht : tb e with
    | none => rw [ht] at h; exact h.elim
    | some i =>
      rw [ht] at h
      have hi := hT e i ht
      simp only at h
      split at h
      · rename_i hbig
        have hbig : n * i.size ≤ 16777216 ∧ n ≤ 16777216 := by simpa using hbig
        obtain ⟨j, zv, i1, i2, i3, i4, i5, i6, i7⟩ := hi.info
        have hsz : C.P.cellsOf e = i.size := hi.cellsOf
        have hzlen : i.zero.length = i.size := by rw [i6]; simp [i5]
        have hfl : (List.replicate n i.zero).flatten.length = n * i.size := by simp [hzlen]
        have hz : Lined C (List.replicate n i.zero).flatten ((Array.range (n * i.size)).map (zv.cells[· % zv.cells.size]!)) := by
          refine ⟨by rw [hfl]; simp, fun k d hd => ?_⟩
          have hk : k < n * i.size := by rw [← hfl]; exact (List.getElem?_eq_some_iff.1 hd).1
          have hpos : 0 < i.size := by
            rcases Nat.eq_zero_or_pos i.size with h | h
            · rw [h] at hk; simp at hk
            · exact h
          have hmod : k % i.size < i.size := Nat.mod_lt _ hpos
          have hd' : i.zero[k % i.size]? = some d := by
            have : ∀ (m : Nat) (k : Nat), k < m * i.size → (List.replicate m i.zero).flatten[k]? = i.zero[k % i.size]? := by
              intro m
              induction m with
              | zero => intro k hk; simp at hk
              | succ m ih =>
                intro k hk
                rw [List.replicate_succ, List.flatten_cons]
                by_cases hlt : k < i.size
                · rw [List.getElem?_append_left (by omega), Nat.mod_eq_of_lt hlt]
                · rw [List.getElem?_append_right (by omega), hzlen, ih (k - i.size) (by rw [Nat.add_mul] at hk; omega)]
                  rw [Nat.mod_eq_sub_mod (by omega : i.size ≤ k)]
            rw [← this n k hk]; exact hd
          rw [i6, List.getElem?_map] at hd'
          have hjz : k % i.size < zv.cells.size := by omega
          rw [Array.getElem?_toList, Array.getElem?_eq_getElem hjz] at hd'
          simp only [Option.map_some, Option.some.injEq] at hd'
          subst hd'
          have e1 : ((Array.range (n * i.size)).map (zv.cells[· % zv.cells.size]!)).getD k undef = zv.cells[k % i.size] := by
            rw [arrGetD, Array.getElem?_map, Array.getElem?_range, if_pos hk]
            simp only [Option.map_some, Option.getD_some, i5]
            exact getElem!_pos zv.cells _ hjz
          rw [e1]
          have h1 := List.all_eq_true.1 i7 zv.cells[k % i.size] (by simp)
          obtain ⟨a, b, c⟩ := constLeaf_cases _ h1
          exact ⟨a, b, h1, fun p => c C p⟩
        obtain ⟨ds', cs', k1, k2, k3, k4⟩ := partsR_wp R (place := fun a => some (a * i.size, i.size)) ps.toList (ps.toList.map fun p => (p.1 * i.size, i.size, p.2)) _ _ (by simp) (by
          intro k p q hp hq
          rw [List.getElem?_map, hp] at hq
          simp at hq; subst hq; exact ⟨rfl, rfl⟩) hz h
        split at k1
        · rename_i rs hrs
          obtain ⟨r1, r2⟩ := rowsOf_get _ _ _ hrs
          have hrl : rs.length = n := by rw [r1]; simp [chunk]
          have hcs : cs'.size = n * i.size := by rw [← k2.1, k4, hfl]
          have hrow : ∀ (a : Nat) (x : List T), rs[a]? = some x → a < n ∧ toTs i.les ((ds'.drop (a * i.size)).take i.size) = some x := by
            intro a x hx
            obtain ⟨r, g1, g2⟩ := r2 a x hx
            have ha : a < n := by rw [← hrl]; exact (List.getElem?_eq_some_iff.1 hx).1
            unfold chunk at g1
            rw [List.getElem?_map, List.getElem?_range ha] at g1
            simp at g1; subst g1
            exact ⟨ha, g2⟩
          have hin : ∀ a k, a < n → k < i.size → a * i.size + k < n * i.size := by
            intro a k ha hk
            have : (a + 1) * i.size ≤ n * i.size := Nat.mul_le_mul_right _ (by omega)
            rw [Nat.add_mul] at this; omega
          have hleaf : ∀ a k t', T.get? rs a k = some t' → ∃ e' d, i.les[k]? = some e' ∧ d.toT e' = some t' ∧ a < n ∧ k < i.size ∧ ds'[a * i.size + k]? = some d := by
            intro a k t' hg
            unfold T.get? at hg
            cases hx : rs[a]? with
            | none => rw [hx] at hg; simp at hg
            | some x =>
              rw [hx] at hg
              obtain ⟨g1, g2⟩ := hrow a x hx
              obtain ⟨q1, q2, q3⟩ := toTs_get _ _ _ g2
              obtain ⟨e', d, g3, g4, g5⟩ := q3 k t' (by simpa using hg)
              have hk : k < i.size := by
                by_cases hlt : k < i.size
                · exact hlt
                · rw [List.getElem?_eq_none (by rw [List.length_take]; omega)] at g4; cases g4
              rw [List.getElem?_take_of_lt hk, List.getElem?_drop] at g4
              exact ⟨e', d, g3, g5, g1, hk, g4⟩
          have hval : Value.slice (some ⟨C.w.heap.size, 0, none⟩) n n = .slice (some ⟨C.w.heap.size, 0, none⟩) rs.length n := by rw [hrl]
          refine wp_value (w' := C.w.alloc (.cells cs' e)) (v := .slice (some ⟨C.w.heap.size, 0, none⟩) n n) ?_ (wrS_own R hn (Ext.alloc _ _) k1 (G := fun b => b = C.w.heap.size) ?_ ?_)
          · have hb : ¬ (16777216 < n * i.size) := by omega
            rw [hsz] at hse
            have hzero : (zeroValue e).run C.P C.w = .ok zv C.w := by simp [zeroValue, typeInfo, i1, i4]
            have hp : (ps.map fun x => (x.1, C.a.eval x.2)).toList = ps.toList.map fun p => (p.1, C.a.eval p.2) := by simp
            simp only [execOp, ho, Instr.buildSlice, bind_pure_comp, Sem.run_map, Sem.run_bind, run_underlying hu, Result.andThen_ok, hse, gt_iff_lt, Sem.run_ite, hb, if_false]
            by_cases h0 : n * i.size = 0
            · have e0 : ∀ f g : Nat → Value, (Array.range (n * i.size)).map f = (Array.range (n * i.size)).map g := by intro f g; rw [h0]; simp
              rw [if_pos h0]
              simp only [Sem.run_pure, Result.andThen_ok]
              rw [e0 _ (zv.cells[· % zv.cells.size]!), hp, k3]
              rfl
            · rw [if_neg h0]
              simp only [hzero, Sem.run_pure, Result.andThen_ok]
              rw [hp, k3]
              rfl
          · rintro b rfl; rw [size_alloc]; omega
          · rw [hval]
            refine OwnT.simple (heap_new _ _) ?_ ?_ (by omega) ?_ ?_ ?_ ?_
            · intro o' _ h; simp at h
            · rw [hcs, hsz]; omega
            · omega
            · intro a r hr
              obtain ⟨g1, g2⟩ := hrow a r hr
              obtain ⟨q1, q2, q3⟩ := toTs_get _ _ _ g2
              rw [q1, ← q2, hi.les, hsz]
            · intro a k t' hg
              obtain ⟨e', d, g1, g2, g3, g4, g5⟩ := hleaf a k t' hg
              obtain ⟨_, _, _, p⟩ := k2.2 _ d g5
              rw [Nat.zero_add, hsz]
              refine ⟨cs'.getD (a * i.size + k) undef, getD_get? (by rw [hcs]; exact hin a k g3 g4), (toT_simp g2 (p _)).1⟩
            · intro hflat a k t' hg
              obtain ⟨e', d, g1, g2, g3, g4, g5⟩ := hleaf a k t' hg
              obtain ⟨_, _, _, p⟩ := k2.2 _ d g5
              exact (toT_simp g2 (p _)).2 (flat_les hi hflat g1)
        · exact k1.elim
      · exact h.elim
  · exact h.elim
end ops
end Go.Proofs.Ytcnogcachboibaa.Fw
