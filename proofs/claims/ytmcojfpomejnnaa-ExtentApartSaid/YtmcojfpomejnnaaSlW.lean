/- The walk's rules over memory in pieces. Over any program. -/
import Derived.Test.YtmcojfpomejnnaaSl
set_option linter.unusedSimpArgs false
set_option linter.unusedVariables false
namespace Go.Own
open Go Go.RowKit

class OneC (P : Program) (ty : TypeId) : Prop where
  desc : ∃ d, P.underlying ty = some d ∧ d.isRow = false
  size : (P.info? ty).map (·.size) = some 1
class RowC (P : Program) (ty : TypeId) (n : outParam Nat) : Prop where
  desc : ∃ d, P.underlying ty = some d ∧ d.isRow = true
  size : (P.info? ty).map (·.size) = some n
class ZeroC (P : Program) (ty : TypeId) (z : outParam (List Value)) : Prop where
  zero : ∃ v, (P.info? ty).map (·.zero) = some (some v) ∧ v.cells = z.toArray
class ElC (P : Program) (t : TypeId) (e : outParam TypeId) (size bytes : outParam Nat) (z : outParam (List Value)) : Prop where
  el : ∃ v, ElT P t e size bytes v ∧ v.cells = z.toArray
class BytesC (P : Program) (t : TypeId) : Prop where
  el : ∃ e, P.underlying t = some (.slice e) ∧ P.underlying e = some (.int .u8) ∧ (P.info? e).map (fun i => (i.zero, i.size, i.bytes)) = some (some (.int .u8 0), 1, 1)
class StrC (P : Program) (t : TypeId) : Prop where
  str : P.underlying t = some .string

section
variable {P : Program} {ops : Array Oper} {rest : List Oper} {o : Oper} {a : Act} {w : World} {Q : Exit → Act → World → Prop} {s : Ro} {rs : List Asn}

theorem run_load1 {ty : TypeId} (T : OneC P ty) {b off : Nat} {v : Value} (hc : w.cell? ⟨b, off, none⟩ = some v) : (Instr.loadAt ty (.pointer (some ⟨b, off, none⟩))).run P w = .ok v w := by
  obtain ⟨d, hu, hd⟩ := T.desc
  have hagg : (isAgg ty).run P w = .ok false w := by
    unfold isAgg
    rw [Sem.run_bind, run_underlying hu w]
    cases d <;> simp_all
  simp [Instr.loadAt, Instr.sureAddr, loadVar, Sem.run_bind, hagg, hc]

theorem load_one {ty : TypeId} {x : Operand} [T : OneC P ty] {b off : Nat} {v : Value} (hw : Region.wanted o (yielded ops a.tmps) = true) (ho : o.op = .load ty x) (hx : a.eval x = .pointer (some ⟨b, off, none⟩)) (hc : w.cell? ⟨b, off, none⟩ = some v)
    (h : wpList P ops Q rest (a.put o.dst v) w) : wpList P ops Q (o :: rest) a w := by
  refine wpList_step fun K hK => ?_
  rw [if_pos hw]
  unfold Oper.wp execOp
  rw [ho]
  simp only [hx, Sem.run_bind, run_load1 T hc, Result.andThen_ok, Sem.run_pure, Oper.upon]
  exact hK _ _ h
theorem load_many {ty : TypeId} {x : Operand} {n : Nat} [T : RowC P ty n] {b off : Nat} {cs : List Value} (hw : Region.wanted o (yielded ops a.tmps) = true) (ho : o.op = .load ty x) (hx : a.eval x = .pointer (some ⟨b, off, none⟩)) (hc : w.rangeAt b off cs) (hn : cs.length = n)
    (h : wpList P ops Q rest (a.put o.dst (.agg cs.toArray)) w) : wpList P ops Q (o :: rest) a w := by
  refine wpList_step fun K hK => ?_
  rw [if_pos hw]
  obtain ⟨d, hu, hd⟩ := T.desc
  unfold Oper.wp execOp
  rw [ho]
  simp only [hx, Sem.run_bind, run_loadAt_mid w b off ty cs d hc hu hd (by rw [hn]; exact T.size), Result.andThen_ok, Sem.run_pure, Oper.upon]
  exact hK _ _ h

/-- a cell of a variable -/
theorem sl_load {ty : TypeId} {x : Operand} [OneC P ty] (i : Nat) {b off : Nat} {t : TypeId} {cs : List Value} {v : Value} (H : Holds s w rs) (hw : Region.wanted o (yielded ops a.tmps) = true) (ho : o.op = .load ty x) (hx : a.eval x = .pointer (some ⟨b, off, none⟩)) (hi : rs[i]? = some (var b t cs)) (hv : cs[off]? = some v)
    (h : wpList P ops Q rest (a.put o.dst v) w) : wpList P ops Q (o :: rest) a w :=
  load_one hw ho hx (by rw [cell_of_row w b off _ _ _ (H.var hi)]; simpa using hv) h
/-- a variable whole -/
theorem sl_loadall {ty : TypeId} {x : Operand} {n : Nat} [RowC P ty n] (i : Nat) {b : Nat} {t : TypeId} {cs : List Value} (H : Holds s w rs) (hw : Region.wanted o (yielded ops a.tmps) = true) (ho : o.op = .load ty x) (hx : a.eval x = .pointer (some ⟨b, 0, none⟩)) (hi : rs[i]? = some (var b t cs)) (hn : cs.length = n)
    (h : wpList P ops Q rest (a.put o.dst (.agg cs.toArray)) w) : wpList P ops Q (o :: rest) a w :=
  load_many hw ho hx (fun j v hv => by rw [cell_of_row w b _ _ _ _ (H.var hi)]; simpa using hv) hn h
/-- a part of a variable -/
theorem sl_loadpart {ty : TypeId} {x : Operand} {n : Nat} [RowC P ty n] (i : Nat) {b off : Nat} {t : TypeId} {cs : List Value} (xs : List Value) (H : Holds s w rs) (hw : Region.wanted o (yielded ops a.tmps) = true) (ho : o.op = .load ty x) (hx : a.eval x = .pointer (some ⟨b, off, none⟩)) (hi : rs[i]? = some (var b t cs)) (hxs : (cs.drop off).take n = xs) (hn : xs.length = n)
    (h : wpList P ops Q rest (a.put o.dst (.agg xs.toArray)) w) : wpList P ops Q (o :: rest) a w :=
  load_many hw ho hx (fun j v hv => by
    rw [cell_of_row w b _ _ _ _ (H.var hi)]
    have hj : j < xs.length := (List.getElem?_eq_some_iff.1 hv).1
    rw [← hxs, List.getElem?_take_of_lt (by omega), List.getElem?_drop] at hv
    simpa using hv) hn h
/-- a cell that is only read -/
theorem sl_loadS {ty : TypeId} {x : Operand} [OneC P ty] {g off off' : Nat} {v : Value} (H : Holds s w rs) (hp : Pin s g off' v) (hw : Region.wanted o (yielded ops a.tmps) = true) (ho : o.op = .load ty x) (hx : a.eval x = .pointer (some ⟨g, off, none⟩)) (he : off = off')
    (h : wpList P ops Q rest (a.put o.dst v) w) : wpList P ops Q (o :: rest) a w := by
  subst he
  exact load_one hw ho hx (hp.cell H.fits) h
theorem sl_loadallS {ty : TypeId} {x : Operand} {n : Nat} [RowC P ty n] {g off off' : Nat} {cs : List Value} (H : Holds s w rs) (hp : ∀ j v, cs[j]? = some v → Pin s g (off' + j) v) (hw : Region.wanted o (yielded ops a.tmps) = true) (ho : o.op = .load ty x) (hx : a.eval x = .pointer (some ⟨g, off, none⟩)) (he : off = off') (hn : cs.length = n)
    (h : wpList P ops Q rest (a.put o.dst (.agg cs.toArray)) w) : wpList P ops Q (o :: rest) a w := by
  subst he
  exact load_many hw ho hx (fun j v hv => (hp j v hv).cell H.fits) hn h

theorem setCell_row {b off : Nat} {t : TypeId} {cs : List Value} {v : Value} (hb : w.heap[b]? = some (.cells cs.toArray t (0, 0))) : w.setCell ⟨b, off, none⟩ v = w.setRow b (cs.set off v).toArray := by
  rw [setCell_eq_setRow _ b off _ _ _ _ hb]; simp

theorem sl_store {ty : TypeId} {x y : Operand} [T : OneC P ty] (i : Nat) {b off : Nat} {t : TypeId} {cs : List Value} {v : Value} (H : Holds s w rs) (hw : Region.wanted o (yielded ops a.tmps) = true) (ho : o.op = .store ty x y) (hx : a.eval x = .pointer (some ⟨b, off, none⟩)) (hi : rs[i]? = some (var b t cs)) (hy : a.eval y = v) (h1 : v.oneCell' = true) (hl : off < cs.length)
    (h : ∀ w', Holds s w' (rs.set i (var b t (cs.set off v))) → wpList P ops Q rest (a.put o.dst undef) w') : wpList P ops Q (o :: rest) a w := by
  refine wpList_step fun K hK => ?_
  rw [if_pos hw]
  have hb := H.var hi
  have hi1 := T.size
  have hcv : v.cells = #[v] := by cases v <;> first | rfl | cases h1
  cases hq : P.info? ty with
  | none => simp [hq] at hi1
  | some ii =>
    have hs1 : ii.size = 1 := by simpa [hq] using hi1
    have hst := run_storeCells_at P b off t [v] 0 cs.toArray w hb (by simp; omega) (fun u hu => by simp at hu; subst hu; exact h1)
    have hst' : (storeVar ty ⟨b, off, none⟩ v).run P w = .ok () (w.setRow b (cs.set off v).toArray) := by
      simp only [Nat.add_zero] at hst
      simp [storeVar, sizeOf, typeInfo, hq, hcv, hs1, hst]
      congr 2
      rw [List.set_eq_take_append_cons_drop, if_pos hl]
    unfold Oper.wp execOp
    rw [ho]
    simp only [hx, hy, Instr.storeAt, Instr.sureAddr, Sem.run_bind, Sem.run_pure, Result.andThen_ok, hst', Oper.upon]
    exact hK _ _ (h _ (H.setVar hi _))
theorem sl_storepart {ty : TypeId} {x y : Operand} {n : Nat} [T : RowC P ty n] (i : Nat) {b off : Nat} {t : TypeId} {cs xs : List Value} (H : Holds s w rs) (hw : Region.wanted o (yielded ops a.tmps) = true) (ho : o.op = .store ty x y) (hx : a.eval x = .pointer (some ⟨b, off, none⟩)) (hi : rs[i]? = some (var b t cs)) (hy : a.eval y = .agg xs.toArray) (h1 : ∀ v ∈ xs, v.oneCell' = true) (hn : xs.length = n) (hl : off + n ≤ cs.length)
    (h : ∀ w', Holds s w' (rs.set i (var b t (cs.take off ++ xs ++ cs.drop (off + n)))) → wpList P ops Q rest (a.put o.dst undef) w') : wpList P ops Q (o :: rest) a w := by
  refine wpList_step fun K hK => ?_
  rw [if_pos hw]
  have hb := H.var hi
  have hs := T.size
  cases hq : P.info? ty with
  | none => simp [hq] at hs
  | some ii =>
    simp [hq] at hs
    have hst := run_storeCells_at P b off t xs 0 cs.toArray w hb (by simp; omega) h1
    simp only [Nat.add_zero] at hst
    have hst' : (storeVar ty ⟨b, off, none⟩ (.agg xs.toArray)).run P w = .ok () (w.setRow b (cs.take off ++ xs ++ cs.drop (off + n)).toArray) := by
      simp [storeVar, sizeOf, typeInfo, hq, Value.cells, hs, hn]
      simpa [hn] using hst
    unfold Oper.wp execOp
    rw [ho]
    simp only [hx, hy, Instr.storeAt, Instr.sureAddr, Sem.run_bind, Sem.run_pure, Result.andThen_ok, hst', Oper.upon]
    exact hK _ _ (h _ (H.setVar hi _))
theorem sl_storeall {ty : TypeId} {x y : Operand} {n : Nat} [T : RowC P ty n] (i : Nat) {b : Nat} {t : TypeId} {cs xs : List Value} (H : Holds s w rs) (hw : Region.wanted o (yielded ops a.tmps) = true) (ho : o.op = .store ty x y) (hx : a.eval x = .pointer (some ⟨b, 0, none⟩)) (hi : rs[i]? = some (var b t cs)) (hy : a.eval y = .agg xs.toArray) (h1 : ∀ v ∈ xs, v.oneCell' = true) (hn : xs.length = n) (hl : cs.length = n)
    (h : ∀ w', Holds s w' (rs.set i (var b t xs)) → wpList P ops Q rest (a.put o.dst undef) w') : wpList P ops Q (o :: rest) a w :=
  sl_storepart i H hw ho hx hi hy h1 hn (by omega) (fun w' H' => h w' (by rwa [List.take_zero, List.nil_append, Nat.zero_add, List.drop_of_length_le (by omega), List.append_nil] at H'))

theorem sl_box {ty : TypeId} {x : Operand} {cs : List Value} (H : Holds s w rs) (hw : Region.wanted o (yielded ops a.tmps) = true) (ho : o.op = .box ty x) (hx : a.eval x = .agg cs.toArray)
    (h : ∀ b w', Holds s w' (var b ty cs :: rs) → wpList P ops Q rest (a.put o.dst (.pointer (some ⟨b, 0, none⟩))) w') : wpList P ops Q (o :: rest) a w := by
  refine wpList_step fun K hK => ?_
  rw [if_pos hw]
  unfold Oper.wp execOp
  simp only [ho, hx, Sem.run_bind, Instr.box, newVar, newRow, run_newObj_alloc, Sem.run_pure, Result.andThen_ok, Value.cells]
  exact hK _ _ (h _ _ (H.alloc ty cs))
theorem sl_box1 {ty : TypeId} {x : Operand} {v : Value} (H : Holds s w rs) (hw : Region.wanted o (yielded ops a.tmps) = true) (ho : o.op = .box ty x) (hx : a.eval x = v) (h1 : v.oneCell' = true)
    (h : ∀ b w', Holds s w' (var b ty [v] :: rs) → wpList P ops Q rest (a.put o.dst (.pointer (some ⟨b, 0, none⟩))) w') : wpList P ops Q (o :: rest) a w := by
  refine wpList_step fun K hK => ?_
  rw [if_pos hw]
  have hcv : v.cells = [v].toArray := by cases v <;> first | rfl | cases h1
  unfold Oper.wp execOp
  simp only [ho, hx, Sem.run_bind, Instr.box, newVar, newRow, run_newObj_alloc, Sem.run_pure, Result.andThen_ok, hcv]
  exact hK _ _ (h _ _ (H.alloc ty [v]))
theorem sl_alloc {ty : TypeId} {z : List Value} [T : ZeroC P ty z] (H : Holds s w rs) (hw : Region.wanted o (yielded ops a.tmps) = true) (ho : o.op = .alloc ty)
    (h : ∀ b w', Holds s w' (var b ty z :: rs) → wpList P ops Q rest (a.put o.dst (.pointer (some ⟨b, 0, none⟩))) w') : wpList P ops Q (o :: rest) a w := by
  refine wpList_step fun K hK => ?_
  rw [if_pos hw]
  obtain ⟨v, hz, hc⟩ := T.zero
  cases hi : P.info? ty with
  | none => simp [hi] at hz
  | some i =>
    simp [hi] at hz
    unfold Oper.wp execOp
    rw [ho]
    have : (Instr.alloc ty true (.tuple #[])).run P w = .ok (.pointer (some ⟨w.heap.size, 0, none⟩)) (w.alloc (.cells z.toArray ty)) := by
      simp [Instr.alloc, zeroValue, typeInfo, hi, hz, newVar, newRow, hc]
    simp only [Sem.run_bind, this, Result.andThen_ok, Sem.run_pure, Oper.upon]
    exact hK _ _ (h _ _ (H.alloc ty z))

/-- []T{} -/
theorem sl_empty {t e : TypeId} {size bytes : Nat} {z : List Value} [E : ElC P t e size bytes z] (H : Holds s w rs) (hw : Region.wanted o (yielded ops a.tmps) = true) (ho : o.op = .buildSlice t 0 #[])
    (h : ∀ g w', Holds s w' (row e size (.slice (some ⟨g, 0, none⟩) 0 0) 0 [] :: rs) → wpList P ops Q rest (a.put o.dst (.slice (some ⟨g, 0, none⟩) 0 0)) w') : wpList P ops Q (o :: rest) a w := by
  refine wpList_step fun K hK => ?_
  rw [if_pos hw]
  obtain ⟨v, E', hc⟩ := E.el
  obtain ⟨i, hi, hz, hsz, hby⟩ := E'.info
  have hrun : (Instr.buildSlice t 0 #[]).run P w = .ok (.slice (some ⟨w.heap.size, 0, none⟩) 0 0) (w.alloc (.cells #[] e)) := by
    simp [Instr.buildSlice, run_underlying E'.slice, zeroValue, typeInfo, hi, hz, sizeOf, newRow, Instr.fill]
    rw [show Array.range 0 = #[] from by apply Array.ext <;> simp, Array.map_empty]
  unfold Oper.wp execOp
  rw [ho]
  simp only [Array.map_empty, List.map_toArray, List.map_nil, Sem.run_bind, hrun, Result.andThen_ok, Sem.run_pure, Oper.upon]
  refine hK _ _ (h _ _ (H.add (F1 := [w.heap.size]) ⟨rfl, ?_⟩ (only_alloc _ _ _) (by simp)))
  exact own_base (World.ownsRow_made (e := e) (size := size) w #[] 0 (Nat.le_refl _) (by decide) (by simp)) (fun _ _ => Nat.zero_le _)
/-- []T{x} -/
theorem sl_one {t e : TypeId} {size bytes : Nat} {z : List Value} [E : ElC P t e size bytes z] {x : Operand} {cs : List Value} (H : Holds s w rs) (hsm : size ≤ 16777216) (hgd : o.guard = none) (ho : o.op = .buildSlice t 1 #[(0, x)]) {v : Value} (hx : a.eval x = v) (hcs : v.cells = cs.toArray) (hv : cs.length = size)
    (h : ∀ g w', Holds s w' (row e size (.slice (some ⟨g, 0, none⟩) 1 1) 1 cs :: rs) → wpList P ops Q rest (a.put o.dst (.slice (some ⟨g, 0, none⟩) 1 1)) w') : wpList P ops Q (o :: rest) a w := by
  obtain ⟨u, E', _⟩ := E.el
  refine one_slice (v := v) E' hsm hgd ho hx (by rw [hcs]; simpa using hv) ?_
  rw [hcs]
  refine h _ _ (H.add (F1 := [w.heap.size]) ⟨rfl, ?_⟩ (only_alloc _ _ _) (by simp))
  exact ⟨by rw [hv]; simp, .inr ⟨_, 1, cs.toArray, rfl, Nat.zero_le _, heap_alloc_new _ _, Nat.le_refl _, by decide, by simp [hv], by simp [← hv]⟩⟩

theorem Holds.only_row (H : Holds s w rs) {i n sz : Nat} {e : TypeId} {v : Value} {xs : List Value} (hi : rs[i]? = some (Own.row e sz v n xs)) {w' : World} {v' : Value} {n' : Nat} {xs' : List Value} (hr : w'.ownsRow 0 e sz v' n' xs') (ho : Only v.ownBlock.toList w w') (hb : ∀ k, v'.ownBlock = some k → v.ownBlock = some k ∨ w.heap.size ≤ k) : Holds s w' (rs.set i (Own.row e sz v' n' xs')) := by
  obtain ⟨F, ⟨rfl, h⟩, _, _, h3⟩ := H.upd hi
  exact h3 (Own.row e sz v' n' xs') _ _ ⟨rfl, hr⟩ ho (fun k hk => (hb k (by simpa using hk)).imp (fun h => by simp [h]) id)

/-- append(x, y...) onto a row of our own -/
theorem sl_append {t e : TypeId} {size bytes : Nat} {z : List Value} [E : ElC P t e size bytes z] {x y : Operand} (i : Nat) {v xv : Value} {n m : Nat} {xs news : List Value} (H : Holds s w rs) (hi : rs[i]? = some (row e size v n xs)) (hsrc : Src s rs xv size m news) (h1 : ∀ u ∈ news, u.oneCell' = true) (h63 : n + m ≤ maxLen) (hbytes : (n + m) * bytes ≤ 140737488355328)
    (hgd : o.guard = none) (ho : o.op = .call { callee := .builtin .append, args := #[x, y], argTypes := #[t, t] }) (hx : a.eval x = v) (hy : a.eval y = xv)
    (h : ∀ aa cc w', Holds s w' (rs.set i (row e size (.slice aa (n + m) cc) (n + m) (xs ++ news))) → wpList P ops Q rest (a.put o.dst (.slice aa (n + m) cc)) w') : wpList P ops Q (o :: rest) a w := by
  obtain ⟨u, E', _⟩ := E.el
  refine append_row (v := v) (xv := xv) E' hgd ho hx (H.row hi) hy (hsrc.sl H) h1 h63 hbytes ?_
  intro v' w' hq1 hq2 hq3
  obtain ⟨aa, cc, rfl, _⟩ := own_sl hq1
  exact h aa cc w' (H.only_row hi hq1 hq2 hq3)

theorem flat_rep_get {z : List Value} : ∀ (k j : Nat), j < k * z.length → (List.replicate k z).flatten[j]? = z[j % z.length]?
  | 0, j, h => by simp at h
  | k + 1, j, h => by
    rw [List.replicate_succ, List.flatten_cons]
    by_cases hj : j < z.length
    · rw [List.getElem?_append_left hj, Nat.mod_eq_of_lt hj]
    · rw [List.getElem?_append_right (by omega), flat_rep_get k (j - z.length) (by rw [Nat.add_mul] at h; omega), ← Nat.mod_eq_sub_mod (by omega)]
theorem made_flat {z : List Value} {size : Nat} (hz : z.length = size) (hp : 0 < size) {k : Nat} : (madeCells z.toArray (k * size)).toList = (List.replicate k z).flatten := by
  apply List.ext_getElem?
  intro j
  by_cases hj : j < k * size
  · rw [flat_rep_get k j (by rw [hz]; exact hj)]
    have hm : j % z.length < z.length := Nat.mod_lt _ (by omega)
    simp only [madeCells, Array.toList_map, Array.toList_range, List.getElem?_map, List.getElem?_range hj, Option.map_some, List.size_toArray]
    rw [List.getElem?_eq_getElem hm]
    simp [hm]
  · rw [List.getElem?_eq_none (by simp [size_madeCells]; omega), List.getElem?_eq_none (by simp [hz]; omega)]

/-- make([]T, n, m) -/
theorem sl_make {t e : TypeId} {size bytes : Nat} {z : List Value} [E : ElC P t e size bytes z] {l c : Operand} {n m : Nat} {k k' : IntKind} (H : Holds s w rs) (hgd : o.guard = none) (ho : o.op = .makeSlice t l c) (hl : a.eval l = .int k (n : Int)) (hc : a.eval c = .int k' (m : Int)) (hnm : n ≤ m) (hm : bytes * m ≤ 140737488355328) (hmx : m ≤ maxLen)
    (h : ∀ g w', Holds s w' (row e size (.slice (some ⟨g, 0, none⟩) n m) n (List.replicate n z).flatten :: rs) → wpList P ops Q rest (a.put o.dst (.slice (some ⟨g, 0, none⟩) n m)) w') : wpList P ops Q (o :: rest) a w := by
  obtain ⟨u, E', hz⟩ := E.el
  refine make_sl E' hgd ho hl hc hnm hm (by unfold maxLen at hmx; omega) ?_
  refine h _ _ (H.add (F1 := [w.heap.size]) ⟨rfl, ?_⟩ (only_alloc _ _ _) (by simp))
  have hzl : z.length = size := by have := E'.zlen; rw [hz] at this; simpa using this
  refine ⟨by simp [hzl], .inr ⟨_, m, _, rfl, Nat.zero_le _, heap_alloc_new _ _, hnm, hmx, by simp [size_madeCells], ?_⟩⟩
  rw [hz, made_flat hzl E'.pos, ← Nat.add_sub_cancel' hnm, ← List.replicate_append_replicate, List.flatten_append, List.take_append_of_le_length (by simp [hzl]), List.take_of_length_le (by simp [hzl])]
end
end Go.Own
