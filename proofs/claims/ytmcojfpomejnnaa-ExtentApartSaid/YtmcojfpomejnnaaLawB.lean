/- More laws for operations on memory: copy, composite literals, a slice of one element, make. -/
import Derived.Test.YtmcojfpomejnnaaLaw
import Derived.Great.BuildSlice
set_option linter.unusedSimpArgs false
set_option linter.unusedVariables false
namespace Go.Own
open Go Go.RowKit

theorem elT {P : Program} {t e : TypeId} {z : Value} {size bytes : Nat} (hs : P.underlying t = some (.slice e)) (h : (P.info? e).map (fun i => (i.zero, i.size, i.bytes)) = some (some z, size, bytes)) (hz : z.cells.size = size) (hp : 0 < size) : ElT P t e size bytes z :=
  ⟨hs, info_parts h, hz, hp⟩

section
variable {P : Program} {ops : Array Oper} {rest : List Oper} {o : Oper} {a : Act} {w : World} {Q : Exit → Act → World → Prop}

/-- copy(d, s) of elements of one cell -/
theorem copy_sl {d s : Operand} {dT sT e : TypeId} (hu : P.underlying dT = some (.slice e)) (hsz : (P.info? e).map (·.size) = some 1) {g off dLen dCap : Nat} {xv : Value} {m : Nat} {xs : List Value} {cur : Array Value} {t : TypeId}
    (hgd : o.guard = none) (ho : o.op = .call { callee := .builtin .copy, args := #[d, s], argTypes := #[dT, sT] }) (hd : a.eval d = .slice (some ⟨g, off, none⟩) dLen dCap) (hs : a.eval s = xv) (hsl : Sl w xv 1 m xs)
    (hg : w.heap[g]? = some (.cells cur t (0, 0))) (q : Nat) (hq : Nat.min m dLen = q) (hfit : off + q ≤ cur.size) (h1 : ∀ v ∈ xs, v.oneCell' = true)
    (h : wpList P ops Q rest (a.put o.dst (.int .i64 (q : Int))) (w.setRow g (cur.toList.take off ++ (xs.take dLen ++ cur.toList.drop (off + q))).toArray)) : wpList P ops Q (o :: rest) a w := by
  subst hq
  obtain ⟨sa, sc, rfl, hl, _, _, hc⟩ := hsl
  rw [Nat.mul_one] at hl
  have htl : (xs.take dLen).length = Nat.min m dLen := by rw [List.length_take, hl]; exact Nat.min_comm _ _
  by_cases h0 : Nat.min m dLen = 0
  · refine wpList_copy_nothing hgd d s dT sT ho e hu hsz (some ⟨g, off, none⟩) sa dLen dCap m sc hd hs h0 ?_
    rw [h0] at h
    have he : xs.take dLen = [] := List.eq_nil_of_length_eq_zero (by rw [htl]; exact h0)
    rw [he] at h
    simp only [List.nil_append, Nat.add_zero, List.take_append_drop, Array.toArray_toList] at h
    rw [setRow_self w g cur t _ hg] at h
    exact h
  · have hpos : 0 < (xs.take dLen).length := by rw [htl]; omega
    obtain ⟨ad, rfl, _⟩ := hc 0 (xs[0]'(by rw [List.length_take] at hpos; omega)) (by simp)
    rw [← htl] at h
    exact wpList_copy_own hgd d s dT sT ho e hu hsz g off dLen dCap ad m sc hd hs cur t hg (xs.take dLen) htl (fun j v hv => by
      rw [List.getElem?_take] at hv
      split at hv
      · obtain ⟨ad', ha, hcj⟩ := hc j v hv; cases ha; exact hcj
      · cases hv) (by rw [htl]; exact hfit) (fun v hv => h1 v (List.mem_of_mem_take hv)) h

/-- a composite literal, its value known in every world -/
theorem build_at {ty : TypeId} {parts : Array (Nat × Operand)} {ps : Array (Nat × Value)} {v : Value} (hrun : ∀ w, (Instr.build ty ps).run P w = .ok v w) (hgd : o.guard = none) (ho : o.op = .build ty parts) (hps : (parts.toList.map fun x => (x.1, a.eval x.2)) = ps.toList)
    (h : wpList P ops Q rest (a.put o.dst v) w) : wpList P ops Q (o :: rest) a w := by
  refine wpList_plain hgd fun K hK => ?_
  unfold Oper.wp execOp
  rw [ho]
  have hps' : (parts.map fun (i, x) => (i, a.eval x)) = ps := by
    apply Array.toList_inj.1
    rw [Array.toList_map]
    exact hps
  simp only [hps', Sem.run_bind, hrun, Result.andThen_ok, Sem.run_pure, Oper.upon]
  exact hK _ _ h

theorem foldl_set_all (vs : List Value) : ∀ (pre : List Value) (post : List Value), post.length = vs.length →
    (vs.zipIdx pre.length).foldl (fun (cs : Array Value) (x : Value × Nat) => cs.setIfInBounds x.2 x.1) (pre ++ post).toArray = (pre ++ vs).toArray := by
  induction vs with
  | nil => intro pre post h; simp at h; subst h; simp
  | cons v vs ih =>
    intro pre post h
    cases post with
    | nil => simp at h
    | cons q post =>
      simp only [List.zipIdx_cons, List.foldl_cons]
      have e : (pre ++ q :: post).toArray.setIfInBounds pre.length v = ((pre ++ [v]) ++ post).toArray := by
        simp
      rw [e]
      have := ih (pre ++ [v]) post (by simpa using h)
      simp only [List.length_append, List.length_singleton] at this
      rw [this]
      simp

/-- []T{x} -/
theorem one_slice {t e : TypeId} {size bytes : Nat} {z : Value} {x : Operand} (E : ElT P t e size bytes z) (hsm : size ≤ 16777216) {v : Value} (hgd : o.guard = none) (ho : o.op = .buildSlice t 1 #[(0, x)]) (hx : a.eval x = v) (hv : v.cells.size = size)
    (h : wpList P ops Q rest (a.put o.dst (.slice (some ⟨w.heap.size, 0, none⟩) 1 1)) (w.alloc (.cells v.cells e))) : wpList P ops Q (o :: rest) a w := by
  obtain ⟨i, hi, hz, hsz, hby⟩ := E.info
  have hp := E.pos
  refine wpList_buildSlice hgd t e 1 #[(0, x)] ho v.cells i z E.slice hi hz (by rw [hsz]; omega) (by rw [hsz]; omega) ?_ h
  simp only [List.map_toArray, List.map_cons, List.map_nil, hx, Instr.fill, Nat.zero_mul, Nat.one_mul, hsz]
  have hc1 : (v.cells.size ≠ size || 0 + v.cells.size > ((Array.range size).map fun j => z.cells[j % z.cells.size]!).size) = false := by simp [hv]
  simp only [hc1, Bool.false_eq_true, if_false]
  congr 1
  have := foldl_set_all v.cells.toList [] ((Array.range size).map fun j => z.cells[j % z.cells.size]!).toList (by simp [hv])
  simp only [List.nil_append, List.length_nil, Array.toArray_toList] at this
  refine Eq.trans ?_ this
  rw [← Array.foldl_toList]
  simp

/-- make([]T, n) -/
theorem make_sl {t e : TypeId} {size bytes : Nat} {z : Value} {l c : Operand} (E : ElT P t e size bytes z) {n m : Nat} {k k' : IntKind} (hgd : o.guard = none) (ho : o.op = .makeSlice t l c) (hl : a.eval l = .int k (n : Int)) (hc : a.eval c = .int k' (m : Int)) (hnm : n ≤ m) (hm : bytes * m ≤ 140737488355328) (hmx : m ≤ 9223372036854775807)
    (h : wpList P ops Q rest (a.put o.dst (.slice (some ⟨w.heap.size, 0, none⟩) n m)) (w.alloc (.cells (madeCells z.cells (m * size)) e))) : wpList P ops Q (o :: rest) a w := by
  refine wpList_plain hgd fun K hK => ?_
  obtain ⟨i, hi, hz, hsz, hby⟩ := E.info
  have := run_make (P := P) w t e i z E.slice hi hz k k' (n : Int) (m : Int) (by omega) (by omega) (by
    have : ((i.bytes * m : Nat) : Int) ≤ 281474976710656 := by rw [hby]; omega
    rwa [Int.natCast_mul] at this) (by omega)
  unfold Oper.wp execOp
  rw [ho]
  simp only [hl, hc, Sem.run_bind, this, Result.andThen_ok, Sem.run_pure, Oper.upon, Int.toNat_natCast, hsz]
  exact hK _ _ h

theorem made_rep {z : Array Value} {x : Value} {k n : Nat} (hz : z = Array.replicate k x) (hk : 0 < k) : madeCells z n = (List.replicate n x).toArray := by
  apply Array.ext
  · simp [size_madeCells]
  · intro i h1 h2
    subst hz
    simp only [madeCells, Array.getElem_map, Array.getElem_range, Array.size_replicate, List.getElem_toArray, List.getElem_replicate]
    have : i % k < k := Nat.mod_lt _ hk
    simp [this]
end
end Go.Own
