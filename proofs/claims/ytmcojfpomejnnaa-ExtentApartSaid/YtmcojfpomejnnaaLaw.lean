/- Laws for operations on whole values in memory, over any program: load, store, new variable, append, conversion, make. -/
import Derived.Test.YtmcojfpomejnnaaBase
import Derived.Deep.WholeRow
import Derived.Deep.AppendLies
set_option linter.unusedSimpArgs false
set_option linter.unusedVariables false
namespace Go.Own
open Go Go.RowKit

section
variable {P : Program} {ops : Array Oper} {rest : List Oper} {o : Oper} {a : Act} {w : World} {Q : Exit → Act → World → Prop}

/-- a type that is a row or a struct: its size, its zero value -/
structure RowT (P : Program) (ty : TypeId) (n : Nat) (z : Array Value) : Prop where
  desc : ∃ d, P.underlying ty = some d ∧ d.isRow = true
  size : (P.info? ty).map (·.size) = some n
  zero : (P.info? ty).map (·.zero) = some (some (.agg z))
  zlen : z.size = n

theorem range_of_block {b : Nat} {c : Array Value} {t : TypeId} {f : Nat × Nat} (h : w.heap[b]? = some (.cells c t f)) {off : Nat} {cs : List Value} (hc : (c.toList.drop off).take cs.length = cs) : w.rangeAt b off cs := by
  intro j v hv
  rw [cell_of_row w b (off + j) c t f h]
  have hj : j < cs.length := (List.getElem?_eq_some_iff.1 hv).1
  rw [← hc, List.getElem?_take_of_lt hj, List.getElem?_drop] at hv
  simpa using hv

/-- load of a whole array or struct -/
theorem load_row {ty : TypeId} {x : Operand} {b off n : Nat} {z : Array Value} (T : RowT P ty n z) (cs : List Value) (hgd : o.guard = none) (ho : o.op = .load ty x)
    (hx : a.eval x = .pointer (some ⟨b, off, none⟩)) (hc : w.rangeAt b off cs) (hn : cs.length = n)
    (h : wpList P ops Q rest (a.put o.dst (.agg cs.toArray)) w) : wpList P ops Q (o :: rest) a w := by
  obtain ⟨d, hu, hd⟩ := T.desc
  exact wpList_load_mid hgd ty x ho b off hx cs d hc hu hd (by rw [hn]; exact T.size) h

/-- a new variable of such a type -/
theorem alloc_row {ty : TypeId} {n : Nat} {z : Array Value} (T : RowT P ty n z) (hgd : o.guard = none) (ho : o.op = .alloc ty)
    (h : wpList P ops Q rest (a.put o.dst (.pointer (some ⟨w.heap.size, 0, none⟩))) (w.alloc (.cells z ty))) : wpList P ops Q (o :: rest) a w := by
  refine wpList_plain hgd fun K hK => ?_
  have hz := T.zero
  cases hi : P.info? ty with
  | none => simp [hi] at hz
  | some i =>
    simp [hi] at hz
    unfold Oper.wp execOp
    rw [ho]
    have : (Instr.alloc ty true (.tuple #[])).run P w = .ok (.pointer (some ⟨w.heap.size, 0, none⟩)) (w.alloc (.cells z ty)) := by
      simp [Instr.alloc, zeroValue, typeInfo, hi, hz, newVar, newRow, Value.cells]
    simp only [Sem.run_bind, this, Result.andThen_ok, Sem.run_pure, Oper.upon]
    exact hK _ _ h

/-- a whole value into the variable that was made last -/
theorem store_new {ty : TypeId} {x y : Operand} {n : Nat} {z : Array Value} (T : RowT P ty n z) {w0 : World} {c : Array Value} (cs : Array Value) (hgd : o.guard = none) (ho : o.op = .store ty x y)
    (hx : a.eval x = .pointer (some ⟨w0.heap.size, 0, none⟩)) (hy : a.eval y = .agg cs) (hc : c.size = n) (hn : cs.size = n) (h1 : cs.all (·.oneCell') = true)
    (h : wpList P ops Q rest (a.put o.dst undef) (w0.alloc (.cells cs ty))) : wpList P ops Q (o :: rest) a (w0.alloc (.cells c ty)) := by
  refine wpList_plain hgd fun K hK => ?_
  unfold Oper.wp execOp
  rw [ho]
  simp only [hx, hy, Instr.storeAt, Instr.sureAddr, Sem.run_bind, Sem.run_pure, Result.andThen_ok,
    run_storeVar_new w0 ty c cs (by rw [hn]; exact T.size) (by rw [hc, hn]) h1, Oper.upon]
  exact hK _ _ h

/-- a whole value into the middle of a block -/
theorem store_row {ty : TypeId} {x y : Operand} {b off n : Nat} {z : Array Value} (T : RowT P ty n z) (cur : Array Value) (t : TypeId) (cs : Array Value) (hgd : o.guard = none) (ho : o.op = .store ty x y)
    (hx : a.eval x = .pointer (some ⟨b, off, none⟩)) (hy : a.eval y = .agg cs) (hb : w.heap[b]? = some (.cells cur t (0, 0))) (hn : cs.size = n) (hfit : off + n ≤ cur.size) (h1 : cs.all (·.oneCell') = true)
    (h : wpList P ops Q rest (a.put o.dst undef) (w.setRow b (cur.toList.take off ++ cs.toList ++ cur.toList.drop (off + cs.size)).toArray)) : wpList P ops Q (o :: rest) a w := by
  refine wpList_plain hgd fun K hK => ?_
  have hs := T.size
  cases hi : P.info? ty with
  | none => simp [hi] at hs
  | some i =>
    simp [hi] at hs
    have hst := run_storeCells_at P b off t cs.toList 0 cur w hb (by simp; omega) (fun v hv => Array.all_eq_true_iff_forall_mem.1 h1 v (by simpa using hv))
    simp only [Nat.add_zero, Array.length_toList] at hst
    unfold Oper.wp execOp
    rw [ho]
    have : (storeVar ty ⟨b, off, none⟩ (.agg cs)).run P w = .ok () (w.setRow b (cur.toList.take off ++ cs.toList ++ cur.toList.drop (off + cs.size)).toArray) := by
      simp [storeVar, sizeOf, typeInfo, hi, Value.cells, hs, hn]
      simpa [hn] using hst
    simp only [hx, hy, Instr.storeAt, Instr.sureAddr, Sem.run_bind, Sem.run_pure, Result.andThen_ok, this, Oper.upon]
    exact hK _ _ h

/-- the element type of a slice: its row in the table -/
structure ElT (P : Program) (t e : TypeId) (size bytes : Nat) (z : Value) : Prop where
  slice : P.underlying t = some (.slice e)
  info : ∃ i, P.info? e = some i ∧ i.zero = some z ∧ i.size = size ∧ i.bytes = bytes
  zlen : z.cells.size = size
  pos : 0 < size

/-- append(s, x...) onto a row of our own -/
theorem append_row {s x : Operand} {t e : TypeId} {size bytes : Nat} {z : Value} (E : ElT P t e size bytes z) (hgd : o.guard = none) (ho : o.op = .call { callee := .builtin .append, args := #[s, x], argTypes := #[t, t] })
    {v : Value} {n : Nat} {xs : List Value} (hs : a.eval s = v) (hown : w.ownsRow 0 e size v n xs) {xv : Value} (hx : a.eval x = xv) {m : Nat} {news : List Value} (hsl : Sl w xv size m news) (h1 : ∀ u ∈ news, u.oneCell' = true)
    (h63 : n + m ≤ maxLen) (hbytes : (n + m) * bytes ≤ 140737488355328)
    (h : ∀ v' w', w'.ownsRow 0 e size v' (n + m) (xs ++ news) → Only v.ownBlock.toList w w' → (∀ k, v'.ownBlock = some k → v.ownBlock = some k ∨ w.heap.size ≤ k) → wpList P ops Q rest (a.put o.dst v') w') : wpList P ops Q (o :: rest) a w := by
  refine wpList_plain hgd fun K hK => ?_
  obtain ⟨i, hi, hz, hsz, hby⟩ := E.info
  obtain ⟨xa, xc, rfl, hl, hmc, _, hcells⟩ := hsl
  have main : ∃ v' w', (Builtin.append_ #[t, t] o.type #[v, .slice xa m xc]).run P w = .ok v' w' ∧ w'.ownsRow 0 e size v' (n + m) (xs ++ news) ∧ Only v.ownBlock.toList w w' ∧ (∀ k, v'.ownBlock = some k → v.ownBlock = some k ∨ w.heap.size ≤ k) := by
    by_cases hm : m = 0
    · subst hm
      have hnews : news = [] := List.eq_nil_of_length_eq_zero (by simpa using hl)
      subst hnews
      refine ⟨v, w, ?_, by simpa using hown, Only.refl _ _, fun k hk => .inl hk⟩
      rcases hown.2 with ⟨rfl, rfl⟩ | ⟨g, cap, cur, rfl, _, _, hnc, _⟩
      · cases xa <;> simp [Builtin.append_, run_underlying E.slice, sizeOf, typeInfo, hi, Builtin.lenOf, Builtin.firstCells, loadCells, loadCellsFrom]
      · cases xa <;> simp [Builtin.append_, run_underlying E.slice, sizeOf, typeInfo, hi, Builtin.lenOf, Builtin.firstCells, hnc, storeCells, loadCells, loadCellsFrom]
    · have hne : news ≠ [] := by
        intro h0; subst h0
        have hp := E.pos
        have : 0 < m * size := Nat.mul_pos (by omega) hp
        simp only [List.length_nil] at hl; omega
      obtain ⟨u, r, hur⟩ := List.exists_cons_of_ne_nil hne
      obtain ⟨ad, rfl, _⟩ := hcells 0 u (by rw [hur]; rfl)
      obtain ⟨v', w', hr, h2, h3, _, h5⟩ := run_append_own_at (P := P) w 0 t o.type e i z size bytes E.slice hi hz hsz hby E.zlen E.pos v n xs hown ad m xc news hl (fun j u hu => by
        obtain ⟨ad', he, hc⟩ := hcells j u hu; cases he; exact hc) h1 h63 hbytes (Nat.zero_le _)
      refine ⟨v', w', hr, h2, Only.of_grown h3, fun k hk => ?_⟩
      rcases h5 with h5 | h5
      · left; rw [← h5]; exact hk
      · right; rw [h5] at hk; cases hk; exact Nat.le_refl _
  obtain ⟨v', w', hr, h2, h3, h4⟩ := main
  unfold Oper.wp execOp
  simp only [ho, resolve, invoke, builtin, Sem.run_bind, Sem.run_pure, Result.andThen_ok, List.map_toArray, List.map_cons, List.map_nil, hs, hx, hr]
  exact hK _ _ (h v' w' h2 h3 h4)

/-! ### bytes to a string -/
theorem load_cells_at {a : Addr} {xs : List Value} (h : CellsAt w (some a) xs) : (loadCells a xs.length).run P w = .ok xs.toArray w :=
  run_loadCells_list (P := P) w a xs fun j v hv => by obtain ⟨ad, ha, hc⟩ := h j v hv; cases ha; exact hc
theorem foldl_push (l : List UInt8) : ∀ (s : ByteArray), (l.map (fun x : UInt8 => (x.toNat : Int))).foldl (fun (r : ByteArray) (n : Int) => r.push (UInt8.ofNat n.toNat)) s = ⟨s.data ++ l.toArray⟩ := by
  induction l with
  | nil => intro s; simp
  | cons x l ih =>
    intro s
    simp only [List.map_cons, List.foldl_cons]
    rw [ih]
    simp [ByteArray.push]
theorem run_string_of {src dst e : TypeId} (hs : P.underlying src = some (.slice e)) (he : P.underlying e = some (.int .u8)) (hd : P.underlying dst = some .string) {v : Value} {l : List UInt8} (hb : Bs w v l) :
    (convert src dst v).run P w = .ok (.string ⟨l.toArray⟩) w := by
  obtain ⟨xa, c, rfl, hl, _, _, hc⟩ := hb
  rw [run_convert_bytes_string w src dst e xa l.length c hs he hd]
  cases xa with
  | none =>
    cases l with
    | nil => simp [Conv.bytesToString]; rfl
    | cons x r => obtain ⟨ad, ha, _⟩ := hc 0 (u8 x) rfl; cases ha
  | some ad =>
    have := load_cells_at (P := P) hc
    rw [u8s_len] at this
    rw [run_bytesToString w ad l.length c (l.map fun x : UInt8 => (x.toNat : Int)) (by rw [this]; simp [u8s, u8, Function.comp_def])]
    rw [foldl_push]
    simp [ByteArray.empty, ByteArray.emptyWithCapacity]
    rfl
/-- string(b) -/
theorem conv_string {src dst e : TypeId} {x : Operand} (hs : P.underlying src = some (.slice e)) (he : P.underlying e = some (.int .u8)) (hd : P.underlying dst = some .string) {v : Value} {l : List UInt8} (hgd : o.guard = none) (ho : o.op = .convert src dst x) (hx : a.eval x = v) (hb : Bs w v l)
    (h : wpList P ops Q rest (a.put o.dst (.string ⟨l.toArray⟩)) w) : wpList P ops Q (o :: rest) a w := by
  refine wpList_plain hgd fun K hK => ?_
  unfold Oper.wp execOp
  rw [ho]
  simp only [hx, Sem.run_bind, run_string_of hs he hd hb, Result.andThen_ok, Sem.run_pure, Oper.upon]
  exact hK _ _ h
/-- string(b), under a guard that holds -/
theorem conv_string_g {src dst e : TypeId} {x : Operand} (hs : P.underlying src = some (.slice e)) (he : P.underlying e = some (.int .u8)) (hd : P.underlying dst = some .string) {v : Value} {l : List UInt8} (hgd : Region.wanted o (yielded ops a.tmps) = true) (ho : o.op = .convert src dst x) (hx : a.eval x = v) (hb : Bs w v l)
    (h : wpList P ops Q rest (a.put o.dst (.string ⟨l.toArray⟩)) w) : wpList P ops Q (o :: rest) a w := by
  refine wpList_step fun K hK => ?_
  rw [if_pos hgd]
  unfold Oper.wp execOp
  rw [ho]
  simp only [hx, Sem.run_bind, run_string_of hs he hd hb, Result.andThen_ok, Sem.run_pure, Oper.upon]
  exact hK _ _ h
end
end Go.Own
