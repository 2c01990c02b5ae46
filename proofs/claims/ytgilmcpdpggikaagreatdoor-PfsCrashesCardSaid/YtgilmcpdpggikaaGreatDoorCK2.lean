/- Squeezed copy of the texts K2. -/
import Derived.Test.YtgilmcpdpggikaaGreatDoorCK1
import Derived.WalkKit
import Derived.WalkSpells
import Derived.WalkLawsBesides
import Derived.Deep.MidRow
import Derived.Laws.CopyOwn
import Derived.Lib.Hide
import Derived.Deep.WholeRow
import Derived.Deep.AppendLies
import Derived.Great.BuildSlice
set_option maxRecDepth 100000
set_option maxHeartbeats 1000000
set_option linter.unusedSimpArgs false
set_option linter.unusedVariables false
namespace Go.Own
open Go Go.RowKit
structure Only (S : List Nat) (w w' : World) : Prop where
 os : w'.os = w.os
 tape : w'.tape = w.tape
 output : w'.output = w.output
 size : w.heap.size ≤ w'.heap.size
 block : ∀ k, k < w.heap.size → k ∉ S → w'.heap[k]? = w.heap[k]?
theorem Only.refl (S : List Nat) (w : World) : Only S w w := ⟨rfl, rfl, rfl, Nat.le_refl _, fun _ _ _ => rfl⟩
theorem Only.trans' {S T : List Nat} {a b c : World} (h : Only S a b) (k : Only T b c) (ht : ∀ x ∈ T, x ∈ S ∨ a.heap.size ≤ x) : Only S a c :=
 ⟨k.os.trans h.os, k.tape.trans h.tape, k.output.trans h.output, Nat.le_trans h.size k.size, fun i hi hs =>
  (k.block i (Nat.lt_of_lt_of_le hi h.size) (fun hT => (ht i hT).elim hs (fun hle => by omega))).trans (h.block i hi hs)⟩
theorem Only.trans {S : List Nat} {a b c : World} (h : Only S a b) (k : Only S b c) : Only S a c := h.trans' k fun _ hx => .inl hx
theorem Only.mono {S T : List Nat} {a b : World} (h : Only S a b) (hst : ∀ x ∈ S, x ∈ T ∨ a.heap.size ≤ x) : Only T a b :=
 ⟨h.os, h.tape, h.output, h.size, fun i hi ht => h.block i hi fun hs => (hst i hs).elim ht (fun hle => by omega)⟩
theorem Only.drew {S : List Nat} {a w : World} (h : Only S a w) : Only S a w.drew := ⟨h.os, h.tape, h.output, h.size, h.block⟩
theorem only_drew (S : List Nat) (w : World) : Only S w w.drew := (Only.refl S w).drew
theorem only_alloc (S : List Nat) (w : World) (o : Obj) : Only S w (w.alloc o) :=
 ⟨rfl, rfl, rfl, by simp, fun k hk _ => heap_alloc_old w o hk⟩
theorem only_setCell {S : List Nat} (w : World) (a : Addr) (v : Value) (h : a.block ∈ S) : Only S w (w.setCell a v) :=
 ⟨rfl, rfl, rfl, by simp [World.setCell], fun k _ hs => heap_setCell_other w a k v (fun e => hs (e ▸ h))⟩
theorem only_setRow {S : List Nat} (w : World) (g : Nat) (cs : Array Value) (h : g ∈ S) : Only S w (w.setRow g cs) :=
 ⟨rfl, rfl, rfl, by simp, fun k _ hs => setRow_other w g k cs (fun e => hs (e ▸ h))⟩
theorem Only.below {w w' : World} (h : Only [] w w') : Below w.heap.size w w' := ⟨h.os, h.tape, h.output, h.size, fun k hk => h.block k hk (by simp)⟩
theorem Only.of_grown {w w' : World} {row : Option Nat} (h : w.grownBy w' row) : Only row.toList w w' :=
 ⟨h.os, h.tape, h.output, h.size, fun k hk hs => h.block k hk (fun e => hs (by rw [← e]; simp))⟩
theorem Only.cell {S : List Nat} {w w' : World} (h : Only S w w') {a : Addr} {v : Value} (hc : w.cell? a = some v) (ha : a.block ∉ S) : w'.cell? a = some v := by
 rw [World.cell?_of_block (h.block _ (World.block_lt_of_cell? w a hc) ha)]; exact hc
theorem lt_of_heap {w : World} {k : Nat} {o : Obj} (h : w.heap[k]? = some o) : k < w.heap.size := (Array.getElem?_eq_some_iff.1 h).1
theorem Only.heap {S : List Nat} {w w' : World} (h : Only S w w') {k : Nat} {o : Obj} (hk : w.heap[k]? = some o) (hs : k ∉ S) : w'.heap[k]? = some o :=
 (h.block k (lt_of_heap hk) hs).trans hk
def u8 (x : UInt8) : Value := .int .u8 (x.toNat : Int)
def u8s (l : List UInt8) : List Value := l.map u8
theorem u8s_len (l : List UInt8) : (u8s l).length = l.length := by simp [u8s]
theorem u8s_app (l m : List UInt8) : u8s (l ++ m) = u8s l ++ u8s m := by simp [u8s]
theorem u8s_one (l : List UInt8) : ∀ v ∈ u8s l, v.oneCell' = true := by
 intro v hv; simp only [u8s, List.mem_map] at hv; obtain ⟨x, _, rfl⟩ := hv; rfl
def CellsAt (w : World) (a : Option Addr) (xs : List Value) : Prop := ∀ j x, xs[j]? = some x → ∃ ad, a = some ad ∧ w.cell? (ad.add j) = some x
def Sl (w : World) (v : Value) (sz n : Nat) (xs : List Value) : Prop := ∃ a c, v = .slice a n c ∧ xs.length = n * sz ∧ n ≤ c ∧ c ≤ maxLen ∧ CellsAt w a xs
def Bs (w : World) (v : Value) (l : List UInt8) : Prop := Sl w v 1 l.length (u8s l)
theorem Sl.only {S : List Nat} {w w' : World} {v : Value} {sz n : Nat} {xs : List Value} (h : Sl w v sz n xs) (ho : Only S w w') (hs : ∀ k, v.ownBlock = some k → k ∉ S) : Sl w' v sz n xs := by
 obtain ⟨a, c, rfl, h1, h2, h3, h4⟩ := h
 refine ⟨a, c, rfl, h1, h2, h3, ?_⟩
 intro j x hx
 obtain ⟨ad, ha, hc⟩ := h4 j x hx
 exact ⟨ad, ha, ho.cell hc (by rw [Reg.add_block]; exact hs _ (by rw [ha]; rfl))⟩
def Stable (w : World) (F : List Nat) (v : Value) (sz n : Nat) (xs : List Value) : Prop := ∀ w', Only F w w' → Sl w' v sz n xs
theorem Stable.now {w : World} {F : List Nat} {v : Value} {sz n : Nat} {xs : List Value} (h : Stable w F v sz n xs) : Sl w v sz n xs := h w (Only.refl _ _)
theorem stable_of {w : World} {F : List Nat} {v : Value} {sz n : Nat} {xs : List Value} (h : Sl w v sz n xs) (hk : ∀ k, v.ownBlock = some k → k ∉ F) : Stable w F v sz n xs := fun w' ho => h.only ho hk
theorem sl_nil_any {w w' : World} {v : Value} {sz n : Nat} (h : Sl w v sz n []) : Sl w' v sz n [] := by
 obtain ⟨a, c, rfl, h1, h2, h3, _⟩ := h
 exact ⟨a, c, rfl, h1, h2, h3, fun j x hx => by simp at hx⟩
theorem own_sl {w : World} {b : Nat} {e : TypeId} {sz : Nat} {v : Value} {n : Nat} {xs : List Value} (h : w.ownsRow b e sz v n xs) : Sl w v sz n xs := by
 obtain ⟨h1, h2⟩ := h
 rcases h2 with ⟨rfl, rfl⟩ | ⟨g, cap, cur, rfl, _, hg, h3, h4, h5, h6⟩
 ·exact ⟨none, 0, rfl, h1, Nat.le_refl _, Nat.zero_le _, fun j x hx => by
   have : xs = [] := List.eq_nil_of_length_eq_zero (by simpa using h1)
   subst this; simp at hx⟩
 ·refine ⟨_, cap, rfl, h1, h3, h4, fun j x hx => ⟨_, rfl, ?_⟩⟩
  rw [Addr.add_mid, Nat.zero_add, cell_of_row w g j cur e (0, 0) hg]
  rw [← h6, List.getElem?_take] at hx
  split at hx
  ·simpa using hx
  ·cases hx
theorem own_only {S : List Nat} {w w' : World} {b : Nat} {e : TypeId} {sz : Nat} {v : Value} {n : Nat} {xs : List Value} (h : w.ownsRow b e sz v n xs) (ho : Only S w w') (hs : ∀ k, v.ownBlock = some k → k ∉ S) : w'.ownsRow b e sz v n xs := by
 refine ⟨h.1, ?_⟩
 rcases h.2 with hn | ⟨g, cap, cur, rfl, hb, hgg, rest⟩
 ·exact .inl hn
 ·exact .inr ⟨g, cap, cur, rfl, hb, ho.heap hgg (hs g rfl), rest⟩
theorem own_kept {w w' : World} {b : Nat} {e : TypeId} {sz : Nat} {v : Value} {n : Nat} {xs : List Value} (h : w.ownsRow b e sz v n xs) (hk : ∀ k, v.ownBlock = some k → w'.heap[k]? = w.heap[k]?) : w'.ownsRow b e sz v n xs := by
 refine ⟨h.1, ?_⟩
 rcases h.2 with hn | ⟨g, cap, cur, rfl, hb, hgg, rest⟩
 ·exact .inl hn
 ·exact .inr ⟨g, cap, cur, rfl, hb, (hk g rfl).trans hgg, rest⟩
theorem own_lt {w : World} {b : Nat} {e : TypeId} {sz : Nat} {v : Value} {n : Nat} {xs : List Value} (h : w.ownsRow b e sz v n xs) {k : Nat} (hk : v.ownBlock = some k) : k < w.heap.size := (h.lt k hk).2
theorem own_setCell {w : World} {b : Nat} {e : TypeId} {sz : Nat} {v : Value} {n : Nat} {xs : List Value} (h : w.ownsRow b e sz v n xs) {a : Addr} (u : Value) (ha : v.ownBlock ≠ some a.block) : (w.setCell a u).ownsRow b e sz v n xs :=
 own_kept h fun k hk => heap_setCell_other _ _ _ _ fun e => ha (by rw [hk, e])
theorem own_setRow {w : World} {b : Nat} {e : TypeId} {sz : Nat} {v : Value} {n : Nat} {xs : List Value} (h : w.ownsRow b e sz v n xs) {g : Nat} (cs : Array Value) (ha : v.ownBlock ≠ some g) : (w.setRow g cs).ownsRow b e sz v n xs :=
 own_kept h fun k hk => setRow_other _ _ _ _ fun e => ha (by rw [hk, e])
theorem own_base {w : World} {b b' : Nat} {e : TypeId} {sz : Nat} {v : Value} {n : Nat} {xs : List Value} (h : w.ownsRow b e sz v n xs) (hb : ∀ k, v.ownBlock = some k → b' ≤ k) : w.ownsRow b' e sz v n xs := by
 refine ⟨h.1, ?_⟩
 rcases h.2 with hn | ⟨g, cap, cur, rfl, _, rest⟩
 ·exact .inl hn
 ·exact .inr ⟨g, cap, cur, rfl, hb g rfl, rest⟩
theorem cells_of_cell {w : World} {a : Addr} {x : Value} (h : w.cell? a = some x) : ∃ c t f, w.heap[a.block]? = some (.cells c t f) := by
 unfold World.cell? at h
 split at h
 ·rename_i c t f hb; exact ⟨c, t, f, hb⟩
 ·cases h
theorem ext_only {w w' : World} (ho : Only [] w w') : Reg.Ext w w' := ⟨ho.size, fun k hk => ho.block k hk (by simp)⟩
theorem sl_new {w : World} {cs : List Value} {t : TypeId} {n sz m : Nat} (hn : w.heap.size = n) (hl : cs.length = m * sz) (hm : m ≤ maxLen) : Sl (w.alloc (.cells cs.toArray t)) (.slice (some ⟨n, 0, none⟩) m m) sz m cs :=
 ⟨_, m, rfl, hl, Nat.le_refl _, hm, fun j x hx => ⟨_, rfl, by
  subst hn
  rw [Addr.add_mid, Nat.zero_add, cell_of_row _ _ _ _ _ _ (heap_alloc_new w _)]; simpa using hx⟩⟩
theorem Sl.drew {w : World} {v : Value} {sz n : Nat} {xs : List Value} (h : Sl w v sz n xs) : Sl w.drew v sz n xs := h.only (S := []) (only_drew _ _) (by simp)
section
variable {P : Program} {ops : Array Oper} {rest : List Oper} {o : Oper} {a : Act} {w : World} {Q : Exit → Act → World → Prop}
structure RowT (P : Program) (ty : TypeId) (n : Nat) (z : Array Value) : Prop where
 desc : ∃ d, P.underlying ty = some d ∧ d.isRow = true
 size : (P.info? ty).map (·.size) = some n
 zero : (P.info? ty).map (·.zero) = some (some (.agg z))
 zlen : z.size = n
theorem range_of_block {b : Nat} {c : Array Value} {t : TypeId} {f : Nat × Nat} (h : w.heap[b]? = some (.cells c t f)) {off : Nat} {cs : List Value} (hc : (c.toList.drop off).take cs.length = cs) : w.rangeAt b off cs := by
 intro j v hv
 rw [cell_of_row w b (off + j) c t f h]
 have hj : j < cs.length := (List.getElem?_eq_some_iff.1 hv).1
 rw [← hc, List.getElem?_take_of_lt hj, List.getElem?_drop] at hv
 simpa using hv
theorem load_row {ty : TypeId} {x : Operand} {b off n : Nat} {z : Array Value} (T : RowT P ty n z) (cs : List Value) (hgd : o.guard = none) (ho : o.op = .load ty x)
  (hx : a.eval x = .pointer (some ⟨b, off, none⟩)) (hc : w.rangeAt b off cs) (hn : cs.length = n)
  (h : wpList P ops Q rest (a.put o.dst (.agg cs.toArray)) w) : wpList P ops Q (o :: rest) a w := by
 obtain ⟨d, hu, hd⟩ := T.desc
 exact wpList_load_mid hgd ty x ho b off hx cs d hc hu hd (by rw [hn]; exact T.size) h
theorem alloc_row {ty : TypeId} {n : Nat} {z : Array Value} (T : RowT P ty n z) (hgd : o.guard = none) (ho : o.op = .alloc ty)
  (h : wpList P ops Q rest (a.put o.dst (.pointer (some ⟨w.heap.size, 0, none⟩))) (w.alloc (.cells z ty))) : wpList P ops Q (o :: rest) a w := by
 refine wpList_plain hgd fun K hK => ?_
 have hz := T.zero
 cases hi : P.info? ty with
 | none => simp [hi] at hz
 | some i =>
  simp [hi] at hz
  unfold Oper.wp execOp
  rw [ho]
  have : (Instr.alloc ty true (.tuple #[])).run P w = .ok (.pointer (some ⟨w.heap.size, 0, none⟩)) (w.alloc (.cells z ty)) := by
   simp [Instr.alloc, zeroValue, typeInfo, hi, hz, newVar, newRow, Value.cells]
  simp only [Sem.run_bind, this, Result.andThen_ok, Sem.run_pure, Oper.upon]
  exact hK _ _ h
theorem store_new {ty : TypeId} {x y : Operand} {n : Nat} {z : Array Value} (T : RowT P ty n z) {w0 : World} {c : Array Value} (cs : Array Value) (hgd : o.guard = none) (ho : o.op = .store ty x y)
  (hx : a.eval x = .pointer (some ⟨w0.heap.size, 0, none⟩)) (hy : a.eval y = .agg cs) (hc : c.size = n) (hn : cs.size = n) (h1 : cs.all (·.oneCell') = true)
  (h : wpList P ops Q rest (a.put o.dst undef) (w0.alloc (.cells cs ty))) : wpList P ops Q (o :: rest) a (w0.alloc (.cells c ty)) := by
 refine wpList_plain hgd fun K hK => ?_
 unfold Oper.wp execOp
 rw [ho]
 simp only [hx, hy, Instr.storeAt, Instr.sureAddr, Sem.run_bind, Sem.run_pure, Result.andThen_ok,
  run_storeVar_new w0 ty c cs (by rw [hn]; exact T.size) (by rw [hc, hn]) h1, Oper.upon]
 exact hK _ _ h
theorem store_row {ty : TypeId} {x y : Operand} {b off n : Nat} {z : Array Value} (T : RowT P ty n z) (cur : Array Value) (t : TypeId) (cs : Array Value) (hgd : o.guard = none) (ho : o.op = .store ty x y)
  (hx : a.eval x = .pointer (some ⟨b, off, none⟩)) (hy : a.eval y = .agg cs) (hb : w.heap[b]? = some (.cells cur t (0, 0))) (hn : cs.size = n) (hfit : off + n ≤ cur.size) (h1 : cs.all (·.oneCell') = true)
  (h : wpList P ops Q rest (a.put o.dst undef) (w.setRow b (cur.toList.take off ++ cs.toList ++ cur.toList.drop (off + cs.size)).toArray)) : wpList P ops Q (o :: rest) a w := by
 refine wpList_plain hgd fun K hK => ?_
 have hs := T.size
 cases hi : P.info? ty with
 | none => simp [hi] at hs
 | some i =>
  simp [hi] at hs
  have hst := run_storeCells_at P b off t cs.toList 0 cur w hb (by simp; omega) (fun v hv => Array.all_eq_true_iff_forall_mem.1 h1 v (by simpa using hv))
  simp only [Nat.add_zero, Array.length_toList] at hst
  unfold Oper.wp execOp
  rw [ho]
  have : (storeVar ty ⟨b, off, none⟩ (.agg cs)).run P w = .ok () (w.setRow b (cur.toList.take off ++ cs.toList ++ cur.toList.drop (off + cs.size)).toArray) := by
   simp [storeVar, sizeOf, typeInfo, hi, Value.cells, hs, hn]
   simpa [hn] using hst
  simp only [hx, hy, Instr.storeAt, Instr.sureAddr, Sem.run_bind, Sem.run_pure, Result.andThen_ok, this, Oper.upon]
  exact hK _ _ h
structure ElT (P : Program) (t e : TypeId) (size bytes : Nat) (z : Value) : Prop where
 slice : P.underlying t = some (.slice e)
 info : ∃ i, P.info? e = some i ∧ i.zero = some z ∧ i.size = size ∧ i.bytes = bytes
 zlen : z.cells.size = size
 pos : 0 < size
theorem append_row {s x : Operand} {t e : TypeId} {size bytes : Nat} {z : Value} (E : ElT P t e size bytes z) (hgd : o.guard = none) (ho : o.op = .call { callee := .builtin .append, args := #[s, x], argTypes := #[t, t] })
  {v : Value} {n : Nat} {xs : List Value} (hs : a.eval s = v) (hown : w.ownsRow 0 e size v n xs) {xv : Value} (hx : a.eval x = xv) {m : Nat} {news : List Value} (hsl : Sl w xv size m news) (h1 : ∀ u ∈ news, u.oneCell' = true)
  (h63 : n + m ≤ maxLen) (hbytes : (n + m) * bytes ≤ 140737488355328)
  (h : ∀ v' w', w'.ownsRow 0 e size v' (n + m) (xs ++ news) → Only v.ownBlock.toList w w' → (∀ k, v'.ownBlock = some k → v.ownBlock = some k ∨ w.heap.size ≤ k) → wpList P ops Q rest (a.put o.dst v') w') : wpList P ops Q (o :: rest) a w := by
 refine wpList_plain hgd fun K hK => ?_
 obtain ⟨i, hi, hz, hsz, hby⟩ := E.info
 obtain ⟨xa, xc, rfl, hl, hmc, _, hcells⟩ := hsl
 have main : ∃ v' w', (Builtin.append_ #[t, t] o.type #[v, .slice xa m xc]).run P w = .ok v' w' ∧ w'.ownsRow 0 e size v' (n + m) (xs ++ news) ∧ Only v.ownBlock.toList w w' ∧ (∀ k, v'.ownBlock = some k → v.ownBlock = some k ∨ w.heap.size ≤ k) := by
  by_cases hm : m = 0
  ·subst hm
   have hnews : news = [] := List.eq_nil_of_length_eq_zero (by simpa using hl)
   subst hnews
   refine ⟨v, w, ?_, by simpa using hown, Only.refl _ _, fun k hk => .inl hk⟩
   rcases hown.2 with ⟨rfl, rfl⟩ | ⟨g, cap, cur, rfl, _, _, hnc, _⟩
   ·cases xa <;> simp [Builtin.append_, run_underlying E.slice, sizeOf, typeInfo, hi, Builtin.lenOf, Builtin.firstCells, loadCells, loadCellsFrom]
   ·cases xa <;> simp [Builtin.append_, run_underlying E.slice, sizeOf, typeInfo, hi, Builtin.lenOf, Builtin.firstCells, hnc, storeCells, loadCells, loadCellsFrom]
  ·have hne : news ≠ [] := by
    intro h0; subst h0
    have hp := E.pos
    have : 0 < m * size := Nat.mul_pos (by omega) hp
    simp only [List.length_nil] at hl; omega
   obtain ⟨u, r, hur⟩ := List.exists_cons_of_ne_nil hne
   obtain ⟨ad, rfl, _⟩ := hcells 0 u (by rw [hur]; rfl)
   obtain ⟨v', w', hr, h2, h3, _, h5⟩ := run_append_own_at (P := P) w 0 t o.type e i z size bytes E.slice hi hz hsz hby E.zlen E.pos v n xs hown ad m xc news hl (fun j u hu => by
    obtain ⟨ad', he, hc⟩ := hcells j u hu; cases he; exact hc) h1 h63 hbytes (Nat.zero_le _)
   refine ⟨v', w', hr, h2, Only.of_grown h3, fun k hk => ?_⟩
   rcases h5 with h5 | h5
   ·left; rw [← h5]; exact hk
   ·right; rw [h5] at hk; cases hk; exact Nat.le_refl _
 obtain ⟨v', w', hr, h2, h3, h4⟩ := main
 unfold Oper.wp execOp
 simp only [ho, resolve, invoke, builtin, Sem.run_bind, Sem.run_pure, Result.andThen_ok, List.map_toArray, List.map_cons, List.map_nil, hs, hx, hr]
 exact hK _ _ (h v' w' h2 h3 h4)
theorem load_cells_at {a : Addr} {xs : List Value} (h : CellsAt w (some a) xs) : (loadCells a xs.length).run P w = .ok xs.toArray w :=
 run_loadCells_list (P := P) w a xs fun j v hv => by obtain ⟨ad, ha, hc⟩ := h j v hv; cases ha; exact hc
theorem foldl_push (l : List UInt8) : ∀ (s : ByteArray), (l.map (fun x : UInt8 => (x.toNat : Int))).foldl (fun (r : ByteArray) (n : Int) => r.push (UInt8.ofNat n.toNat)) s = ⟨s.data ++ l.toArray⟩ := by
 induction l with
 | nil => intro s; simp
 | cons x l ih =>
  intro s
  simp only [List.map_cons, List.foldl_cons]
  rw [ih]
  simp [ByteArray.push]
theorem run_string_of {src dst e : TypeId} (hs : P.underlying src = some (.slice e)) (he : P.underlying e = some (.int .u8)) (hd : P.underlying dst = some .string) {v : Value} {l : List UInt8} (hb : Bs w v l) :
  (convert src dst v).run P w = .ok (.string ⟨l.toArray⟩) w := by
 obtain ⟨xa, c, rfl, hl, _, _, hc⟩ := hb
 rw [run_convert_bytes_string w src dst e xa l.length c hs he hd]
 cases xa with
 | none =>
  cases l with
  | nil => simp [Conv.bytesToString]; rfl
  | cons x r => obtain ⟨ad, ha, _⟩ := hc 0 (u8 x) rfl; cases ha
 | some ad =>
  have := load_cells_at (P := P) hc
  rw [u8s_len] at this
  rw [run_bytesToString w ad l.length c (l.map fun x : UInt8 => (x.toNat : Int)) (by rw [this]; simp [u8s, u8, Function.comp_def])]
  rw [foldl_push]
  simp [ByteArray.empty, ByteArray.emptyWithCapacity]
  rfl
theorem conv_string_g {src dst e : TypeId} {x : Operand} (hs : P.underlying src = some (.slice e)) (he : P.underlying e = some (.int .u8)) (hd : P.underlying dst = some .string) {v : Value} {l : List UInt8} (hgd : Region.wanted o (yielded ops a.tmps) = true) (ho : o.op = .convert src dst x) (hx : a.eval x = v) (hb : Bs w v l)
  (h : wpList P ops Q rest (a.put o.dst (.string ⟨l.toArray⟩)) w) : wpList P ops Q (o :: rest) a w := by
 refine wpList_step fun K hK => ?_
 rw [if_pos hgd]
 unfold Oper.wp execOp
 rw [ho]
 simp only [hx, Sem.run_bind, run_string_of hs he hd hb, Result.andThen_ok, Sem.run_pure, Oper.upon]
 exact hK _ _ h
end
theorem elT {P : Program} {t e : TypeId} {z : Value} {size bytes : Nat} (hs : P.underlying t = some (.slice e)) (h : (P.info? e).map (fun i => (i.zero, i.size, i.bytes)) = some (some z, size, bytes)) (hz : z.cells.size = size) (hp : 0 < size) : ElT P t e size bytes z :=
 ⟨hs, info_parts h, hz, hp⟩
section
variable {P : Program} {ops : Array Oper} {rest : List Oper} {o : Oper} {a : Act} {w : World} {Q : Exit → Act → World → Prop}
theorem copy_sl {d s : Operand} {dT sT e : TypeId} (hu : P.underlying dT = some (.slice e)) (hsz : (P.info? e).map (·.size) = some 1) {g off dLen dCap : Nat} {xv : Value} {m : Nat} {xs : List Value} {cur : Array Value} {t : TypeId}
  (hgd : o.guard = none) (ho : o.op = .call { callee := .builtin .copy, args := #[d, s], argTypes := #[dT, sT] }) (hd : a.eval d = .slice (some ⟨g, off, none⟩) dLen dCap) (hs : a.eval s = xv) (hsl : Sl w xv 1 m xs)
  (hg : w.heap[g]? = some (.cells cur t (0, 0))) (q : Nat) (hq : Nat.min m dLen = q) (hfit : off + q ≤ cur.size) (h1 : ∀ v ∈ xs, v.oneCell' = true)
  (h : wpList P ops Q rest (a.put o.dst (.int .i64 (q : Int))) (w.setRow g (cur.toList.take off ++ (xs.take dLen ++ cur.toList.drop (off + q))).toArray)) : wpList P ops Q (o :: rest) a w := by
 subst hq
 obtain ⟨sa, sc, rfl, hl, _, _, hc⟩ := hsl
 rw [Nat.mul_one] at hl
 have htl : (xs.take dLen).length = Nat.min m dLen := by rw [List.length_take, hl]; exact Nat.min_comm _ _
 by_cases h0 : Nat.min m dLen = 0
 ·refine wpList_copy_nothing hgd d s dT sT ho e hu hsz (some ⟨g, off, none⟩) sa dLen dCap m sc hd hs h0 ?_
  rw [h0] at h
  have he : xs.take dLen = [] := List.eq_nil_of_length_eq_zero (by rw [htl]; exact h0)
  rw [he] at h
  simp only [List.nil_append, Nat.add_zero, List.take_append_drop, Array.toArray_toList] at h
  rw [setRow_self w g cur t _ hg] at h
  exact h
 ·have hpos : 0 < (xs.take dLen).length := by rw [htl]; omega
  obtain ⟨ad, rfl, _⟩ := hc 0 (xs[0]'(by rw [List.length_take] at hpos; omega)) (by simp)
  rw [← htl] at h
  exact wpList_copy_own hgd d s dT sT ho e hu hsz g off dLen dCap ad m sc hd hs cur t hg (xs.take dLen) htl (fun j v hv => by
   rw [List.getElem?_take] at hv
   split at hv
   ·obtain ⟨ad', ha, hcj⟩ := hc j v hv; cases ha; exact hcj
   ·cases hv) (by rw [htl]; exact hfit) (fun v hv => h1 v (List.mem_of_mem_take hv)) h
theorem build_at {ty : TypeId} {parts : Array (Nat × Operand)} {ps : Array (Nat × Value)} {v : Value} (hrun : ∀ w, (Instr.build ty ps).run P w = .ok v w) (hgd : o.guard = none) (ho : o.op = .build ty parts) (hps : (parts.toList.map fun x => (x.1, a.eval x.2)) = ps.toList)
  (h : wpList P ops Q rest (a.put o.dst v) w) : wpList P ops Q (o :: rest) a w := by
 refine wpList_plain hgd fun K hK => ?_
 unfold Oper.wp execOp
 rw [ho]
 have hps' : (parts.map fun (i, x) => (i, a.eval x)) = ps := by
  apply Array.toList_inj.1
  rw [Array.toList_map]
  exact hps
 simp only [hps', Sem.run_bind, hrun, Result.andThen_ok, Sem.run_pure, Oper.upon]
 exact hK _ _ h
theorem foldl_set_all (vs : List Value) : ∀ (pre : List Value) (post : List Value), post.length = vs.length →
  (vs.zipIdx pre.length).foldl (fun (cs : Array Value) (x : Value × Nat) => cs.setIfInBounds x.2 x.1) (pre ++ post).toArray = (pre ++ vs).toArray := by
 induction vs with
 | nil => intro pre post h; simp at h; subst h; simp
 | cons v vs ih =>
  intro pre post h
  cases post with
  | nil => simp at h
  | cons q post =>
   simp only [List.zipIdx_cons, List.foldl_cons]
   have e : (pre ++ q :: post).toArray.setIfInBounds pre.length v = ((pre ++ [v]) ++ post).toArray := by
    simp
   rw [e]
   have := ih (pre ++ [v]) post (by simpa using h)
   simp only [List.length_append, List.length_singleton] at this
   rw [this]
   simp
theorem one_slice {t e : TypeId} {size bytes : Nat} {z : Value} {x : Operand} (E : ElT P t e size bytes z) (hsm : size ≤ 16777216) {v : Value} (hgd : o.guard = none) (ho : o.op = .buildSlice t 1 #[(0, x)]) (hx : a.eval x = v) (hv : v.cells.size = size)
  (h : wpList P ops Q rest (a.put o.dst (.slice (some ⟨w.heap.size, 0, none⟩) 1 1)) (w.alloc (.cells v.cells e))) : wpList P ops Q (o :: rest) a w := by
 obtain ⟨i, hi, hz, hsz, hby⟩ := E.info
 have hp := E.pos
 refine wpList_buildSlice hgd t e 1 #[(0, x)] ho v.cells i z E.slice hi hz (by rw [hsz]; omega) (by rw [hsz]; omega) ?_ h
 simp only [List.map_toArray, List.map_cons, List.map_nil, hx, Instr.fill, Nat.zero_mul, Nat.one_mul, hsz]
 have hc1 : (v.cells.size ≠ size || 0 + v.cells.size > ((Array.range size).map fun j => z.cells[j % z.cells.size]!).size) = false := by simp [hv]
 simp only [hc1, Bool.false_eq_true, if_false]
 congr 1
 have := foldl_set_all v.cells.toList [] ((Array.range size).map fun j => z.cells[j % z.cells.size]!).toList (by simp [hv])
 simp only [List.nil_append, List.length_nil, Array.toArray_toList] at this
 refine Eq.trans ?_ this
 rw [← Array.foldl_toList]
 simp
theorem make_sl {t e : TypeId} {size bytes : Nat} {z : Value} {l c : Operand} (E : ElT P t e size bytes z) {n m : Nat} {k k' : IntKind} (hgd : o.guard = none) (ho : o.op = .makeSlice t l c) (hl : a.eval l = .int k (n : Int)) (hc : a.eval c = .int k' (m : Int)) (hnm : n ≤ m) (hm : bytes * m ≤ 140737488355328) (hmx : m ≤ 9223372036854775807)
  (h : wpList P ops Q rest (a.put o.dst (.slice (some ⟨w.heap.size, 0, none⟩) n m)) (w.alloc (.cells (madeCells z.cells (m * size)) e))) : wpList P ops Q (o :: rest) a w := by
 refine wpList_plain hgd fun K hK => ?_
 obtain ⟨i, hi, hz, hsz, hby⟩ := E.info
 have := run_make (P := P) w t e i z E.slice hi hz k k' (n : Int) (m : Int) (by omega) (by omega) (by
  have : ((i.bytes * m : Nat) : Int) ≤ 281474976710656 := by rw [hby]; omega
  rwa [Int.natCast_mul] at this) (by omega)
 unfold Oper.wp execOp
 rw [ho]
 simp only [hl, hc, Sem.run_bind, this, Result.andThen_ok, Sem.run_pure, Oper.upon, Int.toNat_natCast, hsz]
 exact hK _ _ h
theorem made_rep {z : Array Value} {x : Value} {k n : Nat} (hz : z = Array.replicate k x) (hk : 0 < k) : madeCells z n = (List.replicate n x).toArray := by
 apply Array.ext
 ·simp [size_madeCells]
 ·intro i h1 h2
  subst hz
  simp only [madeCells, Array.getElem_map, Array.getElem_range, Array.size_replicate, List.getElem_toArray, List.getElem_replicate]
  have : i % k < k := Nat.mod_lt _ hk
  simp [this]
end
end Go.Own
namespace Go.Own
structure DM where
 secs : List (List UInt8)
 pend : List (Nat × List UInt8)
 off : Bool
 armed : Bool
 left : Int
 surv : List Bool
structure DM.Wf (d : DM) : Prop where
 sec : ∀ s ∈ d.secs, s.length = 64
 pnd : ∀ p ∈ d.pend, p.1 < d.secs.length ∧ p.2.length = 64
 lo : 1 ≤ d.secs.length
 hi : d.secs.length ≤ 256
 l0 : 0 ≤ d.left
 l1 : d.left ≤ 9223372036854775807
def layAll (s : List (List UInt8)) (p : List (Nat × List UInt8)) : List (List UInt8) := p.foldl (fun s p => s.set p.1 p.2) s
def layS : List (List UInt8) → List (Nat × List UInt8) → List Bool → List (List UInt8)
 | s, [], _ => s
 | s, _ :: _, [] => s
 | s, p :: ps, b :: bs => layS (if b then s.set p.1 p.2 else s) ps bs
namespace DM
def new (n : Nat) : DM := { secs := List.replicate n (List.replicate 64 0), pend := [], off := false, armed := false, left := 0, surv := [] }
def crash (d : DM) (sv : List Bool) : DM := if d.off then d else { secs := layS d.secs d.pend sv, pend := [], off := true, armed := false, left := 0, surv := [] }
def powered (d : DM) : DM × Bool :=
 if d.off || !d.armed then (d, !d.off) else if d.left = 0 then (d.crash d.surv, false) else ({ d with left := d.left - 1 }, true)
def inB (d : DM) (n : Int) : Bool := decide (0 ≤ n ∧ n < d.secs.length)
def write (d : DM) (n : Int) (b : List UInt8) : DM × Int :=
 if d.inB n then (if b.length = 64 then (if d.powered.2 then ({ d.powered.1 with pend := d.powered.1.pend ++ [(n.toNat, b)] }, 0) else (d.powered.1, 9)) else (d, 1)) else (d, 4)
def flush (d : DM) : DM × Int :=
 if d.powered.2 then ({ d.powered.1 with secs := layAll d.powered.1.secs d.powered.1.pend, pend := [] }, 0) else (d.powered.1, 9)
def sec (d : DM) (n : Nat) : List UInt8 := d.secs[n]?.getD []
def cur (d : DM) (n : Nat) : List UInt8 := d.pend.foldl (fun c p => if p.1 = n then p.2 else c) (d.sec n)
def read (d : DM) (n : Int) : List UInt8 × Int := if d.inB n then (if d.off then ([], 9) else (d.cur n.toNat, 0)) else ([], 4)
def has (d : DM) (n : Int) : List UInt8 × Int := if d.inB n then (d.sec n.toNat, 0) else ([], 4)
def disarm (d : DM) : DM := { d with armed := false, left := 0, surv := [] }
def arm (d : DM) (n : Int) (sv : List Bool) : DM := if d.off then d else if n < 0 then d.disarm else { d with armed := true, left := n, surv := sv }
def power (d : DM) : DM := { d with pend := [], off := false, armed := false, left := 0, surv := [] }
end DM
theorem layAll_len (p : List (Nat × List UInt8)) : ∀ s, (layAll s p).length = s.length := by
 induction p with
 | nil => intro s; rfl
 | cons x p ih => intro s; show (layAll (s.set x.1 x.2) p).length = _; rw [ih]; simp
theorem layS_len : ∀ (s : List (List UInt8)) (p : List (Nat × List UInt8)) (b : List Bool), (layS s p b).length = s.length
 | s, [], _ => by simp [layS]
 | s, _ :: _, [] => by simp [layS]
 | s, p :: ps, b :: bs => by
  simp only [layS]; rw [layS_len]; split <;> simp
theorem mem_set64 {s : List (List UInt8)} (hs : ∀ x ∈ s, x.length = 64) {n : Nat} {y : List UInt8} (hy : y.length = 64) : ∀ x ∈ s.set n y, x.length = 64 := by
 intro x hx
 rcases List.mem_or_eq_of_mem_set hx with h | h
 ·exact hs x h
 ·rw [h]; exact hy
theorem layAll_64 (p : List (Nat × List UInt8)) : ∀ s, (∀ x ∈ s, x.length = 64) → (∀ q ∈ p, q.2.length = 64) → ∀ x ∈ layAll s p, x.length = 64 := by
 induction p with
 | nil => intro s hs _; exact hs
 | cons q p ih =>
  intro s hs hp
  show ∀ x ∈ layAll (s.set q.1 q.2) p, _
  exact ih _ (mem_set64 hs (hp q (by simp))) (fun r hr => hp r (by simp [hr]))
theorem layS_64 : ∀ (s : List (List UInt8)) (p : List (Nat × List UInt8)) (b : List Bool), (∀ x ∈ s, x.length = 64) → (∀ q ∈ p, q.2.length = 64) → ∀ x ∈ layS s p b, x.length = 64
 | s, [], _, hs, _ => by simpa [layS] using hs
 | s, _ :: _, [], hs, _ => by simpa [layS] using hs
 | s, p :: ps, b :: bs, hs, hp => by
  simp only [layS]
  refine layS_64 _ ps bs ?_ (fun r hr => hp r (by simp [hr]))
  split
  ·exact mem_set64 hs (hp p (by simp))
  ·exact hs
theorem DM.Wf.crash {d : DM} (h : d.Wf) (sv : List Bool) : (d.crash sv).Wf := by
 unfold DM.crash
 split
 ·exact h
 ·exact ⟨layS_64 _ _ _ h.sec (fun q hq => (h.pnd q hq).2), fun p hp => by simp at hp, by simp [layS_len]; exact h.lo, by simp [layS_len]; exact h.hi, Int.le_refl _, by simp⟩
theorem DM.Wf.powered {d : DM} (h : d.Wf) : d.powered.1.Wf := by
 unfold DM.powered
 split
 ·exact h
 ·split
  ·exact h.crash _
  ·exact ⟨h.sec, h.pnd, h.lo, h.hi, by have := h.l0; simp only; omega, by have := h.l1; simp only; omega⟩
theorem DM.Wf.flush {d : DM} (h : d.Wf) : d.flush.1.Wf := by
 unfold DM.flush
 split
 ·have hp := h.powered
  exact ⟨layAll_64 _ _ hp.sec (fun q hq => (hp.pnd q hq).2), fun p hp => by simp at hp, by simp [layAll_len]; exact hp.lo, by simp [layAll_len]; exact hp.hi, hp.l0, hp.l1⟩
 ·exact h.powered
theorem DM.crash_len (d : DM) (sv : List Bool) : (d.crash sv).secs.length = d.secs.length := by
 unfold DM.crash; split <;> simp [layS_len]
theorem DM.powered_len (d : DM) : d.powered.1.secs.length = d.secs.length := by
 unfold DM.powered
 split
 ·rfl
 ·split
  ·exact d.crash_len _
  ·rfl
theorem DM.Wf.write {d : DM} (h : d.Wf) (n : Int) (b : List UInt8) : (d.write n b).1.Wf := by
 unfold DM.write
 split
 ·rename_i hin
  split
  ·rename_i hb
   have hp := h.powered
   split
   ·refine ⟨hp.sec, fun p hq => ?_, hp.lo, hp.hi, hp.l0, hp.l1⟩
    simp only [List.mem_append, List.mem_singleton] at hq
    rcases hq with hq | rfl
    ·exact hp.pnd p hq
    ·simp only [DM.inB, decide_eq_true_eq] at hin
     refine ⟨?_, hb⟩
     simp only [d.powered_len]; omega
   ·exact hp
  ·exact h
 ·exact h
theorem DM.Wf.disarm {d : DM} (h : d.Wf) : d.disarm.Wf := ⟨h.sec, h.pnd, h.lo, h.hi, Int.le_refl _, by simp [DM.disarm]⟩
theorem DM.Wf.arm {d : DM} (h : d.Wf) (n : Int) (sv : List Bool) (hn : n ≤ 9223372036854775807) : (d.arm n sv).Wf := by
 unfold DM.arm
 split
 ·exact h
 ·split
  ·exact h.disarm
  ·exact ⟨h.sec, h.pnd, h.lo, h.hi, by simp only; omega, hn⟩
theorem DM.Wf.power {d : DM} (h : d.Wf) : d.power.Wf := ⟨h.sec, fun p hp => by simp [DM.power] at hp, h.lo, h.hi, Int.le_refl _, by simp [DM.power]⟩
theorem DM.Wf.new {n : Nat} (h1 : 1 ≤ n) (h2 : n ≤ 256) : (DM.new n).Wf :=
 ⟨fun s hs => by simp only [DM.new, List.mem_replicate] at hs; rw [hs.2]; simp, fun p hp => by simp [DM.new] at hp, by simpa [DM.new] using h1, by simpa [DM.new] using h2, Int.le_refl _, by simp [DM.new]⟩
theorem layS_snoc : ∀ (s : List (List UInt8)) (ps : List (Nat × List UInt8)) (q : Nat × List UInt8) (sv : List Bool),
  layS s (ps ++ [q]) sv = if sv[ps.length]?.getD false then (layS s ps sv).set q.1 q.2 else layS s ps sv
 | s, [], q, [] => by simp [layS]
 | s, [], q, b :: bs => by cases b <;> simp [layS]
 | s, p :: ps, q, [] => by simp [layS]
 | s, p :: ps, q, b :: bs => by
  simp only [List.cons_append, layS, List.length_cons, List.getElem?_cons_succ]
  exact layS_snoc _ ps q bs
theorem layAll_snoc (s : List (List UInt8)) (ps : List (Nat × List UInt8)) (q : Nat × List UInt8) : layAll s (ps ++ [q]) = (layAll s ps).set q.1 q.2 := by simp [layAll]
theorem take_snoc' {α : Type} (l : List α) {k : Nat} (h : k < l.length) : l.take (k + 1) = l.take k ++ [l[k]] := by
 rw [List.take_succ_eq_append_getElem h]
theorem flat_len {s : List (List UInt8)} (h : ∀ x ∈ s, x.length = 64) : s.flatten.length = s.length * 64 := by
 induction s with
 | nil => rfl
 | cons x s ih =>
  simp only [List.flatten_cons, List.length_append, List.length_cons]
  rw [ih (fun y hy => h y (by simp [hy])), h x (by simp)]; omega
theorem flat_take {s : List (List UInt8)} (h : ∀ x ∈ s, x.length = 64) (n : Nat) : s.flatten.take (n * 64) = (s.take n).flatten := by
 induction s generalizing n with
 | nil => simp
 | cons x s ih =>
  cases n with
  | zero => simp
  | succ n =>
   have hx := h x (by simp)
   simp only [List.flatten_cons, List.take_succ_cons]
   rw [List.take_append, hx, List.take_of_length_le (by omega), ← ih (fun y hy => h y (by simp [hy]))]
   congr 2; omega
theorem flat_drop {s : List (List UInt8)} (h : ∀ x ∈ s, x.length = 64) (n : Nat) : s.flatten.drop (n * 64) = (s.drop n).flatten := by
 induction s generalizing n with
 | nil => simp
 | cons x s ih =>
  cases n with
  | zero => simp
  | succ n =>
   have hx := h x (by simp)
   simp only [List.flatten_cons, List.drop_succ_cons]
   rw [List.drop_append, hx, List.drop_of_length_le (by omega), ← ih (fun y hy => h y (by simp [hy]))]
   simp; congr 1; omega
theorem flat_at {s : List (List UInt8)} (h : ∀ x ∈ s, x.length = 64) {n : Nat} (hn : n < s.length) : (s.flatten.drop (n * 64)).take 64 = s[n] := by
 rw [flat_drop h, List.drop_eq_getElem_cons hn, List.flatten_cons]
 have := h s[n] (List.getElem_mem hn)
 rw [List.take_append_of_le_length (by omega), List.take_of_length_le (by omega)]
theorem flat_set {s : List (List UInt8)} (h : ∀ x ∈ s, x.length = 64) {n : Nat} (hn : n < s.length) (y : List UInt8) (hy : y.length = 64) :
  s.flatten.take (n * 64) ++ y ++ s.flatten.drop (n * 64 + 64) = (s.set n y).flatten := by
 have e : n * 64 + 64 = (n + 1) * 64 := by omega
 rw [e, flat_take h, flat_drop h, List.set_eq_take_append_cons_drop]
 simp [hn]
def wcell (p : Nat × List UInt8) : List Value := .int .i64 (p.1 : Int) :: u8s p.2
def pcells (l : List (Nat × List UInt8)) : List Value := l.flatMap wcell
theorem wcell_len {p : Nat × List UInt8} (h : p.2.length = 64) : (wcell p).length = 65 := by simp [wcell, u8s_len, h]
theorem wcell_one (p : Nat × List UInt8) : ∀ v ∈ wcell p, v.oneCell' = true := by
 intro v hv
 simp only [wcell, List.mem_cons] at hv
 rcases hv with rfl | hv
 ·rfl
 ·exact u8s_one _ v hv
theorem pcells_app (l m : List (Nat × List UInt8)) : pcells (l ++ m) = pcells l ++ pcells m := by simp [pcells]
theorem pcells_drop {l : List (Nat × List UInt8)} (h : ∀ p ∈ l, p.2.length = 64) (n : Nat) : (pcells l).drop (n * 65) = pcells (l.drop n) := by
 induction l generalizing n with
 | nil => simp [pcells]
 | cons x l ih =>
  cases n with
  | zero => simp
  | succ n =>
   have hx := wcell_len (h x (by simp))
   have ih' := ih (fun y hy => h y (by simp [hy])) n
   simp only [pcells, List.flatMap_cons, List.drop_succ_cons] at ih' ⊢
   rw [List.drop_append, hx, List.drop_of_length_le (by omega), ← ih']
   simp; congr 1; omega
theorem pcells_at {l : List (Nat × List UInt8)} (h : ∀ p ∈ l, p.2.length = 64) {n : Nat} (hn : n < l.length) : ((pcells l).drop (n * 65)).take 65 = wcell l[n] := by
 rw [pcells_drop h, List.drop_eq_getElem_cons hn]
 have := wcell_len (h l[n] (List.getElem_mem hn))
 simp only [pcells, List.flatMap_cons]
 rw [List.take_append_of_le_length (by omega), List.take_of_length_le (by omega)]
end Go.Own
namespace Go.Own
open Go Go.RowKit
structure Ro where
 mem : Nat → Option Obj
 cst : World
structure Ro.Le (s s' : Ro) : Prop where
 mem : ∀ k o, s.mem k = some o → s'.mem k = some o
 cst : s'.cst = s.cst
theorem Ro.Le.refl (s : Ro) : s.Le s := ⟨fun _ _ h => h, rfl⟩
theorem Ro.Le.trans {a b c : Ro} (h : a.Le b) (k : b.Le c) : a.Le c := ⟨fun i o x => k.mem i o (h.mem i o x), k.cst.trans h.cst⟩
structure Fits (s : Ro) (w : World) : Prop where
 mem : ∀ k o, s.mem k = some o → w.heap[k]? = some o
 os : w.os = s.cst.os
 tape : w.tape = s.cst.tape
 output : w.output = s.cst.output
structure Asn where
 p : World → List Nat → Prop
 loc : ∀ {w w' : World} {F : List Nat}, p w F → (∀ k ∈ F, w'.heap[k]? = w.heap[k]?) → p w' F
 lt : ∀ {w : World} {F : List Nat}, p w F → ∀ k ∈ F, k < w.heap.size
def Sep (w : World) : List Asn → List Nat → Prop
 | [], F => F = []
 | A :: rs, F => ∃ F1 F2, F = F1 ++ F2 ∧ A.p w F1 ∧ Sep w rs F2 ∧ ∀ k ∈ F1, k ∉ F2
theorem Sep.loc {w w' : World} : ∀ {rs : List Asn} {F : List Nat}, Sep w rs F → (∀ k ∈ F, w'.heap[k]? = w.heap[k]?) → Sep w' rs F
 | [], _, h, _ => h
 | A :: rs, F, h, hk => by
  obtain ⟨F1, F2, rfl, h1, h2, h3⟩ := h
  exact ⟨F1, F2, rfl, A.loc h1 fun k hk1 => hk k (by simp [hk1]), Sep.loc h2 fun k hk2 => hk k (by simp [hk2]), h3⟩
theorem Sep.lt {w : World} : ∀ {rs : List Asn} {F : List Nat}, Sep w rs F → ∀ k ∈ F, k < w.heap.size
 | [], _, h, k, hk => by rw [show _ = [] from h] at hk; simp at hk
 | A :: rs, F, h, k, hk => by
  obtain ⟨F1, F2, rfl, h1, h2, h3⟩ := h
  rcases List.mem_append.1 hk with hk | hk
  ·exact A.lt h1 k hk
  ·exact Sep.lt h2 k hk
theorem Sep.upd {w : World} : ∀ {rs : List Asn} {F : List Nat} {i : Nat} {A : Asn}, Sep w rs F → rs[i]? = some A →
  ∃ F1, A.p w F1 ∧ (∀ k ∈ F1, k ∈ F) ∧ (∀ j B, j ≠ i → rs[j]? = some B → ∃ G, B.p w G ∧ (∀ k ∈ G, k ∈ F) ∧ ∀ k ∈ G, k ∉ F1) ∧ ∀ (A' : Asn) (w' : World) (F1' : List Nat), A'.p w' F1' → (∀ k ∈ F, k ∉ F1 → w'.heap[k]? = w.heap[k]?) → (∀ k ∈ F1', k ∈ F1 ∨ k ∉ F) →
   ∃ F', Sep w' (rs.set i A') F' ∧ ∀ k ∈ F', k ∈ F ∨ k ∈ F1'
 | [], _, _, _, _, hi => by simp at hi
 | B :: rs, F, 0, A, h, hi => by
  simp at hi
  subst hi
  obtain ⟨F1, F2, rfl, h1, h2, h3⟩ := h
  refine ⟨F1, h1, fun k hk => by simp [hk], ?_, fun A' w' F1' h1' ho hf => ?_⟩
  ·intro j B hj hB
   cases j with
   | zero => exact absurd rfl hj
   | succ j =>
    simp at hB
    have aux : ∀ {rs : List Asn} {F : List Nat} {j : Nat}, Sep w rs F → rs[j]? = some B → ∃ G, B.p w G ∧ ∀ k ∈ G, k ∈ F := by
     intro rs
     induction rs with
     | nil => intro F j _ h; simp at h
     | cons C rs ih =>
      intro F j h hj
      obtain ⟨G1, G2, rfl, g1, g2, g3⟩ := h
      cases j with
      | zero => simp at hj; subst hj; exact ⟨G1, g1, fun k hk => by simp [hk]⟩
      | succ j => simp at hj; obtain ⟨G, a1, a2⟩ := ih g2 hj; exact ⟨G, a1, fun k hk => by simp [a2 k hk]⟩
    obtain ⟨G, a1, a2⟩ := aux h2 hB
    exact ⟨G, a1, fun k hk => by simp [a2 k hk], fun k hk h' => h3 k h' (a2 k hk)⟩
  ·refine ⟨F1' ++ F2, ⟨F1', F2, rfl, h1', h2.loc fun k hk => ho k (by simp [hk]) (fun h' => h3 k h' hk), fun k hk hk2 => ?_⟩, fun k hk => ?_⟩
   ·rcases hf k hk with h' | h'
    ·exact h3 k h' hk2
    ·exact h' (by simp [hk2])
   ·rcases List.mem_append.1 hk with hk | hk
    ·exact .inr hk
    ·exact .inl (by simp [hk])
 | B :: rs, F, i + 1, A, h, hi => by
  simp at hi
  obtain ⟨F1, F2, rfl, h1, h2, h3⟩ := h
  obtain ⟨G, g1, g2, gg, g3⟩ := Sep.upd h2 hi
  refine ⟨G, g1, fun k hk => by simp [g2 k hk], ?_, fun A' w' F1' h1' ho hf => ?_⟩
  ·intro j C hj hC
   cases j with
   | zero => simp at hC; subst hC; exact ⟨F1, h1, fun k hk => by simp [hk], fun k hk h' => h3 k hk (g2 k h')⟩
   | succ j =>
    simp at hC
    obtain ⟨K, k1, k2, k3⟩ := gg j C (by omega) hC
    exact ⟨K, k1, fun k hk => by simp [k2 k hk], k3⟩
  ·obtain ⟨F', f1, f2⟩ := g3 A' w' F1' h1' (fun k hk hn => ho k (by simp [hk]) hn) (fun k hk => (hf k hk).imp id fun h' h'' => h' (by simp [h'']))
   refine ⟨F1 ++ F', ⟨F1, F', rfl, B.loc h1 fun k hk => ho k (by simp [hk]) (fun h' => h3 k hk (g2 k h')), f1, fun k hk hk2 => ?_⟩, fun k hk => ?_⟩
   ·rcases f2 k hk2 with h' | h'
    ·exact h3 k hk h'
    ·rcases hf k h' with h'' | h''
     ·exact h3 k hk (g2 k h'')
     ·exact h'' (by simp [hk])
   ·rcases List.mem_append.1 hk with hk | hk
    ·exact .inl (by simp [hk])
    ·exact (f2 k hk).imp (fun h' => by simp [h']) id
theorem Sep.up {w : World} : ∀ {rs : List Asn} {F : List Nat} {i : Nat} {A : Asn}, Sep w rs F → rs[i]? = some A → ∃ F', Sep w (A :: rs.eraseIdx i) F' ∧ ∀ k, k ∈ F' → k ∈ F
 | [], _, _, _, _, hi => by simp at hi
 | B :: rs, F, 0, A, h, hi => by
  simp at hi; subst hi; exact ⟨F, h, fun _ hk => hk⟩
 | B :: rs, F, i + 1, A, h, hi => by
  simp at hi
  obtain ⟨F1, F2, rfl, h1, h2, h3⟩ := h
  obtain ⟨F', ⟨G1, G2, rfl, g1, g2, g3⟩, g4⟩ := Sep.up h2 hi
  refine ⟨G1 ++ (F1 ++ G2), ⟨G1, F1 ++ G2, rfl, g1, ⟨F1, G2, rfl, h1, g2, fun k hk hk2 => h3 k hk (g4 k (by simp [hk2]))⟩, fun k hk hk2 => ?_⟩, fun k hk => ?_⟩
  ·rcases List.mem_append.1 hk2 with h' | h'
   ·exact h3 k h' (g4 k (by simp [hk]))
   ·exact g3 k hk h'
  ·rcases List.mem_append.1 hk with h' | h'
   ·simp [g4 k (by simp [h'])]
   ·rcases List.mem_append.1 h' with h' | h'
    ·simp [h']
    ·simp [g4 k (by simp [h'])]
structure Holds (s : Ro) (w : World) (rs : List Asn) : Prop where
 fits : Fits s w
 sep : ∃ F, Sep w rs F ∧ ∀ k ∈ F, s.mem k = none
theorem Fits.lt {s : Ro} {w : World} (h : Fits s w) {k : Nat} (hk : w.heap.size ≤ k) : s.mem k = none := by
 cases he : s.mem k with
 | none => rfl
 | some o => have := lt_of_heap (h.mem k o he); omega
theorem Fits.only {s : Ro} {w w' : World} {S : List Nat} (h : Fits s w) (ho : Only S w w') (hs : ∀ k ∈ S, s.mem k = none) : Fits s w' :=
 ⟨fun k o hk => (ho.heap (h.mem k o hk) fun hS => by rw [hs k hS] at hk; cases hk), ho.os.trans h.os, ho.tape.trans h.tape, ho.output.trans h.output⟩
section
variable {s : Ro} {w w' : World} {rs : List Asn}
theorem Holds.upd (H : Holds s w rs) {i : Nat} {A : Asn} (hi : rs[i]? = some A) : ∃ F1, A.p w F1 ∧ (∀ k ∈ F1, s.mem k = none) ∧ (∀ j B, j ≠ i → rs[j]? = some B → ∃ G, B.p w G ∧ ∀ k ∈ G, k ∉ F1) ∧
  ∀ (A' : Asn) (w' : World) (F1' : List Nat), A'.p w' F1' → Only F1 w w' → (∀ k ∈ F1', k ∈ F1 ∨ w.heap.size ≤ k) → Holds s w' (rs.set i A') := by
 obtain ⟨hf, F, hF, hn⟩ := H
 obtain ⟨F1, h1, h2, hB, h3⟩ := hF.upd hi
 refine ⟨F1, h1, fun k hk => hn k (h2 k hk), fun j B hj hb => by obtain ⟨G, g1, _, g3⟩ := hB j B hj hb; exact ⟨G, g1, g3⟩, fun A' w' F1' h1' ho hfr => ?_⟩
 obtain ⟨F', f1, f2⟩ := h3 A' w' F1' h1' (fun k hk hk1 => ho.block k (hF.lt k hk) hk1) (fun k hk => (hfr k hk).imp id fun h' h'' => by have := hF.lt k h''; omega)
 refine ⟨hf.only ho fun k hk => hn k (h2 k hk), F', f1, fun k hk => ?_⟩
 rcases f2 k hk with h' | h'
 ·exact hn k h'
 ·rcases hfr k h' with h'' | h''
  ·exact hn k (h2 k h'')
  ·exact hf.lt h''
theorem Holds.get (H : Holds s w rs) {i : Nat} {A : Asn} (hi : rs[i]? = some A) : ∃ F1, A.p w F1 := by
 obtain ⟨F, h, _⟩ := H.upd hi; exact ⟨F, h⟩
theorem Holds.only0 (H : Holds s w rs) (ho : Only [] w w') : Holds s w' rs := by
 obtain ⟨hf, F, hF, hn⟩ := H
 exact ⟨hf.only ho (by simp), F, hF.loc fun k hk => ho.block k (hF.lt k hk) (by simp), hn⟩
theorem Holds.drew (H : Holds s w rs) : Holds s w.drew rs := H.only0 (only_drew _ _)
theorem Holds.add (H : Holds s w rs) {A : Asn} {F1 : List Nat} (h1 : A.p w' F1) (ho : Only [] w w') (hn1 : ∀ k ∈ F1, w.heap.size ≤ k) : Holds s w' (A :: rs) := by
 have H' := H.only0 ho
 obtain ⟨hf, F, hF, hn⟩ := H
 refine ⟨H'.fits, F1 ++ F, ⟨F1, F, rfl, h1, hF.loc fun k hk => ho.block k (hF.lt k hk) (by simp), fun k hk hk2 => by have := hF.lt k hk2; have := hn1 k hk; omega⟩, fun k hk => ?_⟩
 rcases List.mem_append.1 hk with hk | hk
 ·exact hf.lt (hn1 k hk)
 ·exact hn k hk
theorem Holds.tail {A : Asn} (H : Holds s w (A :: rs)) : Holds s w rs := by
 obtain ⟨hf, F, ⟨F1, F2, rfl, h1, h2, h3⟩, hn⟩ := H
 exact ⟨hf, F2, h2, fun k hk => hn k (by simp [hk])⟩
theorem Holds.up (H : Holds s w rs) (i : Nat) {A : Asn} (hi : rs[i]? = some A) : Holds s w (A :: rs.eraseIdx i) := by
 obtain ⟨hf, F, hF, hn⟩ := H
 obtain ⟨F', h1, h2⟩ := hF.up hi
 exact ⟨hf, F', h1, fun k hk => hn k (h2 k hk)⟩
theorem Holds.fix {A : Asn} (H : Holds s w (A :: rs)) : ∃ F s', A.p w F ∧ s.Le s' ∧ Holds s' w rs ∧ ∀ k ∈ F, s'.mem k = w.heap[k]? := by
 obtain ⟨hf, F, ⟨F1, F2, rfl, h1, h2, h3⟩, hn⟩ := H
 refine ⟨F1, ⟨fun k => if k ∈ F1 then w.heap[k]? else s.mem k, s.cst⟩, h1, ⟨fun k o hk => ?_, rfl⟩, ⟨⟨fun k o hk => ?_, hf.os, hf.tape, hf.output⟩, F2, h2, fun k hk => ?_⟩, fun k hk => ?_⟩
 ·have : k ∉ F1 := fun h' => by rw [hn k (by simp [h'])] at hk; cases hk
  simp [this, hk]
 ·simp only at hk
  split at hk
  ·exact hk
  ·exact hf.mem k o hk
 ·have : k ∉ F1 := fun h' => h3 k h' hk
  simp [this]; exact hn k (by simp [hk])
 ·simp [hk]
def startRo (w : World) : Ro := ⟨fun k => w.heap[k]?, w⟩
theorem Holds.start (w : World) : Holds (startRo w) w [] := ⟨⟨fun _ _ h => h, rfl, rfl, rfl⟩, [], rfl, by simp⟩
theorem Holds.fin {w0 : World} {s' : Ro} (h : (startRo w0).Le s') (H : Holds s' w' rs) : Only [] w0 w' := by
 have hb : ∀ k, k < w0.heap.size → w'.heap[k]? = w0.heap[k]? := fun k hk => by
  have : w0.heap[k]? = some w0.heap[k] := by simp [hk]
  rw [this]
  exact H.fits.mem k _ (h.mem k _ this)
 refine ⟨by rw [H.fits.os, h.cst]; rfl, by rw [H.fits.tape, h.cst]; rfl, by rw [H.fits.output, h.cst]; rfl, ?_, fun k hk _ => hb k hk⟩
 cases hz : w0.heap.size with
 | zero => omega
 | succ n =>
  have := hb n (by omega)
  have h2 : w0.heap[n]? = some (w0.heap[n]'(by omega)) := by simp [hz]
  rw [h2] at this
  have := lt_of_heap this
  omega
end
def var (b : Nat) (t : TypeId) (cs : List Value) : Asn :=
 ⟨fun w F => F = [b] ∧ w.heap[b]? = some (.cells cs.toArray t (0, 0)), fun h hk => ⟨h.1, (hk b (by simp [h.1])).trans h.2⟩, fun h k hk => by rw [h.1] at hk; simp at hk; subst hk; exact lt_of_heap h.2⟩
def row (e : TypeId) (sz : Nat) (v : Value) (n : Nat) (xs : List Value) : Asn :=
 ⟨fun w F => F = v.ownBlock.toList ∧ w.ownsRow 0 e sz v n xs, fun h hk => ⟨h.1, own_kept h.2 fun k hv => hk k (by rw [h.1, hv]; simp)⟩, fun h k hk => by rw [h.1] at hk; exact own_lt h.2 (by simpa using hk)⟩
section
variable {s : Ro} {w w' : World} {rs : List Asn}
theorem Holds.var (H : Holds s w rs) {i b : Nat} {t : TypeId} {cs : List Value} (hi : rs[i]? = some (var b t cs)) : w.heap[b]? = some (.cells cs.toArray t (0, 0)) := by
 obtain ⟨F, _, h⟩ := H.get hi; exact h
theorem Holds.row (H : Holds s w rs) {i n sz : Nat} {e : TypeId} {v : Value} {xs : List Value} (hi : rs[i]? = some (row e sz v n xs)) : w.ownsRow 0 e sz v n xs := by
 obtain ⟨F, _, h⟩ := H.get hi; exact h
theorem Holds.setVar (H : Holds s w rs) {i b : Nat} {t : TypeId} {cs : List Value} (hi : rs[i]? = some (Own.var b t cs)) (cs' : List Value) : Holds s (w.setRow b cs'.toArray) (rs.set i (Own.var b t cs')) := by
 obtain ⟨F, ⟨rfl, h⟩, _, _, h3⟩ := H.upd hi
 exact h3 (Own.var b t cs') _ [b] ⟨rfl, setRow_heap _ _ _ _ _ _ h⟩ (only_setRow _ _ _ (by simp)) (by simp)
theorem Holds.alloc (H : Holds s w rs) (t : TypeId) (cs : List Value) : Holds s (w.alloc (.cells cs.toArray t)) (Own.var w.heap.size t cs :: rs) :=
 H.add (F1 := [w.heap.size]) ⟨rfl, heap_alloc_new _ _⟩ (only_alloc _ _ _) (by simp)
theorem Holds.nilRow (H : Holds s w rs) (e : TypeId) (sz : Nat) : Holds s w (Own.row e sz (.slice none 0 0) 0 [] :: rs) :=
 H.add (F1 := []) ⟨rfl, World.ownsRow_nil _ _ _ _⟩ (Only.refl _ _) (by simp)
def Pin (s : Ro) (g j : Nat) (x : Value) : Prop := ∃ cs t f, s.mem g = some (.cells cs t f) ∧ cs[j]? = some x
theorem Pin.mono {s' : Ro} {g j : Nat} {x : Value} (h : Pin s g j x) (hs : s.Le s') : Pin s' g j x := by
 obtain ⟨cs, t, f, h1, h2⟩ := h; exact ⟨cs, t, f, hs.mem _ _ h1, h2⟩
theorem Pin.cell {g j : Nat} {x : Value} (h : Pin s g j x) (hf : Fits s w) : w.cell? ⟨g, j, none⟩ = some x := by
 obtain ⟨cs, t, f, h1, h2⟩ := h
 rw [cell_of_row w g j cs t f (hf.mem _ _ h1)]; exact h2
def SlS (s : Ro) (v : Value) (sz n : Nat) (xs : List Value) : Prop := ∃ a c, v = .slice a n c ∧ xs.length = n * sz ∧ n ≤ c ∧ c ≤ maxLen ∧ (xs = [] ∨ ∃ g o, a = some ⟨g, o, none⟩ ∧ ∀ j x, xs[j]? = some x → Pin s g (o + j) x)
theorem SlS.mono {s' : Ro} {v : Value} {sz n : Nat} {xs : List Value} (h : SlS s v sz n xs) (hs : s.Le s') : SlS s' v sz n xs := by
 obtain ⟨a, c, h1, h2, h3, h4, h5⟩ := h
 exact ⟨a, c, h1, h2, h3, h4, h5.imp id fun ⟨g, o, h6, h7⟩ => ⟨g, o, h6, fun j x hx => (h7 j x hx).mono hs⟩⟩
theorem SlS.nil (s : Ro) (sz : Nat) : SlS s (.slice none 0 0) sz 0 [] := ⟨none, 0, rfl, by simp, Nat.le_refl _, Nat.zero_le _, .inl rfl⟩
theorem SlS.sl {v : Value} {sz n : Nat} {xs : List Value} (h : SlS s v sz n xs) (hf : Fits s w) : Sl w v sz n xs := by
 obtain ⟨a, c, rfl, h2, h3, h4, h5⟩ := h
 refine ⟨a, c, rfl, h2, h3, h4, fun j x hx => ?_⟩
 rcases h5 with rfl | ⟨g, o, rfl, h6⟩
 ·simp at hx
 ·exact ⟨_, rfl, by rw [Addr.add_mid]; exact (h6 j x hx).cell hf⟩
theorem SlS.pinned {v : Value} {sz n : Nat} {xs : List Value} (h : SlS s v sz n xs) (hx : xs ≠ []) {k : Nat} (hk : v.ownBlock = some k) : ∃ o, s.mem k = some o := by
 obtain ⟨a, c, rfl, h2, h3, h4, h5⟩ := h
 rcases h5 with rfl | ⟨g, o, rfl, h6⟩
 ·exact absurd rfl hx
 ·cases hk
  cases xs with
  | nil => exact absurd rfl hx
  | cons x r => obtain ⟨cs, t, f, h7, _⟩ := h6 0 x rfl; exact ⟨_, h7⟩
theorem SlS.start {v : Value} {sz n : Nat} {xs : List Value} (h : Sl w v sz n xs) : SlS (startRo w) v sz n xs := by
 obtain ⟨a, c, rfl, h2, h3, h4, h5⟩ := h
 refine ⟨a, c, rfl, h2, h3, h4, ?_⟩
 cases xs with
 | nil => exact .inl rfl
 | cons x r =>
  right
  obtain ⟨⟨g, o, sp⟩, rfl, hc⟩ := h5 0 x rfl
  have hsp : sp = none := by simpa [Addr.add] using World.cell?_spot hc
  subst hsp
  refine ⟨g, o, rfl, fun j y hy => ?_⟩
  obtain ⟨ad, ha, hcj⟩ := h5 j y hy
  cases ha
  rw [Addr.add_mid] at hcj
  obtain ⟨cs, t, f, hb⟩ := cells_of_cell hcj
  exact ⟨cs, t, f, hb, by rw [cell_of_row _ _ _ _ _ _ hb] at hcj; exact hcj⟩
theorem posS {v : Value} {sz n : Nat} {xs : List Value} (h : SlS s v sz n xs) (hn : 0 < n) (hz : 0 < sz) : ∃ g o c, v = .slice (some ⟨g, o, none⟩) n c ∧ n ≤ c ∧ c ≤ maxLen ∧ ∀ j x, xs[j]? = some x → Pin s g (o + j) x := by
 obtain ⟨a, c, rfl, h2, h3, h4, h5⟩ := h
 rcases h5 with rfl | ⟨g, o, rfl, h6⟩
 ·have : 0 < n * sz := Nat.mul_pos hn hz
  simp at h2; omega
 ·exact ⟨g, o, c, rfl, h3, h4, h6⟩
theorem Holds.fixRow {e : TypeId} {sz n : Nat} {v : Value} {xs : List Value} (H : Holds s w (Own.row e sz v n xs :: rs)) : ∃ s', s.Le s' ∧ Holds s' w rs ∧ SlS s' v sz n xs := by
 obtain ⟨F, s', ⟨rfl, ho⟩, hs, H', hm⟩ := H.fix
 refine ⟨s', hs, H', ?_⟩
 obtain ⟨h1, h2⟩ := ho
 rcases h2 with ⟨rfl, rfl⟩ | ⟨g, cap, cur, rfl, _, hg, h3, h4, h5, h6⟩
 ·have : xs = [] := List.eq_nil_of_length_eq_zero (by simpa using h1)
  subst this; exact SlS.nil _ _
 ·refine ⟨_, cap, rfl, h1, h3, h4, .inr ⟨g, 0, rfl, fun j x hx => ⟨cur, e, (0, 0), (hm g (by simp [Value.ownBlock])).trans hg, ?_⟩⟩⟩
  rw [Nat.zero_add]
  rw [← h6, List.getElem?_take] at hx
  split at hx
  ·simpa using hx
  ·cases hx
structure Src (s : Ro) (rs : List Asn) (v : Value) (sz n : Nat) (xs : List Value) : Prop where
 reads : ∀ w, Holds s w rs → Sl w v sz n xs
 blk : xs ≠ [] → ∀ k, v.ownBlock = some k → (∃ o, s.mem k = some o) ∨ ∃ (i : Nat) (A : Asn), rs[i]? = some A ∧ ∀ w F, A.p w F → k ∈ F
theorem Src.ro {v : Value} {sz n : Nat} {xs : List Value} (h : SlS s v sz n xs) : Src s rs v sz n xs := ⟨fun w H => h.sl H.fits, fun hx k hk => .inl (h.pinned hx hk)⟩
theorem Src.own {v : Value} {sz n : Nat} {xs : List Value} (i : Nat) (e : TypeId) (h : rs[i]? = some (row e sz v n xs)) : Src s rs v sz n xs :=
 ⟨fun w H => own_sl (H.row h), fun _ k hk => .inr ⟨i, _, h, fun w F hp => by rw [hp.1, hk]; simp⟩⟩
theorem Src.arr {v : Value} {sz n : Nat} {xs : List Value} (i b m : Nat) (t : TypeId) (h : rs[i]? = some (var b t xs)) (hv : v = .slice (some ⟨b, 0, none⟩) n m) (h1 : xs.length = n * sz) (h2 : n ≤ m) (h3 : m ≤ maxLen) : Src s rs v sz n xs := by
 refine ⟨fun w H => ⟨_, m, hv, h1, h2, h3, fun j x hx => ⟨_, rfl, ?_⟩⟩, fun _ k hk => .inr ⟨i, _, h, fun w F hp => by subst hv; cases hk; rw [hp.1]; simp⟩⟩
 rw [Addr.add_mid, Nat.zero_add, cell_of_row w b j _ _ _ (H.var h)]
 simpa using hx
theorem Src.sl {v : Value} {sz n : Nat} {xs : List Value} (h : Src s rs v sz n xs) (H : Holds s w rs) : Sl w v sz n xs := h.reads w H
def subAddr (a : Option Addr) (c l sz : Nat) : Option Addr := if c = l then a else a.map (·.add (l * sz))
theorem sl_sub {a : Option Addr} {c sz n l m : Nat} {xs : List Value} (h : Sl w (.slice a n c) sz n xs) (hl : l ≤ m) (hm : m ≤ n) : Sl w (.slice (subAddr a c l sz) (m - l) (c - l)) sz (m - l) ((xs.drop (l * sz)).take ((m - l) * sz)) := by
 obtain ⟨a', c', he, h1, h2, h3, h4⟩ := h
 cases he
 refine ⟨_, _, rfl, ?_, by omega, by omega, fun j x hx => ?_⟩
 ·have e : (m - l) * sz + l * sz = m * sz := by rw [← Nat.add_mul]; congr 1; omega
  have : m * sz ≤ n * sz := Nat.mul_le_mul_right _ hm
  rw [List.length_take, List.length_drop, h1]; omega
 ·have hj : j < (m - l) * sz := by
   have := (List.getElem?_eq_some_iff.1 hx).1
   rw [List.length_take] at this; omega
  rw [List.getElem?_take_of_lt hj, List.getElem?_drop] at hx
  obtain ⟨ad, rfl, hc⟩ := h4 _ x hx
  have hne : ¬ c = l := fun e => by
   have : m - l = 0 := by omega
   rw [this] at hj; omega
  refine ⟨ad.add (l * sz), by simp [subAddr, hne], ?_⟩
  have hadd : (ad.add (l * sz)).add j = ad.add (l * sz + j) := by
   unfold Addr.add
   by_cases h0 : l * sz = 0
   ·simp [h0]
   ·by_cases h1 : j = 0
    ·simp [h1]
    ·rw [if_neg h0, if_neg h1, if_neg (by omega)]; simp [Nat.add_assoc]
  rw [hadd]; exact hc
theorem sub_block {a : Option Addr} {c l sz n n' c' : Nat} {k : Nat} (h : (Value.slice (subAddr a c l sz) n c').ownBlock = some k) : (Value.slice a n' c).ownBlock = some k := by
 unfold subAddr at h
 split at h
 ·cases a <;> simp_all [Value.ownBlock]
 ·cases a with
  | none => simp [Value.ownBlock] at h
  | some ad => simp only [Option.map_some, Value.ownBlock, Option.some.injEq] at h ⊢; rw [← h, Reg.add_block]
theorem Src.sub {a : Option Addr} {c sz n l m : Nat} {xs : List Value} (h : Src s rs (.slice a n c) sz n xs) (hl : l ≤ m) (hm : m ≤ n) : Src s rs (.slice (subAddr a c l sz) (m - l) (c - l)) sz (m - l) ((xs.drop (l * sz)).take ((m - l) * sz)) :=
 ⟨fun w H => sl_sub (h.reads w H) hl hm, fun hx k hk => h.blk (fun e => hx (by simp [e])) k (sub_block hk)⟩
theorem Src.form {v : Value} {sz n : Nat} {xs : List Value} (h : Src s rs v sz n xs) (H : Holds s w rs) : ∃ a c, v = .slice a n c ∧ xs.length = n * sz ∧ n ≤ c ∧ c ≤ maxLen := by
 obtain ⟨a, c, h1, h2, h3, h4, _⟩ := h.reads w H; exact ⟨a, c, h1, h2, h3, h4⟩
theorem Holds.beside {A : Asn} (H : Holds s w (A :: rs)) {v : Value} {sz n : Nat} {xs : List Value} (h : Src s rs v sz n xs) : ∃ F, A.p w F ∧ (∀ k ∈ F, s.mem k = none) ∧ Stable w F v sz n xs ∧ (xs ≠ [] → ∀ k, v.ownBlock = some k → k ∉ F) ∧
  ∀ (A' : Asn) (w' : World) (F' : List Nat), A'.p w' F' → Only F w w' → (∀ k ∈ F', k ∈ F ∨ w.heap.size ≤ k) → Holds s w' (A' :: rs) := by
 obtain ⟨F, h1, h2, h3, h4⟩ := H.upd (i := 0) (A := A) rfl
 have hsl := h.sl H.tail
 have hd : xs ≠ [] → ∀ k, v.ownBlock = some k → k ∉ F := by
  intro hx k hk hF
  rcases h.blk hx k hk with ⟨o, ho⟩ | ⟨i, B, hi, hB⟩
  ·rw [h2 k hF] at ho; cases ho
  ·obtain ⟨G, g1, g2⟩ := h3 (i + 1) B (by omega) (by simpa using hi)
   exact g2 k (hB _ _ g1) hF
 refine ⟨F, h1, h2, ?_, hd, fun A' w' F' a b c => by simpa using h4 A' w' F' a b c⟩
 by_cases hx : xs = []
 ·subst hx; exact fun w' _ => sl_nil_any hsl
 ·exact stable_of hsl (hd hx)
theorem Holds.call {A : Asn} (H : Holds s w (A :: rs)) : ∃ F, A.p w F ∧ ∀ (A' : Asn) (w' : World) (F' : List Nat), A'.p w' F' → Only F w w' → (∀ k ∈ F', k ∈ F ∨ w.heap.size ≤ k) → Holds s w' (A' :: rs) := by
 obtain ⟨F, h1, h2, h3, h4⟩ := H.upd (i := 0) (A := A) rfl
 exact ⟨F, h1, fun A' w' F' a b c => by simpa using h4 A' w' F' a b c⟩
end
class OneC (P : Program) (ty : TypeId) : Prop where
 desc : ∃ d, P.underlying ty = some d ∧ d.isRow = false
 size : (P.info? ty).map (·.size) = some 1
class RowC (P : Program) (ty : TypeId) (n : outParam Nat) : Prop where
 desc : ∃ d, P.underlying ty = some d ∧ d.isRow = true
 size : (P.info? ty).map (·.size) = some n
class ZeroC (P : Program) (ty : TypeId) (z : outParam (List Value)) : Prop where
 zero : ∃ v, (P.info? ty).map (·.zero) = some (some v) ∧ v.cells = z.toArray
class ElC (P : Program) (t : TypeId) (e : outParam TypeId) (size bytes : outParam Nat) (z : outParam (List Value)) : Prop where
 el : ∃ v, ElT P t e size bytes v ∧ v.cells = z.toArray
class BytesC (P : Program) (t : TypeId) : Prop where
 el : ∃ e, P.underlying t = some (.slice e) ∧ P.underlying e = some (.int .u8) ∧ (P.info? e).map (fun i => (i.zero, i.size, i.bytes)) = some (some (.int .u8 0), 1, 1)
class StrC (P : Program) (t : TypeId) : Prop where
 str : P.underlying t = some .string
section
variable {P : Program} {ops : Array Oper} {rest : List Oper} {o : Oper} {a : Act} {w : World} {Q : Exit → Act → World → Prop} {s : Ro} {rs : List Asn}
theorem run_load1 {ty : TypeId} (T : OneC P ty) {b off : Nat} {v : Value} (hc : w.cell? ⟨b, off, none⟩ = some v) : (Instr.loadAt ty (.pointer (some ⟨b, off, none⟩))).run P w = .ok v w := by
 obtain ⟨d, hu, hd⟩ := T.desc
 have hagg : (isAgg ty).run P w = .ok false w := by
  unfold isAgg
  rw [Sem.run_bind, run_underlying hu w]
  cases d <;> simp_all
 simp [Instr.loadAt, Instr.sureAddr, loadVar, Sem.run_bind, hagg, hc]
theorem load_one {ty : TypeId} {x : Operand} [T : OneC P ty] {b off : Nat} {v : Value} (hw : Region.wanted o (yielded ops a.tmps) = true) (ho : o.op = .load ty x) (hx : a.eval x = .pointer (some ⟨b, off, none⟩)) (hc : w.cell? ⟨b, off, none⟩ = some v)
  (h : wpList P ops Q rest (a.put o.dst v) w) : wpList P ops Q (o :: rest) a w := by
 refine wpList_step fun K hK => ?_
 rw [if_pos hw]
 unfold Oper.wp execOp
 rw [ho]
 simp only [hx, Sem.run_bind, run_load1 T hc, Result.andThen_ok, Sem.run_pure, Oper.upon]
 exact hK _ _ h
theorem load_many {ty : TypeId} {x : Operand} {n : Nat} [T : RowC P ty n] {b off : Nat} {cs : List Value} (hw : Region.wanted o (yielded ops a.tmps) = true) (ho : o.op = .load ty x) (hx : a.eval x = .pointer (some ⟨b, off, none⟩)) (hc : w.rangeAt b off cs) (hn : cs.length = n)
  (h : wpList P ops Q rest (a.put o.dst (.agg cs.toArray)) w) : wpList P ops Q (o :: rest) a w := by
 refine wpList_step fun K hK => ?_
 rw [if_pos hw]
 obtain ⟨d, hu, hd⟩ := T.desc
 unfold Oper.wp execOp
 rw [ho]
 simp only [hx, Sem.run_bind, run_loadAt_mid w b off ty cs d hc hu hd (by rw [hn]; exact T.size), Result.andThen_ok, Sem.run_pure, Oper.upon]
 exact hK _ _ h
theorem sl_load {ty : TypeId} {x : Operand} [OneC P ty] (i : Nat) {b off : Nat} {t : TypeId} {cs : List Value} {v : Value} (H : Holds s w rs) (hw : Region.wanted o (yielded ops a.tmps) = true) (ho : o.op = .load ty x) (hx : a.eval x = .pointer (some ⟨b, off, none⟩)) (hi : rs[i]? = some (var b t cs)) (hv : cs[off]? = some v)
  (h : wpList P ops Q rest (a.put o.dst v) w) : wpList P ops Q (o :: rest) a w :=
 load_one hw ho hx (by rw [cell_of_row w b off _ _ _ (H.var hi)]; simpa using hv) h
theorem sl_loadall {ty : TypeId} {x : Operand} {n : Nat} [RowC P ty n] (i : Nat) {b : Nat} {t : TypeId} {cs : List Value} (H : Holds s w rs) (hw : Region.wanted o (yielded ops a.tmps) = true) (ho : o.op = .load ty x) (hx : a.eval x = .pointer (some ⟨b, 0, none⟩)) (hi : rs[i]? = some (var b t cs)) (hn : cs.length = n)
  (h : wpList P ops Q rest (a.put o.dst (.agg cs.toArray)) w) : wpList P ops Q (o :: rest) a w :=
 load_many hw ho hx (fun j v hv => by rw [cell_of_row w b _ _ _ _ (H.var hi)]; simpa using hv) hn h
theorem sl_loadpart {ty : TypeId} {x : Operand} {n : Nat} [RowC P ty n] (i : Nat) {b off : Nat} {t : TypeId} {cs : List Value} (xs : List Value) (H : Holds s w rs) (hw : Region.wanted o (yielded ops a.tmps) = true) (ho : o.op = .load ty x) (hx : a.eval x = .pointer (some ⟨b, off, none⟩)) (hi : rs[i]? = some (var b t cs)) (hxs : (cs.drop off).take n = xs) (hn : xs.length = n)
  (h : wpList P ops Q rest (a.put o.dst (.agg xs.toArray)) w) : wpList P ops Q (o :: rest) a w :=
 load_many hw ho hx (fun j v hv => by
  rw [cell_of_row w b _ _ _ _ (H.var hi)]
  have hj : j < xs.length := (List.getElem?_eq_some_iff.1 hv).1
  rw [← hxs, List.getElem?_take_of_lt (by omega), List.getElem?_drop] at hv
  simpa using hv) hn h
theorem sl_loadS {ty : TypeId} {x : Operand} [OneC P ty] {g off off' : Nat} {v : Value} (H : Holds s w rs) (hp : Pin s g off' v) (hw : Region.wanted o (yielded ops a.tmps) = true) (ho : o.op = .load ty x) (hx : a.eval x = .pointer (some ⟨g, off, none⟩)) (he : off = off')
  (h : wpList P ops Q rest (a.put o.dst v) w) : wpList P ops Q (o :: rest) a w := by
 subst he
 exact load_one hw ho hx (hp.cell H.fits) h
theorem sl_loadallS {ty : TypeId} {x : Operand} {n : Nat} [RowC P ty n] {g off off' : Nat} {cs : List Value} (H : Holds s w rs) (hp : ∀ j v, cs[j]? = some v → Pin s g (off' + j) v) (hw : Region.wanted o (yielded ops a.tmps) = true) (ho : o.op = .load ty x) (hx : a.eval x = .pointer (some ⟨g, off, none⟩)) (he : off = off') (hn : cs.length = n)
  (h : wpList P ops Q rest (a.put o.dst (.agg cs.toArray)) w) : wpList P ops Q (o :: rest) a w := by
 subst he
 exact load_many hw ho hx (fun j v hv => (hp j v hv).cell H.fits) hn h
theorem sl_store {ty : TypeId} {x y : Operand} [T : OneC P ty] (i : Nat) {b off : Nat} {t : TypeId} {cs : List Value} {v : Value} (H : Holds s w rs) (hw : Region.wanted o (yielded ops a.tmps) = true) (ho : o.op = .store ty x y) (hx : a.eval x = .pointer (some ⟨b, off, none⟩)) (hi : rs[i]? = some (var b t cs)) (hy : a.eval y = v) (h1 : v.oneCell' = true) (hl : off < cs.length)
  (h : ∀ w', Holds s w' (rs.set i (var b t (cs.set off v))) → wpList P ops Q rest (a.put o.dst undef) w') : wpList P ops Q (o :: rest) a w := by
 refine wpList_step fun K hK => ?_
 rw [if_pos hw]
 have hb := H.var hi
 have hi1 := T.size
 have hcv : v.cells = #[v] := by cases v <;> first | rfl | cases h1
 cases hq : P.info? ty with
 | none => simp [hq] at hi1
 | some ii =>
  have hs1 : ii.size = 1 := by simpa [hq] using hi1
  have hst := run_storeCells_at P b off t [v] 0 cs.toArray w hb (by simp; omega) (fun u hu => by simp at hu; subst hu; exact h1)
  have hst' : (storeVar ty ⟨b, off, none⟩ v).run P w = .ok () (w.setRow b (cs.set off v).toArray) := by
   simp only [Nat.add_zero] at hst
   simp [storeVar, sizeOf, typeInfo, hq, hcv, hs1, hst]
   congr 2
   rw [List.set_eq_take_append_cons_drop, if_pos hl]
  unfold Oper.wp execOp
  rw [ho]
  simp only [hx, hy, Instr.storeAt, Instr.sureAddr, Sem.run_bind, Sem.run_pure, Result.andThen_ok, hst', Oper.upon]
  exact hK _ _ (h _ (H.setVar hi _))
theorem sl_storepart {ty : TypeId} {x y : Operand} {n : Nat} [T : RowC P ty n] (i : Nat) {b off : Nat} {t : TypeId} {cs xs : List Value} (H : Holds s w rs) (hw : Region.wanted o (yielded ops a.tmps) = true) (ho : o.op = .store ty x y) (hx : a.eval x = .pointer (some ⟨b, off, none⟩)) (hi : rs[i]? = some (var b t cs)) (hy : a.eval y = .agg xs.toArray) (h1 : ∀ v ∈ xs, v.oneCell' = true) (hn : xs.length = n) (hl : off + n ≤ cs.length)
  (h : ∀ w', Holds s w' (rs.set i (var b t (cs.take off ++ xs ++ cs.drop (off + n)))) → wpList P ops Q rest (a.put o.dst undef) w') : wpList P ops Q (o :: rest) a w := by
 refine wpList_step fun K hK => ?_
 rw [if_pos hw]
 have hb := H.var hi
 have hs := T.size
 cases hq : P.info? ty with
 | none => simp [hq] at hs
 | some ii =>
  simp [hq] at hs
  have hst := run_storeCells_at P b off t xs 0 cs.toArray w hb (by simp; omega) h1
  simp only [Nat.add_zero] at hst
  have hst' : (storeVar ty ⟨b, off, none⟩ (.agg xs.toArray)).run P w = .ok () (w.setRow b (cs.take off ++ xs ++ cs.drop (off + n)).toArray) := by
   simp [storeVar, sizeOf, typeInfo, hq, Value.cells, hs, hn]
   simpa [hn] using hst
  unfold Oper.wp execOp
  rw [ho]
  simp only [hx, hy, Instr.storeAt, Instr.sureAddr, Sem.run_bind, Sem.run_pure, Result.andThen_ok, hst', Oper.upon]
  exact hK _ _ (h _ (H.setVar hi _))
theorem sl_storeall {ty : TypeId} {x y : Operand} {n : Nat} [T : RowC P ty n] (i : Nat) {b : Nat} {t : TypeId} {cs xs : List Value} (H : Holds s w rs) (hw : Region.wanted o (yielded ops a.tmps) = true) (ho : o.op = .store ty x y) (hx : a.eval x = .pointer (some ⟨b, 0, none⟩)) (hi : rs[i]? = some (var b t cs)) (hy : a.eval y = .agg xs.toArray) (h1 : ∀ v ∈ xs, v.oneCell' = true) (hn : xs.length = n) (hl : cs.length = n)
  (h : ∀ w', Holds s w' (rs.set i (var b t xs)) → wpList P ops Q rest (a.put o.dst undef) w') : wpList P ops Q (o :: rest) a w :=
 sl_storepart i H hw ho hx hi hy h1 hn (by omega) (fun w' H' => h w' (by rwa [List.take_zero, List.nil_append, Nat.zero_add, List.drop_of_length_le (by omega), List.append_nil] at H'))
theorem sl_box {ty : TypeId} {x : Operand} {cs : List Value} (H : Holds s w rs) (hw : Region.wanted o (yielded ops a.tmps) = true) (ho : o.op = .box ty x) (hx : a.eval x = .agg cs.toArray)
  (h : ∀ b w', Holds s w' (var b ty cs :: rs) → wpList P ops Q rest (a.put o.dst (.pointer (some ⟨b, 0, none⟩))) w') : wpList P ops Q (o :: rest) a w := by
 refine wpList_step fun K hK => ?_
 rw [if_pos hw]
 unfold Oper.wp execOp
 simp only [ho, hx, Sem.run_bind, Instr.box, newVar, newRow, run_newObj_alloc, Sem.run_pure, Result.andThen_ok, Value.cells]
 exact hK _ _ (h _ _ (H.alloc ty cs))
theorem sl_box1 {ty : TypeId} {x : Operand} {v : Value} (H : Holds s w rs) (hw : Region.wanted o (yielded ops a.tmps) = true) (ho : o.op = .box ty x) (hx : a.eval x = v) (h1 : v.oneCell' = true)
  (h : ∀ b w', Holds s w' (var b ty [v] :: rs) → wpList P ops Q rest (a.put o.dst (.pointer (some ⟨b, 0, none⟩))) w') : wpList P ops Q (o :: rest) a w := by
 refine wpList_step fun K hK => ?_
 rw [if_pos hw]
 have hcv : v.cells = [v].toArray := by cases v <;> first | rfl | cases h1
 unfold Oper.wp execOp
 simp only [ho, hx, Sem.run_bind, Instr.box, newVar, newRow, run_newObj_alloc, Sem.run_pure, Result.andThen_ok, hcv]
 exact hK _ _ (h _ _ (H.alloc ty [v]))
theorem sl_alloc {ty : TypeId} {z : List Value} [T : ZeroC P ty z] (H : Holds s w rs) (hw : Region.wanted o (yielded ops a.tmps) = true) (ho : o.op = .alloc ty)
  (h : ∀ b w', Holds s w' (var b ty z :: rs) → wpList P ops Q rest (a.put o.dst (.pointer (some ⟨b, 0, none⟩))) w') : wpList P ops Q (o :: rest) a w := by
 refine wpList_step fun K hK => ?_
 rw [if_pos hw]
 obtain ⟨v, hz, hc⟩ := T.zero
 cases hi : P.info? ty with
 | none => simp [hi] at hz
 | some i =>
  simp [hi] at hz
  unfold Oper.wp execOp
  rw [ho]
  have : (Instr.alloc ty true (.tuple #[])).run P w = .ok (.pointer (some ⟨w.heap.size, 0, none⟩)) (w.alloc (.cells z.toArray ty)) := by
   simp [Instr.alloc, zeroValue, typeInfo, hi, hz, newVar, newRow, hc]
  simp only [Sem.run_bind, this, Result.andThen_ok, Sem.run_pure, Oper.upon]
  exact hK _ _ (h _ _ (H.alloc ty z))
theorem sl_empty {t e : TypeId} {size bytes : Nat} {z : List Value} [E : ElC P t e size bytes z] (H : Holds s w rs) (hw : Region.wanted o (yielded ops a.tmps) = true) (ho : o.op = .buildSlice t 0 #[])
  (h : ∀ g w', Holds s w' (row e size (.slice (some ⟨g, 0, none⟩) 0 0) 0 [] :: rs) → wpList P ops Q rest (a.put o.dst (.slice (some ⟨g, 0, none⟩) 0 0)) w') : wpList P ops Q (o :: rest) a w := by
 refine wpList_step fun K hK => ?_
 rw [if_pos hw]
 obtain ⟨v, E', hc⟩ := E.el
 obtain ⟨i, hi, hz, hsz, hby⟩ := E'.info
 have hrun : (Instr.buildSlice t 0 #[]).run P w = .ok (.slice (some ⟨w.heap.size, 0, none⟩) 0 0) (w.alloc (.cells #[] e)) := by
  simp [Instr.buildSlice, run_underlying E'.slice, zeroValue, typeInfo, hi, hz, sizeOf, newRow, Instr.fill]
  rw [show Array.range 0 = #[] from by apply Array.ext <;> simp, Array.map_empty]
 unfold Oper.wp execOp
 rw [ho]
 simp only [Array.map_empty, List.map_toArray, List.map_nil, Sem.run_bind, hrun, Result.andThen_ok, Sem.run_pure, Oper.upon]
 refine hK _ _ (h _ _ (H.add (F1 := [w.heap.size]) ⟨rfl, ?_⟩ (only_alloc _ _ _) (by simp)))
 exact own_base (World.ownsRow_made (e := e) (size := size) w #[] 0 (Nat.le_refl _) (by decide) (by simp)) (fun _ _ => Nat.zero_le _)
theorem sl_one {t e : TypeId} {size bytes : Nat} {z : List Value} [E : ElC P t e size bytes z] {x : Operand} {cs : List Value} (H : Holds s w rs) (hsm : size ≤ 16777216) (hgd : o.guard = none) (ho : o.op = .buildSlice t 1 #[(0, x)]) {v : Value} (hx : a.eval x = v) (hcs : v.cells = cs.toArray) (hv : cs.length = size)
  (h : ∀ g w', Holds s w' (row e size (.slice (some ⟨g, 0, none⟩) 1 1) 1 cs :: rs) → wpList P ops Q rest (a.put o.dst (.slice (some ⟨g, 0, none⟩) 1 1)) w') : wpList P ops Q (o :: rest) a w := by
 obtain ⟨u, E', _⟩ := E.el
 refine one_slice (v := v) E' hsm hgd ho hx (by rw [hcs]; simpa using hv) ?_
 rw [hcs]
 refine h _ _ (H.add (F1 := [w.heap.size]) ⟨rfl, ?_⟩ (only_alloc _ _ _) (by simp))
 exact ⟨by rw [hv]; simp, .inr ⟨_, 1, cs.toArray, rfl, Nat.zero_le _, heap_alloc_new _ _, Nat.le_refl _, by decide, by simp [hv], by simp [← hv]⟩⟩
theorem Holds.only_row (H : Holds s w rs) {i n sz : Nat} {e : TypeId} {v : Value} {xs : List Value} (hi : rs[i]? = some (Own.row e sz v n xs)) {w' : World} {v' : Value} {n' : Nat} {xs' : List Value} (hr : w'.ownsRow 0 e sz v' n' xs') (ho : Only v.ownBlock.toList w w') (hb : ∀ k, v'.ownBlock = some k → v.ownBlock = some k ∨ w.heap.size ≤ k) : Holds s w' (rs.set i (Own.row e sz v' n' xs')) := by
 obtain ⟨F, ⟨rfl, h⟩, _, _, h3⟩ := H.upd hi
 exact h3 (Own.row e sz v' n' xs') _ _ ⟨rfl, hr⟩ ho (fun k hk => (hb k (by simpa using hk)).imp (fun h => by simp [h]) id)
theorem sl_append {t e : TypeId} {size bytes : Nat} {z : List Value} [E : ElC P t e size bytes z] {x y : Operand} (i : Nat) {v xv : Value} {n m : Nat} {xs news : List Value} (H : Holds s w rs) (hi : rs[i]? = some (row e size v n xs)) (hsrc : Src s rs xv size m news) (h1 : ∀ u ∈ news, u.oneCell' = true) (h63 : n + m ≤ maxLen) (hbytes : (n + m) * bytes ≤ 140737488355328)
  (hgd : o.guard = none) (ho : o.op = .call { callee := .builtin .append, args := #[x, y], argTypes := #[t, t] }) (hx : a.eval x = v) (hy : a.eval y = xv)
  (h : ∀ aa cc w', Holds s w' (rs.set i (row e size (.slice aa (n + m) cc) (n + m) (xs ++ news))) → wpList P ops Q rest (a.put o.dst (.slice aa (n + m) cc)) w') : wpList P ops Q (o :: rest) a w := by
 obtain ⟨u, E', _⟩ := E.el
 refine append_row (v := v) (xv := xv) E' hgd ho hx (H.row hi) hy (hsrc.sl H) h1 h63 hbytes ?_
 intro v' w' hq1 hq2 hq3
 obtain ⟨aa, cc, rfl, _⟩ := own_sl hq1
 exact h aa cc w' (H.only_row hi hq1 hq2 hq3)
theorem flat_rep_get {z : List Value} : ∀ (k j : Nat), j < k * z.length → (List.replicate k z).flatten[j]? = z[j % z.length]?
 | 0, j, h => by simp at h
 | k + 1, j, h => by
  rw [List.replicate_succ, List.flatten_cons]
  by_cases hj : j < z.length
  ·rw [List.getElem?_append_left hj, Nat.mod_eq_of_lt hj]
  ·rw [List.getElem?_append_right (by omega), flat_rep_get k (j - z.length) (by rw [Nat.add_mul] at h; omega), ← Nat.mod_eq_sub_mod (by omega)]
theorem made_flat {z : List Value} {size : Nat} (hz : z.length = size) (hp : 0 < size) {k : Nat} : (madeCells z.toArray (k * size)).toList = (List.replicate k z).flatten := by
 apply List.ext_getElem?
 intro j
 by_cases hj : j < k * size
 ·rw [flat_rep_get k j (by rw [hz]; exact hj)]
  have hm : j % z.length < z.length := Nat.mod_lt _ (by omega)
  simp only [madeCells, Array.toList_map, Array.toList_range, List.getElem?_map, List.getElem?_range hj, Option.map_some, List.size_toArray]
  rw [List.getElem?_eq_getElem hm]
  simp [hm]
 ·rw [List.getElem?_eq_none (by simp [size_madeCells]; omega), List.getElem?_eq_none (by simp [hz]; omega)]
theorem sl_make {t e : TypeId} {size bytes : Nat} {z : List Value} [E : ElC P t e size bytes z] {l c : Operand} {n m : Nat} {k k' : IntKind} (H : Holds s w rs) (hgd : o.guard = none) (ho : o.op = .makeSlice t l c) (hl : a.eval l = .int k (n : Int)) (hc : a.eval c = .int k' (m : Int)) (hnm : n ≤ m) (hm : bytes * m ≤ 140737488355328) (hmx : m ≤ maxLen)
  (h : ∀ g w', Holds s w' (row e size (.slice (some ⟨g, 0, none⟩) n m) n (List.replicate n z).flatten :: rs) → wpList P ops Q rest (a.put o.dst (.slice (some ⟨g, 0, none⟩) n m)) w') : wpList P ops Q (o :: rest) a w := by
 obtain ⟨u, E', hz⟩ := E.el
 refine make_sl E' hgd ho hl hc hnm hm (by unfold maxLen at hmx; omega) ?_
 refine h _ _ (H.add (F1 := [w.heap.size]) ⟨rfl, ?_⟩ (only_alloc _ _ _) (by simp))
 have hzl : z.length = size := by have := E'.zlen; rw [hz] at this; simpa using this
 refine ⟨by simp [hzl], .inr ⟨_, m, _, rfl, Nat.zero_le _, heap_alloc_new _ _, hnm, hmx, by simp [size_madeCells], ?_⟩⟩
 rw [hz, made_flat hzl E'.pos, ← Nat.add_sub_cancel' hnm, ← List.replicate_append_replicate, List.flatten_append, List.take_append_of_le_length (by simp [hzl]), List.take_of_length_le (by simp [hzl])]
end
end Go.Own
