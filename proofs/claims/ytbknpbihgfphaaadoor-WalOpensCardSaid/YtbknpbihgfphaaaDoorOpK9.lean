/- More rules of the walk: arithmetic without a sign, a string's bytes. Over any program. More rules of the walk: structs within variables. Over any program. More rules of the walk: a slice that grows by noughts, parts of variables as slices, copies into them. Over any program. octet: Put, number, Get, as plain data and walked. -/
import Derived.Test.YtbknpbihgfphaaaDoorOpK6
import Derived.Test.YtbknpbihgfphaaaDoorOpRf
import Derived.Test.YtbknpbihgfphaaaDoorOpK3
set_option linter.unusedSimpArgs false
set_option linter.unusedVariables false
namespace Go.Own
open Go Go.RowKit
section
variable {P : Program} {n : Nat} {ops : Array Oper} {Q : Post} {rest : List Oper} {e : Env} {w w' : World} {s : Ro} {rs : List Asn} {tt : Nat} {pp : String} {af : Array Edge} {g : Option (Nat × Bool)} {d : Nat}
theorem B.add {x y : Operand} {t u : TypeId} {k : IntKind} {B a b : Nat} [T : IntC P t k] [U : Uns k B] (h : L P n ops Q rest (upd e d (.int k ((a + b : Nat) : Int))) w) (hw : wg n ops g e = true := by rfl) (hd : Nat.blt d n = true := by rfl) (hx : ev e x = .int k (a : Int) := by rfl) (hy : ev e y = .int k (b : Int) := by rfl) (hb : a + b < 2 ^ B := by first | assumption | decide | omega) : L P n ops Q (⟨some d, .binOp .add t x y u, tt, pp, af, g⟩ :: rest) e w :=
  K.arith _ hw hd hx hy (by
    show some (k.wrap ((a : Int) + (b : Int))) = some ((a + b : Nat) : Int)
    rw [← Int.natCast_add, uwrap_lt hb]) h
theorem B.sub {x y : Operand} {t u : TypeId} {k : IntKind} {B a b : Nat} [T : IntC P t k] [U : Uns k B] (h : L P n ops Q rest (upd e d (.int k ((a - b : Nat) : Int))) w) (hw : wg n ops g e = true := by rfl) (hd : Nat.blt d n = true := by rfl) (hx : ev e x = .int k (a : Int) := by rfl) (hy : ev e y = .int k (b : Int) := by rfl) (ha : a < 2 ^ B := by first | assumption | decide | omega) (hb : b ≤ a := by first | assumption | decide | omega) : L P n ops Q (⟨some d, .binOp .sub t x y u, tt, pp, af, g⟩ :: rest) e w :=
  K.arith _ hw hd hx hy (by
    show some (k.wrap ((a : Int) - (b : Int))) = some ((a - b : Nat) : Int)
    rw [← Int.ofNat_sub hb, uwrap_lt (Nat.lt_of_le_of_lt (Nat.sub_le _ _) ha)]) h
theorem B.mul {x y : Operand} {t u : TypeId} {k : IntKind} {B a b : Nat} [T : IntC P t k] [U : Uns k B] (h : L P n ops Q rest (upd e d (.int k ((a * b % 2 ^ B : Nat) : Int))) w) (hw : wg n ops g e = true := by rfl) (hd : Nat.blt d n = true := by rfl) (hx : ev e x = .int k (a : Int) := by rfl) (hy : ev e y = .int k (b : Int) := by rfl) : L P n ops Q (⟨some d, .binOp .mul t x y u, tt, pp, af, g⟩ :: rest) e w :=
  K.arith _ hw hd hx hy (by
    show some (k.wrap ((a : Int) * (b : Int))) = some ((a * b % 2 ^ B : Nat) : Int)
    rw [← Int.natCast_mul, uwrap]) h
theorem B.rem {x y : Operand} {t u : TypeId} {k : IntKind} {B a b : Nat} [T : IntC P t k] [U : Uns k B] (h : L P n ops Q rest (upd e d (.int k ((a % b : Nat) : Int))) w) (hw : wg n ops g e = true := by rfl) (hd : Nat.blt d n = true := by rfl) (hx : ev e x = .int k (a : Int) := by rfl) (hy : ev e y = .int k (b : Int) := by rfl) (hb : 0 < b := by first | assumption | decide | omega) : L P n ops Q (⟨some d, .binOp .rem t x y u, tt, pp, af, g⟩ :: rest) e w :=
  K.rem hw hd hx hy (by omega) (by rw [← Int.ofNat_tmod]; exact h)
theorem B.quo {x y : Operand} {t u : TypeId} {k : IntKind} {B a b : Nat} [T : IntC P t k] [U : Uns k B] (h : L P n ops Q rest (upd e d (.int k ((a / b : Nat) : Int))) w) (hw : wg n ops g e = true := by rfl) (hd : Nat.blt d n = true := by rfl) (hx : ev e x = .int k (a : Int) := by rfl) (hy : ev e y = .int k (b : Int) := by rfl) (ha : a < 2 ^ B := by first | assumption | decide | omega) (hb : 0 < b := by first | assumption | decide | omega) : L P n ops Q (⟨some d, .binOp .quo t x y u, tt, pp, af, g⟩ :: rest) e w :=
  L.val (o := ⟨some d, .binOp .quo t x y u, tt, pp, af, g⟩) _ w hw hd (by
    have h1 : (b : Int) ≠ 0 := by omega
    have h2 : k.wrap ((a : Int).tdiv (b : Int)) = ((a / b : Nat) : Int) := by
      rw [← Int.ofNat_tdiv, uwrap_lt (Nat.lt_of_le_of_lt (Nat.div_le_self _ _) ha)]
    unfold execOp
    simp only [hx, hy, eqGuard, binOp, Op.intDiv, if_neg h1, h2]
    simp) h
/-- a string's byte -/
theorem X.sidx {x y : Operand} {t : TypeId} [T : StrC P t] {l : List UInt8} {k : IntKind} {ii : Int} (i : Nat) (h : L P n ops Q rest (upd e d (.int .u8 ((l[i]?.getD 0).toNat : Int))) w) (hw : wg n ops g e = true := by rfl) (hd : Nat.blt d n = true := by rfl) (hx : ev e x = .string ⟨l.toArray⟩ := by rfl) (hy : ev e y = .int k ii := by rfl) (hii : ii = (i : Int) := by first | rfl | omega) (hl : i < l.length := by first | assumption | decide | omega) : L P n ops Q (⟨some d, .index t x y, tt, pp, af, g⟩ :: rest) e w :=
  L.val (o := ⟨some d, .index t x y, tt, pp, af, g⟩) _ w hw hd (by
    subst hii
    have := run_index_string w t ⟨l.toArray⟩ k (i : Int) T.str
    have hs : (⟨l.toArray⟩ : ByteArray).size = l.length := by simp [ByteArray.size]
    rw [dif_pos (by rw [hs]; omega)] at this
    have hg : ((⟨l.toArray⟩ : ByteArray)[(i : Int).toNat]'(by rw [hs]; omega)) = l[i]?.getD 0 := by
      simp [ByteArray.getElem_eq_getElem_data, hl]
    rw [hg] at this
    unfold execOp
    simp [hx, hy, this]) h
/-- a block of bytes that a string gave -/
def brow (b : Nat) (t : TypeId) (n c : Nat) (l : List UInt8) : Asn :=
  ⟨fun w F => F = [b] ∧ ∃ cur fz, w.heap[b]? = some (.cells cur t fz) ∧ n ≤ c ∧ c ≤ maxLen ∧ cur.size = c ∧ cur.toList.take n = u8s l ∧ l.length = n ∧ cur.size ≤ fz.1, fun h hk => ⟨h.1, by
    obtain ⟨_, cur, fz, hb, r⟩ := h
    exact ⟨cur, fz, (hk b (by simp [*])).trans hb, r⟩⟩, fun h k hk => by
    obtain ⟨h1, cur, fz, hb, r⟩ := h
    rw [h1] at hk; simp at hk; subst hk; exact lt_of_heap hb⟩
theorem K.bts {x : Operand} {t u el : TypeId} {by_ : Nat} {zz : List Value} [T : StrC P t] [E : ElC P u el 1 by_ zz] {l : List UInt8} (H : Holds s w rs) (he : P.underlying el = some (.int .u8)) (hl : l.length ≤ maxLen) (hw : wg n ops g e = true) (hd : Nat.blt d n = true) (hx : ev e x = .string ⟨l.toArray⟩)
    (h : ∀ b c w', Holds s w' (brow b el l.length c l :: rs) → L P n ops Q rest (upd e d (.slice (some ⟨b, 0, none⟩) l.length c)) w') : L P n ops Q (⟨some d, .convert t u x, tt, pp, af, g⟩ :: rest) e w := by
  obtain ⟨v, E', _⟩ := E.el
  have hrun := run_bytes_of_string w t u el ⟨l.toArray⟩ T.str E'.slice he
  have hs : (⟨l.toArray⟩ : ByteArray).size = l.length := by simp [ByteArray.size]
  rw [hs] at hrun
  have hge := grownCap_ge w l.length 0 el
  have hle := grownCap_le_maxLen w l.length 0 el hl
  have hsz : (bytesRow ⟨l.toArray⟩ (grownCap w l.length 0 el)).size = grownCap w l.length 0 el := by simp [bytesRow, hs]; omega
  have htk : (bytesRow ⟨l.toArray⟩ (grownCap w l.length 0 el)).toList.take l.length = u8s l := by
    unfold bytesRow u8s u8
    simp
  generalize bytesRow ⟨l.toArray⟩ (grownCap w l.length 0 el) = C at *
  generalize grownCap w l.length 0 el = c at *
  refine L.val (o := ⟨some d, .convert t u x, tt, pp, af, g⟩) _ _ hw hd ?_ (h w.heap.size c _ (H.add (F1 := [w.heap.size]) (w' := w.drew.alloc (.cells C el (C.size, C.size + 1))) ⟨rfl, C, (C.size, C.size + 1), ?_, hge, hle, hsz, htk, rfl, Nat.le_refl _⟩ (by
    have h1 := only_alloc [] w.drew (.cells C el (C.size, C.size + 1))
    exact (only_drew [] w).trans h1) (by simp)))
  · unfold execOp
    simp [hx, hrun]
  · have := heap_alloc_new w.drew (.cells C el (C.size, C.size + 1))
    exact this
theorem Holds.fixBrow {b c : Nat} {t : TypeId} {l : List UInt8} (H : Holds s w (brow b t l.length c l :: rs)) : ∃ s', s.Le s' ∧ Holds s' w rs ∧ SlS s' (.slice (some ⟨b, 0, none⟩) l.length c) 1 l.length (u8s l) := by
  obtain ⟨F, s', ⟨hF, cur, fz, hb, h1, h2, h3, h4, h5, h6⟩, hle, H', hm⟩ := H.fix
  refine ⟨s', hle, H', _, c, rfl, by rw [u8s_len]; simp, h1, h2, .inr ⟨b, 0, rfl, fun j x hx => ⟨cur, t, fz, by rw [hm b (by simp [hF])]; exact hb, ?_⟩⟩⟩
  rw [← h4, List.getElem?_take] at hx
  split at hx
  · simpa using hx
  · cases hx
/-- []byte(s), only read from now on -/
theorem X.bts {x : Operand} {t u el : TypeId} {by_ : Nat} {zz : List Value} [T : StrC P t] [E : ElC P u el 1 by_ zz] {l : List UInt8} (H : Holds s w rs)
    (h : ∀ s' b c w', s.Le s' → Holds s' w' rs → SlS s' (.slice (some ⟨b, 0, none⟩) l.length c) 1 l.length (u8s l) → L P n ops Q rest (upd e d (.slice (some ⟨b, 0, none⟩) l.length c)) w') (he : P.underlying el = some (.int .u8)) (hw : wg n ops g e = true := by rfl) (hd : Nat.blt d n = true := by rfl) (hx : ev e x = .string ⟨l.toArray⟩ := by rfl) (hl : l.length ≤ maxLen := by first | assumption | (unfold maxLen; omega)) : L P n ops Q (⟨some d, .convert t u x, tt, pp, af, g⟩ :: rest) e w :=
  K.bts H he hl hw hd hx fun b c w' H' => by
    obtain ⟨s', hle, H2, hs⟩ := H'.fixBrow
    exact h s' b c w' hle H2 hs
end
end Go.Own
set_option linter.unusedSimpArgs false
set_option linter.unusedVariables false
namespace Go.Own
open Go Go.RowKit
section
variable {P : Program} {n : Nat} {ops : Array Oper} {Q : Post} {rest : List Oper} {e : Env} {w w' : World} {s : Ro} {rs : List Asn} {tt : Nat} {pp : String} {af : Array Edge} {g : Option (Nat × Bool)} {d : Nat}
/-- a struct within a variable is read -/
theorem X.ldp {ty : TypeId} {x : Operand} {k : Nat} [RowC P ty k] {b off : Nat} {t : TypeId} {cs : List Value} {f : List Value → List Asn} (ys : List Value) (H : Holds s w rs) (h : L P n ops Q rest (upd e d (.agg ys.toArray)) w) (hw : wg n ops g e = true := by rfl) (hd : Nat.blt d n = true := by rfl) (hx : ev e x = .pointer (some ⟨b, off, none⟩) := by rfl) (T : PutV rs b t cs f := by infer_instance) (hys : (cs.drop off).take k = ys := by rfl) (hn : ys.length = k := by rfl) : L P n ops Q (⟨some d, .load ty x, tt, pp, af, g⟩ :: rest) e w := by
  obtain ⟨i, hi, _⟩ := T.ix
  exact K.loadPart i ys H hw hd hx hi hys hn h
/-- a struct within a variable is written -/
theorem X.stp {ty : TypeId} {x y : Operand} {k : Nat} [T : RowC P ty k] {b off : Nat} {t : TypeId} {cs ys : List Value} {f : List Value → List Asn} (cs' : List Value) (H : Holds s w rs) (h : ∀ w', Holds s w' (f cs') → L P n ops Q rest e w') (hw : wg n ops g e = true := by rfl) (hx : ev e x = .pointer (some ⟨b, off, none⟩) := by rfl) (V : PutV rs b t cs f := by infer_instance) (hy : ev e y = .agg ys.toArray := by rfl) (hcs : cs.take off ++ ys ++ cs.drop (off + k) = cs' := by rfl) (h1 : ys.all Value.oneCell' = true := by rfl) (hn : ys.length = k := by rfl) (hl : Nat.ble (off + k) cs.length = true := by rfl) : L P n ops Q (⟨none, .store ty x y, tt, pp, af, g⟩ :: rest) e w := by
  obtain ⟨i, hi, hf⟩ := V.ix
  subst hcs
  refine ⟨fun a ha => sl_storepart i H (by rw [ha.wn]; exact hw) rfl (by rw [ha.eval]; exact hx) hi (by rw [ha.eval]; exact hy) (fun v hv => List.all_eq_true.1 h1 v hv) hn (Nat.le_of_ble_eq_true hl) (fun w' H' => ?_)⟩
  rw [hf] at H'
  exact (h w' H').go _ (ha.put (d := none) rfl _)
end
end Go.Own
set_option linter.unusedSimpArgs false
set_option linter.unusedVariables false
namespace Go.Own
open Go Go.RowKit
theorem zero_cells1 (x : Value) (n : Nat) : Builtin.zeroCells #[x] n = (List.replicate n x).toArray := by
  unfold Builtin.zeroCells
  apply Array.ext
  · simp
  · intro i h1 h2
    simp [Nat.mod_one]
section
variable {P : Program} {n : Nat} {ops : Array Oper} {Q : Post} {rest : List Oper} {e : Env} {w w' : World} {s : Ro} {rs : List Asn} {tt : Nat} {pp : String} {af : Array Edge} {g : Option (Nat × Bool)} {d : Nat}
theorem run_grow {t ti ty el : TypeId} {by_ : Nat} {x : Value} {k k' : IntKind} {z : Value} (E : ElT P t el 1 by_ z) (hz1 : z.cells = #[x]) (hti : P.underlying ti = some (.int k)) {m : Nat} (h0 : 0 < m) (hm : m ≤ 1000000) (hby : by_ = 1) :
    (Builtin.append_ #[t, ti] ty #[.slice none 0 0, .int k' (m : Int)]).run P w = .ok (.slice (some ⟨w.heap.size, 0, none⟩) m (grownCap w m 0 el)) (w.drew.alloc (.cells ((List.replicate (grownCap w m 0 el) x).toArray) el)) := by
  obtain ⟨i, hi, hz, hsz, hb⟩ := E.info
  have hw : IntKind.i64.wrap (m : Int) = (m : Int) := IntWalk.i64_in _ (by omega)
  have h1 : ¬ ((m : Int) < 0) := by omega
  have h2 : ¬ ((m : Int) * (i.bytes : Int) > 281474976710656) := by rw [hb, hby]; omega
  have h3 : ¬ (m = 0) := by omega
  have h4 : ¬ (9223372036854775807 < (m : Int)) := by omega
  have h5 : ¬ (281474976710656 < Builtin.nextslicecap m 0 * i.bytes) := by rw [nextslicecap_zero h0, hb, hby]; omega
  have hge := grownCap_ge w m 0 el
  have hcat : (List.replicate m x).toArray ++ (List.replicate (grownCap w m 0 el - m) x).toArray = (List.replicate (grownCap w m 0 el) x).toArray := by
    rw [List.append_toArray, List.replicate_append_replicate]
    congr 2; omega
  simp [Builtin.append_, run_underlying E.slice, run_underlying hti, sizeOf, typeInfo, zeroValue, hi, hz, hsz, asInt, asIntOf, hw, h1, h2, h3, h4, h5, Question.forced, run_firstCells_none, newRow, grownCap, hz1, zero_cells1]
  unfold grownCap at hge
  rw [Nat.add_sub_cancel' hge]
theorem K.grow {t ti el : TypeId} {by_ : Nat} {zz : List Value} [E : ElC P t el 1 by_ zz] {x y : Operand} {k k' : IntKind} {m : Nat} {ii : Int} {u : Value} (H : Holds s w rs) (hti : P.underlying ti = some (.int k)) (hzz : zz = [u]) (hby : by_ = 1) (hd : Nat.blt d n = true) (hx : ev e x = .slice none 0 0) (hy : ev e y = .int k' ii) (hii : ii = (m : Int)) (h0 : 0 < m) (hm : m ≤ 1000000)
    (h : ∀ gg cc w', Holds s w' (row el 1 (.slice (some ⟨gg, 0, none⟩) m cc) m (List.replicate m u) :: rs) → L P n ops Q rest (upd e d (.slice (some ⟨gg, 0, none⟩) m cc)) w') : L P n ops Q (⟨some d, .call { callee := .builtin .append, args := #[x, y], argTypes := #[t, ti] }, tt, pp, af, none⟩ :: rest) e w := by
  subst hii
  obtain ⟨v, E', hzv⟩ := E.el
  have hrun := fun ty => run_grow (P := P) (w := w) (ty := ty) (k' := k') E' (by rw [hzv, hzz]) hti h0 hm hby
  have hge := grownCap_ge w m 0 el
  have hle := grownCap_le_maxLen w m 0 el (by unfold maxLen; omega)
  generalize grownCap w m 0 el = cc at *
  refine L.val (o := ⟨some d, .call { callee := .builtin .append, args := #[x, y], argTypes := #[t, ti] }, tt, pp, af, none⟩) _ _ rfl hd ?_ (h w.heap.size cc _ (H.add (F1 := [w.heap.size]) (w' := w.drew.alloc (.cells (List.replicate cc u).toArray el)) ⟨rfl, ?_⟩ ((only_drew [] w).trans (only_alloc [] w.drew _)) (by simp)))
  · unfold execOp
    simp only [resolve, invoke, builtin, Sem.run_bind, Sem.run_pure, Result.andThen_ok, List.map_toArray, List.map_cons, List.map_nil, hx, hy, hrun]
  · refine ⟨by simp, .inr ⟨w.heap.size, cc, _, rfl, Nat.zero_le _, heap_alloc_new w.drew _, hge, hle, by simp, ?_⟩⟩
    rw [Nat.mul_one, List.take_replicate, Nat.min_eq_left hge]
theorem set_two (A : Array Value) (hA : A.size = 2) (v u : Value) : (A.setIfInBounds 0 v).setIfInBounds 1 u = #[v, u] := by
  apply Array.ext
  · simp [hA]
  · intro i h1 h2
    have : i < 2 := by simpa using h2
    rcases i with _ | _ | i
    · rw [Array.getElem_setIfInBounds_ne (by simp [hA]) (by decide)]; simp
    · simp
    · omega
/-- []T{x, y} -/
theorem K.two {t el : TypeId} {by_ : Nat} {zz : List Value} [E : ElC P t el 1 by_ zz] {x y : Operand} {v u : Value} (H : Holds s w rs) (hd : Nat.blt d n = true) (hx : ev e x = v) (hy : ev e y = u) (h1 : v.cells = #[v]) (h2 : u.cells = #[u])
    (h : ∀ gg w', Holds s w' (row el 1 (.slice (some ⟨gg, 0, none⟩) 2 2) 2 [v, u] :: rs) → L P n ops Q rest (upd e d (.slice (some ⟨gg, 0, none⟩) 2 2)) w') : L P n ops Q (⟨some d, .buildSlice t 2 #[(0, x), (1, y)], tt, pp, af, none⟩ :: rest) e w := by
  obtain ⟨z, E', _⟩ := E.el
  obtain ⟨i, hi, hz, hsz, hb⟩ := E'.info
  refine ⟨fun a ha => ?_⟩
  refine wpList_buildSlice (o := ⟨some d, .buildSlice t 2 #[(0, x), (1, y)], tt, pp, af, none⟩) rfl t el 2 #[(0, x), (1, y)] rfl #[v, u] i z E'.slice hi hz (by rw [hsz]; decide) (by rw [hsz]; decide) ?_ ?_
  · simp only [List.map_toArray, List.map_cons, List.map_nil, ha.eval, hx, hy, Instr.fill, hsz, h1, h2]
    simp only [Nat.zero_mul, Nat.one_mul, Nat.mul_one]
    generalize hA : (Array.range 2).map (fun j => z.cells[j % z.cells.size]!) = A
    have hAs : A.size = 2 := by rw [← hA]; simp
    simp [hAs, set_two]
  · have := (h w.heap.size _ (H.add (F1 := [w.heap.size]) (w' := w.alloc (.cells #[v, u] el)) ⟨rfl, ?_⟩ (only_alloc _ _ _) (by simp))).go _ (ha.put (d := some d) hd _)
    · exact this
    · exact ⟨by simp, .inr ⟨_, 2, #[v, u], rfl, Nat.zero_le _, heap_alloc_new _ _, Nat.le_refl _, by decide, by simp, by simp⟩⟩
theorem K.cap {x : Operand} {t : TypeId} {a : Option Addr} {m c : Nat} {el : TypeId} {sz by_ : Nat} {zz : List Value} [E : ElC P t el sz by_ zz] (hw : wg n ops g e = true) (hd : Nat.blt d n = true) (hx : ev e x = .slice a m c) (h : L P n ops Q rest (upd e d (.int .i64 (c : Int))) w) : L P n ops Q (⟨some d, .call { callee := .builtin .cap, args := #[x], argTypes := #[t] }, tt, pp, af, g⟩ :: rest) e w := by
  obtain ⟨v, E', _⟩ := E.el
  exact L.val (o := ⟨some d, .call { callee := .builtin .cap, args := #[x], argTypes := #[t] }, tt, pp, af, g⟩) _ w hw hd (by
    unfold execOp
    simp [resolve, invoke, builtin, Builtin.cap_, hx, run_underlying E'.slice, goInt]) h
/-- fewer of a row's elements -/
theorem Holds.fewer {el : TypeId} {sz k c m : Nat} {a : Option Addr} {xs : List Value} (i : Nat) (H : Holds s w rs) (hi : rs[i]? = some (Own.row el sz (.slice a k c) k xs)) (hm : m ≤ k) : Holds s w (rs.set i (Own.row el sz (.slice a m c) m (xs.take (m * sz)))) := by
  obtain ⟨F1, hp, hn, hB, h3⟩ := H.upd hi
  obtain ⟨hF, hl, ho⟩ := hp
  refine h3 _ w F1 ⟨by rw [hF]; cases a <;> rfl, by rw [List.length_take, hl]; exact Nat.min_eq_left (Nat.mul_le_mul_right _ hm), ?_⟩ (Only.refl _ _) (fun k hk => .inl hk)
  rcases ho with ⟨he, hx⟩ | ⟨g', cap, cur, hv, hb, hg, h5, h6, h7, h8⟩
  · cases he
    left
    have : m = 0 := by omega
    subst this
    exact ⟨rfl, rfl⟩
  · cases hv
    refine .inr ⟨g', c, cur, rfl, hb, hg, by omega, h6, h7, ?_⟩
    rw [← h8, List.take_take, Nat.min_eq_left (Nat.mul_le_mul_right _ hm)]
/-- a part of a variable, as a slice -/
theorem Src.part {v : Value} {sz k : Nat} {xs : List Value} (i b off c : Nat) (t : TypeId) {cs : List Value} (h : rs[i]? = some (var b t cs)) (hv : v = .slice (some ⟨b, off, none⟩) k c) (h1 : xs.length = k * sz) (h2 : k ≤ c) (h3 : c ≤ maxLen) (hx : (cs.drop off).take xs.length = xs) : Src s rs v sz k xs := by
  subst hv
  refine ⟨fun w H => ⟨some ⟨b, off, none⟩, c, rfl, h1, h2, h3, fun j x hj => ⟨⟨b, off, none⟩, rfl, ?_⟩⟩, fun _ k hk => ?_⟩
  · have hb := H.var h
    have hadd : (⟨b, off, none⟩ : Addr).add j = ⟨b, off + j, none⟩ := by unfold Addr.add; split <;> simp_all
    rw [hadd, cell_of_row w b (off + j) _ _ _ hb]
    rw [← hx, List.getElem?_take] at hj
    split at hj
    · simpa using hj
    · cases hj
  · simp [Value.ownBlock] at hk
    subst hk
    exact .inr ⟨i, _, h, fun w F hp => by have := hp.1; simp [this]⟩
end
end Go.Own
set_option linter.unusedSimpArgs false
set_option linter.unusedVariables false
namespace Go.Proofs.YtbknpbihgfphaaaDoor
open Go Go.RowKit Go.Own
def byteAt (n i : Nat) : UInt8 := UInt8.ofNat (n >>> (8 * i))
/-- the low bytes of a number -/
def putN (n size : Nat) : List UInt8 := (List.range size).map (byteAt n)
theorem putN_len (n size : Nat) : (putN n size).length = size := by simp [putN]
theorem putN_succ (n i : Nat) : putN n (i + 1) = putN n i ++ [byteAt n i] := by simp [putN, List.range_succ]
theorem put_set (n : Nat) {i size : Nat} (h : i < size) : (u8s (putN n i ++ List.replicate (size - i) 0)).set (0 + i * 1) (.int .u8 ((n >>> (8 * i) % 2 ^ 8 : Nat) : Int)) = u8s (putN n (i + 1) ++ List.replicate (size - (i + 1)) 0) := by
  have e1 : size - i = (size - (i + 1)) + 1 := by omega
  have e2 : (Value.int .u8 ((n >>> (8 * i) % 2 ^ 8 : Nat) : Int)) = u8 (byteAt n i) := by simp [u8, byteAt]
  rw [e1, List.replicate_succ, u8s_app, u8s_app, putN_succ, u8s_app, Nat.zero_add, Nat.mul_one, e2, List.set_append_right _ _ (by rw [u8s_len, putN_len]; exact Nat.le_refl _), u8s_len, putN_len, Nat.sub_self, List.append_assoc]
  rfl
theorem rep_flat (n : Nat) (v : Value) : (List.replicate n [v]).flatten = List.replicate n v := by
  induction n with
  | zero => rfl
  | succ n ih => rw [List.replicate_succ, List.flatten_cons, ih, List.replicate_succ]; rfl
/-- the number of the first i bytes -/
def numI (l : List UInt8) : Nat → Nat
  | 0 => 0
  | i + 1 => numI l i ||| ((l[i]?.getD 0).toNat <<< (8 * i))
def numN (l : List UInt8) : Nat := numI l l.length
theorem shl_lt (x : UInt8) (i : Nat) : x.toNat <<< (8 * i) < 2 ^ (8 * (i + 1)) := by
  rw [Nat.shiftLeft_eq, Nat.mul_add, Nat.pow_add, Nat.mul_comm]
  exact Nat.mul_lt_mul_of_pos_left (by have := x.toNat_lt; omega) (Nat.two_pow_pos _)
theorem numI_lt (l : List UInt8) : ∀ i, numI l i < 2 ^ (8 * i)
  | 0 => by simp [numI]
  | i + 1 => Nat.or_lt_two_pow (Nat.lt_of_lt_of_le (numI_lt l i) (Nat.pow_le_pow_right (by decide) (by omega))) (shl_lt _ _)
theorem numI_64 (l : List UInt8) {i : Nat} (h : i ≤ 8) : numI l i < 2 ^ 64 := Nat.lt_of_lt_of_le (numI_lt l i) (Nat.pow_le_pow_right (by decide) (by omega))
theorem shl_64 (x : UInt8) {i : Nat} (h : i < 8) : (x.toNat <<< (8 * i)) % 2 ^ 64 = x.toNat <<< (8 * i) := Nat.mod_eq_of_lt (Nat.lt_of_lt_of_le (shl_lt x i) (Nat.pow_le_pow_right (by decide) (by omega)))
section
variable {s : Ro} {w : World} {R : List Asn}
set_option maxRecDepth 100000 in
set_option maxHeartbeats 1000000 in
theorem Put_s {n size : Nat} (H : Holds s w R) (h1 : 1 ≤ size) (h8 : size ≤ 8) : Calls Tryd.prog 98 #[.int .u64 (n : Int), .int .i64 (size : Int)] w fun e w' => ∃ g, e = .returned (.slice (some ⟨g, 0, none⟩) (putN n size).length size) ∧ Holds s w' (row 5 1 (.slice (some ⟨g, 0, none⟩) (putN n size).length size) (putN n size).length (u8s (putN n size)) :: R) := by
  refine enter Tryd.func98 rfl Tryd.ntmps98 rfl ?_
  repeat' (first | refine Z H ?_ | (refine Zc ?_ ?_ <;> intro hc <;> first | (exfalso; omega) | skip) | (refine Y ?_; try change C _ _ _ _ _ _) | (refine Zs H ?_; clear H; (try clear w); intro w H) | (refine Zn H ?_; clear H; (try clear w); intro _ w H) | (refine Ze H ?_; clear H; (try clear w); intro gv w H))
  refine K.make (k := size) (m := size) H rfl rfl rfl rfl rfl (Nat.le_refl _) (by omega) (by unfold maxLen; omega) ?_
  clear H
  intro gb w H
  rw [rep_flat] at H
  have H' : Holds s w (row 5 1 (.slice (some ⟨gb, 0, none⟩) size size) size (u8s (putN n 0 ++ List.replicate (size - 0) 0)) :: R) := by
    have : u8s (putN n 0 ++ List.replicate (size - 0) 0) = List.replicate size (Value.int .u8 0) := by simp [putN, u8s, u8]
    rw [this]; exact H
  clear H
  have H := H'
  clear H'
  repeat' (first | refine Z H ?_ | (refine Zc ?_ ?_ <;> intro hc <;> first | (exfalso; omega) | skip) | (refine Y ?_; try change C _ _ _ _ _ _) | (refine Zs H ?_; clear H; (try clear w); intro w H) | (refine Zn H ?_; clear H; (try clear w); intro _ w H) | (refine Ze H ?_; clear H; (try clear w); intro gv w H))
  refine C.loopR H [6, 17, 18, 19, 20, 21, 22, 23, 24, 25, 26, 27, 28] [17] rfl (fun m vs A => ∃ i : Nat, m = size - i ∧ i ≤ size ∧ vs = [.int .i64 (i : Int)] ∧ A = row 5 1 (.slice (some ⟨gb, 0, none⟩) size size) size (u8s (putN n i ++ List.replicate (size - i) 0))) size ⟨0, rfl, Nat.zero_le _, rfl, rfl⟩ ?_
  clear H
  rintro m vs hv w A ⟨i, rfl, hi, rfl, rfl⟩ H
  by_cases hlt : i < size
  · repeat' (first | refine Z H ?_ | (refine Zc ?_ ?_ <;> intro hc <;> first | (exfalso; omega) | skip) | (refine Y ?_; try change C _ _ _ _ _ _) | (refine Zs H ?_; clear H; (try clear w); intro w H) | (refine Zn H ?_; clear H; (try clear w); intro _ w H) | (refine Ze H ?_; clear H; (try clear w); intro gv w H))
    refine K.mul rfl rfl rfl rfl (by omega) (by omega) ?_
    rw [show (8 : Int) * (i : Int) = ((8 * i : Nat) : Int) by omega]
    repeat' (first | refine Z H ?_ | (refine Zc ?_ ?_ <;> intro hc <;> first | (exfalso; omega) | skip) | (refine Y ?_; try change C _ _ _ _ _ _) | (refine Zs H ?_; clear H; (try clear w); intro w H) | (refine Zn H ?_; clear H; (try clear w); intro _ w H) | (refine Ze H ?_; clear H; (try clear w); intro gv w H))
    refine B.shr ?_
    refine B.conv Tryd.underlying145 ?_
    have hln : 0 + i * 1 < (u8s (putN n i ++ List.replicate (size - i) 0)).length := by rw [u8s_len, List.length_append, putN_len, List.length_replicate]; omega
    repeat' (first | (refine X.rst H ?_ (hl := hln); clear H; intro w H) | refine Z H ?_ | (refine Zc ?_ ?_ <;> intro hc <;> first | (exfalso; omega) | skip) | (refine Y ?_; try change C _ _ _ _ _ _) | (refine Zs H ?_; clear H; (try clear w); intro w H) | (refine Zn H ?_; clear H; (try clear w); intro _ w H) | (refine Ze H ?_; clear H; (try clear w); intro gv w H))
    rw [put_set n hlt] at H
    exact ⟨by (repeat (first | exact Agr.refl | exact Agr.hav | refine Agr.upd rfl ?_ | refine Agr.in rfl ?_)), size - (i + 1), by omega, _, ⟨i + 1, rfl, by omega, rfl, rfl⟩, H⟩
  · have hie : i = size := by omega
    subst hie
    repeat' (first | refine Z H ?_ | (refine Zc ?_ ?_ <;> intro hc <;> first | (exfalso; omega) | skip) | (refine Y ?_; try change C _ _ _ _ _ _) | (refine Zs H ?_; clear H; (try clear w); intro w H) | (refine Zn H ?_; clear H; (try clear w); intro _ w H) | (refine Ze H ?_; clear H; (try clear w); intro gv w H))
    refine ⟨_, resT rfl, gb, ?_, ?_⟩
    · rw [putN_len]; rfl
    · rw [putN_len]; simpa using H
set_option maxRecDepth 100000 in
set_option maxHeartbeats 1000000 in
theorem number_s {l : List UInt8} {a : Option Addr} {c : Nat} (H : Holds s w R) (h : SlS s (.slice a l.length c) 1 l.length (u8s l)) (hl : l.length ≤ 8) : Calls Tryd.prog 120 #[.slice a l.length c] w fun e w' => e = .returned (.int .u64 (numN l : Int)) ∧ Holds s w' R := by
  refine enter Tryd.func120 rfl Tryd.ntmps120 rfl ?_
  repeat' (first | refine Z H ?_ | (refine Zc ?_ ?_ <;> intro hc <;> first | (exfalso; omega) | skip) | (refine Y ?_; try change C _ _ _ _ _ _) | (refine Zs H ?_; clear H; (try clear w); intro w H) | (refine Zn H ?_; clear H; (try clear w); intro _ w H) | (refine Ze H ?_; clear H; (try clear w); intro gv w H))
  refine C.loopH H [3, 4, 5, 8, 9, 10, 11, 12, 13, 14, 15, 16, 17, 18, 19, 20] [3, 8] rfl (fun m vs => ∃ i : Nat, m = l.length - i ∧ i ≤ l.length ∧ vs = [.int .u64 (numI l i : Int), .int .i64 (i : Int)]) l.length ⟨0, rfl, Nat.zero_le _, rfl⟩ ?_
  clear H
  rintro m vs hv w ⟨i, rfl, hi, rfl⟩ H
  by_cases hlt : i < l.length
  · obtain ⟨g, o, c', hv', _, _, hp⟩ := elemS1 h (by omega)
    cases hv'
    have pn : Pin s g (o + i * 1) (.int .u8 (l[i].toNat : Int)) := by rw [Nat.mul_one]; exact hp i hlt
    have hs : numI l (i + 1) = numI l i ||| (l[i].toNat <<< (8 * i)) := by simp only [numI]; rw [List.getElem?_eq_getElem hlt]; rfl
    have b1 := numI_64 l (i := i) (by omega)
    generalize numI l i = p at *
    generalize l[i] = x at *
    have b2 : x.toNat % 2 ^ 64 = x.toNat := Nat.mod_eq_of_lt (by have := x.toNat_lt; omega)
    have b3 := shl_64 x (i := i) (by omega)
    have b4 : x.toNat <<< (8 * i) < 2 ^ 64 := by rw [← b3]; exact Nat.mod_lt _ (by decide)
    repeat' (first | refine Z H ?_ | (refine Zc ?_ ?_ <;> intro hc <;> first | (exfalso; omega) | skip) | (refine Y ?_; try change C _ _ _ _ _ _) | (refine Zs H ?_; clear H; (try clear w); intro w H) | (refine Zn H ?_; clear H; (try clear w); intro _ w H) | (refine Ze H ?_; clear H; (try clear w); intro gv w H))
    refine B.conv Tryd.underlying5 ?_
    rw [b2]
    repeat' (first | (refine K.mul rfl rfl rfl rfl (by omega) (by omega) ?_; rw [show (8 : Int) * (i : Int) = ((8 * i : Nat) : Int) by omega]) | (refine B.shl ?_; rw [b3]) | (refine B.bit ?_) | refine Z H ?_ | (refine Zc ?_ ?_ <;> intro hc <;> first | (exfalso; omega) | skip) | (refine Y ?_; try change C _ _ _ _ _ _) | (refine Zs H ?_; clear H; (try clear w); intro w H) | (refine Zn H ?_; clear H; (try clear w); intro _ w H) | (refine Ze H ?_; clear H; (try clear w); intro gv w H))
    exact ⟨by (repeat (first | exact Agr.refl | exact Agr.hav | refine Agr.upd rfl ?_ | refine Agr.in rfl ?_)), l.length - (i + 1), by omega, ⟨i + 1, rfl, by omega, by rw [hs]; rfl⟩, H⟩
  · have hie : i = l.length := by omega
    subst hie
    repeat' (first | refine Z H ?_ | (refine Zc ?_ ?_ <;> intro hc <;> first | (exfalso; omega) | skip) | (refine Y ?_; try change C _ _ _ _ _ _) | (refine Zs H ?_; clear H; (try clear w); intro w H) | (refine Zn H ?_; clear H; (try clear w); intro _ w H) | (refine Ze H ?_; clear H; (try clear w); intro gv w H))
    exact ⟨_, resT rfl, rfl, H⟩
theorem Get_s {l : List UInt8} {a : Option Addr} {c : Nat} (H : Holds s w R) (h : SlS s (.slice a l.length c) 1 l.length (u8s l)) (h1 : 1 ≤ l.length) (hl : l.length ≤ 8) : Calls Tryd.prog 116 #[.slice a l.length c] w fun e w' => e = .returned (.tuple #[.int .u64 (numN l : Int), .int .i64 0]) ∧ Holds s w' R := by
  refine enter Tryd.func116 rfl Tryd.ntmps116 rfl ?_
  repeat' (first | refine Z H ?_ | (refine Zc ?_ ?_ <;> intro hc <;> first | (exfalso; omega) | skip) | (refine Y ?_; try change C _ _ _ _ _ _) | (refine Zs H ?_; clear H; (try clear w); intro w H) | (refine Zn H ?_; clear H; (try clear w); intro _ w H) | (refine Ze H ?_; clear H; (try clear w); intro gv w H))
  (refine X.call (number_s H h hl) ?_; (try clear H); rintro _ w ⟨rfl, H⟩; refine ⟨_, rfl, ?_⟩)
  repeat' (first | refine Z H ?_ | (refine Zc ?_ ?_ <;> intro hc <;> first | (exfalso; omega) | skip) | (refine Y ?_; try change C _ _ _ _ _ _) | (refine Zs H ?_; clear H; (try clear w); intro w H) | (refine Zn H ?_; clear H; (try clear w); intro _ w H) | (refine Ze H ?_; clear H; (try clear w); intro gv w H))
  exact ⟨_, resTT rfl, rfl, H⟩
end
end Go.Proofs.YtbknpbihgfphaaaDoor
