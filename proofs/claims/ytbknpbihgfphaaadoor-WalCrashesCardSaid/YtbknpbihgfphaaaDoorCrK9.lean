/- More rules of the walk: arithmetic without a sign, a string's bytes. Over any program. -/
import Derived.Test.YtbknpbihgfphaaaDoorCrK6
import Derived.Test.YtbknpbihgfphaaaDoorCrRf
set_option linter.unusedSimpArgs false
set_option linter.unusedVariables false
namespace Go.Own
open Go Go.RowKit
section
variable {P : Program} {n : Nat} {ops : Array Oper} {Q : Post} {rest : List Oper} {e : Env} {w w' : World} {s : Ro} {rs : List Asn} {tt : Nat} {pp : String} {af : Array Edge} {g : Option (Nat × Bool)} {d : Nat}
theorem B.add {x y : Operand} {t u : TypeId} {k : IntKind} {B a b : Nat} [T : IntC P t k] [U : Uns k B] (h : L P n ops Q rest (upd e d (.int k ((a + b : Nat) : Int))) w) (hw : wg n ops g e = true := by rfl) (hd : Nat.blt d n = true := by rfl) (hx : ev e x = .int k (a : Int) := by rfl) (hy : ev e y = .int k (b : Int) := by rfl) (hb : a + b < 2 ^ B := by first | assumption | decide | omega) : L P n ops Q (⟨some d, .binOp .add t x y u, tt, pp, af, g⟩ :: rest) e w :=
  K.arith _ hw hd hx hy (by
    show some (k.wrap ((a : Int) + (b : Int))) = some ((a + b : Nat) : Int)
    rw [← Int.natCast_add, uwrap_lt hb]) h
theorem B.sub {x y : Operand} {t u : TypeId} {k : IntKind} {B a b : Nat} [T : IntC P t k] [U : Uns k B] (h : L P n ops Q rest (upd e d (.int k ((a - b : Nat) : Int))) w) (hw : wg n ops g e = true := by rfl) (hd : Nat.blt d n = true := by rfl) (hx : ev e x = .int k (a : Int) := by rfl) (hy : ev e y = .int k (b : Int) := by rfl) (ha : a < 2 ^ B := by first | assumption | decide | omega) (hb : b ≤ a := by first | assumption | decide | omega) : L P n ops Q (⟨some d, .binOp .sub t x y u, tt, pp, af, g⟩ :: rest) e w :=
  K.arith _ hw hd hx hy (by
    show some (k.wrap ((a : Int) - (b : Int))) = some ((a - b : Nat) : Int)
    rw [← Int.ofNat_sub hb, uwrap_lt (Nat.lt_of_le_of_lt (Nat.sub_le _ _) ha)]) h
theorem B.mul {x y : Operand} {t u : TypeId} {k : IntKind} {B a b : Nat} [T : IntC P t k] [U : Uns k B] (h : L P n ops Q rest (upd e d (.int k ((a * b % 2 ^ B : Nat) : Int))) w) (hw : wg n ops g e = true := by rfl) (hd : Nat.blt d n = true := by rfl) (hx : ev e x = .int k (a : Int) := by rfl) (hy : ev e y = .int k (b : Int) := by rfl) : L P n ops Q (⟨some d, .binOp .mul t x y u, tt, pp, af, g⟩ :: rest) e w :=
  K.arith _ hw hd hx hy (by
    show some (k.wrap ((a : Int) * (b : Int))) = some ((a * b % 2 ^ B : Nat) : Int)
    rw [← Int.natCast_mul, uwrap]) h
theorem B.rem {x y : Operand} {t u : TypeId} {k : IntKind} {B a b : Nat} [T : IntC P t k] [U : Uns k B] (h : L P n ops Q rest (upd e d (.int k ((a % b : Nat) : Int))) w) (hw : wg n ops g e = true := by rfl) (hd : Nat.blt d n = true := by rfl) (hx : ev e x = .int k (a : Int) := by rfl) (hy : ev e y = .int k (b : Int) := by rfl) (hb : 0 < b := by first | assumption | decide | omega) : L P n ops Q (⟨some d, .binOp .rem t x y u, tt, pp, af, g⟩ :: rest) e w :=
  K.rem hw hd hx hy (by omega) (by rw [← Int.ofNat_tmod]; exact h)
theorem B.quo {x y : Operand} {t u : TypeId} {k : IntKind} {B a b : Nat} [T : IntC P t k] [U : Uns k B] (h : L P n ops Q rest (upd e d (.int k ((a / b : Nat) : Int))) w) (hw : wg n ops g e = true := by rfl) (hd : Nat.blt d n = true := by rfl) (hx : ev e x = .int k (a : Int) := by rfl) (hy : ev e y = .int k (b : Int) := by rfl) (ha : a < 2 ^ B := by first | assumption | decide | omega) (hb : 0 < b := by first | assumption | decide | omega) : L P n ops Q (⟨some d, .binOp .quo t x y u, tt, pp, af, g⟩ :: rest) e w :=
  L.val (o := ⟨some d, .binOp .quo t x y u, tt, pp, af, g⟩) _ w hw hd (by
    have h1 : (b : Int) ≠ 0 := by omega
    have h2 : k.wrap ((a : Int).tdiv (b : Int)) = ((a / b : Nat) : Int) := by
      rw [← Int.ofNat_tdiv, uwrap_lt (Nat.lt_of_le_of_lt (Nat.div_le_self _ _) ha)]
    unfold execOp
    simp only [hx, hy, eqGuard, binOp, Op.intDiv, if_neg h1, h2]
    simp) h
/-- a block of bytes that a string gave -/
def brow (b : Nat) (t : TypeId) (n c : Nat) (l : List UInt8) : Asn :=
  ⟨fun w F => F = [b] ∧ ∃ cur fz, w.heap[b]? = some (.cells cur t fz) ∧ n ≤ c ∧ c ≤ maxLen ∧ cur.size = c ∧ cur.toList.take n = u8s l ∧ l.length = n ∧ cur.size ≤ fz.1, fun h hk => ⟨h.1, by
    obtain ⟨_, cur, fz, hb, r⟩ := h
    exact ⟨cur, fz, (hk b (by simp [*])).trans hb, r⟩⟩, fun h k hk => by
    obtain ⟨h1, cur, fz, hb, r⟩ := h
    rw [h1] at hk; simp at hk; subst hk; exact lt_of_heap hb⟩
theorem K.bts {x : Operand} {t u el : TypeId} {by_ : Nat} {zz : List Value} [T : StrC P t] [E : ElC P u el 1 by_ zz] {l : List UInt8} (H : Holds s w rs) (he : P.underlying el = some (.int .u8)) (hl : l.length ≤ maxLen) (hw : wg n ops g e = true) (hd : Nat.blt d n = true) (hx : ev e x = .string ⟨l.toArray⟩)
    (h : ∀ b c w', Holds s w' (brow b el l.length c l :: rs) → L P n ops Q rest (upd e d (.slice (some ⟨b, 0, none⟩) l.length c)) w') : L P n ops Q (⟨some d, .convert t u x, tt, pp, af, g⟩ :: rest) e w := by
  obtain ⟨v, E', _⟩ := E.el
  have hrun := run_bytes_of_string w t u el ⟨l.toArray⟩ T.str E'.slice he
  have hs : (⟨l.toArray⟩ : ByteArray).size = l.length := by simp [ByteArray.size]
  rw [hs] at hrun
  have hge := grownCap_ge w l.length 0 el
  have hle := grownCap_le_maxLen w l.length 0 el hl
  have hsz : (bytesRow ⟨l.toArray⟩ (grownCap w l.length 0 el)).size = grownCap w l.length 0 el := by simp [bytesRow, hs]; omega
  have htk : (bytesRow ⟨l.toArray⟩ (grownCap w l.length 0 el)).toList.take l.length = u8s l := by
    unfold bytesRow u8s u8
    simp
  generalize bytesRow ⟨l.toArray⟩ (grownCap w l.length 0 el) = C at *
  generalize grownCap w l.length 0 el = c at *
  refine L.val (o := ⟨some d, .convert t u x, tt, pp, af, g⟩) _ _ hw hd ?_ (h w.heap.size c _ (H.add (F1 := [w.heap.size]) (w' := w.drew.alloc (.cells C el (C.size, C.size + 1))) ⟨rfl, C, (C.size, C.size + 1), ?_, hge, hle, hsz, htk, rfl, Nat.le_refl _⟩ (by
    have h1 := only_alloc [] w.drew (.cells C el (C.size, C.size + 1))
    exact (only_drew [] w).trans h1) (by simp)))
  · unfold execOp
    simp [hx, hrun]
  · have := heap_alloc_new w.drew (.cells C el (C.size, C.size + 1))
    exact this
theorem Holds.fixBrow {b c : Nat} {t : TypeId} {l : List UInt8} (H : Holds s w (brow b t l.length c l :: rs)) : ∃ s', s.Le s' ∧ Holds s' w rs ∧ SlS s' (.slice (some ⟨b, 0, none⟩) l.length c) 1 l.length (u8s l) := by
  obtain ⟨F, s', ⟨hF, cur, fz, hb, h1, h2, h3, h4, h5, h6⟩, hle, H', hm⟩ := H.fix
  refine ⟨s', hle, H', _, c, rfl, by rw [u8s_len]; simp, h1, h2, .inr ⟨b, 0, rfl, fun j x hx => ⟨cur, t, fz, by rw [hm b (by simp [hF])]; exact hb, ?_⟩⟩⟩
  rw [← h4, List.getElem?_take] at hx
  split at hx
  · simpa using hx
  · cases hx
/-- []byte(s), only read from now on -/
theorem X.bts {x : Operand} {t u el : TypeId} {by_ : Nat} {zz : List Value} [T : StrC P t] [E : ElC P u el 1 by_ zz] {l : List UInt8} (H : Holds s w rs)
    (h : ∀ s' b c w', s.Le s' → Holds s' w' rs → SlS s' (.slice (some ⟨b, 0, none⟩) l.length c) 1 l.length (u8s l) → L P n ops Q rest (upd e d (.slice (some ⟨b, 0, none⟩) l.length c)) w') (he : P.underlying el = some (.int .u8)) (hw : wg n ops g e = true := by rfl) (hd : Nat.blt d n = true := by rfl) (hx : ev e x = .string ⟨l.toArray⟩ := by rfl) (hl : l.length ≤ maxLen := by first | assumption | (unfold maxLen; omega)) : L P n ops Q (⟨some d, .convert t u x, tt, pp, af, g⟩ :: rest) e w :=
  K.bts H he hl hw hd hx fun b c w' H' => by
    obtain ⟨s', hle, H2, hs⟩ := H'.fixBrow
    exact h s' b c w' hle H2 hs
end
end Go.Own
