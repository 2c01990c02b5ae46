/- The walk's rules for bits of numbers without a sign, and for function values. -/
import Derived.Test.YtbknpbihgfphaaaDoorCrK3
set_option linter.unusedSimpArgs false
set_option linter.unusedVariables false
namespace Go.Own
open Go Go.RowKit
def bitN (op : BinOp) (a b : Nat) : Option Nat := match op with
  | .and => some (a &&& b)
  | .or => some (a ||| b)
  | .xor => some (a ^^^ b)
  | _ => none
/-- a kind without a sign -/
class Uns (k : IntKind) (B : outParam Nat) : Prop where
  bits : k.bits = B
  sg : k.signed = false
instance : Uns .u8 8 := ⟨rfl, rfl⟩
instance : Uns .u32 32 := ⟨rfl, rfl⟩
instance : Uns .u64 64 := ⟨rfl, rfl⟩
theorem uwrap {k : IntKind} {B : Nat} [U : Uns k B] (n : Nat) : k.wrap (n : Int) = ((n % 2 ^ B : Nat) : Int) := by
  unfold IntKind.wrap
  rw [U.sg, U.bits]
  simp
theorem uwrap_lt {k : IntKind} {B : Nat} [U : Uns k B] {n : Nat} (h : n < 2 ^ B) : k.wrap (n : Int) = (n : Int) := by rw [uwrap, Nat.mod_eq_of_lt h]
theorem run_bits {P : Program} {w : World} {op : BinOp} {k : IntKind} {B a b r : Nat} [U : Uns k B] (ha : a < 2 ^ B) (hb : b < 2 ^ B) (hr : bitN op a b = some r) : (Op.intBits op k (a : Int) (b : Int)).run P w = .ok (.int k (r : Int)) w := by
  obtain ⟨hB, hs⟩ := U
  subst hB
  unfold Op.intBits
  have ea : (BitVec.ofInt k.bits (a : Int)).toNat = a := by simp [BitVec.toNat_ofInt]; exact Nat.mod_eq_of_lt ha
  have eb : (BitVec.ofInt k.bits (b : Int)).toNat = b := by simp [BitVec.toNat_ofInt]; exact Nat.mod_eq_of_lt hb
  have hU : Uns k k.bits := ⟨rfl, hs⟩
  cases op <;> simp only [bitN, Option.some.injEq, reduceCtorEq] at hr <;> subst hr <;> simp only [Sem.run_pure]
  · rw [BitVec.toNat_and, ea, eb, uwrap_lt (Nat.and_lt_two_pow _ hb)]
  · rw [BitVec.toNat_or, ea, eb, uwrap_lt (Nat.or_lt_two_pow ha hb)]
  · rw [BitVec.toNat_xor, ea, eb, uwrap_lt (Nat.xor_lt_two_pow ha hb)]
section
variable {P : Program} {n : Nat} {ops : Array Oper} {Q : Post} {rest : List Oper} {e : Env} {w w' : World} {s : Ro} {rs : List Asn} {tt : Nat} {pp : String} {af : Array Edge} {g : Option (Nat × Bool)} {d : Nat}
theorem B.bit {op : BinOp} {x y : Operand} {t u : TypeId} {k : IntKind} {B a b r : Nat} [T : IntC P t k] [U : Uns k B] (h : L P n ops Q rest (upd e d (.int k (r : Int))) w) (hw : wg n ops g e = true := by rfl) (hd : Nat.blt d n = true := by rfl) (hx : ev e x = .int k (a : Int) := by rfl) (hy : ev e y = .int k (b : Int) := by rfl) (hr : bitN op a b = some r := by rfl) (ha : a < 2 ^ B := by first | assumption | decide | omega) (hb : b < 2 ^ B := by first | assumption | decide | omega) : L P n ops Q (⟨some d, .binOp op t x y u, tt, pp, af, g⟩ :: rest) e w :=
  L.val (o := ⟨some d, .binOp op t x y u, tt, pp, af, g⟩) _ w hw hd (by
    have := run_bits (P := P) (w := w) (k := k) ha hb hr
    unfold execOp
    cases op <;> simp only [bitN, reduceCtorEq] at hr <;> simp [hx, hy, eqGuard, binOp, Sem.run_bind, this]) h
theorem B.not {x : Operand} {t : TypeId} {k : IntKind} {B a : Nat} [T : IntC P t k] [U : Uns k B] (h : L P n ops Q rest (upd e d (.int k (((2 ^ B - 1) ^^^ a : Nat) : Int))) w) (hw : wg n ops g e = true := by rfl) (hd : Nat.blt d n = true := by rfl) (hx : ev e x = .int k (a : Int) := by rfl) (ha : a < 2 ^ B := by first | assumption | decide | omega) : L P n ops Q (⟨some d, .unOp .xor t x, tt, pp, af, g⟩ :: rest) e w :=
  L.val (o := ⟨some d, .unOp .xor t x, tt, pp, af, g⟩) _ w hw hd (by
    have hp : 0 < 2 ^ B := Nat.two_pow_pos B
    have h1 := run_bits (P := P) (w := w) (op := .xor) (k := k) (a := 2 ^ B - 1) (by omega) ha rfl
    have hm : k.max = ((2 ^ B - 1 : Nat) : Int) := by
      rw [← U.bits]
      unfold IntKind.max
      rw [U.sg]
      have : 1 ≤ 2 ^ k.bits := Nat.two_pow_pos _
      rw [Int.ofNat_sub this]
      push_cast
      simp
    unfold execOp
    simp [hx, Op.unary, U.sg, hm, Sem.run_bind, h1]) h
theorem B.shr {x y : Operand} {t u : TypeId} {k j : IntKind} {B a m : Nat} [T : IntC P t k] [U : Uns k B] (h : L P n ops Q rest (upd e d (.int k ((a >>> m : Nat) : Int))) w) (hw : wg n ops g e = true := by rfl) (hd : Nat.blt d n = true := by rfl) (hx : ev e x = .int k (a : Int) := by rfl) (hy : ev e y = .int j (m : Int) := by rfl) (hm : m ≤ B := by first | decide | omega) : L P n ops Q (⟨some d, .binOp .shr t x y u, tt, pp, af, g⟩ :: rest) e w :=
  L.val (o := ⟨some d, .binOp .shr t x y u, tt, pp, af, g⟩) _ w hw hd (by
    have hB := U.bits
    unfold execOp
    have e1 : min m k.bits = m := by omega
    have e2 : (a : Int).fdiv (2 ^ m) = ((a >>> m : Nat) : Int) := by
      rw [Nat.shiftRight_eq_div_pow]
      rw [Int.fdiv_eq_ediv_of_nonneg _ (by exact_mod_cast (Nat.zero_le _))]
      push_cast
      rfl
    simp [hx, hy, eqGuard, binOp, Op.shift, e1, e2, show ¬ (m : Int) < 0 by omega]) h
theorem B.shl {x y : Operand} {t u : TypeId} {k j : IntKind} {B a m : Nat} [T : IntC P t k] [U : Uns k B] (h : L P n ops Q rest (upd e d (.int k (((a <<< m) % 2 ^ B : Nat) : Int))) w) (hw : wg n ops g e = true := by rfl) (hd : Nat.blt d n = true := by rfl) (hx : ev e x = .int k (a : Int) := by rfl) (hy : ev e y = .int j (m : Int) := by rfl) (hm : m ≤ B := by first | decide | omega) : L P n ops Q (⟨some d, .binOp .shl t x y u, tt, pp, af, g⟩ :: rest) e w :=
  L.val (o := ⟨some d, .binOp .shl t x y u, tt, pp, af, g⟩) _ w hw hd (by
    have hB := U.bits
    unfold execOp
    have e1 : min m k.bits = m := by omega
    have e2 : k.wrap ((a : Int) * 2 ^ m) = (((a <<< m) % 2 ^ B : Nat) : Int) := by
      rw [← uwrap (k := k), Nat.shiftLeft_eq]; push_cast; rfl
    simp [hx, hy, eqGuard, binOp, Op.shift, e1, e2, show ¬ (m : Int) < 0 by omega]) h
/-- a number without a sign becomes one of another kind without a sign -/
theorem B.conv {x : Operand} {t u : TypeId} {k j : IntKind} {B a : Nat} {dd : TypeDesc} [U : Uns k B] [T : IntC P u k] (hs : P.underlying t = some dd) (h : L P n ops Q rest (upd e d (.int k ((a % 2 ^ B : Nat) : Int))) w) (hw : wg n ops g e = true := by rfl) (hd : Nat.blt d n = true := by rfl) (hx : ev e x = .int j (a : Int) := by rfl) : L P n ops Q (⟨some d, .convert t u x, tt, pp, af, g⟩ :: rest) e w :=
  K.convI hs hw hd hx (by rw [uwrap]; exact h)
/-- a function value is made -/
theorem B.fn {f : Fn} {fs cs : Array Operand} {l m : List Value} (h : L P n ops Q rest (upd e d (.func f l.toArray m.toArray)) w) (hw : wg n ops g e = true := by rfl) (hd : Nat.blt d n = true := by rfl) (h1 : fs.toList.map (ev e) = l := by rfl) (h2 : cs.toList.map (ev e) = m := by rfl) : L P n ops Q (⟨some d, .makeFunc f fs cs, tt, pp, af, g⟩ :: rest) e w :=
  L.val (o := ⟨some d, .makeFunc f fs cs, tt, pp, af, g⟩) _ w hw hd (by
    have e1 : fs.map (ev e) = l.toArray := by apply Array.toList_inj.1; rw [Array.toList_map, h1]
    have e2 : cs.map (ev e) = m.toArray := by apply Array.toList_inj.1; rw [Array.toList_map, h2]
    unfold execOp
    simp [Instr.makeFunc, e1, e2]) h
/-- a function value is called -/
theorem B.call {f : FuncId} {c : Operand} {xs : Array Operand} {ts : Array TypeId} {l m args all : List Value} {R : Ending → World → Prop} [F : FunC P f] (hc : Calls P f all.toArray w R) (h : ∀ x w', R x w' → ∃ v, x = .returned v ∧ L P n ops Q rest (upd e d v) w') (hw : wg n ops g e = true := by rfl) (hd : Nat.blt d n = true := by rfl) (hf : ev e c = .func (.func f) l.toArray m.toArray := by rfl) (hx : xs.toList.map (ev e) = args := by rfl) (ha : l ++ args ++ m = all := by rfl) : L P n ops Q (⟨some d, .call { callee := .value c, args := xs, argTypes := ts }, tt, pp, af, g⟩ :: rest) e w := by
  obtain ⟨fn, cc, h1, h2, h3⟩ := F.fn
  refine ⟨fun a hfr => wpList_step fun K hK => ?_⟩
  have hw' : wn n ops ⟨some d, .call { callee := .value c, args := xs, argTypes := ts }, tt, pp, af, g⟩ e = true := hw
  rw [hfr.wn, if_pos hw']
  have hargs : xs.map a.eval = args.toArray := by
    apply Array.toList_inj.1
    rw [Array.toList_map, hfr.eval, hx]
  have hcv : a.eval c = .func (.func f) l.toArray m.toArray := by rw [hfr.eval]; exact hf
  have hr : (execOp a.eval ⟨some d, .call { callee := .value c, args := xs, argTypes := ts }, tt, pp, af, g⟩).run P w = .ok (.enter f all.toArray) w := by
    unfold execOp
    simp only [resolve, hcv, Deferred.ofValue, Sem.run_bind, Sem.run_pure, Result.andThen_ok, invoke, callFunc]
    have e1 : l.toArray ++ args.toArray ++ m.toArray = all.toArray := by rw [← ha]; simp
    have : xs.map (fun x => a.eval x) = args.toArray := hargs
    have h2' : ¬ fn.name = "runtime.NumGoroutine" := by simpa using h2
    simp [h1, h2', h3, hargs, ← ha]
  unfold Oper.wp
  rw [hr]
  exact hc.mono fun x w' hR => by
    obtain ⟨v, hx', hl⟩ := h x w' hR
    subst hx'
    exact hK _ _ (hl.go _ (hfr.put (d := some d) hd v))
end
end Go.Own
