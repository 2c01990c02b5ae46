/- crc by bits is crc by nibbles: plain. -/
import Derived.Test.YtbknpbihgfphaaaDoorCrCr
set_option linter.unusedSimpArgs false
set_option linter.unusedVariables false
namespace Go.Proofs.YtbknpbihgfphaaaDoor
open Go Go.RowKit Go.Own
def crcS (r : Nat) : Nat := (r >>> 1) ^^^ (if r % 2 = 1 then 2197175160 else 0)
def bitR (r bit : Nat) : Nat := if (r % 2 + bit) % 2 = 1 then (r / 2) ^^^ 2197175160 else r / 2
def itS : Nat → Nat → Nat
  | 0, r => r
  | k + 1, r => crcS (itS k r)
def bitsR (r x : Nat) : Nat → Nat
  | 0 => r
  | k + 1 => bitR (bitsR r x k) ((x >>> k) % 2)
theorem crcS_xor (a y : Nat) : crcS (a ^^^ 2 * y) = crcS a ^^^ y := by
  have h1 : (a ^^^ 2 * y) >>> 1 = (a >>> 1) ^^^ y := by
    rw [Nat.shiftRight_xor_distrib]
    congr 1
    rw [Nat.shiftRight_eq_div_pow]; omega
  have h2 : (a ^^^ 2 * y) % 2 = a % 2 := by
    have := Nat.xor_mod_two_pow (a := a) (b := 2 * y) (n := 1)
    rw [Nat.pow_one] at this
    rw [this, show 2 * y % 2 = 0 by omega, Nat.xor_zero]
  unfold crcS
  rw [h1, h2, Nat.xor_assoc, Nat.xor_assoc, Nat.xor_comm y]
theorem itS_xor (k : Nat) : ∀ (a y : Nat), itS k (a ^^^ 2 ^ k * y) = itS k a ^^^ y := by
  induction k with
  | zero => intro a y; simp [itS]
  | succ k ih =>
    intro a y
    rw [itS, itS, show 2 ^ (k + 1) * y = 2 ^ k * (2 * y) by rw [Nat.pow_succ, Nat.mul_assoc], ih, crcS_xor]
theorem bitR_eq (r : Nat) {b : Nat} (hb : b < 2) : bitR r b = crcS (r ^^^ b) := by
  have h1 : (r ^^^ b) >>> 1 = r / 2 := by
    rw [Nat.shiftRight_xor_distrib, Nat.shiftRight_eq_div_pow, Nat.shiftRight_eq_div_pow, Nat.pow_one, show b / 2 = 0 by omega, Nat.xor_zero]
  have h2 : (r ^^^ b) % 2 = (r % 2 + b) % 2 := by
    have := Nat.xor_mod_two_pow (a := r) (b := b) (n := 1)
    rw [Nat.pow_one] at this
    rw [this]
    have hr : r % 2 = 0 ∨ r % 2 = 1 := by omega
    have hb2 : b = 0 ∨ b = 1 := by omega
    rcases hr with hr | hr <;> rcases hb2 with rfl | rfl <;> rw [hr] <;> rfl
  unfold bitR crcS
  rw [h1, h2]
  split
  · rfl
  · rw [Nat.xor_zero]
theorem low_bits : ∀ x : Fin 256, ∀ k : Fin 8, x.1 % 2 ^ (k.1 + 1) = (x.1 % 2 ^ k.1) ^^^ 2 ^ k.1 * ((x.1 >>> k.1) % 2) := by decide +kernel
theorem bitsR_eq (r : Nat) {x : Nat} (hx : x < 256) : ∀ k, k ≤ 8 → bitsR r x k = itS k (r ^^^ x % 2 ^ k)
  | 0, _ => by simp [bitsR, itS, Nat.mod_one]
  | k + 1, hk => by
    rw [bitsR, bitsR_eq r hx k (by omega), bitR_eq _ (Nat.mod_lt _ (by decide)), ← itS_xor, itS, low_bits ⟨x, hx⟩ ⟨k, by omega⟩, Nat.xor_assoc]
theorem nib_S : ∀ a : Fin 16, itS 4 a.1 = nib a.1 := by decide +kernel
theorem round_S (r : Nat) : crcRound r = itS 4 r := by
  have h15 : r &&& 15 = r % 16 := Nat.and_two_pow_sub_one_eq_mod r 4
  have hr : r = r % 16 ^^^ 2 ^ 4 * (r >>> 4) := by
    have h1 : r % 2 ^ 4 ^^^ 2 ^ 4 * (r / 2 ^ 4) = r := by
      apply Nat.eq_of_testBit_eq
      intro i
      rw [Nat.testBit_xor, Nat.testBit_mod_two_pow, Nat.testBit_two_pow_mul, Nat.testBit_div_two_pow]
      by_cases h : i < 4
      · simp [h, show ¬ 4 ≤ i by omega]
      · simp [h, show 4 ≤ i by omega]
    rw [Nat.shiftRight_eq_div_pow]
    exact h1.symm
  have h2 : itS 4 r = itS 4 (r % 16) ^^^ (r >>> 4) := by
    conv => lhs; rw [hr]
    exact itS_xor 4 _ _
  rw [h2, nib_S ⟨r % 16, Nat.mod_lt _ (by decide)⟩]
  unfold crcRound
  rw [h15, Nat.xor_comm]
theorem itS_add (j k r : Nat) : itS j (itS k r) = itS (j + k) r := by
  induction j with
  | zero => rw [itS, Nat.zero_add]
  | succ j ih => rw [itS, ih, show j + 1 + k = j + k + 1 by omega, itS]
theorem byte_bits (r : Nat) (x : UInt8) : bitsR r x.toNat 8 = crcByte r x := by
  have hx : x.toNat < 256 := x.toNat_lt
  rw [bitsR_eq r hx 8 (Nat.le_refl _), Nat.mod_eq_of_lt hx]
  unfold crcByte
  rw [round_S, round_S, itS_add]
theorem bitR_lt {r bit : Nat} (h : r < 2 ^ 32) : bitR r bit < 2 ^ 32 := by
  unfold bitR
  split
  · exact Nat.xor_lt_two_pow (by omega) (by decide)
  · omega
theorem bitsR_lt {r x : Nat} (h : r < 2 ^ 32) : ∀ k, bitsR r x k < 2 ^ 32
  | 0 => h
  | k + 1 => bitR_lt (bitsR_lt h k)
theorem not_sub {a : Nat} (h : a < 2 ^ 32) : (2 ^ 32 - 1) ^^^ a = 4294967295 - a := by
  rw [show (2 ^ 32 - 1 : Nat) = 2 ^ 32 - 0 - 1 by rfl]
  have := Nat.xor_comm (2 ^ 32 - 1) a
  apply Nat.eq_of_testBit_eq
  intro i
  have e := Nat.testBit_two_pow_sub_succ h i
  rw [show 4294967295 - a = 2 ^ 32 - (a + 1) by omega, e, Nat.sub_zero, Nat.testBit_xor, Nat.testBit_two_pow_sub_one]
  by_cases hi : i < 32
  · simp [hi]
  · have : a.testBit i = false := Nat.testBit_lt_two_pow (Nat.lt_of_lt_of_le h (Nat.pow_le_pow_right (by decide) (by omega)))
    simp [hi, this]
end Go.Proofs.YtbknpbihgfphaaaDoor
