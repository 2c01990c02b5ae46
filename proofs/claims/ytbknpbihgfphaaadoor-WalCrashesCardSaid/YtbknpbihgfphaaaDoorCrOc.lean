/- octet: Put, number, Get, as plain data and walked. -/
import Derived.Test.YtbknpbihgfphaaaDoorCrK6
import Derived.Test.YtbknpbihgfphaaaDoorCrTy
set_option linter.unusedSimpArgs false
set_option linter.unusedVariables false
namespace Go.Proofs.YtbknpbihgfphaaaDoor
open Go Go.RowKit Go.Own
def byteAt (n i : Nat) : UInt8 := UInt8.ofNat (n >>> (8 * i))
/-- the low bytes of a number -/
def putN (n size : Nat) : List UInt8 := (List.range size).map (byteAt n)
theorem putN_len (n size : Nat) : (putN n size).length = size := by simp [putN]
theorem putN_succ (n i : Nat) : putN n (i + 1) = putN n i ++ [byteAt n i] := by simp [putN, List.range_succ]
theorem put_set (n : Nat) {i size : Nat} (h : i < size) : (u8s (putN n i ++ List.replicate (size - i) 0)).set (0 + i * 1) (.int .u8 ((n >>> (8 * i) % 2 ^ 8 : Nat) : Int)) = u8s (putN n (i + 1) ++ List.replicate (size - (i + 1)) 0) := by
  have e1 : size - i = (size - (i + 1)) + 1 := by omega
  have e2 : (Value.int .u8 ((n >>> (8 * i) % 2 ^ 8 : Nat) : Int)) = u8 (byteAt n i) := by simp [u8, byteAt]
  rw [e1, List.replicate_succ, u8s_app, u8s_app, putN_succ, u8s_app, Nat.zero_add, Nat.mul_one, e2, List.set_append_right _ _ (by rw [u8s_len, putN_len]; exact Nat.le_refl _), u8s_len, putN_len, Nat.sub_self, List.append_assoc]
  rfl
theorem rep_flat (n : Nat) (v : Value) : (List.replicate n [v]).flatten = List.replicate n v := by
  induction n with
  | zero => rfl
  | succ n ih => rw [List.replicate_succ, List.flatten_cons, ih, List.replicate_succ]; rfl
/-- the number of the first i bytes -/
def numI (l : List UInt8) : Nat → Nat
  | 0 => 0
  | i + 1 => numI l i ||| ((l[i]?.getD 0).toNat <<< (8 * i))
def numN (l : List UInt8) : Nat := numI l l.length
theorem shl_lt (x : UInt8) (i : Nat) : x.toNat <<< (8 * i) < 2 ^ (8 * (i + 1)) := by
  rw [Nat.shiftLeft_eq, Nat.mul_add, Nat.pow_add, Nat.mul_comm]
  exact Nat.mul_lt_mul_of_pos_left (by have := x.toNat_lt; omega) (Nat.two_pow_pos _)
theorem numI_lt (l : List UInt8) : ∀ i, numI l i < 2 ^ (8 * i)
  | 0 => by simp [numI]
  | i + 1 => Nat.or_lt_two_pow (Nat.lt_of_lt_of_le (numI_lt l i) (Nat.pow_le_pow_right (by decide) (by omega))) (shl_lt _ _)
theorem numI_64 (l : List UInt8) {i : Nat} (h : i ≤ 8) : numI l i < 2 ^ 64 := Nat.lt_of_lt_of_le (numI_lt l i) (Nat.pow_le_pow_right (by decide) (by omega))
theorem shl_64 (x : UInt8) {i : Nat} (h : i < 8) : (x.toNat <<< (8 * i)) % 2 ^ 64 = x.toNat <<< (8 * i) := Nat.mod_eq_of_lt (Nat.lt_of_lt_of_le (shl_lt x i) (Nat.pow_le_pow_right (by decide) (by omega)))
section
variable {s : Ro} {w : World} {R : List Asn}
set_option maxRecDepth 100000 in
set_option maxHeartbeats 1000000 in
theorem Put_s {n size : Nat} (H : Holds s w R) (h1 : 1 ≤ size) (h8 : size ≤ 8) : Calls Tryd.prog 98 #[.int .u64 (n : Int), .int .i64 (size : Int)] w fun e w' => ∃ g, e = .returned (.slice (some ⟨g, 0, none⟩) (putN n size).length size) ∧ Holds s w' (row 5 1 (.slice (some ⟨g, 0, none⟩) (putN n size).length size) (putN n size).length (u8s (putN n size)) :: R) := by
  refine enter Tryd.func98 rfl Tryd.ntmps98 rfl ?_
  repeat' (first | refine Z H ?_ | (refine Zc ?_ ?_ <;> intro hc <;> first | (exfalso; omega) | skip) | (refine Y ?_; try change C _ _ _ _ _ _) | (refine Zs H ?_; clear H; (try clear w); intro w H) | (refine Zn H ?_; clear H; (try clear w); intro _ w H) | (refine Ze H ?_; clear H; (try clear w); intro gv w H))
  refine K.make (k := size) (m := size) H rfl rfl rfl rfl rfl (Nat.le_refl _) (by omega) (by unfold maxLen; omega) ?_
  clear H
  intro gb w H
  rw [rep_flat] at H
  have H' : Holds s w (row 5 1 (.slice (some ⟨gb, 0, none⟩) size size) size (u8s (putN n 0 ++ List.replicate (size - 0) 0)) :: R) := by
    have : u8s (putN n 0 ++ List.replicate (size - 0) 0) = List.replicate size (Value.int .u8 0) := by simp [putN, u8s, u8]
    rw [this]; exact H
  clear H
  have H := H'
  clear H'
  repeat' (first | refine Z H ?_ | (refine Zc ?_ ?_ <;> intro hc <;> first | (exfalso; omega) | skip) | (refine Y ?_; try change C _ _ _ _ _ _) | (refine Zs H ?_; clear H; (try clear w); intro w H) | (refine Zn H ?_; clear H; (try clear w); intro _ w H) | (refine Ze H ?_; clear H; (try clear w); intro gv w H))
  refine C.loopR H [6, 17, 18, 19, 20, 21, 22, 23, 24, 25, 26, 27, 28] [17] rfl (fun m vs A => ∃ i : Nat, m = size - i ∧ i ≤ size ∧ vs = [.int .i64 (i : Int)] ∧ A = row 5 1 (.slice (some ⟨gb, 0, none⟩) size size) size (u8s (putN n i ++ List.replicate (size - i) 0))) size ⟨0, rfl, Nat.zero_le _, rfl, rfl⟩ ?_
  clear H
  rintro m vs hv w A ⟨i, rfl, hi, rfl, rfl⟩ H
  by_cases hlt : i < size
  · repeat' (first | refine Z H ?_ | (refine Zc ?_ ?_ <;> intro hc <;> first | (exfalso; omega) | skip) | (refine Y ?_; try change C _ _ _ _ _ _) | (refine Zs H ?_; clear H; (try clear w); intro w H) | (refine Zn H ?_; clear H; (try clear w); intro _ w H) | (refine Ze H ?_; clear H; (try clear w); intro gv w H))
    refine K.mul rfl rfl rfl rfl (by omega) (by omega) ?_
    rw [show (8 : Int) * (i : Int) = ((8 * i : Nat) : Int) by omega]
    repeat' (first | refine Z H ?_ | (refine Zc ?_ ?_ <;> intro hc <;> first | (exfalso; omega) | skip) | (refine Y ?_; try change C _ _ _ _ _ _) | (refine Zs H ?_; clear H; (try clear w); intro w H) | (refine Zn H ?_; clear H; (try clear w); intro _ w H) | (refine Ze H ?_; clear H; (try clear w); intro gv w H))
    refine B.shr ?_
    refine B.conv Tryd.underlying145 ?_
    have hln : 0 + i * 1 < (u8s (putN n i ++ List.replicate (size - i) 0)).length := by rw [u8s_len, List.length_append, putN_len, List.length_replicate]; omega
    repeat' (first | (refine X.rst H ?_ (hl := hln); clear H; intro w H) | refine Z H ?_ | (refine Zc ?_ ?_ <;> intro hc <;> first | (exfalso; omega) | skip) | (refine Y ?_; try change C _ _ _ _ _ _) | (refine Zs H ?_; clear H; (try clear w); intro w H) | (refine Zn H ?_; clear H; (try clear w); intro _ w H) | (refine Ze H ?_; clear H; (try clear w); intro gv w H))
    rw [put_set n hlt] at H
    exact ⟨by (repeat (first | exact Agr.refl | exact Agr.hav | refine Agr.upd rfl ?_ | refine Agr.in rfl ?_)), size - (i + 1), by omega, _, ⟨i + 1, rfl, by omega, rfl, rfl⟩, H⟩
  · have hie : i = size := by omega
    subst hie
    repeat' (first | refine Z H ?_ | (refine Zc ?_ ?_ <;> intro hc <;> first | (exfalso; omega) | skip) | (refine Y ?_; try change C _ _ _ _ _ _) | (refine Zs H ?_; clear H; (try clear w); intro w H) | (refine Zn H ?_; clear H; (try clear w); intro _ w H) | (refine Ze H ?_; clear H; (try clear w); intro gv w H))
    refine ⟨_, resT rfl, gb, ?_, ?_⟩
    · rw [putN_len]; rfl
    · rw [putN_len]; simpa using H
set_option maxRecDepth 100000 in
set_option maxHeartbeats 1000000 in
theorem number_s {l : List UInt8} {a : Option Addr} {c : Nat} (H : Holds s w R) (h : SlS s (.slice a l.length c) 1 l.length (u8s l)) (hl : l.length ≤ 8) : Calls Tryd.prog 120 #[.slice a l.length c] w fun e w' => e = .returned (.int .u64 (numN l : Int)) ∧ Holds s w' R := by
  refine enter Tryd.func120 rfl Tryd.ntmps120 rfl ?_
  repeat' (first | refine Z H ?_ | (refine Zc ?_ ?_ <;> intro hc <;> first | (exfalso; omega) | skip) | (refine Y ?_; try change C _ _ _ _ _ _) | (refine Zs H ?_; clear H; (try clear w); intro w H) | (refine Zn H ?_; clear H; (try clear w); intro _ w H) | (refine Ze H ?_; clear H; (try clear w); intro gv w H))
  refine C.loopH H [3, 4, 5, 8, 9, 10, 11, 12, 13, 14, 15, 16, 17, 18, 19, 20] [3, 8] rfl (fun m vs => ∃ i : Nat, m = l.length - i ∧ i ≤ l.length ∧ vs = [.int .u64 (numI l i : Int), .int .i64 (i : Int)]) l.length ⟨0, rfl, Nat.zero_le _, rfl⟩ ?_
  clear H
  rintro m vs hv w ⟨i, rfl, hi, rfl⟩ H
  by_cases hlt : i < l.length
  · obtain ⟨g, o, c', hv', _, _, hp⟩ := elemS1 h (by omega)
    cases hv'
    have pn : Pin s g (o + i * 1) (.int .u8 (l[i].toNat : Int)) := by rw [Nat.mul_one]; exact hp i hlt
    have hs : numI l (i + 1) = numI l i ||| (l[i].toNat <<< (8 * i)) := by simp only [numI]; rw [List.getElem?_eq_getElem hlt]; rfl
    have b1 := numI_64 l (i := i) (by omega)
    generalize numI l i = p at *
    generalize l[i] = x at *
    have b2 : x.toNat % 2 ^ 64 = x.toNat := Nat.mod_eq_of_lt (by have := x.toNat_lt; omega)
    have b3 := shl_64 x (i := i) (by omega)
    have b4 : x.toNat <<< (8 * i) < 2 ^ 64 := by rw [← b3]; exact Nat.mod_lt _ (by decide)
    repeat' (first | refine Z H ?_ | (refine Zc ?_ ?_ <;> intro hc <;> first | (exfalso; omega) | skip) | (refine Y ?_; try change C _ _ _ _ _ _) | (refine Zs H ?_; clear H; (try clear w); intro w H) | (refine Zn H ?_; clear H; (try clear w); intro _ w H) | (refine Ze H ?_; clear H; (try clear w); intro gv w H))
    refine B.conv Tryd.underlying5 ?_
    rw [b2]
    repeat' (first | (refine K.mul rfl rfl rfl rfl (by omega) (by omega) ?_; rw [show (8 : Int) * (i : Int) = ((8 * i : Nat) : Int) by omega]) | (refine B.shl ?_; rw [b3]) | (refine B.bit ?_) | refine Z H ?_ | (refine Zc ?_ ?_ <;> intro hc <;> first | (exfalso; omega) | skip) | (refine Y ?_; try change C _ _ _ _ _ _) | (refine Zs H ?_; clear H; (try clear w); intro w H) | (refine Zn H ?_; clear H; (try clear w); intro _ w H) | (refine Ze H ?_; clear H; (try clear w); intro gv w H))
    exact ⟨by (repeat (first | exact Agr.refl | exact Agr.hav | refine Agr.upd rfl ?_ | refine Agr.in rfl ?_)), l.length - (i + 1), by omega, ⟨i + 1, rfl, by omega, by rw [hs]; rfl⟩, H⟩
  · have hie : i = l.length := by omega
    subst hie
    repeat' (first | refine Z H ?_ | (refine Zc ?_ ?_ <;> intro hc <;> first | (exfalso; omega) | skip) | (refine Y ?_; try change C _ _ _ _ _ _) | (refine Zs H ?_; clear H; (try clear w); intro w H) | (refine Zn H ?_; clear H; (try clear w); intro _ w H) | (refine Ze H ?_; clear H; (try clear w); intro gv w H))
    exact ⟨_, resT rfl, rfl, H⟩
theorem Get_s {l : List UInt8} {a : Option Addr} {c : Nat} (H : Holds s w R) (h : SlS s (.slice a l.length c) 1 l.length (u8s l)) (h1 : 1 ≤ l.length) (hl : l.length ≤ 8) : Calls Tryd.prog 116 #[.slice a l.length c] w fun e w' => e = .returned (.tuple #[.int .u64 (numN l : Int), .int .i64 0]) ∧ Holds s w' R := by
  refine enter Tryd.func116 rfl Tryd.ntmps116 rfl ?_
  repeat' (first | refine Z H ?_ | (refine Zc ?_ ?_ <;> intro hc <;> first | (exfalso; omega) | skip) | (refine Y ?_; try change C _ _ _ _ _ _) | (refine Zs H ?_; clear H; (try clear w); intro w H) | (refine Zn H ?_; clear H; (try clear w); intro _ w H) | (refine Ze H ?_; clear H; (try clear w); intro gv w H))
  (refine X.call (number_s H h hl) ?_; (try clear H); rintro _ w ⟨rfl, H⟩; refine ⟨_, rfl, ?_⟩)
  repeat' (first | refine Z H ?_ | (refine Zc ?_ ?_ <;> intro hc <;> first | (exfalso; omega) | skip) | (refine Y ?_; try change C _ _ _ _ _ _) | (refine Zs H ?_; clear H; (try clear w); intro w H) | (refine Zn H ?_; clear H; (try clear w); intro _ w H) | (refine Ze H ?_; clear H; (try clear w); intro gv w H))
  exact ⟨_, resTT rfl, rfl, H⟩
end
end Go.Proofs.YtbknpbihgfphaaaDoor
