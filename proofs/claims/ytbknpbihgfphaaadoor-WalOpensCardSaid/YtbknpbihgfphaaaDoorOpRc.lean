/- The document's codecs (layers 2, 3, 16: Put, Number, On, Of, Seal, Noughts), walked. The types of the program, as instances; by types.py. octet's Reader. DERIVED: THE SHELF's CONTRACTS AT THIS DUMP, IN PLAIN WORDS (tools/lay-plain.mjs out of 'YtbknpbihgfphaaaDoorShelf0.lean', which tools/lay-shelf.mjs wrote): THE SAME DECLARATIONS UNDER THE SAME NAMES: 'import', 'namespace', 'open', 'def', 'theorem' AND NOTHING ELSE: no command of the shelf's: FOR A HAND-IN. Each laying: the table of numbers ('.._ren') and one theorem, a field a fact of the dump's own or the kernel's comparison; each contract: ONE APPLICATION. -/
import Derived.Test.YtbknpbihgfphaaaDoorOpCr
import Derived.Test.YtbknpbihgfphaaaDoorOpK9
import Derived.Test.YtbknpbihgfphaaaDoorRows
import Derived.Test.YtbknpbihgfphaaaDoorOpK6
import Derived.Shelf.SlSortCmp.WholeK
import Derived.Shelf.SlicesG.Cmp
import Derived.Shelf.Small.Bits
import Derived.Test.YtbknpbihgfphaaaDoorProg
set_option linter.unusedSimpArgs false
set_option linter.unusedVariables false
namespace Go.Proofs.YtbknpbihgfphaaaDoor
open Go Go.RowKit Go.Own
theorem put2_at (n i : Nat) (x : Nat) (hx : x = n / 256 ^ i) : Value.int .u8 ((x % 256 % 2 ^ 8 : Nat) : Int) = u8 (byteAt n i) := by
  subst hx
  have : (byteAt n i).toNat = n / 2 ^ (8 * i) % 2 ^ 8 := by simp [byteAt, Nat.shiftRight_eq_div_pow]
  unfold u8
  rw [this, show (256 : Nat) = 2 ^ 8 by rfl, ← Nat.pow_mul, Nat.mod_mod]
section
variable {s : Ro} {w : World} {R : List Asn}
set_option maxRecDepth 100000 in
set_option maxHeartbeats 1000000 in
theorem Put2_s {n size : Nat} (H : Holds s w R) (hn : n < 2 ^ 64) (h8 : size ≤ 8) : Calls Tryd.prog 81 #[.int .u64 (n : Int), .int .i64 (size : Int)] w fun e w' => ∃ aa cc, e = .returned (.slice aa (putN n size).length cc) ∧ Holds s w' (row 5 1 (.slice aa (putN n size).length cc) (putN n size).length (u8s (putN n size)) :: R) := by
  refine enter Tryd.func81 rfl Tryd.ntmps81 rfl ?_
  replace H := H.nilRow 5 1
  repeat' (first | refine Z H ?_ | (refine Zc ?_ ?_ <;> intro hc <;> first | (exfalso; omega) | skip) | (refine Y ?_; try change C _ _ _ _ _ _) | (refine Zs H ?_; clear H; (try clear w); intro w H) | (refine Zn H ?_; clear H; (try clear w); intro _ w H) | (refine Ze H ?_; clear H; (try clear w); intro gv w H))
  refine C.loopS [0, 5, 6, 9, 10, 11, 12, 13, 14, 15, 16, 17, 18, 19, 20, 21] [0, 5, 6] rfl (fun m vs w => ∃ i : Nat, ∃ aa cc, m = size - i ∧ i ≤ size ∧ vs = [.int .u64 ((n / 256 ^ i : Nat) : Int), .slice aa (putN n i).length cc, .int .i64 (i : Int)] ∧ Holds s w (row 5 1 (.slice aa (putN n i).length cc) (putN n i).length (u8s (putN n i)) :: R)) size ⟨0, none, 0, rfl, Nat.zero_le _, by simp only [Nat.pow_zero, Nat.div_one]; rfl, H⟩ ?_
  clear H
  rintro m vs hv w ⟨i, aa, cc, rfl, hi, rfl, H⟩
  have hpl := putN_len n i
  have hlt64 : n / 256 ^ i < 2 ^ 64 := Nat.lt_of_le_of_lt (Nat.div_le_self _ _) hn
  by_cases hlt : i < size
  · have hst := put2_at n i _ rfl
    have hnx : n / 256 ^ i / 256 = n / 256 ^ (i + 1) := by rw [Nat.div_div_eq_div_mul, Nat.pow_succ]
    generalize n / 256 ^ i = x at *
    repeat' (first | (refine B.rem ?_) | (refine B.conv Tryd.underlying145 ?_; rw [hst]) | refine Z H ?_ | (refine Zc ?_ ?_ <;> intro hc <;> first | (exfalso; omega) | skip) | (refine Y ?_; try change C _ _ _ _ _ _) | (refine Zs H ?_; clear H; (try clear w); intro w H) | (refine Zn H ?_; clear H; (try clear w); intro _ w H) | (refine Ze H ?_; clear H; (try clear w); intro gv w H))
    refine K.one H rfl rfl (by conv => lhs; whnf) (by rfl) (by rfl) ?_; clear H; (try clear w); intro g1 w H
    have H' : Holds s w (row 5 1 (.slice (some ⟨g1, 0, none⟩) 1 1) 1 (u8s [byteAt n i]) :: row 5 1 (.slice aa (putN n i).length cc) (putN n i).length (u8s (putN n i)) :: R) := H
    clear H
    have H := H'
    clear H'
    repeat' (first | (refine X.app H ?_; clear H; intro a2 c2 w H) | (refine B.quo ?_) | refine Z H ?_ | (refine Zc ?_ ?_ <;> intro hc <;> first | (exfalso; omega) | skip) | (refine Y ?_; try change C _ _ _ _ _ _) | (refine Zs H ?_; clear H; (try clear w); intro w H) | (refine Zn H ?_; clear H; (try clear w); intro _ w H) | (refine Ze H ?_; clear H; (try clear w); intro gv w H))
    refine ⟨by (repeat (first | exact Agr.refl | exact Agr.hav | refine Agr.upd rfl ?_ | refine Agr.in rfl ?_)), size - (i + 1), by omega, i + 1, a2, c2, rfl, by omega, ?_, ?_⟩
    · rw [← hnx, putN_succ, List.length_append]; rfl
    · rw [putN_succ, List.length_append, u8s_app]; exact H.arr
  · have hie : i = size := by omega
    subst hie
    repeat' (first | refine Z H ?_ | (refine Zc ?_ ?_ <;> intro hc <;> first | (exfalso; omega) | skip) | (refine Y ?_; try change C _ _ _ _ _ _) | (refine Zs H ?_; clear H; (try clear w); intro w H) | (refine Zn H ?_; clear H; (try clear w); intro _ w H) | (refine Ze H ?_; clear H; (try clear w); intro gv w H))
    exact ⟨_, resT rfl, aa, cc, rfl, H⟩
theorem num2_step {l : List UInt8} {i : Nat} (h : i < l.length) : numI l (i + 1) = numI l i + l[i].toNat * 2 ^ (8 * i) := by
  rw [numI, Nat.or_comm, ← Nat.shiftLeft_add_eq_or_of_lt (numI_lt l i), Nat.shiftLeft_eq, List.getElem?_eq_getElem h, Nat.add_comm]
  rfl
set_option maxRecDepth 100000 in
set_option maxHeartbeats 1000000 in
theorem Number2_s {l : List UInt8} {a : Option Addr} {c : Nat} (H : Holds s w R) (h : SlS s (.slice a l.length c) 1 l.length (u8s l)) (hl : l.length ≤ 7) : Calls Tryd.prog 101 #[.slice a l.length c] w fun e w' => e = .returned (.int .u64 (numN l : Int)) ∧ Holds s w' R := by
  refine enter Tryd.func101 rfl Tryd.ntmps101 rfl ?_
  repeat' (first | refine Z H ?_ | (refine Zc ?_ ?_ <;> intro hc <;> first | (exfalso; omega) | skip) | (refine Y ?_; try change C _ _ _ _ _ _) | (refine Zs H ?_; clear H; (try clear w); intro w H) | (refine Zn H ?_; clear H; (try clear w); intro _ w H) | (refine Ze H ?_; clear H; (try clear w); intro gv w H))
  refine C.loopH H [3, 4, 5, 6, 7, 8, 9, 10, 11, 12, 13, 14, 15, 16, 17, 18, 19, 20, 21, 22] [3, 4, 5] rfl (fun m vs => ∃ i : Nat, m = l.length - i ∧ i ≤ l.length ∧ vs = [.int .u64 (numI l i : Int), .int .u64 ((2 ^ (8 * i) : Nat) : Int), .int .i64 (i : Int)]) l.length ⟨0, rfl, Nat.zero_le _, rfl⟩ ?_
  clear H
  rintro m vs hv w ⟨i, rfl, hi, rfl⟩ H
  by_cases hlt : i < l.length
  · obtain ⟨g, o, c', hv', _, _, hp⟩ := elemS1 h (by omega)
    cases hv'
    have pn : Pin s g (o + i * 1) (.int .u8 (l[i].toNat : Int)) := by rw [Nat.mul_one]; exact hp i hlt
    have hs := num2_step hlt
    have b1 := numI_64 l (i := i + 1) (by omega)
    have b5 : 2 ^ (8 * i) * 256 = 2 ^ (8 * (i + 1)) := by rw [Nat.mul_add, Nat.pow_add]
    have b6 : 2 ^ (8 * (i + 1)) < 2 ^ 64 := Nat.pow_lt_pow_right (by decide) (by omega)
    rw [hs] at b1
    have b4 : l[i].toNat * 2 ^ (8 * i) % 2 ^ 64 = l[i].toNat * 2 ^ (8 * i) := Nat.mod_eq_of_lt (by omega)
    have b7 : 2 ^ (8 * i) * 256 % 2 ^ 64 = 2 ^ (8 * (i + 1)) := by rw [b5]; exact Nat.mod_eq_of_lt b6
    clear b5 b6
    generalize hu2 : 2 ^ (8 * (i + 1)) = u2 at *
    generalize 2 ^ (8 * i) = u1 at *
    generalize hn2 : numI l (i + 1) = p2 at *
    generalize numI l i = p at *
    generalize l[i] = x at *
    have b2 : x.toNat % 2 ^ 64 = x.toNat := Nat.mod_eq_of_lt (by have := x.toNat_lt; omega)
    repeat' (first | (refine B.conv Tryd.underlying5 ?_; rw [b2]) | refine Z H ?_ | (refine Zc ?_ ?_ <;> intro hc <;> first | (exfalso; omega) | skip) | (refine Y ?_; try change C _ _ _ _ _ _) | (refine Zs H ?_; clear H; (try clear w); intro w H) | (refine Zn H ?_; clear H; (try clear w); intro _ w H) | (refine Ze H ?_; clear H; (try clear w); intro gv w H))
    refine B.mul ?_
    rw [b4]
    generalize x.toNat * u1 = z at *
    refine B.add ?_
    repeat' (first | refine Z H ?_ | (refine Zc ?_ ?_ <;> intro hc <;> first | (exfalso; omega) | skip) | (refine Y ?_; try change C _ _ _ _ _ _) | (refine Zs H ?_; clear H; (try clear w); intro w H) | (refine Zn H ?_; clear H; (try clear w); intro _ w H) | (refine Ze H ?_; clear H; (try clear w); intro gv w H))
    refine B.mul (b := 256) ?_
    rw [b7]
    repeat' (first | refine Z H ?_ | (refine Zc ?_ ?_ <;> intro hc <;> first | (exfalso; omega) | skip) | (refine Y ?_; try change C _ _ _ _ _ _) | (refine Zs H ?_; clear H; (try clear w); intro w H) | (refine Zn H ?_; clear H; (try clear w); intro _ w H) | (refine Ze H ?_; clear H; (try clear w); intro gv w H))
    exact ⟨by (repeat (first | exact Agr.refl | exact Agr.hav | refine Agr.upd rfl ?_ | refine Agr.in rfl ?_)), l.length - (i + 1), by omega, ⟨i + 1, rfl, by omega, by rw [hn2, hs, hu2]; rfl⟩, H⟩
  · have hie : i = l.length := by omega
    subst hie
    repeat' (first | refine Z H ?_ | (refine Zc ?_ ?_ <;> intro hc <;> first | (exfalso; omega) | skip) | (refine Y ?_; try change C _ _ _ _ _ _) | (refine Zs H ?_; clear H; (try clear w); intro w H) | (refine Zn H ?_; clear H; (try clear w); intro _ w H) | (refine Ze H ?_; clear H; (try clear w); intro gv w H))
    exact ⟨_, resT rfl, rfl, H⟩
set_option maxRecDepth 100000 in
set_option maxHeartbeats 1000000 in
theorem On3_s {l : List UInt8} {a : Option Addr} {c sum : Nat} (H : Holds s w R) (h : SlS s (.slice a l.length c) 1 l.length (u8s l)) (hl : l.length ≤ 1000000) (hs : sum < 2 ^ 32) : Calls Tryd.prog 127 #[.int .u32 (sum : Int), .slice a l.length c] w fun e w' => e = .returned (.int .u32 (crcOn sum l : Int)) ∧ Holds s w' R := by
  have hs0 := Nat.xor_lt_two_pow (x := 2 ^ 32 - 1) (by decide) hs
  have hs1 := not_sub hs
  unfold crcOn
  generalize (2 ^ 32 - 1) ^^^ sum = s0 at *
  refine enter Tryd.func127 rfl Tryd.ntmps127 rfl ?_
  repeat' (first | refine Z H ?_ | (refine Zc ?_ ?_ <;> intro hc <;> first | (exfalso; omega) | skip) | (refine Y ?_; try change C _ _ _ _ _ _) | (refine Zs H ?_; clear H; (try clear w); intro w H) | (refine Zn H ?_; clear H; (try clear w); intro _ w H) | (refine Ze H ?_; clear H; (try clear w); intro gv w H))
  refine B.sub (a := 4294967295) ?_
  rw [← hs1]
  repeat' (first | refine Z H ?_ | (refine Zc ?_ ?_ <;> intro hc <;> first | (exfalso; omega) | skip) | (refine Y ?_; try change C _ _ _ _ _ _) | (refine Zs H ?_; clear H; (try clear w); intro w H) | (refine Zn H ?_; clear H; (try clear w); intro _ w H) | (refine Ze H ?_; clear H; (try clear w); intro gv w H))
  refine C.loopH H [5, 6, 7, 8, 9, 12, 13, 14, 15, 16, 17, 18, 19, 20, 21, 22, 23, 24, 25, 26, 27, 28, 29, 30, 31, 32, 33, 34, 35, 36, 37, 38, 39, 40, 41] [5, 6] rfl (fun m vs => ∃ i : Nat, m = l.length - i ∧ i ≤ l.length ∧ vs = [.int .u32 ((l.take i).foldl crcByte s0 : Nat), .int .i64 (i : Int)]) l.length ⟨0, rfl, Nat.zero_le _, rfl⟩ ?_
  clear H
  rintro m vs hv w ⟨i, rfl, hi, rfl⟩ H
  have hb := fold_lt (l.take i) s0 hs0
  by_cases hlt : i < l.length
  · obtain ⟨g, o, c', hv', _, _, hp⟩ := elemS1 h (by omega)
    cases hv'
    have pn : Pin s g (o + i * 1) (.int .u8 (l[i].toNat : Int)) := by rw [Nat.mul_one]; exact hp i hlt
    have hsu : (l.take (i + 1)).foldl crcByte s0 = crcByte ((l.take i).foldl crcByte s0) l[i] := by rw [List.take_succ_eq_append_getElem hlt, List.foldl_append]; rfl
    rw [← byte_bits] at hsu
    generalize (l.take i).foldl crcByte s0 = r at *
    generalize l[i] = x at *
    have hx8 : x.toNat < 2 ^ 8 := x.toNat_lt
    repeat' (first | refine Z H ?_ | (refine Zc ?_ ?_ <;> intro hc <;> first | (exfalso; omega) | skip) | (refine Y ?_; try change C _ _ _ _ _ _) | (refine Zs H ?_; clear H; (try clear w); intro w H) | (refine Zn H ?_; clear H; (try clear w); intro _ w H) | (refine Ze H ?_; clear H; (try clear w); intro gv w H))
    refine C.loopH H [5, 7, 8, 9, 18, 19, 20, 21, 22, 23, 24, 25, 26, 27, 28, 29, 30, 31, 32, 33, 34, 35, 36, 37, 38, 39, 40, 41] [5, 7] rfl (fun m vs => ∃ k : Nat, m = 8 - k ∧ k ≤ 8 ∧ vs = [.int .u32 (bitsR r x.toNat k : Nat), .int .i64 (k : Int)]) 8 ⟨0, rfl, Nat.zero_le _, rfl⟩ ?_
    clear H
    rintro m vs hv w ⟨k, rfl, hk, rfl⟩ H
    have hq := bitsR_lt (x := x.toNat) hb k
    by_cases hk8 : k < 8
    · have hst : bitsR r x.toNat (k + 1) = bitR (bitsR r x.toNat k) ((x.toNat >>> k) % 2) := rfl
      unfold bitR at hst
      have hsh : x.toNat >>> k < 2 ^ 8 := Nat.lt_of_le_of_lt (Nat.shiftRight_le _ _) hx8
      have hkw : k % 2 ^ 64 = k := Nat.mod_eq_of_lt (by omega)
      generalize hn2 : bitsR r x.toNat (k + 1) = p2 at *
      generalize bitsR r x.toNat k = p at *
      repeat' (first | (refine B.conv Tryd.underlying3 ?_; rw [hkw]) | refine Z H ?_ | (refine Zc ?_ ?_ <;> intro hc <;> first | (exfalso; omega) | skip) | (refine Y ?_; try change C _ _ _ _ _ _) | (refine Zs H ?_; clear H; (try clear w); intro w H) | (refine Zn H ?_; clear H; (try clear w); intro _ w H) | (refine Ze H ?_; clear H; (try clear w); intro gv w H))
      refine B.shr ?_
      generalize x.toNat >>> k = y at *
      have hyw : y % 2 ^ 32 = y := Nat.mod_eq_of_lt (by omega)
      refine B.conv Tryd.underlying5 ?_
      rw [hyw]
      refine B.rem (b := 2) ?_
      repeat' (first | refine Z H ?_ | (refine Zc ?_ ?_ <;> intro hc <;> first | (exfalso; omega) | skip) | (refine Y ?_; try change C _ _ _ _ _ _) | (refine Zs H ?_; clear H; (try clear w); intro w H) | (refine Zn H ?_; clear H; (try clear w); intro _ w H) | (refine Ze H ?_; clear H; (try clear w); intro gv w H))
      refine B.rem (b := 2) ?_
      repeat' (first | refine Z H ?_ | (refine Zc ?_ ?_ <;> intro hc <;> first | (exfalso; omega) | skip) | (refine Y ?_; try change C _ _ _ _ _ _) | (refine Zs H ?_; clear H; (try clear w); intro w H) | (refine Zn H ?_; clear H; (try clear w); intro _ w H) | (refine Ze H ?_; clear H; (try clear w); intro gv w H))
      refine B.add ?_
      refine B.rem (b := 2) ?_
      repeat' (first | refine Z H ?_ | (refine Zc ?_ ?_ <;> intro hc <;> first | (exfalso; omega) | skip) | (refine Y ?_; try change C _ _ _ _ _ _) | (refine Zs H ?_; clear H; (try clear w); intro w H) | (refine Zn H ?_; clear H; (try clear w); intro _ w H) | (refine Ze H ?_; clear H; (try clear w); intro gv w H))
      refine B.quo (b := 2) ?_
      repeat' (first | refine Z H ?_ | (refine Zc ?_ ?_ <;> intro hc <;> first | (exfalso; omega) | skip) | (refine Y ?_; try change C _ _ _ _ _ _) | (refine Zs H ?_; clear H; (try clear w); intro w H) | (refine Zn H ?_; clear H; (try clear w); intro _ w H) | (refine Ze H ?_; clear H; (try clear w); intro gv w H))
      · rw [if_pos (by omega)] at hst
        refine B.bit (b := 2197175160) ?_
        repeat' (first | refine Z H ?_ | (refine Zc ?_ ?_ <;> intro hc <;> first | (exfalso; omega) | skip) | (refine Y ?_; try change C _ _ _ _ _ _) | (refine Zs H ?_; clear H; (try clear w); intro w H) | (refine Zn H ?_; clear H; (try clear w); intro _ w H) | (refine Ze H ?_; clear H; (try clear w); intro gv w H))
        exact ⟨by (repeat (first | exact Agr.refl | exact Agr.hav | refine Agr.upd rfl ?_ | refine Agr.in rfl ?_)), 8 - (k + 1), by omega, ⟨k + 1, rfl, by omega, by rw [hn2, hst]; rfl⟩, H⟩
      · rw [if_neg (by omega)] at hst
        exact ⟨by (repeat (first | exact Agr.refl | exact Agr.hav | refine Agr.upd rfl ?_ | refine Agr.in rfl ?_)), 8 - (k + 1), by omega, ⟨k + 1, rfl, by omega, by rw [hn2, hst]; rfl⟩, H⟩
    · have hke : k = 8 := by omega
      subst hke
      repeat' (first | refine Z H ?_ | (refine Zc ?_ ?_ <;> intro hc <;> first | (exfalso; omega) | skip) | (refine Y ?_; try change C _ _ _ _ _ _) | (refine Zs H ?_; clear H; (try clear w); intro w H) | (refine Zn H ?_; clear H; (try clear w); intro _ w H) | (refine Ze H ?_; clear H; (try clear w); intro gv w H))
      exact ⟨by (repeat (first | exact Agr.refl | exact Agr.hav | refine Agr.upd rfl ?_ | refine Agr.in rfl ?_)), l.length - (i + 1), by omega, ⟨i + 1, rfl, by omega, by rw [hsu]; rfl⟩, H⟩
  · have hie : i = l.length := by omega
    subst hie
    rw [List.take_length] at hb ⊢
    have hf := not_sub hb
    repeat' (first | refine Z H ?_ | (refine Zc ?_ ?_ <;> intro hc <;> first | (exfalso; omega) | skip) | (refine Y ?_; try change C _ _ _ _ _ _) | (refine Zs H ?_; clear H; (try clear w); intro w H) | (refine Zn H ?_; clear H; (try clear w); intro _ w H) | (refine Ze H ?_; clear H; (try clear w); intro gv w H))
    refine B.sub (a := 4294967295) ?_
    rw [← hf]
    repeat' (first | refine Z H ?_ | (refine Zc ?_ ?_ <;> intro hc <;> first | (exfalso; omega) | skip) | (refine Y ?_; try change C _ _ _ _ _ _) | (refine Zs H ?_; clear H; (try clear w); intro w H) | (refine Zn H ?_; clear H; (try clear w); intro _ w H) | (refine Ze H ?_; clear H; (try clear w); intro gv w H))
    exact ⟨_, resT rfl, rfl, H⟩
theorem Of3_s {l : List UInt8} {v : Value} (H : Holds s w R) (h : Src s R v 1 l.length (u8s l)) (hl : l.length ≤ 1000000) : Calls Tryd.prog 112 #[v] w fun e w' => e = .returned (.int .u32 (crcOn 0 l : Int)) ∧ Only [] w w' ∧ Holds s w' R := by
  obtain ⟨a, c, rfl, _⟩ := h.form H
  have key : ∀ {s : Ro} {R : List Asn} (H : Holds s w R) (h : SlS s (.slice a l.length c) 1 l.length (u8s l)), Calls Tryd.prog 112 #[.slice a l.length c] w fun e w' => e = .returned (.int .u32 (crcOn 0 l : Int)) ∧ Holds s w' R := by
    clear H h
    intro s R H h
    refine enter Tryd.func112 rfl Tryd.ntmps112 rfl ?_
    repeat' (first | refine Z H ?_ | (refine Zc ?_ ?_ <;> intro hc <;> first | (exfalso; omega) | skip) | (refine Y ?_; try change C _ _ _ _ _ _) | (refine Zs H ?_; clear H; (try clear w); intro w H) | (refine Zn H ?_; clear H; (try clear w); intro _ w H) | (refine Ze H ?_; clear H; (try clear w); intro gv w H))
    (refine X.call (On3_s (sum := 0) H h hl (by decide)) ?_; (try clear H); rintro _ w ⟨rfl, H⟩; refine ⟨_, rfl, ?_⟩)
    repeat' (first | refine Z H ?_ | (refine Zc ?_ ?_ <;> intro hc <;> first | (exfalso; omega) | skip) | (refine Y ?_; try change C _ _ _ _ _ _) | (refine Zs H ?_; clear H; (try clear w); intro w H) | (refine Zn H ?_; clear H; (try clear w); intro _ w H) | (refine Ze H ?_; clear H; (try clear w); intro gv w H))
    exact ⟨_, resT rfl, rfl, H⟩
  exact (key H.full (h.full H)).mono fun e w' ⟨he, H'⟩ => ⟨he, H.pure0 H'⟩
theorem Seal3_s {l : List UInt8} {v : Value} (H : Holds s w R) (h : Src s R v 1 l.length (u8s l)) (hl : l.length ≤ 1000) : Calls Tryd.prog 82 #[v] w fun e w' => ∃ aa cc, e = .returned (.slice aa (sealL l).length cc) ∧ Holds s w' (row 5 1 (.slice aa (sealL l).length cc) (sealL l).length (u8s (sealL l)) :: R) := by
  obtain ⟨a, c, rfl, _⟩ := h.form H
  have hcl := on_lt (sum := 0) (by decide) l
  have hcv : crcOn 0 l % 2 ^ 64 = crcOn 0 l := Nat.mod_eq_of_lt (Nat.lt_trans hcl (by decide))
  have hsl : (sealL l).length = l.length + 4 := by simp [sealL, putN_len]
  have hpl := putN_len (crcOn 0 l) 4
  refine enter Tryd.func82 rfl Tryd.ntmps82 rfl ?_
  repeat' (first | refine Z H ?_ | (refine Zc ?_ ?_ <;> intro hc <;> first | (exfalso; omega) | skip) | (refine Y ?_; try change C _ _ _ _ _ _) | (refine Zs H ?_; clear H; (try clear w); intro w H) | (refine Zn H ?_; clear H; (try clear w); intro _ w H) | (refine Ze H ?_; clear H; (try clear w); intro gv w H))
  refine K.app0 0 H rfl h.skip (u8s_one _) (by unfold maxLen; omega) (by omega) rfl rfl rfl ?_
  clear H
  intro a1 c1 w H
  (try simp only [List.set_cons_zero, List.set_cons_succ, List.eraseIdx_cons_zero, List.eraseIdx_cons_succ] at H)
  repeat' (first | refine Z H ?_ | (refine Zc ?_ ?_ <;> intro hc <;> first | (exfalso; omega) | skip) | (refine Y ?_; try change C _ _ _ _ _ _) | (refine Zs H ?_; clear H; (try clear w); intro w H) | (refine Zn H ?_; clear H; (try clear w); intro _ w H) | (refine Ze H ?_; clear H; (try clear w); intro gv w H))
  (refine X.call (Of3_s H h.skip (by omega)) ?_; (try clear H); rintro _ w ⟨rfl, _, H⟩; refine ⟨_, rfl, ?_⟩)
  repeat' (first | (refine B.conv Tryd.underlying32 ?_; rw [hcv]) | refine Z H ?_ | (refine Zc ?_ ?_ <;> intro hc <;> first | (exfalso; omega) | skip) | (refine Y ?_; try change C _ _ _ _ _ _) | (refine Zs H ?_; clear H; (try clear w); intro w H) | (refine Zn H ?_; clear H; (try clear w); intro _ w H) | (refine Ze H ?_; clear H; (try clear w); intro gv w H))
  (refine X.call (Put2_s (n := crcOn 0 l) (size := 4) H (by omega) (by decide)) ?_; (try clear H); rintro _ w ⟨a2, c2, rfl, H⟩; refine ⟨_, rfl, ?_⟩)
  repeat' (first | refine Z H ?_ | (refine Zc ?_ ?_ <;> intro hc <;> first | (exfalso; omega) | skip) | (refine Y ?_; try change C _ _ _ _ _ _) | (refine Zs H ?_; clear H; (try clear w); intro w H) | (refine Zn H ?_; clear H; (try clear w); intro _ w H) | (refine Ze H ?_; clear H; (try clear w); intro gv w H))
  refine X.app H ?_
  clear H
  intro a3 c3 w H
  repeat' (first | refine Z H ?_ | (refine Zc ?_ ?_ <;> intro hc <;> first | (exfalso; omega) | skip) | (refine Y ?_; try change C _ _ _ _ _ _) | (refine Zs H ?_; clear H; (try clear w); intro w H) | (refine Zn H ?_; clear H; (try clear w); intro _ w H) | (refine Ze H ?_; clear H; (try clear w); intro gv w H))
  have e1 : (sealL l).length = l.length + (putN (crcOn 0 l) 4).length := by simp [sealL]
  have e2 : u8s (sealL l) = u8s l ++ u8s (putN (crcOn 0 l) 4) := u8s_app _ _
  refine ⟨_, resT rfl, a3, c3, by rw [e1]; rfl, ?_⟩
  rw [e1, e2]
  exact H.arr
theorem Noughts16_s {n : Nat} (H : Holds s w R) (hn : n ≤ 1000) : Calls Tryd.prog 40 #[.int .i64 (n : Int)] w fun e w' => e = .returned (.string (bst (List.replicate n 0))) ∧ Only [] w w' ∧ Holds s w' R := by
  have key : ∀ {s : Ro} {R : List Asn} (H : Holds s w R), Calls Tryd.prog 40 #[.int .i64 (n : Int)] w fun e w' => e = .returned (.string (bst (List.replicate n 0))) ∧ Holds s w' R := by
    clear H
    intro s R H
    refine enter Tryd.func40 rfl Tryd.ntmps40 rfl ?_
    repeat' (first | refine Z H ?_ | (refine Zc ?_ ?_ <;> intro hc <;> first | (exfalso; omega) | skip) | (refine Y ?_; try change C _ _ _ _ _ _) | (refine Zs H ?_; clear H; (try clear w); intro w H) | (refine Zn H ?_; clear H; (try clear w); intro _ w H) | (refine Ze H ?_; clear H; (try clear w); intro gv w H))
    refine C.loopH H [3, 4, 5, 6, 7, 8, 9, 10, 11] [3, 4] rfl (fun m vs => ∃ i : Nat, m = n - i ∧ i ≤ n ∧ vs = [.string (bst (List.replicate i 0)), .int .i64 (i : Int)]) n ⟨0, rfl, Nat.zero_le _, rfl⟩ ?_
    clear H
    rintro m vs hv w ⟨i, rfl, hi, rfl⟩ H
    by_cases hlt : i < n
    · have hsz : (bst (List.replicate i 0)).size = i := by rw [bst_size, List.length_replicate]
      have hs1 : (⟨#[0]⟩ : ByteArray).size = 1 := rfl
      have hap : bst (List.replicate i 0) ++ (⟨#[0]⟩ : ByteArray) = bst (List.replicate (i + 1) 0) := by
        have : (⟨#[0]⟩ : ByteArray) = bst [0] := rfl
        rw [this, bst_app, List.replicate_succ']
      repeat' (first | (refine J.cat (b := ⟨#[0]⟩) ?_ (hl := by rw [hsz, hs1]; omega)) | refine Z H ?_ | (refine Zc ?_ ?_ <;> intro hc <;> first | (exfalso; omega) | skip) | (refine Y ?_; try change C _ _ _ _ _ _) | (refine Zs H ?_; clear H; (try clear w); intro w H) | (refine Zn H ?_; clear H; (try clear w); intro _ w H) | (refine Ze H ?_; clear H; (try clear w); intro gv w H))
      exact ⟨by (repeat (first | exact Agr.refl | exact Agr.hav | refine Agr.upd rfl ?_ | refine Agr.in rfl ?_)), n - (i + 1), by omega, ⟨i + 1, rfl, by omega, by rw [← hap]; rfl⟩, H⟩
    · have hie : i = n := by omega
      subst hie
      repeat' (first | refine Z H ?_ | (refine Zc ?_ ?_ <;> intro hc <;> first | (exfalso; omega) | skip) | (refine Y ?_; try change C _ _ _ _ _ _) | (refine Zs H ?_; clear H; (try clear w); intro w H) | (refine Zn H ?_; clear H; (try clear w); intro _ w H) | (refine Ze H ?_; clear H; (try clear w); intro gv w H))
      exact ⟨_, resT rfl, rfl, H⟩
  exact (key H.full).mono fun e w' ⟨he, H'⟩ => ⟨he, H.pure0 H'⟩
end
end Go.Proofs.YtbknpbihgfphaaaDoor
set_option linter.unusedSimpArgs false
namespace Go.Proofs.YtbknpbihgfphaaaDoor
open Go Go.RowKit Go.Own
-- 34 api.Entry
-- 98 api.Change
instance : RowC Tryd.prog 98 2 := ⟨⟨_, Tryd.underlying98, rfl⟩, by kernel_rfl⟩
instance : ZeroC Tryd.prog 98 ([.int .i64 0, .slice none 0 0]) := ⟨⟨.agg ([.int .i64 0, .slice none 0 0]).toArray, by kernel_rfl, by kernel_rfl⟩⟩
instance : FldC Tryd.prog 98 0 0 := ⟨⟨_, _, Tryd.underlying98, rfl, rfl, 0, by kernel_rfl⟩⟩
instance : FldC Tryd.prog 98 1 1 := ⟨⟨_, _, Tryd.underlying98, rfl, rfl, 0, by kernel_rfl⟩⟩
-- 112 audit.Log
-- 140 wal.Log
instance : FldC Tryd.prog 140 0 0 := ⟨⟨_, _, Tryd.underlying140, rfl, rfl, 0, by kernel_rfl⟩⟩
instance : FldC Tryd.prog 140 1 1 := ⟨⟨_, _, Tryd.underlying140, rfl, rfl, 0, by kernel_rfl⟩⟩
instance : FldC Tryd.prog 140 2 2 := ⟨⟨_, _, Tryd.underlying140, rfl, rfl, 0, by kernel_rfl⟩⟩
instance : FldC Tryd.prog 140 3 3 := ⟨⟨_, _, Tryd.underlying140, rfl, rfl, 0, by kernel_rfl⟩⟩
instance : FldC Tryd.prog 140 4 4 := ⟨⟨_, _, Tryd.underlying140, rfl, rfl, 639, by kernel_rfl⟩⟩
instance : FldC Tryd.prog 140 5 644 := ⟨⟨_, _, Tryd.underlying140, rfl, rfl, 0, by kernel_rfl⟩⟩
-- 184 octet.Reader
end Go.Proofs.YtbknpbihgfphaaaDoor
set_option linter.unusedSimpArgs false
set_option linter.unusedVariables false
namespace Go.Proofs.YtbknpbihgfphaaaDoor
open Go Go.RowKit Go.Own
section
variable {P : Program} {n : Nat} {ops : Array Oper} {Q : Post} {rest : List Oper} {e : Env} {w : World} {tt : Nat} {pp : String} {af : Array Edge} {g : Option (Nat × Bool)} {d : Nat}
/-- x[l:h] of a slice -/
theorem midK {t el : TypeId} {x lo hi : Operand} {a : Option Addr} {m c sz by_ l h' : Nat} {zz : List Value} {k k' : IntKind} {il ih : Int} [E : ElC P t el sz by_ zz] (hw : wg n ops g e = true) (hd : Nat.blt d n = true) (hx : ev e x = .slice a m c) (hlo : ev e lo = .int k il) (hhi : ev e hi = .int k' ih) (hl : il = (l : Int)) (hh : ih = (h' : Int)) (h1 : l ≤ h') (h2 : h' ≤ c) (h : L P n ops Q rest (upd e d (.slice (subAddr a c l sz) (h' - l) (c - l))) w) : L P n ops Q (⟨some d, .slice t x (some lo) (some hi) none, tt, pp, af, g⟩ :: rest) e w := by
  obtain ⟨v, E', _⟩ := E.el
  obtain ⟨inf, i1, i2, i3, i4⟩ := E'.info
  refine L.val (o := ⟨some d, .slice t x (some lo) (some hi) none, tt, pp, af, g⟩) _ w hw hd (run_v (sm := Instr.sliceAt t (ev e x) (some (ev e lo)) (some (ev e hi)) none) rfl ?_) h
  rw [hx, hlo, hhi]
  simp [Instr.sliceAt, run_underlying E'.slice, Instr.slice, Instr.sliceBounds, Own.run_sliceBound hl h1, Own.run_sliceBound hh h2, sizeOf, typeInfo, i1, i3, subAddr]
end
section
variable {s : Ro} {w : World} {R : List Asn}
/-- a reader at block g: the bytes, and how far -/
structure Rdr (s : Ro) (a : Option Addr) (c : Nat) (l : List UInt8) : Prop where
  sl : SlS s (.slice a l.length c) 1 l.length (u8s l)
  few : l.length ≤ 1000
theorem Rdr.mono {s s' : Ro} {a : Option Addr} {c : Nat} {l : List UInt8} (h : Rdr s a c l) (hs : s.Le s') : Rdr s' a c l := ⟨h.sl.mono hs, h.few⟩
end
end Go.Proofs.YtbknpbihgfphaaaDoor
namespace Go.Proofs
open Go.Shelf
end Go.Proofs
