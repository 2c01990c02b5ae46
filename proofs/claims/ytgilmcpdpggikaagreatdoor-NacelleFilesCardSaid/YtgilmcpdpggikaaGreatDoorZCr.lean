/- Squeezed copy of the texts Cr Od Tj. -/
import Derived.Test.YtgilmcpdpggikaaGreatDoorZTzx
import Derived.Test.YtgilmcpdpggikaaGreatDoorZTy
set_option maxRecDepth 100000
set_option maxHeartbeats 1000000
set_option linter.unusedSimpArgs false
set_option linter.unusedVariables false
namespace Go.Proofs.YtgilmcpdpggikaaGreatDoor
open Go Go.RowKit Go.Own
def nibs : List Nat := [0, 274646895, 549293790, 820201905, 1098587580, 1361435347, 1640403810, 1905808397, 2197175160, 2460548119, 2722870694, 2987750089, 3280807620, 3553878443, 3811616794, 4084100981]
def nib (q : Nat) : Nat := nibs[q]?.getD 0
theorem nib_lt : ∀ q, nib q < 2 ^ 32 := by
 intro q
 by_cases h : q < 16
 ·have : ∀ q : Fin 16, nib q.1 < 2 ^ 32 := by decide
  exact this ⟨q, h⟩
 ·unfold nib
  rw [List.getElem?_eq_none (by show 16 ≤ q; omega)]
  decide
def crcRound (r : Nat) : Nat := (r >>> 4) ^^^ nib (r &&& 15)
def crcByte (r : Nat) (x : UInt8) : Nat := crcRound (crcRound (r ^^^ x.toNat))
def crcOn (sum : Nat) (l : List UInt8) : Nat := (2 ^ 32 - 1) ^^^ (l.foldl crcByte ((2 ^ 32 - 1) ^^^ sum))
theorem shr_lt {r : Nat} (h : r < 2 ^ 32) (k : Nat) : r >>> k < 2 ^ 32 := Nat.lt_of_le_of_lt (Nat.shiftRight_le _ _) h
theorem round_lt {r : Nat} (h : r < 2 ^ 32) : crcRound r < 2 ^ 32 := Nat.xor_lt_two_pow (shr_lt h 4) (nib_lt _)
theorem u8_lt32 (x : UInt8) : x.toNat < 2 ^ 32 := by have := x.toNat_lt; omega
theorem byte_lt {r : Nat} (h : r < 2 ^ 32) (x : UInt8) : crcByte r x < 2 ^ 32 := round_lt (round_lt (Nat.xor_lt_two_pow h (u8_lt32 x)))
theorem fold_lt : ∀ (l : List UInt8) (r : Nat), r < 2 ^ 32 → l.foldl crcByte r < 2 ^ 32
 | [], _, h => h
 | x :: l, r, h => fold_lt l _ (byte_lt h x)
theorem on_lt {sum : Nat} (h : sum < 2 ^ 32) (l : List UInt8) : crcOn sum l < 2 ^ 32 := Nat.xor_lt_two_pow (by decide) (fold_lt l _ (Nat.xor_lt_two_pow (by decide) h))
def Nib (s : Ro) : Prop := ∀ q, q < 16 → Pin s 1 (0 + q * 1) (.int .u32 (nib q : Int))
theorem Nib.mono {s s' : Ro} (h : Nib s) (hs : s.Le s') : Nib s' := fun q hq => (h q hq).mono hs
def sealL (l : List UInt8) : List UInt8 := l ++ putN (crcOn 0 l) 4
section
variable {s : Ro} {w : World} {R : List Asn}
theorem _root_.Go.Own.Src.full {rs : List Asn} {v : Value} {sz n : Nat} {xs : List Value} (h : Src s rs v sz n xs) (H : Holds s w rs) : SlS (Own.full s w) v sz n xs := by
 have := SlS.start (h.sl H)
 obtain ⟨a, c, h1, h2, h3, h4, h5⟩ := this
 exact ⟨a, c, h1, h2, h3, h4, h5⟩
theorem _root_.Go.Own.Src.skip {rs : List Asn} {A : Asn} {v : Value} {sz n : Nat} {xs : List Value} (h : Src s rs v sz n xs) : Src s (A :: rs) v sz n xs := ⟨fun w H => h.reads w H.tail, fun hx k hk => (h.blk hx k hk).imp id fun ⟨i, A, h1, h2⟩ => ⟨i + 1, A, by simpa using h1, h2⟩⟩
theorem crcOn_s {l : List UInt8} {a : Option Addr} {c sum : Nat} (hN : Nib s) (H : Holds s w R) (h : SlS s (.slice a l.length c) 1 l.length (u8s l)) (hl : l.length ≤ 1000000) (hs : sum < 2 ^ 32) : Calls Tryz.prog 153 #[.int .u32 (sum : Int), .slice a l.length c] w fun e w' => e = .returned (.int .u32 (crcOn sum l : Int)) ∧ Holds s w' R := by
 refine enter Tryz.func153 rfl Tryz.ntmps153 rfl ?_
 repeat' (first | (refine B.not ?_) | refine Go3 H ?_ | (refine Gs3 H ?_; clear H; (try clear w); intro w H) | (refine Gn H ?_; clear H; (try clear w); intro _ w H))
 refine C.loopH H [5, 7, 12, 13, 14, 15, 16, 17, 18, 19, 20, 21, 22, 23, 24, 25, 26, 27, 28, 29, 30, 31, 32, 33, 34] [5, 12] rfl (fun m vs => ∃ i : Nat, m = l.length - i ∧ i ≤ l.length ∧ vs = [.int .u32 ((l.take i).foldl crcByte ((2 ^ 32 - 1) ^^^ sum) : Nat), .int .i64 (i : Int)]) l.length ⟨0, rfl, Nat.zero_le _, rfl⟩ ?_
 clear H
 rintro m vs hv w ⟨i, rfl, hi, rfl⟩ H
 have hb := fold_lt (l.take i) ((2 ^ 32 - 1) ^^^ sum) (Nat.xor_lt_two_pow (by decide) hs)
 by_cases hlt : i < l.length
 ·obtain ⟨g, o, c', hv', _, _, hp⟩ := elemS1 h (by omega)
  cases hv'
  have pn : Pin s g (o + i * 1) (.int .u8 (l[i].toNat : Int)) := by rw [Nat.mul_one]; exact hp i hlt
  have hsu : (l.take (i + 1)).foldl crcByte ((2 ^ 32 - 1) ^^^ sum) = crcByte ((l.take i).foldl crcByte ((2 ^ 32 - 1) ^^^ sum)) l[i] := by rw [List.take_succ_eq_append_getElem hlt, List.foldl_append]; rfl
  generalize (l.take i).foldl crcByte ((2 ^ 32 - 1) ^^^ sum) = r at *
  generalize l[i] = x at *
  have b2 : x.toNat % 2 ^ 32 = x.toNat := Nat.mod_eq_of_lt (u8_lt32 x)
  have b3 := u8_lt32 x
  repeat' (first | (refine B.conv Tryz.underlying5 ?_; rw [b2]) | refine Go3 H ?_ | (refine Gs3 H ?_; clear H; (try clear w); intro w H) | (refine Gn H ?_; clear H; (try clear w); intro _ w H))
  have b4 := Nat.xor_lt_two_pow hb b3
  refine B.bit ?_
  rw [show crcByte r x = crcRound (crcRound (r ^^^ x.toNat)) from rfl] at hsu
  generalize r ^^^ x.toNat = r1 at *
  repeat' (first | (refine B.shr ?_) | refine Go3 H ?_ | (refine Gs3 H ?_; clear H; (try clear w); intro w H) | (refine Gn H ?_; clear H; (try clear w); intro _ w H))
  refine B.bit ?_
  have hq : r1 &&& 15 < 16 := Nat.lt_succ_of_le Nat.and_le_right
  have hr1 : crcRound r1 = (r1 >>> 4) ^^^ nib (r1 &&& 15) := rfl
  generalize r1 &&& 15 = q1 at *
  have p1 := hN q1 hq
  refine Gq3 H ?_
  have c1 := shr_lt b4 4
  have c2 := nib_lt q1
  have c3 := Nat.xor_lt_two_pow c1 c2
  refine B.bit ?_
  rw [hr1] at hsu
  generalize r1 >>> 4 ^^^ nib q1 = r2 at *
  repeat' (first | (refine B.shr ?_) | refine Go3 H ?_ | (refine Gs3 H ?_; clear H; (try clear w); intro w H) | (refine Gn H ?_; clear H; (try clear w); intro _ w H))
  refine B.bit ?_
  have hq2 : r2 &&& 15 < 16 := Nat.lt_succ_of_le Nat.and_le_right
  have hr2 : crcRound r2 = (r2 >>> 4) ^^^ nib (r2 &&& 15) := rfl
  generalize r2 &&& 15 = q2 at *
  have p2 := hN q2 hq2
  refine Gq3 H ?_
  have d1 := shr_lt c3 4
  have d2 := nib_lt q2
  refine B.bit ?_
  rw [← hr2]
  refine Gq3 H ?_
  exact ⟨agr, l.length - (i + 1), by omega, ⟨i + 1, rfl, by omega, by rw [hsu]; rfl⟩, H⟩
 ·have hie : i = l.length := by omega
  subst hie
  rw [List.take_length] at hb ⊢
  repeat' (first | (refine B.not ?_) | refine Go3 H ?_ | (refine Gs3 H ?_; clear H; (try clear w); intro w H) | (refine Gn H ?_; clear H; (try clear w); intro _ w H))
  exact ⟨_, resT rfl, rfl, H⟩
theorem crcOf_s {l : List UInt8} {a : Option Addr} {c : Nat} (hN : Nib s) (H : Holds s w R) (h : SlS s (.slice a l.length c) 1 l.length (u8s l)) (hl : l.length ≤ 1000000) : Calls Tryz.prog 146 #[.slice a l.length c] w fun e w' => e = .returned (.int .u32 (crcOn 0 l : Int)) ∧ Holds s w' R := by
 refine enter Tryz.func146 rfl Tryz.ntmps146 rfl ?_
 refine Gq3 H ?_
 (refine X.call (crcOn_s (sum := 0) hN H h hl (by decide)) ?_; (try clear H); rintro _ w ⟨rfl, H⟩; refine ⟨_, rfl, ?_⟩)
 refine Gq3 H ?_
 exact ⟨_, resT rfl, rfl, H⟩
theorem crcOf_e {l : List UInt8} {a : Option Addr} {c : Nat} (hN : Nib s) (H : Holds s w R) (h : Src s R (.slice a l.length c) 1 l.length (u8s l)) (hl : l.length ≤ 1000000) : Calls Tryz.prog 146 #[.slice a l.length c] w fun e w' => e = .returned (.int .u32 (crcOn 0 l : Int)) ∧ Only [] w w' ∧ Holds s w' R :=
 (crcOf_s (hN.mono H.le_full) H.full (h.full H) hl).mono fun e w' ⟨he, H'⟩ => ⟨he, H.pure0 H'⟩
theorem Seal_s {l : List UInt8} {a : Option Addr} {c : Nat} (hN : Nib s) (H : Holds s w R) (h : Src s R (.slice a l.length c) 1 l.length (u8s l)) (hl : l.length ≤ 1000) : Calls Tryz.prog 144 #[.slice a l.length c] w fun e w' => ∃ aa cc, e = .returned (.slice aa (sealL l).length cc) ∧ Holds s w' (row 5 1 (.slice aa (sealL l).length cc) (sealL l).length (u8s (sealL l)) :: R) := by
 obtain ⟨ha, hc⟩ : l.length ≤ c ∧ c ≤ maxLen := by
  obtain ⟨_, _, hv, _, h3, h4⟩ := h.form H
  cases hv; exact ⟨h3, h4⟩
 have hcl := on_lt (sum := 0) (by decide) l
 have hcv : crcOn 0 l % 2 ^ 64 = crcOn 0 l := Nat.mod_eq_of_lt (Nat.lt_trans hcl (by decide))
 have hsl : (sealL l).length = l.length + 4 := by simp [sealL, putN_len]
 have hpl := putN_len (crcOn 0 l) 4
 refine enter Tryz.func144 rfl Tryz.ntmps144 rfl ?_
 refine Gq3 H ?_
 refine K.make (k := 0) (m := l.length + 4) H rfl rfl rfl rfl (by simp) (by omega) (by omega) (by unfold maxLen; omega) ?_
 clear H
 intro g1 w H
 dsimp only [List.replicate, List.flatten] at H
 refine Gq3 H ?_
 refine K.app0 0 H rfl h.skip (u8s_one _) (by unfold maxLen; omega) (by omega) rfl rfl rfl ?_
 clear H
 intro a1 c1 w H
 (try simp only [List.set_cons_zero, List.set_cons_succ, List.eraseIdx_cons_zero, List.eraseIdx_cons_succ] at H)
 refine Gq3 H ?_
 (refine X.call (crcOf_e hN H h.skip (by omega)) ?_; (try clear H); rintro _ w ⟨rfl, _, H⟩; refine ⟨_, rfl, ?_⟩)
 repeat' (first | (refine B.conv Tryz.underlying160 ?_; rw [hcv]) | refine Go3 H ?_ | (refine Gs3 H ?_; clear H; (try clear w); intro w H) | (refine Gn H ?_; clear H; (try clear w); intro _ w H))
 (refine X.call (Put_s (n := crcOn 0 l) (size := 4) H (by decide) (by decide)) ?_; (try clear H); rintro _ w ⟨g2, rfl, H⟩; refine ⟨_, rfl, ?_⟩)
 refine Gq3 H ?_
 refine X.app H ?_
 clear H
 intro a2 c2 w H
 refine Gq3 H ?_
 have e1 : (sealL l).length = l.length + (putN (crcOn 0 l) 4).length := by simp [sealL]
 have e2 : u8s (sealL l) = u8s l ++ u8s (putN (crcOn 0 l) 4) := u8s_app _ _
 refine ⟨_, resT rfl, a2, c2, by rw [e1]; rfl, ?_⟩
 rw [e1, e2]
 exact H.arr
theorem number_e {l : List UInt8} {v : Value} (H : Holds s w R) (h : Src s R v 1 l.length (u8s l)) (hl : l.length ≤ 8) : Calls Tryz.prog 137 #[v] w fun e w' => e = .returned (.int .u64 (numN l : Int)) ∧ Only [] w w' ∧ Holds s w' R := by
 obtain ⟨a, c, rfl, _⟩ := h.form H
 exact (number_s H.full (h.full H) hl).mono fun e w' ⟨he, H'⟩ => ⟨he, H.pure0 H'⟩
theorem Get_e {l : List UInt8} {v : Value} (H : Holds s w R) (h : Src s R v 1 l.length (u8s l)) (h1 : 1 ≤ l.length) (hl : l.length ≤ 8) : Calls Tryz.prog 134 #[v] w fun e w' => e = .returned (.tuple #[.int .u64 (numN l : Int), .int .i64 0]) ∧ Only [] w w' ∧ Holds s w' R := by
 obtain ⟨a, c, rfl, _⟩ := h.form H
 exact (Get_s H.full (h.full H) h1 hl).mono fun e w' ⟨he, H'⟩ => ⟨he, H.pure0 H'⟩
theorem u8s_take (l : List UInt8) (n : Nat) : (u8s l).take n = u8s (l.take n) := by simp [u8s]
theorem u8s_drop (l : List UInt8) (n : Nat) : (u8s l).drop n = u8s (l.drop n) := by simp [u8s]
def openL (l : List UInt8) : List UInt8 × Int := if l.length < 4 then ([], 2) else if numN (l.drop (l.length - 4)) = crcOn 0 (l.take (l.length - 4)) then (l.take (l.length - 4), 0) else ([], 8)
theorem src_upto {a : Option Addr} {c n : Nat} {l : List UInt8} (h : Src s R (.slice a l.length c) 1 l.length (u8s l)) (hn : n ≤ l.length) : Src s R (.slice a (l.take n).length c) 1 (l.take n).length (u8s (l.take n)) := by
 have e : (l.take n).length = n := by rw [List.length_take]; omega
 rw [e]
 have := h.sub (l := 0) (m := n) (Nat.zero_le _) hn
 simp only [Nat.sub_zero, Nat.mul_one, List.drop_zero, u8s_take, subAddr] at this
 split at this
 ·exact this
 ·cases a with
  | none => exact this
  | some a => simpa [Addr.add0] using this
theorem src_from {a : Option Addr} {c n : Nat} {l : List UInt8} (h : Src s R (.slice a l.length c) 1 l.length (u8s l)) (hn : n ≤ l.length) : Src s R (.slice (subAddr a c n 1) (l.drop n).length (c - n)) 1 (l.drop n).length (u8s (l.drop n)) := by
 have e : (l.drop n).length = l.length - n := by rw [List.length_drop]
 rw [e]
 have := h.sub (l := n) (m := l.length) hn (Nat.le_refl _)
 rw [Nat.mul_one, Nat.mul_one, u8s_drop, u8s_take, List.take_of_length_le (by rw [e]; exact Nat.le_refl _)] at this
 exact this
theorem Open_s {l : List UInt8} {a : Option Addr} {c : Nat} (hN : Nib s) (H : Holds s w R) (h : Src s R (.slice a l.length c) 1 l.length (u8s l)) (hl : l.length ≤ 1000) : Calls Tryz.prog 131 #[.slice a l.length c] w fun e w' => ∃ aa cc, e = .returned (.tuple #[.slice aa (openL l).1.length cc, .int .i64 (openL l).2]) ∧ Holds s w' (row 5 1 (.slice aa (openL l).1.length cc) (openL l).1.length (u8s (openL l).1) :: R) := by
 obtain ⟨ha, hc⟩ : l.length ≤ c ∧ c ≤ maxLen := by
  obtain ⟨_, _, hv, _, h3, h4⟩ := h.form H
  cases hv; exact ⟨h3, h4⟩
 by_cases h4 : l.length < 4
 ·have e1 : openL l = ([], 2) := by unfold openL; rw [if_pos h4]
  rw [e1]
  refine enter Tryz.func131 rfl Tryz.ntmps131 rfl ?_
  refine Gq3 H ?_
  exact ⟨_, resTT rfl, none, 0, rfl, H.nilRow _ _⟩
 have hd : (l.drop (l.length - 4)).length = 4 := by rw [List.length_drop]; omega
 have ht : (l.take (l.length - 4)).length = l.length - 4 := by rw [List.length_take]; omega
 have hS1 := src_from (n := l.length - 4) h (by omega)
 have hS2 := src_upto (n := l.length - 4) h (by omega)
 have hcl := on_lt (sum := 0) (by decide) (l.take (l.length - 4))
 have hcv : crcOn 0 (l.take (l.length - 4)) % 2 ^ 64 = crcOn 0 (l.take (l.length - 4)) := Nat.mod_eq_of_lt (Nat.lt_trans hcl (by decide))
 unfold openL
 rw [if_neg h4]
 generalize hD : l.drop (l.length - 4) = D at *
 generalize hT : l.take (l.length - 4) = T at *
 refine enter Tryz.func131 rfl Tryz.ntmps131 rfl ?_
 refine Gq3 H ?_
 refine K.from (l := l.length - 4) rfl rfl rfl rfl (by omega) (by omega) ?_
 rw [show l.length - (l.length - 4) = D.length by omega]
 (refine X.call (Get_e H hS1 (by omega) (by omega)) ?_; (try clear H); rintro _ w ⟨rfl, _, H⟩; refine ⟨_, rfl, ?_⟩)
 refine Gq3 H ?_
 refine K.upto (l := T.length) rfl rfl rfl rfl (by omega) (by omega) ?_
 (refine X.call (crcOf_e hN H hS2 (by omega)) ?_; (try clear H); rintro _ w ⟨rfl, _, H⟩; refine ⟨_, rfl, ?_⟩)
 repeat' (first | (refine B.conv Tryz.underlying160 ?_; rw [hcv]) | refine Z H ?_ | (refine Zc ?_ ?_ <;> intro hc <;> first | (exfalso; omega) | skip) | (refine Y ?_; try change C _ _ _ _ _ _) | (refine Zs H ?_; clear H; (try clear w); intro w H) | (refine Zn H ?_; clear H; (try clear w); intro _ w H) | (refine Ze H ?_; clear H; (try clear w); intro gv w H))
 ·rw [if_neg (by omega)]
  exact ⟨_, resTT rfl, none, 0, rfl, H.nilRow _ _⟩
 ·rw [if_pos (by omega)]
  refine K.upto (l := T.length) rfl rfl rfl rfl (by omega) (by omega) ?_
  replace H := H.nilRow 5 1
  refine K.app0 0 H rfl hS2.skip (u8s_one _) (by unfold maxLen; omega) (by omega) rfl rfl rfl ?_
  clear H
  intro a1 c1 w H
  (try simp only [List.set_cons_zero, List.set_cons_succ, List.eraseIdx_cons_zero, List.eraseIdx_cons_succ] at H)
  refine Gq3 H ?_
  exact ⟨_, resTT rfl, a1, c1, rfl, H⟩
end
section
variable {P : Program} {n : Nat} {ops : Array Oper} {Q : Post} {rest : List Oper} {e : Env} {w : World} {tt : Nat} {pp : String} {af : Array Edge} {g : Option (Nat × Bool)} {d : Nat}
theorem midK {t el : TypeId} {x lo hi : Operand} {a : Option Addr} {m c sz by_ l h' : Nat} {zz : List Value} {k k' : IntKind} {il ih : Int} [E : ElC P t el sz by_ zz] (hw : wg n ops g e = true) (hd : Nat.blt d n = true) (hx : ev e x = .slice a m c) (hlo : ev e lo = .int k il) (hhi : ev e hi = .int k' ih) (hl : il = (l : Int)) (hh : ih = (h' : Int)) (h1 : l ≤ h') (h2 : h' ≤ c) (h : L P n ops Q rest (upd e d (.slice (subAddr a c l sz) (h' - l) (c - l))) w) : L P n ops Q (⟨some d, .slice t x (some lo) (some hi) none, tt, pp, af, g⟩ :: rest) e w := by
 obtain ⟨v, E', _⟩ := E.el
 obtain ⟨inf, i1, i2, i3, i4⟩ := E'.info
 refine L.val (o := ⟨some d, .slice t x (some lo) (some hi) none, tt, pp, af, g⟩) _ w hw hd (run_v (sm := Instr.sliceAt t (ev e x) (some (ev e lo)) (some (ev e hi)) none) rfl ?_) h
 rw [hx, hlo, hhi]
 simp [Instr.sliceAt, run_underlying E'.slice, Instr.slice, Instr.sliceBounds, Own.run_sliceBound hl h1, Own.run_sliceBound hh h2, sizeOf, typeInfo, i1, i3, subAddr]
end
section
variable {s : Ro} {w : World} {R : List Asn}
theorem src_mid {a : Option Addr} {c n k : Nat} {l : List UInt8} (h : Src s R (.slice a l.length c) 1 l.length (u8s l)) (hn : n + k ≤ l.length) : Src s R (.slice (subAddr a c n 1) ((l.drop n).take k).length (c - n)) 1 ((l.drop n).take k).length (u8s ((l.drop n).take k)) := by
 have e : ((l.drop n).take k).length = k := by rw [List.length_take, List.length_drop]; omega
 rw [e]
 have := h.sub (l := n) (m := n + k) (by omega) hn
 rw [Nat.mul_one, Nat.mul_one, u8s_drop, u8s_take, Nat.add_sub_cancel_left] at this
 exact this
theorem build_reader (a : Option Addr) (n c : Nat) (w : World) : (Instr.build 217 [(0, .slice a n c)].toArray).run Tryz.prog w = .ok (.agg #[.slice a n c, .int .i64 0, .int .i64 0]) w := by kernel_rfl
structure Rdr (s : Ro) (a : Option Addr) (c : Nat) (l : List UInt8) : Prop where
 sl : SlS s (.slice a l.length c) 1 l.length (u8s l)
 few : l.length ≤ 1000
theorem Rdr.mono {s s' : Ro} {a : Option Addr} {c : Nat} {l : List UInt8} (h : Rdr s a c l) (hs : s.Le s') : Rdr s' a c l := ⟨h.sl.mono hs, h.few⟩
theorem Read_o {l : List UInt8} {a : Option Addr} {c : Nat} (H : Holds s w R) (h : Src s R (.slice a l.length c) 1 l.length (u8s l)) (hl : l.length ≤ 1000) : Calls Tryz.prog 112 #[.slice a l.length c] w fun e w' => ∃ s' g aa cc, e = .returned (.pointer (some ⟨g, 0, none⟩)) ∧ s.Le s' ∧ Rdr s' aa cc l ∧ Holds s' w' (var g 217 [.slice aa l.length cc, .int .i64 0, .int .i64 0] :: R) := by
 refine enter Tryz.func112 rfl Tryz.ntmps112 rfl ?_
 refine Gq3 H ?_
 replace H := H.nilRow 5 1
 refine K.app0 0 H rfl h.skip (u8s_one _) (by unfold maxLen; omega) (by omega) rfl rfl rfl ?_
 clear H
 intro a1 c1 w H
 (try simp only [List.set_cons_zero, List.set_cons_succ, List.eraseIdx_cons_zero, List.eraseIdx_cons_succ] at H)
 obtain ⟨s1, hs1, H1, hd⟩ := H.fixRow
 clear H
 have H := H1
 clear H1
 refine K.build [(0, .slice a1 l.length c1)] (.agg #[.slice a1 l.length c1, .int .i64 0, .int .i64 0]) (build_reader _ _ _) rfl rfl rfl ?_
 (refine Gq3 H ?_; clear H; (try clear w); intro _ w H)
 exact ⟨_, resT rfl, s1, _, a1, c1, rfl, hs1, ⟨hd, hl⟩, H⟩
theorem Left_o {l : List UInt8} {g k c : Nat} {a : Option Addr} (H : Holds s w (var g 217 [.slice a l.length c, .int .i64 (k : Int), .int .i64 0] :: R)) (hr : Rdr s a c l) (hk : k ≤ l.length) : Calls Tryz.prog 148 #[.pointer (some ⟨g, 0, none⟩)] w fun e w' => e = .returned (.int .i64 ((l.length - k : Nat) : Int)) ∧ Holds s w' (var g 217 [.slice a l.length c, .int .i64 (k : Int), .int .i64 0] :: R) := by
 have := hr.few
 refine enter Tryz.func148 rfl Tryz.ntmps148 rfl ?_
 refine Gq3 H ?_
 refine C.drawn1 [0, 0, 0, 1, 0, 0, 0, 0, 1, 0, 0] [0, 1, 3, 7, 15, 0, 32, 96, 224, 511, 1023] (by kernel_rfl) ?_; replace H := H.drew
 refine Gq3 H ?_
 refine ⟨_, resT rfl, ?_, H⟩
 rw [show ((l.length - k : Nat) : Int) = (l.length : Int) - (k : Int) by omega]
 rfl
theorem take_o {l : List UInt8} {g k n c : Nat} {a : Option Addr} (H : Holds s w (var g 217 [.slice a l.length c, .int .i64 (k : Int), .int .i64 0] :: R)) (hr : Rdr s a c l) (hk : k + n ≤ l.length) : Calls Tryz.prog 136 #[.pointer (some ⟨g, 0, none⟩), .int .i64 (n : Int)] w fun e w' => e = .returned (.tuple #[.slice (subAddr a c k 1) ((l.drop k).take n).length (c - k), .bool true]) ∧ Holds s w' (var g 217 [.slice a l.length c, .int .i64 ((k + n : Nat) : Int), .int .i64 0] :: R) := by
 have := hr.few
 have e : ((l.drop k).take n).length = n := by rw [List.length_take, List.length_drop]; omega
 obtain ⟨_, _, hv, hc1, hc2⟩ := formS hr.sl
 cases hv
 rw [e]
 refine enter Tryz.func136 rfl Tryz.ntmps136 rfl ?_
 refine Gq3 H ?_
 (refine X.call (Left_o H hr (by omega)) ?_; (try clear H); rintro _ w ⟨rfl, H⟩; refine ⟨_, rfl, ?_⟩)
 refine Gq3 H ?_
 refine C.drawn1 [0, 0, 0, 1, 0, 0, 0, 1, 0, 0, 0, 1, 0, 0, 0, 0] [0, 1, 3, 7, 0, 16, 48, 112, 0, 256, 768, 1792, 0, 7936, 16383, 32767] (by kernel_rfl) ?_; replace H := H.drew
 repeat' (first | (refine midK (l := k) (h' := k + n) rfl rfl rfl rfl rfl rfl (by omega) (by omega) (by omega) ?_; rw [Nat.add_sub_cancel_left]) | refine Go3 H ?_ | (refine Gs3 H ?_; clear H; (try clear w); intro w H) | (refine Gn H ?_; clear H; (try clear w); intro _ w H))
 exact ⟨_, resTT rfl, rfl, H⟩
theorem Num_o {l : List UInt8} {g k n c : Nat} {a : Option Addr} (H : Holds s w (var g 217 [.slice a l.length c, .int .i64 (k : Int), .int .i64 0] :: R)) (hr : Rdr s a c l) (h1 : 1 ≤ n) (h8 : n ≤ 8) (hk : k + n ≤ l.length) : Calls Tryz.prog 114 #[.pointer (some ⟨g, 0, none⟩), .int .i64 (n : Int)] w fun e w' => e = .returned (.int .u64 (numN ((l.drop k).take n) : Int)) ∧ Holds s w' (var g 217 [.slice a l.length c, .int .i64 ((k + n : Nat) : Int), .int .i64 0] :: R) := by
 have e : ((l.drop k).take n).length = n := by rw [List.length_take, List.length_drop]; omega
 refine enter Tryz.func114 rfl Tryz.ntmps114 rfl ?_
 refine Gq3 H ?_
 (refine X.call (take_o (n := n) H hr hk) ?_; (try clear H); rintro _ w ⟨rfl, H⟩; refine ⟨_, rfl, ?_⟩)
 refine Gq3 H ?_
 (refine X.call (number_e H (src_mid (.ro hr.sl) hk) (by omega)) ?_; (try clear H); rintro _ w ⟨rfl, _, H⟩; refine ⟨_, rfl, ?_⟩)
 refine Gq3 H ?_
 exact ⟨_, resT rfl, rfl, H⟩
end
section
variable {s : Ro} {w : World} {R : List Asn}
theorem Bytes_o {l : List UInt8} {g k n c : Nat} {a : Option Addr} (H : Holds s w (var g 217 [.slice a l.length c, .int .i64 (k : Int), .int .i64 0] :: R)) (hr : Rdr s a c l) (hk : k + n ≤ l.length) : Calls Tryz.prog 115 #[.pointer (some ⟨g, 0, none⟩), .int .i64 (n : Int)] w fun e w' => ∃ s' aa cc, e = .returned (.slice aa ((l.drop k).take n).length cc) ∧ s.Le s' ∧ SlS s' (.slice aa ((l.drop k).take n).length cc) 1 ((l.drop k).take n).length (u8s ((l.drop k).take n)) ∧ Holds s' w' (var g 217 [.slice a l.length c, .int .i64 ((k + n : Nat) : Int), .int .i64 0] :: R) := by
 have := hr.few
 have e : ((l.drop k).take n).length = n := by rw [List.length_take, List.length_drop]; omega
 refine enter Tryz.func115 rfl Tryz.ntmps115 rfl ?_
 refine Gq3 H ?_
 (refine X.call (take_o (n := n) H hr hk) ?_; (try clear H); rintro _ w ⟨rfl, H⟩; refine ⟨_, rfl, ?_⟩)
 refine Gq3 H ?_
 replace H := H.nilRow 5 1
 refine K.app0 0 H rfl (Src.skip (Src.skip (src_mid (.ro hr.sl) hk))) (u8s_one _) (by unfold maxLen; omega) (by omega) rfl rfl rfl ?_
 clear H
 intro a1 c1 w H
 (try simp only [List.set_cons_zero, List.set_cons_succ, List.eraseIdx_cons_zero, List.eraseIdx_cons_succ] at H)
 obtain ⟨s1, hs1, H1, hd⟩ := H.fixRow
 clear H
 have H := H1
 clear H1
 refine Gq3 H ?_
 exact ⟨_, resT rfl, s1, a1, c1, rfl, hs1, hd, H⟩
theorem num_one {l : Str} {k : Nat} (hk : k + 1 ≤ l.length) : numN ((l.drop k).take 1) = (at8 l k).toNat := by
 have : (l.drop k).take 1 = [at8 l k] := by
  rw [List.drop_eq_getElem_cons (show k < l.length by omega), at8, List.getElem?_eq_getElem (show k < l.length by omega)]
  rfl
 rw [this]
 simp [numN, numI]
theorem get_o {l : List UInt8} {g k c gb : Nat} {a : Option Addr} (H : Holds s w (var g 217 [.slice a l.length c, .int .i64 (k : Int), .int .i64 0] :: var gb 196 [.pointer (some ⟨g, 0, none⟩)] :: R)) (hr : Rdr s a c l) (hk : k + 1 ≤ l.length) : Calls Tryz.prog 113 #[.pointer (some ⟨gb, 0, none⟩)] w fun e w' => e = .returned (.int .i64 ((at8 l k).toNat : Int)) ∧ Holds s w' (var g 217 [.slice a l.length c, .int .i64 ((k + 1 : Nat) : Int), .int .i64 0] :: var gb 196 [.pointer (some ⟨g, 0, none⟩)] :: R) := by
 have wr : IntKind.i64.wrap ((at8 l k).toNat : Int) = ((at8 l k).toNat : Int) := IntWalk.i64_in _ (by have := (at8 l k).toNat_lt; omega)
 refine enter Tryz.func113 rfl Tryz.ntmps113 rfl ?_
 refine Gq3 H ?_
 (refine X.call (Num_o (n := 1) H hr (by decide) (by decide) hk) ?_; (try clear H); rintro _ w ⟨rfl, H⟩; refine ⟨_, rfl, ?_⟩)
 rw [num_one hk]
 repeat' (first | (refine K.convI Tryz.underlying198 rfl rfl rfl ?_; rw [wr]) | refine Go3 H ?_ | (refine Gs3 H ?_; clear H; (try clear w); intro w H) | (refine Gn H ?_; clear H; (try clear w); intro _ w H))
 exact ⟨_, resT rfl, rfl, H⟩
def nodeR (l : Str) : Nd × Bool := match nodeM l with
 | none => (Nd.zero, false)
 | some n => (n, true)
theorem node_s {l : List UInt8} {a : Option Addr} {c : Nat} (H : Holds s w R) (h : Src s R (.slice a l.length c) 1 l.length (u8s l)) (hl : l.length = 40) : Calls Tryz.prog 89 #[.slice a l.length c] w fun e w' => ∃ s', e = .returned (.tuple #[.agg (nodeR l).1.cells.toArray, .bool (nodeR l).2]) ∧ s.Le s' ∧ Holds s' w' R := by
 refine enter Tryz.func89 rfl Tryz.ntmps89 rfl ?_
 repeat' (first | refine Z H ?_ | (refine Zc ?_ ?_ <;> intro hc <;> first | (exfalso; omega) | skip) | (refine Y ?_; try change C _ _ _ _ _ _) | (refine Zs H ?_; clear H; (try clear w); intro w H) | (refine Zn H ?_; clear H; (try clear w); (first | ((fail_if_success (have := bl1)); intro bl1 w H) | ((fail_if_success (have := bl2)); intro bl2 w H) | intro _ w H)) | (refine Ze H ?_; clear H; (try clear w); intro gv w H))
 (refine X.call (Read_o H (Src.skip h) (by omega)) ?_; (try clear H); rintro _ w ⟨s1, g, aa, cc, rfl, hs1, hr, H⟩; refine ⟨_, rfl, ?_⟩)
 repeat' (first | (refine B.fn ?_) | refine Z H ?_ | (refine Zc ?_ ?_ <;> intro hc <;> first | (exfalso; omega) | skip) | (refine Y ?_; try change C _ _ _ _ _ _) | (refine Zs H ?_; clear H; (try clear w); intro w H) | (refine Zn H ?_; clear H; (try clear w); (first | ((fail_if_success (have := bl1)); intro bl1 w H) | ((fail_if_success (have := bl2)); intro bl2 w H) | intro _ w H)) | (refine Ze H ?_; clear H; (try clear w); intro gv w H))
 replace H : Holds _ _ (var bl2 196 _ :: _) := tp H
 replace H : Holds _ _ (var g 217 _ :: _) := tp H
 refine B.call (get_o (l := l) (k := 0) H hr (by rw [hl]; decide)) ?_
 clear H
 rintro _ w ⟨rfl, H⟩
 refine ⟨_, rfl, ?_⟩
 repeat' (first | refine Z H ?_ | (refine Zc ?_ ?_ <;> intro hc <;> first | (exfalso; omega) | skip) | (refine Y ?_; try change C _ _ _ _ _ _) | (refine Zs H ?_; clear H; (try clear w); intro w H) | (refine Zn H ?_; clear H; (try clear w); (first | ((fail_if_success (have := bl1)); intro bl1 w H) | ((fail_if_success (have := bl2)); intro bl2 w H) | intro _ w H)) | (refine Ze H ?_; clear H; (try clear w); intro gv w H))
 refine B.call (get_o (l := l) (k := 0 + 1) H hr (by rw [hl]; decide)) ?_
 clear H
 rintro _ w ⟨rfl, H⟩
 refine ⟨_, rfl, ?_⟩
 repeat' (first | refine Z H ?_ | (refine Zc ?_ ?_ <;> intro hc <;> first | (exfalso; omega) | skip) | (refine Y ?_; try change C _ _ _ _ _ _) | (refine Zs H ?_; clear H; (try clear w); intro w H) | (refine Zn H ?_; clear H; (try clear w); (first | ((fail_if_success (have := bl1)); intro bl1 w H) | ((fail_if_success (have := bl2)); intro bl2 w H) | intro _ w H)) | (refine Ze H ?_; clear H; (try clear w); intro gv w H))
 refine B.call (get_o (l := l) (k := 0 + 1 + 1) H hr (by rw [hl]; decide)) ?_
 clear H
 rintro _ w ⟨rfl, H⟩
 refine ⟨_, rfl, ?_⟩
 repeat' (first | refine Z H ?_ | (refine Zc ?_ ?_ <;> intro hc <;> first | (exfalso; omega) | skip) | (refine Y ?_; try change C _ _ _ _ _ _) | (refine Zs H ?_; clear H; (try clear w); intro w H) | (refine Zn H ?_; clear H; (try clear w); (first | ((fail_if_success (have := bl1)); intro bl1 w H) | ((fail_if_success (have := bl2)); intro bl2 w H) | intro _ w H)) | (refine Ze H ?_; clear H; (try clear w); intro gv w H))
 (refine X.call (Bytes_o (l := l) (k := 0 + 1 + 1 + 1) (n := 8) H hr (by rw [hl]; decide)) ?_; (try clear H); rintro _ w ⟨s2, ba, bc, rfl, hs2, hbs, H⟩; refine ⟨_, rfl, ?_⟩)
 replace hr := hr.mono hs2
 have hn8 : ((l.drop (0 + 1 + 1 + 1)).take 8).length = 8 := by rw [List.length_take, List.length_drop]; omega
 rw [hn8] at hbs
 rw [hn8]
 repeat' (first | refine Z H ?_ | (refine Zc ?_ ?_ <;> intro hc <;> first | (exfalso; omega) | skip) | (refine Y ?_; try change C _ _ _ _ _ _) | (refine Zs H ?_; clear H; (try clear w); intro w H) | (refine Zn H ?_; clear H; (try clear w); (first | ((fail_if_success (have := bl1)); intro bl1 w H) | ((fail_if_success (have := bl2)); intro bl2 w H) | intro _ w H)) | (refine Ze H ?_; clear H; (try clear w); intro gv w H))
 refine B.call (get_o (l := l) (k := 0 + 1 + 1 + 1 + 8) H hr (by rw [hl]; decide)) ?_
 clear H
 rintro _ w ⟨rfl, H⟩
 refine ⟨_, rfl, ?_⟩
 repeat' (first | refine Z H ?_ | (refine Zc ?_ ?_ <;> intro hc <;> first | (exfalso; omega) | skip) | (refine Y ?_; try change C _ _ _ _ _ _) | (refine Zs H ?_; clear H; (try clear w); intro w H) | (refine Zn H ?_; clear H; (try clear w); (first | ((fail_if_success (have := bl1)); intro bl1 w H) | ((fail_if_success (have := bl2)); intro bl2 w H) | intro _ w H)) | (refine Ze H ?_; clear H; (try clear w); intro gv w H))
 refine B.call (get_o (l := l) (k := 0 + 1 + 1 + 1 + 8 + 1) H hr (by rw [hl]; decide)) ?_
 clear H
 rintro _ w ⟨rfl, H⟩
 refine ⟨_, rfl, ?_⟩
 repeat' (first | (refine K.iaA (i := 0) rfl rfl rfl rfl rfl (by decide) ?_) | refine Z H ?_ | (refine Zc ?_ ?_ <;> intro hc <;> first | (exfalso; omega) | skip) | (refine Y ?_; try change C _ _ _ _ _ _) | (refine Zs H ?_; clear H; (try clear w); intro w H) | (refine Zn H ?_; clear H; (try clear w); (first | ((fail_if_success (have := bl1)); intro bl1 w H) | ((fail_if_success (have := bl2)); intro bl2 w H) | intro _ w H)) | (refine Ze H ?_; clear H; (try clear w); intro gv w H))
 refine B.call (get_o (l := l) (k := 0 + 1 + 1 + 1 + 8 + 1 + 1) H hr (by rw [hl]; decide)) ?_
 clear H
 rintro _ w ⟨rfl, H⟩
 refine ⟨_, rfl, ?_⟩
 by_cases hlen0 : 8 < (at8 l (0 + 1 + 1)).toNat
 ·have hlen : 8 < (at8 l 2).toNat := hlen0
  have hno : nodeR l = (Nd.zero, false) := by unfold nodeR nodeM; rw [if_pos hlen]
  repeat' (first | (refine K.iaA (i := 1) rfl rfl rfl rfl rfl (by decide) ?_) | (refine K.build [] _ build_node0 rfl rfl rfl ?_) | refine Z H ?_ | (refine Zc ?_ ?_ <;> intro hc <;> first | (exfalso; omega) | skip) | (refine Y ?_; try change C _ _ _ _ _ _) | (refine Zs H ?_; clear H; (try clear w); intro w H) | (refine Zn H ?_; clear H; (try clear w); (first | ((fail_if_success (have := bl1)); intro bl1 w H) | ((fail_if_success (have := bl2)); intro bl2 w H) | intro _ w H)) | (refine Ze H ?_; clear H; (try clear w); intro gv w H))
  exact ⟨_, resVT (cs := Nd.zero.cells) H rfl, s2, by rw [hno]; rfl, hs1.trans hs2, H.tail.tail.tail.tail⟩
 have hlen : ¬ 8 < (at8 l 2).toNat := hlen0
 obtain ⟨nm, hnm⟩ : ∃ nm : Str, nm = ((l.drop 3).take 8).take (at8 l 2).toNat := ⟨_, rfl⟩
 have hnl : nm.length = (at8 l 2).toNat := by rw [hnm, List.length_take, List.length_take, List.length_drop]; omega
 have hbu : SlS s2 (.slice ba (at8 l 2).toNat bc) 1 nm.length (u8s nm) := by
  have h1 := hbs.upto (l := (at8 l 2).toNat) (by omega)
  rw [Nat.mul_one, u8s_take] at h1
  rw [hnl, hnm]
  exact h1
 have hbc : 8 ≤ bc := by
  obtain ⟨_, _, hv, h1, _⟩ := formS hbs
  cases hv
  exact h1
 have hno : nodeR l = (⟨(at8 l 0).toNat, (at8 l 1).toNat, nm, (at8 l 11).toNat, (at8 l 12).toNat, (at8 l 13).toNat⟩, true) := by unfold nodeR nodeM; rw [if_neg hlen, ← hnm]
 repeat' (first | (refine K.iaA (i := 1) rfl rfl rfl rfl rfl (by decide) ?_) | (refine K.upto (l := (at8 l 2).toNat) rfl rfl rfl rfl rfl (by omega) ?_) | (refine K.str (l := nm) H (.ro hbu) rfl rfl rfl ?_) | refine Z H ?_ | (refine Zc ?_ ?_ <;> intro hc <;> first | (exfalso; omega) | skip) | (refine Y ?_; try change C _ _ _ _ _ _) | (refine Zs H ?_; clear H; (try clear w); intro w H) | (refine Zn H ?_; clear H; (try clear w); (first | ((fail_if_success (have := bl1)); intro bl1 w H) | ((fail_if_success (have := bl2)); intro bl2 w H) | intro _ w H)) | (refine Ze H ?_; clear H; (try clear w); intro gv w H))
 --DBG
 exact ⟨_, resVT (cs := Nd.cells ⟨(at8 l 0).toNat, (at8 l 1).toNat, nm, (at8 l 11).toNat, (at8 l 12).toNat, (at8 l 13).toNat⟩) H rfl, s2, by rw [hno]; rfl, hs1.trans hs2, H.tail.tail.tail.tail⟩
end
end Go.Proofs.YtgilmcpdpggikaaGreatDoor
