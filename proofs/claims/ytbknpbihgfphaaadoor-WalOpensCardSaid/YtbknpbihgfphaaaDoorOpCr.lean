/- crc: On, Of, Seal, Open, as plain data and walked. crc by bits is crc by nibbles: plain. -/
import Derived.Test.YtbknpbihgfphaaaDoorOpK9
set_option linter.unusedSimpArgs false
set_option linter.unusedVariables false
namespace Go.Proofs.YtbknpbihgfphaaaDoor
open Go Go.RowKit Go.Own
def nibs : List Nat := [0, 274646895, 549293790, 820201905, 1098587580, 1361435347, 1640403810, 1905808397, 2197175160, 2460548119, 2722870694, 2987750089, 3280807620, 3553878443, 3811616794, 4084100981]
def nib (q : Nat) : Nat := nibs[q]?.getD 0
theorem nib_lt : ∀ q, nib q < 2 ^ 32 := by
  intro q
  by_cases h : q < 16
  · have : ∀ q : Fin 16, nib q.1 < 2 ^ 32 := by decide
    exact this ⟨q, h⟩
  · unfold nib
    rw [List.getElem?_eq_none (by show 16 ≤ q; omega)]
    decide
def crcRound (r : Nat) : Nat := (r >>> 4) ^^^ nib (r &&& 15)
def crcByte (r : Nat) (x : UInt8) : Nat := crcRound (crcRound (r ^^^ x.toNat))
def crcOn (sum : Nat) (l : List UInt8) : Nat := (2 ^ 32 - 1) ^^^ (l.foldl crcByte ((2 ^ 32 - 1) ^^^ sum))
theorem shr_lt {r : Nat} (h : r < 2 ^ 32) (k : Nat) : r >>> k < 2 ^ 32 := Nat.lt_of_le_of_lt (Nat.shiftRight_le _ _) h
theorem round_lt {r : Nat} (h : r < 2 ^ 32) : crcRound r < 2 ^ 32 := Nat.xor_lt_two_pow (shr_lt h 4) (nib_lt _)
theorem u8_lt32 (x : UInt8) : x.toNat < 2 ^ 32 := by have := x.toNat_lt; omega
theorem byte_lt {r : Nat} (h : r < 2 ^ 32) (x : UInt8) : crcByte r x < 2 ^ 32 := round_lt (round_lt (Nat.xor_lt_two_pow h (u8_lt32 x)))
theorem fold_lt : ∀ (l : List UInt8) (r : Nat), r < 2 ^ 32 → l.foldl crcByte r < 2 ^ 32
  | [], _, h => h
  | x :: l, r, h => fold_lt l _ (byte_lt h x)
theorem on_lt {sum : Nat} (h : sum < 2 ^ 32) (l : List UInt8) : crcOn sum l < 2 ^ 32 := Nat.xor_lt_two_pow (by decide) (fold_lt l _ (Nat.xor_lt_two_pow (by decide) h))
/-- the table, read-only, in its global block -/
def Nib (s : Ro) : Prop := ∀ q, q < 16 → Pin s 0 (0 + q * 1) (.int .u32 (nib q : Int))
theorem Nib.mono {s s' : Ro} (h : Nib s) (hs : s.Le s') : Nib s' := fun q hq => (h q hq).mono hs
def sealL (l : List UInt8) : List UInt8 := l ++ putN (crcOn 0 l) 4
section
variable {s : Ro} {w : World} {R : List Asn}
/-- any readable slice, all memory being read-only -/
theorem _root_.Go.Own.Src.full {rs : List Asn} {v : Value} {sz n : Nat} {xs : List Value} (h : Src s rs v sz n xs) (H : Holds s w rs) : SlS (Own.full s w) v sz n xs := by
  have := SlS.start (h.sl H)
  obtain ⟨a, c, h1, h2, h3, h4, h5⟩ := this
  exact ⟨a, c, h1, h2, h3, h4, h5⟩
theorem _root_.Go.Own.Src.skip {rs : List Asn} {A : Asn} {v : Value} {sz n : Nat} {xs : List Value} (h : Src s rs v sz n xs) : Src s (A :: rs) v sz n xs := ⟨fun w H => h.reads w H.tail, fun hx k hk => (h.blk hx k hk).imp id fun ⟨i, A, h1, h2⟩ => ⟨i + 1, A, by simpa using h1, h2⟩⟩
set_option maxRecDepth 100000 in
set_option maxHeartbeats 1000000 in
theorem crcOn_s {l : List UInt8} {a : Option Addr} {c sum : Nat} (hN : Nib s) (H : Holds s w R) (h : SlS s (.slice a l.length c) 1 l.length (u8s l)) (hl : l.length ≤ 1000000) (hs : sum < 2 ^ 32) : Calls Tryd.prog 128 #[.int .u32 (sum : Int), .slice a l.length c] w fun e w' => e = .returned (.int .u32 (crcOn sum l : Int)) ∧ Holds s w' R := by
  refine enter Tryd.func128 rfl Tryd.ntmps128 rfl ?_
  repeat' (first | (refine B.not ?_) | refine Z H ?_ | (refine Zc ?_ ?_ <;> intro hc <;> first | (exfalso; omega) | skip) | (refine Y ?_; try change C _ _ _ _ _ _) | (refine Zs H ?_; clear H; (try clear w); intro w H) | (refine Zn H ?_; clear H; (try clear w); intro _ w H) | (refine Ze H ?_; clear H; (try clear w); intro gv w H))
  refine C.loopH H [5, 7, 12, 13, 14, 15, 16, 17, 18, 19, 20, 21, 22, 23, 24, 25, 26, 27, 28, 29, 30, 31, 32, 33, 34] [5, 12] rfl (fun m vs => ∃ i : Nat, m = l.length - i ∧ i ≤ l.length ∧ vs = [.int .u32 ((l.take i).foldl crcByte ((2 ^ 32 - 1) ^^^ sum) : Nat), .int .i64 (i : Int)]) l.length ⟨0, rfl, Nat.zero_le _, rfl⟩ ?_
  clear H
  rintro m vs hv w ⟨i, rfl, hi, rfl⟩ H
  have hb := fold_lt (l.take i) ((2 ^ 32 - 1) ^^^ sum) (Nat.xor_lt_two_pow (by decide) hs)
  by_cases hlt : i < l.length
  · obtain ⟨g, o, c', hv', _, _, hp⟩ := elemS1 h (by omega)
    cases hv'
    have pn : Pin s g (o + i * 1) (.int .u8 (l[i].toNat : Int)) := by rw [Nat.mul_one]; exact hp i hlt
    have hsu : (l.take (i + 1)).foldl crcByte ((2 ^ 32 - 1) ^^^ sum) = crcByte ((l.take i).foldl crcByte ((2 ^ 32 - 1) ^^^ sum)) l[i] := by rw [List.take_succ_eq_append_getElem hlt, List.foldl_append]; rfl
    generalize (l.take i).foldl crcByte ((2 ^ 32 - 1) ^^^ sum) = r at *
    generalize l[i] = x at *
    have b2 : x.toNat % 2 ^ 32 = x.toNat := Nat.mod_eq_of_lt (u8_lt32 x)
    have b3 := u8_lt32 x
    repeat' (first | (refine B.conv Tryd.underlying5 ?_; rw [b2]) | refine Z H ?_ | (refine Zc ?_ ?_ <;> intro hc <;> first | (exfalso; omega) | skip) | (refine Y ?_; try change C _ _ _ _ _ _) | (refine Zs H ?_; clear H; (try clear w); intro w H) | (refine Zn H ?_; clear H; (try clear w); intro _ w H) | (refine Ze H ?_; clear H; (try clear w); intro gv w H))
    have b4 := Nat.xor_lt_two_pow hb b3
    refine B.bit ?_
    rw [show crcByte r x = crcRound (crcRound (r ^^^ x.toNat)) from rfl] at hsu
    generalize r ^^^ x.toNat = r1 at *
    repeat' (first | (refine B.shr ?_) | refine Z H ?_ | (refine Zc ?_ ?_ <;> intro hc <;> first | (exfalso; omega) | skip) | (refine Y ?_; try change C _ _ _ _ _ _) | (refine Zs H ?_; clear H; (try clear w); intro w H) | (refine Zn H ?_; clear H; (try clear w); intro _ w H) | (refine Ze H ?_; clear H; (try clear w); intro gv w H))
    refine B.bit ?_
    have hq : r1 &&& 15 < 16 := Nat.lt_succ_of_le Nat.and_le_right
    have hr1 : crcRound r1 = (r1 >>> 4) ^^^ nib (r1 &&& 15) := rfl
    generalize r1 &&& 15 = q1 at *
    have p1 := hN q1 hq
    repeat' (first | refine Z H ?_ | (refine Zc ?_ ?_ <;> intro hc <;> first | (exfalso; omega) | skip) | (refine Y ?_; try change C _ _ _ _ _ _) | (refine Zs H ?_; clear H; (try clear w); intro w H) | (refine Zn H ?_; clear H; (try clear w); intro _ w H) | (refine Ze H ?_; clear H; (try clear w); intro gv w H))
    have c1 := shr_lt b4 4
    have c2 := nib_lt q1
    have c3 := Nat.xor_lt_two_pow c1 c2
    refine B.bit ?_
    rw [hr1] at hsu
    generalize r1 >>> 4 ^^^ nib q1 = r2 at *
    repeat' (first | (refine B.shr ?_) | refine Z H ?_ | (refine Zc ?_ ?_ <;> intro hc <;> first | (exfalso; omega) | skip) | (refine Y ?_; try change C _ _ _ _ _ _) | (refine Zs H ?_; clear H; (try clear w); intro w H) | (refine Zn H ?_; clear H; (try clear w); intro _ w H) | (refine Ze H ?_; clear H; (try clear w); intro gv w H))
    refine B.bit ?_
    have hq2 : r2 &&& 15 < 16 := Nat.lt_succ_of_le Nat.and_le_right
    have hr2 : crcRound r2 = (r2 >>> 4) ^^^ nib (r2 &&& 15) := rfl
    generalize r2 &&& 15 = q2 at *
    have p2 := hN q2 hq2
    repeat' (first | refine Z H ?_ | (refine Zc ?_ ?_ <;> intro hc <;> first | (exfalso; omega) | skip) | (refine Y ?_; try change C _ _ _ _ _ _) | (refine Zs H ?_; clear H; (try clear w); intro w H) | (refine Zn H ?_; clear H; (try clear w); intro _ w H) | (refine Ze H ?_; clear H; (try clear w); intro gv w H))
    have d1 := shr_lt c3 4
    have d2 := nib_lt q2
    refine B.bit ?_
    rw [← hr2]
    repeat' (first | refine Z H ?_ | (refine Zc ?_ ?_ <;> intro hc <;> first | (exfalso; omega) | skip) | (refine Y ?_; try change C _ _ _ _ _ _) | (refine Zs H ?_; clear H; (try clear w); intro w H) | (refine Zn H ?_; clear H; (try clear w); intro _ w H) | (refine Ze H ?_; clear H; (try clear w); intro gv w H))
    exact ⟨by (repeat (first | exact Agr.refl | exact Agr.hav | refine Agr.upd rfl ?_ | refine Agr.in rfl ?_)), l.length - (i + 1), by omega, ⟨i + 1, rfl, by omega, by rw [hsu]; rfl⟩, H⟩
  · have hie : i = l.length := by omega
    subst hie
    rw [List.take_length] at hb ⊢
    repeat' (first | (refine B.not ?_) | refine Z H ?_ | (refine Zc ?_ ?_ <;> intro hc <;> first | (exfalso; omega) | skip) | (refine Y ?_; try change C _ _ _ _ _ _) | (refine Zs H ?_; clear H; (try clear w); intro w H) | (refine Zn H ?_; clear H; (try clear w); intro _ w H) | (refine Ze H ?_; clear H; (try clear w); intro gv w H))
    exact ⟨_, resT rfl, rfl, H⟩
theorem crcOf_s {l : List UInt8} {a : Option Addr} {c : Nat} (hN : Nib s) (H : Holds s w R) (h : SlS s (.slice a l.length c) 1 l.length (u8s l)) (hl : l.length ≤ 1000000) : Calls Tryd.prog 117 #[.slice a l.length c] w fun e w' => e = .returned (.int .u32 (crcOn 0 l : Int)) ∧ Holds s w' R := by
  refine enter Tryd.func117 rfl Tryd.ntmps117 rfl ?_
  repeat' (first | refine Z H ?_ | (refine Zc ?_ ?_ <;> intro hc <;> first | (exfalso; omega) | skip) | (refine Y ?_; try change C _ _ _ _ _ _) | (refine Zs H ?_; clear H; (try clear w); intro w H) | (refine Zn H ?_; clear H; (try clear w); intro _ w H) | (refine Ze H ?_; clear H; (try clear w); intro gv w H))
  (refine X.call (crcOn_s (sum := 0) hN H h hl (by decide)) ?_; (try clear H); rintro _ w ⟨rfl, H⟩; refine ⟨_, rfl, ?_⟩)
  repeat' (first | refine Z H ?_ | (refine Zc ?_ ?_ <;> intro hc <;> first | (exfalso; omega) | skip) | (refine Y ?_; try change C _ _ _ _ _ _) | (refine Zs H ?_; clear H; (try clear w); intro w H) | (refine Zn H ?_; clear H; (try clear w); intro _ w H) | (refine Ze H ?_; clear H; (try clear w); intro gv w H))
  exact ⟨_, resT rfl, rfl, H⟩
theorem crcOf_e {l : List UInt8} {a : Option Addr} {c : Nat} (hN : Nib s) (H : Holds s w R) (h : Src s R (.slice a l.length c) 1 l.length (u8s l)) (hl : l.length ≤ 1000000) : Calls Tryd.prog 117 #[.slice a l.length c] w fun e w' => e = .returned (.int .u32 (crcOn 0 l : Int)) ∧ Only [] w w' ∧ Holds s w' R :=
  (crcOf_s (hN.mono H.le_full) H.full (h.full H) hl).mono fun e w' ⟨he, H'⟩ => ⟨he, H.pure0 H'⟩
/-- bytes that a slice has, sealed -/
theorem Seal_s {l : List UInt8} {a : Option Addr} {c : Nat} (hN : Nib s) (H : Holds s w R) (h : Src s R (.slice a l.length c) 1 l.length (u8s l)) (hl : l.length ≤ 1000) : Calls Tryd.prog 99 #[.slice a l.length c] w fun e w' => ∃ aa cc, e = .returned (.slice aa (sealL l).length cc) ∧ Holds s w' (row 5 1 (.slice aa (sealL l).length cc) (sealL l).length (u8s (sealL l)) :: R) := by
  obtain ⟨ha, hc⟩ : l.length ≤ c ∧ c ≤ maxLen := by
    obtain ⟨_, _, hv, _, h3, h4⟩ := h.form H
    cases hv; exact ⟨h3, h4⟩
  have hcl := on_lt (sum := 0) (by decide) l
  have hcv : crcOn 0 l % 2 ^ 64 = crcOn 0 l := Nat.mod_eq_of_lt (Nat.lt_trans hcl (by decide))
  have hsl : (sealL l).length = l.length + 4 := by simp [sealL, putN_len]
  have hpl := putN_len (crcOn 0 l) 4
  refine enter Tryd.func99 rfl Tryd.ntmps99 rfl ?_
  repeat' (first | refine Z H ?_ | (refine Zc ?_ ?_ <;> intro hc <;> first | (exfalso; omega) | skip) | (refine Y ?_; try change C _ _ _ _ _ _) | (refine Zs H ?_; clear H; (try clear w); intro w H) | (refine Zn H ?_; clear H; (try clear w); intro _ w H) | (refine Ze H ?_; clear H; (try clear w); intro gv w H))
  refine K.make (k := 0) (m := l.length + 4) H rfl rfl rfl rfl (by simp) (by omega) (by omega) (by unfold maxLen; omega) ?_
  clear H
  intro g1 w H
  dsimp only [List.replicate, List.flatten] at H
  repeat' (first | refine Z H ?_ | (refine Zc ?_ ?_ <;> intro hc <;> first | (exfalso; omega) | skip) | (refine Y ?_; try change C _ _ _ _ _ _) | (refine Zs H ?_; clear H; (try clear w); intro w H) | (refine Zn H ?_; clear H; (try clear w); intro _ w H) | (refine Ze H ?_; clear H; (try clear w); intro gv w H))
  refine K.app0 0 H rfl h.skip (u8s_one _) (by unfold maxLen; omega) (by omega) rfl rfl rfl ?_
  clear H
  intro a1 c1 w H
  (try simp only [List.set_cons_zero, List.set_cons_succ, List.eraseIdx_cons_zero, List.eraseIdx_cons_succ] at H)
  repeat' (first | refine Z H ?_ | (refine Zc ?_ ?_ <;> intro hc <;> first | (exfalso; omega) | skip) | (refine Y ?_; try change C _ _ _ _ _ _) | (refine Zs H ?_; clear H; (try clear w); intro w H) | (refine Zn H ?_; clear H; (try clear w); intro _ w H) | (refine Ze H ?_; clear H; (try clear w); intro gv w H))
  (refine X.call (crcOf_e hN H h.skip (by omega)) ?_; (try clear H); rintro _ w ⟨rfl, _, H⟩; refine ⟨_, rfl, ?_⟩)
  repeat' (first | (refine B.conv Tryd.underlying32 ?_; rw [hcv]) | refine Z H ?_ | (refine Zc ?_ ?_ <;> intro hc <;> first | (exfalso; omega) | skip) | (refine Y ?_; try change C _ _ _ _ _ _) | (refine Zs H ?_; clear H; (try clear w); intro w H) | (refine Zn H ?_; clear H; (try clear w); intro _ w H) | (refine Ze H ?_; clear H; (try clear w); intro gv w H))
  (refine X.call (Put_s (n := crcOn 0 l) (size := 4) H (by decide) (by decide)) ?_; (try clear H); rintro _ w ⟨g2, rfl, H⟩; refine ⟨_, rfl, ?_⟩)
  repeat' (first | refine Z H ?_ | (refine Zc ?_ ?_ <;> intro hc <;> first | (exfalso; omega) | skip) | (refine Y ?_; try change C _ _ _ _ _ _) | (refine Zs H ?_; clear H; (try clear w); intro w H) | (refine Zn H ?_; clear H; (try clear w); intro _ w H) | (refine Ze H ?_; clear H; (try clear w); intro gv w H))
  refine X.app H ?_
  clear H
  intro a2 c2 w H
  repeat' (first | refine Z H ?_ | (refine Zc ?_ ?_ <;> intro hc <;> first | (exfalso; omega) | skip) | (refine Y ?_; try change C _ _ _ _ _ _) | (refine Zs H ?_; clear H; (try clear w); intro w H) | (refine Zn H ?_; clear H; (try clear w); intro _ w H) | (refine Ze H ?_; clear H; (try clear w); intro gv w H))
  have e1 : (sealL l).length = l.length + (putN (crcOn 0 l) 4).length := by simp [sealL]
  have e2 : u8s (sealL l) = u8s l ++ u8s (putN (crcOn 0 l) 4) := u8s_app _ _
  refine ⟨_, resT rfl, a2, c2, by rw [e1]; rfl, ?_⟩
  rw [e1, e2]
  exact H.arr
theorem Get_e {l : List UInt8} {v : Value} (H : Holds s w R) (h : Src s R v 1 l.length (u8s l)) (h1 : 1 ≤ l.length) (hl : l.length ≤ 8) : Calls Tryd.prog 116 #[v] w fun e w' => e = .returned (.tuple #[.int .u64 (numN l : Int), .int .i64 0]) ∧ Only [] w w' ∧ Holds s w' R := by
  obtain ⟨a, c, rfl, _⟩ := h.form H
  exact (Get_s H.full (h.full H) h1 hl).mono fun e w' ⟨he, H'⟩ => ⟨he, H.pure0 H'⟩
theorem u8s_take (l : List UInt8) (n : Nat) : (u8s l).take n = u8s (l.take n) := by simp [u8s]
theorem u8s_drop (l : List UInt8) (n : Nat) : (u8s l).drop n = u8s (l.drop n) := by simp [u8s]
/-- what is ahead of the checksum -/
def openL (l : List UInt8) : List UInt8 × Int := if l.length < 4 then ([], 2) else if numN (l.drop (l.length - 4)) = crcOn 0 (l.take (l.length - 4)) then (l.take (l.length - 4), 0) else ([], 8)
theorem src_upto {a : Option Addr} {c n : Nat} {l : List UInt8} (h : Src s R (.slice a l.length c) 1 l.length (u8s l)) (hn : n ≤ l.length) : Src s R (.slice a (l.take n).length c) 1 (l.take n).length (u8s (l.take n)) := by
  have e : (l.take n).length = n := by rw [List.length_take]; omega
  rw [e]
  have := h.sub (l := 0) (m := n) (Nat.zero_le _) hn
  simp only [Nat.sub_zero, Nat.mul_one, List.drop_zero, u8s_take, subAddr] at this
  split at this
  · exact this
  · cases a with
    | none => exact this
    | some a => simpa [Addr.add0] using this
theorem src_from {a : Option Addr} {c n : Nat} {l : List UInt8} (h : Src s R (.slice a l.length c) 1 l.length (u8s l)) (hn : n ≤ l.length) : Src s R (.slice (subAddr a c n 1) (l.drop n).length (c - n)) 1 (l.drop n).length (u8s (l.drop n)) := by
  have e : (l.drop n).length = l.length - n := by rw [List.length_drop]
  rw [e]
  have := h.sub (l := n) (m := l.length) hn (Nat.le_refl _)
  rw [Nat.mul_one, Nat.mul_one, u8s_drop, u8s_take, List.take_of_length_le (by rw [e]; exact Nat.le_refl _)] at this
  exact this
set_option maxRecDepth 100000 in
set_option maxHeartbeats 1000000 in
theorem Open_s {l : List UInt8} {a : Option Addr} {c : Nat} (hN : Nib s) (H : Holds s w R) (h : Src s R (.slice a l.length c) 1 l.length (u8s l)) (hl : l.length ≤ 1000) : Calls Tryd.prog 93 #[.slice a l.length c] w fun e w' => ∃ aa cc, e = .returned (.tuple #[.slice aa (openL l).1.length cc, .int .i64 (openL l).2]) ∧ Holds s w' (row 5 1 (.slice aa (openL l).1.length cc) (openL l).1.length (u8s (openL l).1) :: R) := by
  obtain ⟨ha, hc⟩ : l.length ≤ c ∧ c ≤ maxLen := by
    obtain ⟨_, _, hv, _, h3, h4⟩ := h.form H
    cases hv; exact ⟨h3, h4⟩
  by_cases h4 : l.length < 4
  · have e1 : openL l = ([], 2) := by unfold openL; rw [if_pos h4]
    rw [e1]
    refine enter Tryd.func93 rfl Tryd.ntmps93 rfl ?_
    repeat' (first | refine Z H ?_ | (refine Zc ?_ ?_ <;> intro hc <;> first | (exfalso; omega) | skip) | (refine Y ?_; try change C _ _ _ _ _ _) | (refine Zs H ?_; clear H; (try clear w); intro w H) | (refine Zn H ?_; clear H; (try clear w); intro _ w H) | (refine Ze H ?_; clear H; (try clear w); intro gv w H))
    exact ⟨_, resTT rfl, none, 0, rfl, H.nilRow _ _⟩
  have hd : (l.drop (l.length - 4)).length = 4 := by rw [List.length_drop]; omega
  have ht : (l.take (l.length - 4)).length = l.length - 4 := by rw [List.length_take]; omega
  have hS1 := src_from (n := l.length - 4) h (by omega)
  have hS2 := src_upto (n := l.length - 4) h (by omega)
  have hcl := on_lt (sum := 0) (by decide) (l.take (l.length - 4))
  have hcv : crcOn 0 (l.take (l.length - 4)) % 2 ^ 64 = crcOn 0 (l.take (l.length - 4)) := Nat.mod_eq_of_lt (Nat.lt_trans hcl (by decide))
  unfold openL
  rw [if_neg h4]
  generalize hD : l.drop (l.length - 4) = D at *
  generalize hT : l.take (l.length - 4) = T at *
  refine enter Tryd.func93 rfl Tryd.ntmps93 rfl ?_
  repeat' (first | refine Z H ?_ | (refine Zc ?_ ?_ <;> intro hc <;> first | (exfalso; omega) | skip) | (refine Y ?_; try change C _ _ _ _ _ _) | (refine Zs H ?_; clear H; (try clear w); intro w H) | (refine Zn H ?_; clear H; (try clear w); intro _ w H) | (refine Ze H ?_; clear H; (try clear w); intro gv w H))
  refine K.from (l := l.length - 4) rfl rfl rfl rfl (by omega) (by omega) ?_
  rw [show l.length - (l.length - 4) = D.length by omega]
  (refine X.call (Get_e H hS1 (by omega) (by omega)) ?_; (try clear H); rintro _ w ⟨rfl, _, H⟩; refine ⟨_, rfl, ?_⟩)
  repeat' (first | refine Z H ?_ | (refine Zc ?_ ?_ <;> intro hc <;> first | (exfalso; omega) | skip) | (refine Y ?_; try change C _ _ _ _ _ _) | (refine Zs H ?_; clear H; (try clear w); intro w H) | (refine Zn H ?_; clear H; (try clear w); intro _ w H) | (refine Ze H ?_; clear H; (try clear w); intro gv w H))
  refine K.upto (l := T.length) rfl rfl rfl rfl (by omega) (by omega) ?_
  (refine X.call (crcOf_e hN H hS2 (by omega)) ?_; (try clear H); rintro _ w ⟨rfl, _, H⟩; refine ⟨_, rfl, ?_⟩)
  repeat' (first | (refine B.conv Tryd.underlying32 ?_; rw [hcv]) | refine Z H ?_ | (refine Zc ?_ ?_ <;> intro hc <;> first | (exfalso; omega) | skip) | (refine Y ?_; try change C _ _ _ _ _ _) | (refine Zs H ?_; clear H; (try clear w); intro w H) | (refine Zn H ?_; clear H; (try clear w); intro _ w H) | (refine Ze H ?_; clear H; (try clear w); intro gv w H))
  · rw [if_neg (by omega)]
    exact ⟨_, resTT rfl, none, 0, rfl, H.nilRow _ _⟩
  · rw [if_pos (by omega)]
    refine K.upto (l := T.length) rfl rfl rfl rfl (by omega) (by omega) ?_
    replace H := H.nilRow 5 1
    refine K.app0 0 H rfl hS2.skip (u8s_one _) (by unfold maxLen; omega) (by omega) rfl rfl rfl ?_
    clear H
    intro a1 c1 w H
    (try simp only [List.set_cons_zero, List.set_cons_succ, List.eraseIdx_cons_zero, List.eraseIdx_cons_succ] at H)
    repeat' (first | refine Z H ?_ | (refine Zc ?_ ?_ <;> intro hc <;> first | (exfalso; omega) | skip) | (refine Y ?_; try change C _ _ _ _ _ _) | (refine Zs H ?_; clear H; (try clear w); intro w H) | (refine Zn H ?_; clear H; (try clear w); intro _ w H) | (refine Ze H ?_; clear H; (try clear w); intro gv w H))
    exact ⟨_, resTT rfl, a1, c1, rfl, H⟩
end
end Go.Proofs.YtbknpbihgfphaaaDoor
set_option linter.unusedSimpArgs false
set_option linter.unusedVariables false
namespace Go.Proofs.YtbknpbihgfphaaaDoor
open Go Go.RowKit Go.Own
def crcS (r : Nat) : Nat := (r >>> 1) ^^^ (if r % 2 = 1 then 2197175160 else 0)
def bitR (r bit : Nat) : Nat := if (r % 2 + bit) % 2 = 1 then (r / 2) ^^^ 2197175160 else r / 2
def itS : Nat → Nat → Nat
  | 0, r => r
  | k + 1, r => crcS (itS k r)
def bitsR (r x : Nat) : Nat → Nat
  | 0 => r
  | k + 1 => bitR (bitsR r x k) ((x >>> k) % 2)
theorem crcS_xor (a y : Nat) : crcS (a ^^^ 2 * y) = crcS a ^^^ y := by
  have h1 : (a ^^^ 2 * y) >>> 1 = (a >>> 1) ^^^ y := by
    rw [Nat.shiftRight_xor_distrib]
    congr 1
    rw [Nat.shiftRight_eq_div_pow]; omega
  have h2 : (a ^^^ 2 * y) % 2 = a % 2 := by
    have := Nat.xor_mod_two_pow (a := a) (b := 2 * y) (n := 1)
    rw [Nat.pow_one] at this
    rw [this, show 2 * y % 2 = 0 by omega, Nat.xor_zero]
  unfold crcS
  rw [h1, h2, Nat.xor_assoc, Nat.xor_assoc, Nat.xor_comm y]
theorem itS_xor (k : Nat) : ∀ (a y : Nat), itS k (a ^^^ 2 ^ k * y) = itS k a ^^^ y := by
  induction k with
  | zero => intro a y; simp [itS]
  | succ k ih =>
    intro a y
    rw [itS, itS, show 2 ^ (k + 1) * y = 2 ^ k * (2 * y) by rw [Nat.pow_succ, Nat.mul_assoc], ih, crcS_xor]
theorem bitR_eq (r : Nat) {b : Nat} (hb : b < 2) : bitR r b = crcS (r ^^^ b) := by
  have h1 : (r ^^^ b) >>> 1 = r / 2 := by
    rw [Nat.shiftRight_xor_distrib, Nat.shiftRight_eq_div_pow, Nat.shiftRight_eq_div_pow, Nat.pow_one, show b / 2 = 0 by omega, Nat.xor_zero]
  have h2 : (r ^^^ b) % 2 = (r % 2 + b) % 2 := by
    have := Nat.xor_mod_two_pow (a := r) (b := b) (n := 1)
    rw [Nat.pow_one] at this
    rw [this]
    have hr : r % 2 = 0 ∨ r % 2 = 1 := by omega
    have hb2 : b = 0 ∨ b = 1 := by omega
    rcases hr with hr | hr <;> rcases hb2 with rfl | rfl <;> rw [hr] <;> rfl
  unfold bitR crcS
  rw [h1, h2]
  split
  · rfl
  · rw [Nat.xor_zero]
theorem low_bits : ∀ x : Fin 256, ∀ k : Fin 8, x.1 % 2 ^ (k.1 + 1) = (x.1 % 2 ^ k.1) ^^^ 2 ^ k.1 * ((x.1 >>> k.1) % 2) := by decide +kernel
theorem bitsR_eq (r : Nat) {x : Nat} (hx : x < 256) : ∀ k, k ≤ 8 → bitsR r x k = itS k (r ^^^ x % 2 ^ k)
  | 0, _ => by simp [bitsR, itS, Nat.mod_one]
  | k + 1, hk => by
    rw [bitsR, bitsR_eq r hx k (by omega), bitR_eq _ (Nat.mod_lt _ (by decide)), ← itS_xor, itS, low_bits ⟨x, hx⟩ ⟨k, by omega⟩, Nat.xor_assoc]
theorem nib_S : ∀ a : Fin 16, itS 4 a.1 = nib a.1 := by decide +kernel
theorem round_S (r : Nat) : crcRound r = itS 4 r := by
  have h15 : r &&& 15 = r % 16 := Nat.and_two_pow_sub_one_eq_mod r 4
  have hr : r = r % 16 ^^^ 2 ^ 4 * (r >>> 4) := by
    have h1 : r % 2 ^ 4 ^^^ 2 ^ 4 * (r / 2 ^ 4) = r := by
      apply Nat.eq_of_testBit_eq
      intro i
      rw [Nat.testBit_xor, Nat.testBit_mod_two_pow, Nat.testBit_two_pow_mul, Nat.testBit_div_two_pow]
      by_cases h : i < 4
      · simp [h, show ¬ 4 ≤ i by omega]
      · simp [h, show 4 ≤ i by omega]
    rw [Nat.shiftRight_eq_div_pow]
    exact h1.symm
  have h2 : itS 4 r = itS 4 (r % 16) ^^^ (r >>> 4) := by
    conv => lhs; rw [hr]
    exact itS_xor 4 _ _
  rw [h2, nib_S ⟨r % 16, Nat.mod_lt _ (by decide)⟩]
  unfold crcRound
  rw [h15, Nat.xor_comm]
theorem itS_add (j k r : Nat) : itS j (itS k r) = itS (j + k) r := by
  induction j with
  | zero => rw [itS, Nat.zero_add]
  | succ j ih => rw [itS, ih, show j + 1 + k = j + k + 1 by omega, itS]
theorem byte_bits (r : Nat) (x : UInt8) : bitsR r x.toNat 8 = crcByte r x := by
  have hx : x.toNat < 256 := x.toNat_lt
  rw [bitsR_eq r hx 8 (Nat.le_refl _), Nat.mod_eq_of_lt hx]
  unfold crcByte
  rw [round_S, round_S, itS_add]
theorem bitR_lt {r bit : Nat} (h : r < 2 ^ 32) : bitR r bit < 2 ^ 32 := by
  unfold bitR
  split
  · exact Nat.xor_lt_two_pow (by omega) (by decide)
  · omega
theorem bitsR_lt {r x : Nat} (h : r < 2 ^ 32) : ∀ k, bitsR r x k < 2 ^ 32
  | 0 => h
  | k + 1 => bitR_lt (bitsR_lt h k)
theorem not_sub {a : Nat} (h : a < 2 ^ 32) : (2 ^ 32 - 1) ^^^ a = 4294967295 - a := by
  rw [show (2 ^ 32 - 1 : Nat) = 2 ^ 32 - 0 - 1 by rfl]
  have := Nat.xor_comm (2 ^ 32 - 1) a
  apply Nat.eq_of_testBit_eq
  intro i
  have e := Nat.testBit_two_pow_sub_succ h i
  rw [show 4294967295 - a = 2 ^ 32 - (a + 1) by omega, e, Nat.sub_zero, Nat.testBit_xor, Nat.testBit_two_pow_sub_one]
  by_cases hi : i < 32
  · simp [hi]
  · have : a.testBit i = false := Nat.testBit_lt_two_pow (Nat.lt_of_lt_of_le h (Nat.pow_le_pow_right (by decide) (by omega)))
    simp [hi, this]
end Go.Proofs.YtbknpbihgfphaaaDoor
