/- audit: entries and their sectors, as plain data; valid, sector, entry. -/
import Derived.Test.YtbknpbihgfphaaaDoorOd
import Derived.Test.YtbknpbihgfphaaaDoorEx
set_option linter.unusedSimpArgs false
set_option linter.unusedVariables false
namespace Go.Proofs.YtbknpbihgfphaaaDoor
open Go Go.RowKit Go.Own

structure En where
  kind : Int
  part : Int
  ver : Nat
  code : Int
deriving DecidableEq
def En.cells (x : En) : List Value := [.int .i64 x.kind, .int .i64 x.part, .int .u32 (x.ver : Int), .int .i64 x.code]
def En.zero : En := ⟨0, 0, 0, 0⟩
structure En.Ok (x : En) : Prop where
  k : I64 x.kind
  p : I64 x.part
  v : x.ver < 2 ^ 32
  c : I64 x.code
def En.valid (x : En) : Bool := decide (1 ≤ x.kind ∧ x.kind ≤ 4 ∧ 0 ≤ x.part ∧ x.part < 8 ∧ 0 ≤ x.code ∧ x.code ≤ 255)
def headN (n k p v c : Nat) : List UInt8 := ((((([65] ++ putN n 4) ++ putN k 1) ++ putN p 1) ++ putN v 4) ++ putN c 1)
def contN (n k p v c : Nat) : List UInt8 := headN n k p v c ++ List.replicate 48 0
def secN (n k p v c : Nat) : List UInt8 := sealL (contN n k p v c)
def secE (n : Nat) (x : En) : List UInt8 := secN n x.kind.toNat x.part.toNat x.ver x.code.toNat
theorem headN_len (n k p v c : Nat) : (headN n k p v c).length = 12 := by simp [headN, putN_len]
theorem contN_len (n k p v c : Nat) : (contN n k p v c).length = 60 := by simp [contN, headN_len]
theorem secN_len (n k p v c : Nat) : (secN n k p v c).length = 64 := by simp [secN, sealL, contN_len, putN_len]
def fieldsE (c : List UInt8) : En := ⟨(numN ((c.drop 5).take 1) : Int), (numN ((c.drop 6).take 1) : Int), numN ((c.drop 7).take 4) % 2 ^ 32, (numN ((c.drop 11).take 1) : Int)⟩
/-- the entry that a sector says as the n-th one -/
def saidE (n : Nat) (l : List UInt8) : Option En := if (openL l).2 = 0 ∧ (fieldsE (openL l).1).valid = true ∧ secE n (fieldsE (openL l).1) = l then some (fieldsE (openL l).1) else none

section
variable {s : Ro} {w : World} {R : List Asn}
set_option maxRecDepth 100000 in
set_option maxHeartbeats 1000000 in
theorem valid_a {x : En} (H : Holds s w R) : Calls Tryd.prog 58 #[.agg #[.int .i64 x.kind, .int .i64 x.part, .int .u32 (x.ver : Int), .int .i64 x.code]] w fun e w' => e = .returned (.bool x.valid) ∧ Holds s w' R := by
  refine enter Tryd.func58 rfl Tryd.ntmps58 rfl ?_
  repeat' (first | refine Z H ?_ | (refine Zc ?_ ?_ <;> intro hc <;> first | (exfalso; omega) | skip) | (refine Y ?_; try change C _ _ _ _ _ _) | (refine Zs H ?_; clear H; (try clear w); intro w H) | (refine Zn H ?_; clear H; (try clear w); intro _ w H) | (refine Ze H ?_; clear H; (try clear w); intro gv w H))
  all_goals
    refine ⟨_, resT rfl, ?_, H.tail⟩
    unfold En.valid
    first
      | rw [decide_eq_true (by omega)]; rfl
      | rw [decide_eq_false (by omega)]; rfl
set_option maxRecDepth 100000 in
set_option maxHeartbeats 1000000 in
theorem put_c {v size g cc : Nat} {aa : Option Addr} {l : List UInt8} (H : Holds s w (var g 37 [.slice aa l.length cc] :: row 5 1 (.slice aa l.length cc) l.length (u8s l) :: R)) (h1 : 1 ≤ size) (h8 : size ≤ 8) (hl : l.length ≤ 1000) : Calls Tryd.prog 97 #[.int .u64 (v : Int), .int .i64 (size : Int), .pointer (some ⟨g, 0, none⟩)] w fun e w' => ∃ a' c', e = .returned (.tuple #[]) ∧ Holds s w' (var g 37 [.slice a' (l ++ putN v size).length c'] :: row 5 1 (.slice a' (l ++ putN v size).length c') (l ++ putN v size).length (u8s (l ++ putN v size)) :: R) := by
  have hpl := putN_len v size
  refine enter Tryd.func97 rfl Tryd.ntmps97 rfl ?_
  repeat' (first | refine Z H ?_ | (refine Zc ?_ ?_ <;> intro hc <;> first | (exfalso; omega) | skip) | (refine Y ?_; try change C _ _ _ _ _ _) | (refine Zs H ?_; clear H; (try clear w); intro w H) | (refine Zn H ?_; clear H; (try clear w); intro _ w H) | (refine Ze H ?_; clear H; (try clear w); intro gv w H))
  refine C.drawn2 [g] [1, 0, 0, 2, 3, 3] [4] [0, 0, 0, 6, 15, 31] (by kernel_rfl) ?_; replace H := H.drew; simp only [segL, List.take_succ_cons, List.take_zero, List.drop_succ_cons, List.drop_zero]; have H0 := H
  repeat' (first | refine Z H ?_ | (refine Zc ?_ ?_ <;> intro hc <;> first | (exfalso; omega) | skip) | (refine Y ?_; try change C _ _ _ _ _ _) | (refine Zs H ?_; clear H; (try clear w); intro w H) | (refine Zn H ?_; clear H; (try clear w); intro _ w H) | (refine Ze H ?_; clear H; (try clear w); intro gv w H))
  (refine X.call (Put_s (n := v) (size := size) H h1 h8) ?_; (try clear H); rintro _ w ⟨g2, rfl, H⟩; refine ⟨_, rfl, ?_⟩); refine L.nil ?_; refine ⟨rfl, rfl, (by repeat (first | exact subN_nil | refine subN_cons (by simp) ?_)), (by first | exact keep_same | (repeat (first | exact keepV H0 H | exact keepP H0 H | exact keep_nil | refine keep_cons ?_ ?_))), ?_⟩; clear H0; have H0 := H
  repeat' (first | (refine X.app H ?_; clear H; intro a3 c3 w H) | refine Z H ?_ | (refine Zc ?_ ?_ <;> intro hc <;> first | (exfalso; omega) | skip) | (refine Y ?_; try change C _ _ _ _ _ _) | (refine Zs H ?_; clear H; (try clear w); intro w H) | (refine Zn H ?_; clear H; (try clear w); intro _ w H) | (refine Ze H ?_; clear H; (try clear w); intro gv w H))
  refine ⟨rfl, rfl, (by repeat (first | exact subN_nil | refine subN_cons (by simp) ?_)), (by first | exact keep_same | (repeat (first | exact keepV H0 H | exact keepP H0 H | exact keep_nil | refine keep_cons ?_ ?_))), ?_⟩; clear H0; have H0 := H
  repeat' (first | refine Z H ?_ | (refine Zc ?_ ?_ <;> intro hc <;> first | (exfalso; omega) | skip) | (refine Y ?_; try change C _ _ _ _ _ _) | (refine Zs H ?_; clear H; (try clear w); intro w H) | (refine Zn H ?_; clear H; (try clear w); intro _ w H) | (refine Ze H ?_; clear H; (try clear w); intro gv w H))
  rw [List.length_append, u8s_app]
  exact ⟨_, res0 rfl, a3, c3, rfl, H.arr⟩
theorem Equal_s {l m : List UInt8} {v u : Value} (H : Holds s w R) (h : Src s R v 1 l.length (u8s l)) (k : Src s R u 1 m.length (u8s m)) : Calls Tryd.prog 96 #[v, u] w fun e w' => e = .returned (.bool (decide (l = m))) ∧ Holds s w' R := by
  obtain ⟨_, _, rfl, _⟩ := h.form H
  obtain ⟨_, _, rfl, _⟩ := k.form H
  refine enter Tryd.func96 rfl Tryd.ntmps96 rfl ?_
  repeat' (first | (refine K.str H h rfl rfl rfl ?_) | refine Z H ?_ | (refine Zc ?_ ?_ <;> intro hc <;> first | (exfalso; omega) | skip) | (refine Y ?_; try change C _ _ _ _ _ _) | (refine Zs H ?_; clear H; (try clear w); intro w H) | (refine Zn H ?_; clear H; (try clear w); intro _ w H) | (refine Ze H ?_; clear H; (try clear w); intro gv w H))
  refine K.str (l := m) H k rfl rfl rfl ?_
  repeat' (first | refine Z H ?_ | (refine Zc ?_ ?_ <;> intro hc <;> first | (exfalso; omega) | skip) | (refine Y ?_; try change C _ _ _ _ _ _) | (refine Zs H ?_; clear H; (try clear w); intro w H) | (refine Zn H ?_; clear H; (try clear w); intro _ w H) | (refine Ze H ?_; clear H; (try clear w); intro gv w H))
  · have hlm : l = m := by
      have h1 := congrArg (fun b : ByteArray => b.data.toList) hc
      simpa using h1
    exact ⟨_, resT rfl, by rw [decide_eq_true hlm]; rfl, H⟩
  · exact ⟨_, resT rfl, by rw [decide_eq_false (fun h => hc (by rw [h]))]; rfl, H⟩
theorem fill_cont (n k p v c : Nat) : (List.replicate 60 (Value.int .u8 0)).take 0 ++ ((u8s (headN n k p v c)).take 60 ++ (List.replicate 60 (Value.int .u8 0)).drop (0 + 12)) = u8s (contN n k p v c) := by
  rw [List.take_zero, List.nil_append, List.take_of_length_le (by rw [u8s_len, headN_len]; decide), contN, u8s_app]
  rfl
set_option maxRecDepth 100000 in
set_option maxHeartbeats 1000000 in
theorem sector_a {n k p v c : Nat} (hN : Nib s) (H : Holds s w R) (hn : n < 2 ^ 32) (hk : k ≤ 255) (hp : p ≤ 255) (hv : v < 2 ^ 32) (hc : c ≤ 255) : Calls Tryd.prog 59 #[.int .i64 (n : Int), .agg #[.int .i64 (k : Int), .int .i64 (p : Int), .int .u32 (v : Int), .int .i64 (c : Int)]] w fun e w' => ∃ aa cc, e = .returned (.slice aa (secN n k p v c).length cc) ∧ Holds s w' (row 5 1 (.slice aa (secN n k p v c).length cc) (secN n k p v c).length (u8s (secN n k p v c)) :: R) := by
  have wn : n % 2 ^ 64 = n := Nat.mod_eq_of_lt (by omega)
  have wk : k % 2 ^ 64 = k := Nat.mod_eq_of_lt (by omega)
  have wp : p % 2 ^ 64 = p := Nat.mod_eq_of_lt (by omega)
  have wv : v % 2 ^ 64 = v := Nat.mod_eq_of_lt (by omega)
  have wc : c % 2 ^ 64 = c := Nat.mod_eq_of_lt (by omega)
  refine enter Tryd.func59 rfl Tryd.ntmps59 rfl ?_
  repeat' (first | refine Z H ?_ | (refine Zc ?_ ?_ <;> intro hc <;> first | (exfalso; omega) | skip) | (refine Y ?_; try change C _ _ _ _ _ _) | (refine Zs H ?_; clear H; (try clear w); intro w H) | (refine Zn H ?_; clear H; (try clear w); (first | ((fail_if_success (have := bl1)); intro bl1 w H) | ((fail_if_success (have := bl2)); intro bl2 w H) | intro _ w H)) | (refine Ze H ?_; clear H; (try clear w); intro gv w H))
  refine K.one H rfl rfl (by conv => lhs; whnf) (by rfl) (by rfl) ?_; clear H; (try clear w); intro g1 w H
  repeat' (first | (refine B.fn ?_) | (refine B.conv Tryd.underlying114 ?_; rw [wn]) | refine Z H ?_ | (refine Zc ?_ ?_ <;> intro hc <;> first | (exfalso; omega) | skip) | (refine Y ?_; try change C _ _ _ _ _ _) | (refine Zs H ?_; clear H; (try clear w); intro w H) | (refine Zn H ?_; clear H; (try clear w); (first | ((fail_if_success (have := bl1)); intro bl1 w H) | ((fail_if_success (have := bl2)); intro bl2 w H) | intro _ w H)) | (refine Ze H ?_; clear H; (try clear w); intro gv w H))
  have H' : Holds s w (var bl2 37 [.slice (some ⟨g1, 0, none⟩) ([65] : List UInt8).length 1] :: row 5 1 (.slice (some ⟨g1, 0, none⟩) ([65] : List UInt8).length 1) ([65] : List UInt8).length (u8s [65]) :: var bl1 34 [.int .i64 (k : Int), .int .i64 (p : Int), .int .u32 (v : Int), .int .i64 (c : Int)] :: R) := H
  clear H
  have H := H'
  clear H'
  refine B.call (put_c (v := n) (size := 4) H (by decide) (by decide) (by simp [putN_len])) ?_
  clear H
  rintro _ w ⟨a2, c2, rfl, H⟩
  refine ⟨_, rfl, ?_⟩
  repeat' (first | (refine B.conv Tryd.underlying3 ?_; rw [wk]) | refine Z H ?_ | (refine Zc ?_ ?_ <;> intro hc <;> first | (exfalso; omega) | skip) | (refine Y ?_; try change C _ _ _ _ _ _) | (refine Zs H ?_; clear H; (try clear w); intro w H) | (refine Zn H ?_; clear H; (try clear w); (first | ((fail_if_success (have := bl1)); intro bl1 w H) | ((fail_if_success (have := bl2)); intro bl2 w H) | intro _ w H)) | (refine Ze H ?_; clear H; (try clear w); intro gv w H))
  refine B.call (put_c (v := k) (size := 1) H (by decide) (by decide) (by simp [putN_len])) ?_
  clear H
  rintro _ w ⟨a3, c3, rfl, H⟩
  refine ⟨_, rfl, ?_⟩
  repeat' (first | (refine B.conv Tryd.underlying3 ?_; rw [wp]) | refine Z H ?_ | (refine Zc ?_ ?_ <;> intro hc <;> first | (exfalso; omega) | skip) | (refine Y ?_; try change C _ _ _ _ _ _) | (refine Zs H ?_; clear H; (try clear w); intro w H) | (refine Zn H ?_; clear H; (try clear w); (first | ((fail_if_success (have := bl1)); intro bl1 w H) | ((fail_if_success (have := bl2)); intro bl2 w H) | intro _ w H)) | (refine Ze H ?_; clear H; (try clear w); intro gv w H))
  refine B.call (put_c (v := p) (size := 1) H (by decide) (by decide) (by simp [putN_len])) ?_
  clear H
  rintro _ w ⟨a4, c4, rfl, H⟩
  refine ⟨_, rfl, ?_⟩
  repeat' (first | (refine B.conv Tryd.underlying32 ?_; rw [wv]) | refine Z H ?_ | (refine Zc ?_ ?_ <;> intro hc <;> first | (exfalso; omega) | skip) | (refine Y ?_; try change C _ _ _ _ _ _) | (refine Zs H ?_; clear H; (try clear w); intro w H) | (refine Zn H ?_; clear H; (try clear w); (first | ((fail_if_success (have := bl1)); intro bl1 w H) | ((fail_if_success (have := bl2)); intro bl2 w H) | intro _ w H)) | (refine Ze H ?_; clear H; (try clear w); intro gv w H))
  refine B.call (put_c (v := v) (size := 4) H (by decide) (by decide) (by simp [putN_len])) ?_
  clear H
  rintro _ w ⟨a5, c5, rfl, H⟩
  refine ⟨_, rfl, ?_⟩
  repeat' (first | (refine B.conv Tryd.underlying3 ?_; rw [wc]) | refine Z H ?_ | (refine Zc ?_ ?_ <;> intro hc <;> first | (exfalso; omega) | skip) | (refine Y ?_; try change C _ _ _ _ _ _) | (refine Zs H ?_; clear H; (try clear w); intro w H) | (refine Zn H ?_; clear H; (try clear w); (first | ((fail_if_success (have := bl1)); intro bl1 w H) | ((fail_if_success (have := bl2)); intro bl2 w H) | intro _ w H)) | (refine Ze H ?_; clear H; (try clear w); intro gv w H))
  refine B.call (put_c (v := c) (size := 1) H (by decide) (by decide) (by simp [putN_len])) ?_
  clear H
  rintro _ w ⟨a6, c6, rfl, H⟩
  refine ⟨_, rfl, ?_⟩
  repeat' (first | refine Z H ?_ | (refine Zc ?_ ?_ <;> intro hc <;> first | (exfalso; omega) | skip) | (refine Y ?_; try change C _ _ _ _ _ _) | (refine Zs H ?_; clear H; (try clear w); intro w H) | (refine Zn H ?_; clear H; (try clear w); (first | ((fail_if_success (have := bl1)); intro bl1 w H) | ((fail_if_success (have := bl2)); intro bl2 w H) | intro _ w H)) | (refine Ze H ?_; clear H; (try clear w); intro gv w H))
  have H' : Holds s w (var bl2 37 [.slice a6 (headN n k p v c).length c6] :: row 5 1 (.slice a6 (headN n k p v c).length c6) (headN n k p v c).length (u8s (headN n k p v c)) :: var bl1 34 [.int .i64 (k : Int), .int .i64 (p : Int), .int .u32 (v : Int), .int .i64 (c : Int)] :: R) := H
  clear H
  have H := H'
  clear H'
  refine K.make (k := 60) (m := 60) H rfl rfl rfl rfl rfl (by decide) (by decide) (by decide) ?_
  clear H
  intro g2 w H
  rw [rep_flat] at H
  repeat' (first | refine Z H ?_ | (refine Zc ?_ ?_ <;> intro hc <;> first | (exfalso; omega) | skip) | (refine Y ?_; try change C _ _ _ _ _ _) | (refine Zs H ?_; clear H; (try clear w); intro w H) | (refine Zn H ?_; clear H; (try clear w); (first | ((fail_if_success (have := bl1)); intro bl1 w H) | ((fail_if_success (have := bl2)); intro bl2 w H) | intro _ w H)) | (refine Ze H ?_; clear H; (try clear w); intro gv w H))
  refine K.copyR 0 H rfl (.own 2 _ rfl) (u8s_one _) (q := 12) (by rw [headN_len]; rfl) (by decide) rfl rfl rfl ?_
  clear H
  intro w H
  rw [List.set_cons_zero, fill_cont] at H
  repeat' (first | refine Z H ?_ | (refine Zc ?_ ?_ <;> intro hc <;> first | (exfalso; omega) | skip) | (refine Y ?_; try change C _ _ _ _ _ _) | (refine Zs H ?_; clear H; (try clear w); intro w H) | (refine Zn H ?_; clear H; (try clear w); (first | ((fail_if_success (have := bl1)); intro bl1 w H) | ((fail_if_success (have := bl2)); intro bl2 w H) | intro _ w H)) | (refine Ze H ?_; clear H; (try clear w); intro gv w H))
  have hcl := contN_len n k p v c
  have H' : Holds s w (row 5 1 (.slice (some ⟨g2, 0, none⟩) (contN n k p v c).length 60) (contN n k p v c).length (u8s (contN n k p v c)) :: var bl2 37 [.slice a6 (headN n k p v c).length c6] :: row 5 1 (.slice a6 (headN n k p v c).length c6) (headN n k p v c).length (u8s (headN n k p v c)) :: var bl1 34 [.int .i64 (k : Int), .int .i64 (p : Int), .int .u32 (v : Int), .int .i64 (c : Int)] :: R) := by rw [hcl]; exact H
  clear H
  have hS := Seal_s (a := some ⟨g2, 0, none⟩) (c := 60) hN H' (.own 0 _ rfl) (by omega)
  rw [hcl, show sealL (contN n k p v c) = secN n k p v c from rfl] at hS
  (refine X.call (hS) ?_; (try clear H); rintro _ w ⟨aa, cc, rfl, H⟩; refine ⟨_, rfl, ?_⟩)
  repeat' (first | refine Z H ?_ | (refine Zc ?_ ?_ <;> intro hc <;> first | (exfalso; omega) | skip) | (refine Y ?_; try change C _ _ _ _ _ _) | (refine Zs H ?_; clear H; (try clear w); intro w H) | (refine Zn H ?_; clear H; (try clear w); (first | ((fail_if_success (have := bl1)); intro bl1 w H) | ((fail_if_success (have := bl2)); intro bl2 w H) | intro _ w H)) | (refine Ze H ?_; clear H; (try clear w); intro gv w H))
  exact ⟨_, resT rfl, aa, cc, rfl, H.arr⟩
theorem _root_.Go.Own.Holds.weak {s s' : Ro} {w : World} {rs : List Asn} (H : Holds s' w rs) (hs : s.Le s') : Holds s w rs := by
  obtain ⟨⟨f1, f2, f3, f4⟩, F, hF, hn⟩ := H
  have hc := hs.cst
  refine ⟨⟨fun k o h => f1 k o (hs.mem k o h), by rw [f2, hc], by rw [f3, hc], by rw [f4, hc]⟩, F, hF, fun k hk => ?_⟩
  cases hm : s.mem k with
  | none => rfl
  | some o => have := hs.mem k o hm; rw [hn k hk] at this; cases this
theorem _root_.Go.Own.Src.mono {s s' : Ro} {rs : List Asn} {v : Value} {sz n : Nat} {xs : List Value} (h : Src s rs v sz n xs) (hs : s.Le s') : Src s' rs v sz n xs :=
  ⟨fun w H => h.reads w (H.weak hs), fun hx k hk => (h.blk hx k hk).imp (fun ⟨o, ho⟩ => ⟨o, hs.mem k o ho⟩) id⟩
theorem open_len {l : List UInt8} (h : (openL l).2 = 0) : (openL l).1.length = l.length - 4 ∧ 4 ≤ l.length := by
  unfold openL at h ⊢
  split at h
  · cases h
  · split at h
    · rename_i h1 h2
      rw [if_neg h1, if_pos h2]
      exact ⟨by rw [List.length_take]; omega, by omega⟩
    · cases h
theorem build_entry0 (w : World) : (Instr.build 34 ([] : List (Nat × Value)).toArray).run Tryd.prog w = .ok (.agg #[.int .i64 0, .int .i64 0, .int .u32 0, .int .i64 0]) w := by kernel_rfl
theorem num1_lt (c : List UInt8) (k : Nat) : numN ((c.drop k).take 1) < 256 := by
  have := numI_lt ((c.drop k).take 1) ((c.drop k).take 1).length
  have h2 : 2 ^ (8 * ((c.drop k).take 1).length) ≤ 2 ^ 8 := Nat.pow_le_pow_right (by decide) (by rw [List.length_take]; omega)
  exact Nat.lt_of_lt_of_le this h2
set_option maxRecDepth 100000 in
set_option maxHeartbeats 1000000 in
theorem entry_a {l : List UInt8} {a : Option Addr} {c n : Nat} (hN : Nib s) (H : Holds s w R) (h : Src s R (.slice a l.length c) 1 l.length (u8s l)) (hl : l.length = 64) (hn : n < 2 ^ 32) : Calls Tryd.prog 57 #[.int .i64 (n : Int), .slice a l.length c] w fun e w' => ∃ s', e = .returned (.tuple #[.agg ((saidE n l).getD En.zero).cells.toArray, .bool (saidE n l).isSome]) ∧ s.Le s' ∧ Holds s' w' R := by
  refine enter Tryd.func57 rfl Tryd.ntmps57 rfl ?_
  repeat' (first | refine Z H ?_ | (refine Zc ?_ ?_ <;> intro hc <;> first | (exfalso; omega) | skip) | (refine Y ?_; try change C _ _ _ _ _ _) | (refine Zs H ?_; clear H; (try clear w); intro w H) | (refine Zn H ?_; clear H; (try clear w); (first | ((fail_if_success (have := bl1)); intro bl1 w H) | ((fail_if_success (have := bl2)); intro bl2 w H) | intro _ w H)) | (refine Ze H ?_; clear H; (try clear w); intro gv w H))
  (refine X.call (Open_s hN H h.skip (by omega)) ?_; (try clear H); rintro _ w ⟨aa, cc, rfl, H⟩; refine ⟨_, rfl, ?_⟩)
  by_cases h0 : (openL l).2 = 0
  · obtain ⟨hol, _⟩ := open_len h0
    have hsd : saidE n l = if (fieldsE (openL l).1).valid = true ∧ secE n (fieldsE (openL l).1) = l then some (fieldsE (openL l).1) else none := by unfold saidE; simp only [h0, true_and]
    rw [hl] at hol
    rw [h0]
    generalize (openL l).1 = q at *
    repeat' (first | refine Z H ?_ | (refine Zc ?_ ?_ <;> intro hc <;> first | (exfalso; omega) | skip) | (refine Y ?_; try change C _ _ _ _ _ _) | (refine Zs H ?_; clear H; (try clear w); intro w H) | (refine Zn H ?_; clear H; (try clear w); (first | ((fail_if_success (have := bl1)); intro bl1 w H) | ((fail_if_success (have := bl2)); intro bl2 w H) | intro _ w H)) | (refine Ze H ?_; clear H; (try clear w); intro gv w H))
    (refine X.call (Read_o H (.own 0 _ rfl) (by omega)) ?_; (try clear H); rintro _ w ⟨s1, gR, a2, c2, rfl, hs1, hR, H⟩; refine ⟨_, rfl, ?_⟩)
    repeat' (first | refine Z H ?_ | (refine Zc ?_ ?_ <;> intro hc <;> first | (exfalso; omega) | skip) | (refine Y ?_; try change C _ _ _ _ _ _) | (refine Zs H ?_; clear H; (try clear w); intro w H) | (refine Zn H ?_; clear H; (try clear w); (first | ((fail_if_success (have := bl1)); intro bl1 w H) | ((fail_if_success (have := bl2)); intro bl2 w H) | intro _ w H)) | (refine Ze H ?_; clear H; (try clear w); intro gv w H))
    (refine X.call (Num_o (k := 0) (n := 1) H hR (by decide) (by decide) (by omega)) ?_; (try clear H); rintro _ w ⟨rfl, H⟩; refine ⟨_, rfl, ?_⟩)
    repeat' (first | refine Z H ?_ | (refine Zc ?_ ?_ <;> intro hc <;> first | (exfalso; omega) | skip) | (refine Y ?_; try change C _ _ _ _ _ _) | (refine Zs H ?_; clear H; (try clear w); intro w H) | (refine Zn H ?_; clear H; (try clear w); (first | ((fail_if_success (have := bl1)); intro bl1 w H) | ((fail_if_success (have := bl2)); intro bl2 w H) | intro _ w H)) | (refine Ze H ?_; clear H; (try clear w); intro gv w H))
    (refine X.call (Num_o (k := 0 + 1) (n := 4) H hR (by decide) (by decide) (by omega)) ?_; (try clear H); rintro _ w ⟨rfl, H⟩; refine ⟨_, rfl, ?_⟩)
    repeat' (first | refine Z H ?_ | (refine Zc ?_ ?_ <;> intro hc <;> first | (exfalso; omega) | skip) | (refine Y ?_; try change C _ _ _ _ _ _) | (refine Zs H ?_; clear H; (try clear w); intro w H) | (refine Zn H ?_; clear H; (try clear w); (first | ((fail_if_success (have := bl1)); intro bl1 w H) | ((fail_if_success (have := bl2)); intro bl2 w H) | intro _ w H)) | (refine Ze H ?_; clear H; (try clear w); intro gv w H))
    have hbl2 := bl2
    clear hbl2
    first | (have hT : Holds _ _ (var gR _ _ :: _) := H; clear hT) | (replace H := H.up 1 rfl; (try simp only [List.set_cons_zero, List.set_cons_succ, List.eraseIdx_cons_zero, List.eraseIdx_cons_succ] at H); have hT : Holds _ _ (var gR _ _ :: _) := H; clear hT) | (replace H := H.up 2 rfl; (try simp only [List.set_cons_zero, List.set_cons_succ, List.eraseIdx_cons_zero, List.eraseIdx_cons_succ] at H); have hT : Holds _ _ (var gR _ _ :: _) := H; clear hT) | (replace H := H.up 3 rfl; (try simp only [List.set_cons_zero, List.set_cons_succ, List.eraseIdx_cons_zero, List.eraseIdx_cons_succ] at H); have hT : Holds _ _ (var gR _ _ :: _) := H; clear hT) | (replace H := H.up 4 rfl; (try simp only [List.set_cons_zero, List.set_cons_succ, List.eraseIdx_cons_zero, List.eraseIdx_cons_succ] at H); have hT : Holds _ _ (var gR _ _ :: _) := H; clear hT) | (replace H := H.up 5 rfl; (try simp only [List.set_cons_zero, List.set_cons_succ, List.eraseIdx_cons_zero, List.eraseIdx_cons_succ] at H); have hT : Holds _ _ (var gR _ _ :: _) := H; clear hT) | (replace H := H.up 6 rfl; (try simp only [List.set_cons_zero, List.set_cons_succ, List.eraseIdx_cons_zero, List.eraseIdx_cons_succ] at H); have hT : Holds _ _ (var gR _ _ :: _) := H; clear hT)
    (refine X.call (Num_o (k := 0 + 1 + 4) (n := 1) H hR (by decide) (by decide) (by omega)) ?_; (try clear H); rintro _ w ⟨rfl, H⟩; refine ⟨_, rfl, ?_⟩)
    have wr : ∀ k, IntKind.i64.wrap ((numN ((q.drop k).take 1) : Nat) : Int) = (numN ((q.drop k).take 1) : Int) := fun k => IntWalk.i64_in _ (by have := num1_lt q k; omega)
    repeat' (first | (refine K.convI Tryd.underlying145 rfl rfl rfl ?_; rw [wr]) | refine Z H ?_ | (refine Zc ?_ ?_ <;> intro hc <;> first | (exfalso; omega) | skip) | (refine Y ?_; try change C _ _ _ _ _ _) | (refine Zs H ?_; clear H; (try clear w); intro w H) | (refine Zn H ?_; clear H; (try clear w); (first | ((fail_if_success (have := bl1)); intro bl1 w H) | ((fail_if_success (have := bl2)); intro bl2 w H) | intro _ w H)) | (refine Ze H ?_; clear H; (try clear w); intro gv w H))
    (refine X.call (Num_o (k := 0 + 1 + 4 + 1) (n := 1) H hR (by decide) (by decide) (by omega)) ?_; (try clear H); rintro _ w ⟨rfl, H⟩; refine ⟨_, rfl, ?_⟩)
    repeat' (first | (refine K.convI Tryd.underlying145 rfl rfl rfl ?_; rw [wr]) | refine Z H ?_ | (refine Zc ?_ ?_ <;> intro hc <;> first | (exfalso; omega) | skip) | (refine Y ?_; try change C _ _ _ _ _ _) | (refine Zs H ?_; clear H; (try clear w); intro w H) | (refine Zn H ?_; clear H; (try clear w); (first | ((fail_if_success (have := bl1)); intro bl1 w H) | ((fail_if_success (have := bl2)); intro bl2 w H) | intro _ w H)) | (refine Ze H ?_; clear H; (try clear w); intro gv w H))
    (refine X.call (Num_o (k := 0 + 1 + 4 + 1 + 1) (n := 4) H hR (by decide) (by decide) (by omega)) ?_; (try clear H); rintro _ w ⟨rfl, H⟩; refine ⟨_, rfl, ?_⟩)
    repeat' (first | (refine B.conv Tryd.underlying145 ?_) | refine Z H ?_ | (refine Zc ?_ ?_ <;> intro hc <;> first | (exfalso; omega) | skip) | (refine Y ?_; try change C _ _ _ _ _ _) | (refine Zs H ?_; clear H; (try clear w); intro w H) | (refine Zn H ?_; clear H; (try clear w); (first | ((fail_if_success (have := bl1)); intro bl1 w H) | ((fail_if_success (have := bl2)); intro bl2 w H) | intro _ w H)) | (refine Ze H ?_; clear H; (try clear w); intro gv w H))
    (refine X.call (Num_o (k := 0 + 1 + 4 + 1 + 1 + 4) (n := 1) H hR (by decide) (by decide) (by omega)) ?_; (try clear H); rintro _ w ⟨rfl, H⟩; refine ⟨_, rfl, ?_⟩)
    repeat' (first | (refine K.convI Tryd.underlying145 rfl rfl rfl ?_; rw [wr]) | refine Z H ?_ | (refine Zc ?_ ?_ <;> intro hc <;> first | (exfalso; omega) | skip) | (refine Y ?_; try change C _ _ _ _ _ _) | (refine Zs H ?_; clear H; (try clear w); intro w H) | (refine Zn H ?_; clear H; (try clear w); (first | ((fail_if_success (have := bl1)); intro bl1 w H) | ((fail_if_success (have := bl2)); intro bl2 w H) | intro _ w H)) | (refine Ze H ?_; clear H; (try clear w); intro gv w H))
    have hfe : fieldsE q = ⟨(numN ((q.drop (0 + 1 + 4)).take 1) : Int), (numN ((q.drop (0 + 1 + 4 + 1)).take 1) : Int), numN ((q.drop (0 + 1 + 4 + 1 + 1)).take 4) % 2 ^ 32, (numN ((q.drop (0 + 1 + 4 + 1 + 1 + 4)).take 1) : Int)⟩ := rfl
    rw [hfe] at hsd
    have b1 := num1_lt q (0 + 1 + 4)
    have b2 := num1_lt q (0 + 1 + 4 + 1)
    have b3 := num1_lt q (0 + 1 + 4 + 1 + 1 + 4)
    have b4 : numN ((q.drop (0 + 1 + 4 + 1 + 1)).take 4) % 2 ^ 32 < 2 ^ 32 := Nat.mod_lt _ (by decide)
    clear hfe wr
    generalize numN ((q.drop (0 + 1 + 4)).take 1) = ek at *
    generalize numN ((q.drop (0 + 1 + 4 + 1)).take 1) = ep at *
    generalize numN ((q.drop (0 + 1 + 4 + 1 + 1 + 4)).take 1) = ec at *
    generalize numN ((q.drop (0 + 1 + 4 + 1 + 1)).take 4) % 2 ^ 32 = ew at *
    have hse : secE n ⟨(ek : Int), (ep : Int), ew, (ec : Int)⟩ = secN n ek ep ew ec := by simp [secE]
    rw [hse] at hsd
    (refine X.call (valid_a (x := ⟨(ek : Int), (ep : Int), ew, (ec : Int)⟩) H) ?_; (try clear H); rintro _ w ⟨rfl, H⟩; refine ⟨_, rfl, ?_⟩)
    cases hva : En.valid ⟨(ek : Int), (ep : Int), ew, (ec : Int)⟩ with
    | false =>
      rw [hva] at hsd
      simp only [Bool.false_eq_true, false_and, if_false] at hsd
      rw [hsd]
      repeat' (first | (refine K.build [] (.agg #[.int .i64 0, .int .i64 0, .int .u32 0, .int .i64 0]) build_entry0 rfl rfl rfl ?_) | refine Z H ?_ | (refine Zc ?_ ?_ <;> intro hc <;> first | (exfalso; omega) | skip) | (refine Y ?_; try change C _ _ _ _ _ _) | (refine Zs H ?_; clear H; (try clear w); intro w H) | (refine Zn H ?_; clear H; (try clear w); (first | ((fail_if_success (have := bl1)); intro bl1 w H) | ((fail_if_success (have := bl2)); intro bl2 w H) | intro _ w H)) | (refine Ze H ?_; clear H; (try clear w); intro gv w H))
      first | (have hT : Holds _ _ (var bl1 _ _ :: _) := H; clear hT) | (replace H := H.up 1 rfl; (try simp only [List.set_cons_zero, List.set_cons_succ, List.eraseIdx_cons_zero, List.eraseIdx_cons_succ] at H); have hT : Holds _ _ (var bl1 _ _ :: _) := H; clear hT) | (replace H := H.up 2 rfl; (try simp only [List.set_cons_zero, List.set_cons_succ, List.eraseIdx_cons_zero, List.eraseIdx_cons_succ] at H); have hT : Holds _ _ (var bl1 _ _ :: _) := H; clear hT) | (replace H := H.up 3 rfl; (try simp only [List.set_cons_zero, List.set_cons_succ, List.eraseIdx_cons_zero, List.eraseIdx_cons_succ] at H); have hT : Holds _ _ (var bl1 _ _ :: _) := H; clear hT) | (replace H := H.up 4 rfl; (try simp only [List.set_cons_zero, List.set_cons_succ, List.eraseIdx_cons_zero, List.eraseIdx_cons_succ] at H); have hT : Holds _ _ (var bl1 _ _ :: _) := H; clear hT) | (replace H := H.up 5 rfl; (try simp only [List.set_cons_zero, List.set_cons_succ, List.eraseIdx_cons_zero, List.eraseIdx_cons_succ] at H); have hT : Holds _ _ (var bl1 _ _ :: _) := H; clear hT) | (replace H := H.up 6 rfl; (try simp only [List.set_cons_zero, List.set_cons_succ, List.eraseIdx_cons_zero, List.eraseIdx_cons_succ] at H); have hT : Holds _ _ (var bl1 _ _ :: _) := H; clear hT)
      exact ⟨_, resCT 0 H rfl rfl rfl rfl, s1, rfl, hs1, H.arr⟩
    | true =>
      rw [hva] at hsd
      simp only [true_and] at hsd
      repeat' (first | refine Z H ?_ | (refine Zc ?_ ?_ <;> intro hc <;> first | (exfalso; omega) | skip) | (refine Y ?_; try change C _ _ _ _ _ _) | (refine Zs H ?_; clear H; (try clear w); intro w H) | (refine Zn H ?_; clear H; (try clear w); (first | ((fail_if_success (have := bl1)); intro bl1 w H) | ((fail_if_success (have := bl2)); intro bl2 w H) | intro _ w H)) | (refine Ze H ?_; clear H; (try clear w); intro gv w H))
      (refine X.call (sector_a (n := n) (k := ek) (p := ep) (v := ew) (c := ec) (hN.mono hs1) H hn (by omega) (by omega) b4 (by omega)) ?_; (try clear H); rintro _ w ⟨a5, c5, rfl, H⟩; refine ⟨_, rfl, ?_⟩)
      repeat' (first | refine Z H ?_ | (refine Zc ?_ ?_ <;> intro hc <;> first | (exfalso; omega) | skip) | (refine Y ?_; try change C _ _ _ _ _ _) | (refine Zs H ?_; clear H; (try clear w); intro w H) | (refine Zn H ?_; clear H; (try clear w); (first | ((fail_if_success (have := bl1)); intro bl1 w H) | ((fail_if_success (have := bl2)); intro bl2 w H) | intro _ w H)) | (refine Ze H ?_; clear H; (try clear w); intro gv w H))
      (refine X.call (Equal_s H (.own 0 _ rfl) (h.mono hs1).skip.skip.skip.skip.skip) ?_; (try clear H); rintro _ w ⟨rfl, H⟩; refine ⟨_, rfl, ?_⟩)
      by_cases heq : secN n ek ep ew ec = l
      · rw [if_pos heq] at hsd
        rw [hsd, decide_eq_true heq]
        repeat' (first | refine Z H ?_ | (refine Zc ?_ ?_ <;> intro hc <;> first | (exfalso; omega) | skip) | (refine Y ?_; try change C _ _ _ _ _ _) | (refine Zs H ?_; clear H; (try clear w); intro w H) | (refine Zn H ?_; clear H; (try clear w); (first | ((fail_if_success (have := bl1)); intro bl1 w H) | ((fail_if_success (have := bl2)); intro bl2 w H) | intro _ w H)) | (refine Ze H ?_; clear H; (try clear w); intro gv w H))
        first | (have hT : Holds _ _ (var bl1 _ _ :: _) := H; clear hT) | (replace H := H.up 1 rfl; (try simp only [List.set_cons_zero, List.set_cons_succ, List.eraseIdx_cons_zero, List.eraseIdx_cons_succ] at H); have hT : Holds _ _ (var bl1 _ _ :: _) := H; clear hT) | (replace H := H.up 2 rfl; (try simp only [List.set_cons_zero, List.set_cons_succ, List.eraseIdx_cons_zero, List.eraseIdx_cons_succ] at H); have hT : Holds _ _ (var bl1 _ _ :: _) := H; clear hT) | (replace H := H.up 3 rfl; (try simp only [List.set_cons_zero, List.set_cons_succ, List.eraseIdx_cons_zero, List.eraseIdx_cons_succ] at H); have hT : Holds _ _ (var bl1 _ _ :: _) := H; clear hT) | (replace H := H.up 4 rfl; (try simp only [List.set_cons_zero, List.set_cons_succ, List.eraseIdx_cons_zero, List.eraseIdx_cons_succ] at H); have hT : Holds _ _ (var bl1 _ _ :: _) := H; clear hT) | (replace H := H.up 5 rfl; (try simp only [List.set_cons_zero, List.set_cons_succ, List.eraseIdx_cons_zero, List.eraseIdx_cons_succ] at H); have hT : Holds _ _ (var bl1 _ _ :: _) := H; clear hT) | (replace H := H.up 6 rfl; (try simp only [List.set_cons_zero, List.set_cons_succ, List.eraseIdx_cons_zero, List.eraseIdx_cons_succ] at H); have hT : Holds _ _ (var bl1 _ _ :: _) := H; clear hT)
        exact ⟨_, resCT 0 H rfl rfl rfl rfl, s1, rfl, hs1, H.arr⟩
      · rw [if_neg heq] at hsd
        rw [hsd, decide_eq_false heq]
        repeat' (first | (refine K.build [] (.agg #[.int .i64 0, .int .i64 0, .int .u32 0, .int .i64 0]) build_entry0 rfl rfl rfl ?_) | refine Z H ?_ | (refine Zc ?_ ?_ <;> intro hc <;> first | (exfalso; omega) | skip) | (refine Y ?_; try change C _ _ _ _ _ _) | (refine Zs H ?_; clear H; (try clear w); intro w H) | (refine Zn H ?_; clear H; (try clear w); (first | ((fail_if_success (have := bl1)); intro bl1 w H) | ((fail_if_success (have := bl2)); intro bl2 w H) | intro _ w H)) | (refine Ze H ?_; clear H; (try clear w); intro gv w H))
        first | (have hT : Holds _ _ (var bl1 _ _ :: _) := H; clear hT) | (replace H := H.up 1 rfl; (try simp only [List.set_cons_zero, List.set_cons_succ, List.eraseIdx_cons_zero, List.eraseIdx_cons_succ] at H); have hT : Holds _ _ (var bl1 _ _ :: _) := H; clear hT) | (replace H := H.up 2 rfl; (try simp only [List.set_cons_zero, List.set_cons_succ, List.eraseIdx_cons_zero, List.eraseIdx_cons_succ] at H); have hT : Holds _ _ (var bl1 _ _ :: _) := H; clear hT) | (replace H := H.up 3 rfl; (try simp only [List.set_cons_zero, List.set_cons_succ, List.eraseIdx_cons_zero, List.eraseIdx_cons_succ] at H); have hT : Holds _ _ (var bl1 _ _ :: _) := H; clear hT) | (replace H := H.up 4 rfl; (try simp only [List.set_cons_zero, List.set_cons_succ, List.eraseIdx_cons_zero, List.eraseIdx_cons_succ] at H); have hT : Holds _ _ (var bl1 _ _ :: _) := H; clear hT) | (replace H := H.up 5 rfl; (try simp only [List.set_cons_zero, List.set_cons_succ, List.eraseIdx_cons_zero, List.eraseIdx_cons_succ] at H); have hT : Holds _ _ (var bl1 _ _ :: _) := H; clear hT) | (replace H := H.up 6 rfl; (try simp only [List.set_cons_zero, List.set_cons_succ, List.eraseIdx_cons_zero, List.eraseIdx_cons_succ] at H); have hT : Holds _ _ (var bl1 _ _ :: _) := H; clear hT)
        exact ⟨_, resCT 0 H rfl rfl rfl rfl, s1, rfl, hs1, H.arr⟩
  · have hsd : saidE n l = none := by unfold saidE; simp only [h0, false_and, if_false]
    rw [hsd]
    repeat' (first | (refine K.build [] (.agg #[.int .i64 0, .int .i64 0, .int .u32 0, .int .i64 0]) build_entry0 rfl rfl rfl ?_) | refine Z H ?_ | (refine Zc ?_ ?_ <;> intro hc <;> first | (exfalso; omega) | skip) | (refine Y ?_; try change C _ _ _ _ _ _) | (refine Zs H ?_; clear H; (try clear w); intro w H) | (refine Zn H ?_; clear H; (try clear w); (first | ((fail_if_success (have := bl1)); intro bl1 w H) | ((fail_if_success (have := bl2)); intro bl2 w H) | intro _ w H)) | (refine Ze H ?_; clear H; (try clear w); intro gv w H))
    first | (have hT : Holds _ _ (var bl1 _ _ :: _) := H; clear hT) | (replace H := H.up 1 rfl; (try simp only [List.set_cons_zero, List.set_cons_succ, List.eraseIdx_cons_zero, List.eraseIdx_cons_succ] at H); have hT : Holds _ _ (var bl1 _ _ :: _) := H; clear hT) | (replace H := H.up 2 rfl; (try simp only [List.set_cons_zero, List.set_cons_succ, List.eraseIdx_cons_zero, List.eraseIdx_cons_succ] at H); have hT : Holds _ _ (var bl1 _ _ :: _) := H; clear hT) | (replace H := H.up 3 rfl; (try simp only [List.set_cons_zero, List.set_cons_succ, List.eraseIdx_cons_zero, List.eraseIdx_cons_succ] at H); have hT : Holds _ _ (var bl1 _ _ :: _) := H; clear hT) | (replace H := H.up 4 rfl; (try simp only [List.set_cons_zero, List.set_cons_succ, List.eraseIdx_cons_zero, List.eraseIdx_cons_succ] at H); have hT : Holds _ _ (var bl1 _ _ :: _) := H; clear hT) | (replace H := H.up 5 rfl; (try simp only [List.set_cons_zero, List.set_cons_succ, List.eraseIdx_cons_zero, List.eraseIdx_cons_succ] at H); have hT : Holds _ _ (var bl1 _ _ :: _) := H; clear hT) | (replace H := H.up 6 rfl; (try simp only [List.set_cons_zero, List.set_cons_succ, List.eraseIdx_cons_zero, List.eraseIdx_cons_succ] at H); have hT : Holds _ _ (var bl1 _ _ :: _) := H; clear hT)
    exact ⟨_, resCT 0 H rfl rfl rfl rfl, s, rfl, Ro.Le.refl _, H.arr⟩
end
end Go.Proofs.YtbknpbihgfphaaaDoor
