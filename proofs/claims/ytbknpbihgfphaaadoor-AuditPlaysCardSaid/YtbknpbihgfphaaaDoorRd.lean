/- The document's answer for layer 20: Sector, Said, Open, Add, walked. -/
import Derived.Test.YtbknpbihgfphaaaDoorRc
import Derived.Test.YtbknpbihgfphaaaDoorK8f
import Derived.Test.YtbknpbihgfphaaaDoorK8
import Derived.Test.YtbknpbihgfphaaaDoorAy
import Derived.Test.YtbknpbihgfphaaaDoorBb
set_option linter.unusedSimpArgs false
set_option linter.unusedVariables false
namespace Go.Proofs.YtbknpbihgfphaaaDoor
open Go Go.RowKit Go.Own

theorem build_two8 (a b : Int) (w : World) : (Instr.buildSlice 37 2 [(0, .int .u8 a), (1, .int .u8 b)].toArray).run Tryd.prog w = .ok (.slice (some ⟨w.heap.size, 0, none⟩) 2 2) (w.alloc (.cells [.int .u8 a, .int .u8 b].toArray 5)) := by kernel_rfl
theorem u8_of {k : Nat} (h : k ≤ 255) : Value.int .u8 ((k : Nat) : Int) = u8 (UInt8.ofNat k) := by
  unfold u8; simp; omega
theorem put1 {k : Nat} (h : k ≤ 255) : putN k 1 = [UInt8.ofNat k] := by
  simp [putN, byteAt]
def secFS (b n k p v c : Nat) : List FS := [
/-  0 -/ FS.v 6 [] (.int .i64 n),
/-  1 -/ FS.v 7 [0] (.int .u64 n),
/-  2 -/ FS.b 8 [1] (putN n 4),
/-  3 -/ FS.v 9 [2] (.string (bst (putN n 4))),
/-  4 -/ FS.v 10 [3] (.string (bst ([65] ++ putN n 4))),
/-  5 -/ FS.v 11 [] (.pointer (some ⟨b, 0, none⟩)),
/-  6 -/ FS.v 12 [5] (.int .i64 k),
/-  7 -/ FS.v 13 [6] (.int .u8 k),
/-  8 -/ FS.v 14 [] (.pointer (some ⟨b, 1, none⟩)),
/-  9 -/ FS.v 15 [8] (.int .i64 p),
/- 10 -/ FS.v 16 [9] (.int .u8 p),
/- 11 -/ FS.b 17 [7, 10] (putN k 1 ++ putN p 1),
/- 12 -/ FS.v 18 [11] (.string (bst (putN k 1 ++ putN p 1))),
/- 13 -/ FS.v 19 [4, 12] (.string (bst ([65] ++ putN n 4 ++ (putN k 1 ++ putN p 1)))),
/- 14 -/ FS.v 20 [] (.pointer (some ⟨b, 2, none⟩)),
/- 15 -/ FS.v 21 [14] (.int .u32 v),
/- 16 -/ FS.v 22 [15] (.int .u64 v),
/- 17 -/ FS.b 23 [16] (putN v 4),
/- 18 -/ FS.v 24 [17] (.string (bst (putN v 4))),
/- 19 -/ FS.v 25 [13, 18] (.string (bst ([65] ++ putN n 4 ++ (putN k 1 ++ putN p 1) ++ putN v 4))),
/- 20 -/ FS.v 26 [] (.pointer (some ⟨b, 3, none⟩)),
/- 21 -/ FS.v 27 [20] (.int .i64 c),
/- 22 -/ FS.v 28 [21] (.int .u8 c),
/- 23 -/ FS.b 29 [22] (putN c 1),
/- 24 -/ FS.v 30 [23] (.string (bst (putN c 1))),
/- 25 -/ FS.v 31 [19, 24] (.string (bst (headN n k p v c))),
/- 26 -/ FS.v 5 [25] (.string (bst (headN n k p v c)))]
section
variable {s : Ro} {w : World} {R : List Asn}
set_option maxRecDepth 100000 in
set_option maxHeartbeats 1000000 in
theorem Sector20_s {n k p v c : Nat} (H : Holds s w R) (hn : n < 2 ^ 32) (hk : k ≤ 255) (hp : p ≤ 255) (hv : v < 2 ^ 32) (hc : c ≤ 255) : Calls Tryd.prog 67 #[.int .i64 (n : Int), .agg #[.int .i64 (k : Int), .int .i64 (p : Int), .int .u32 (v : Int), .int .i64 (c : Int)]] w fun e w' => ∃ s', e = .returned (.string (bst (secN n k p v c))) ∧ s.Le s' ∧ Holds s' w' R := by
  have wn : n % 2 ^ 64 = n := Nat.mod_eq_of_lt (by omega)
  have wk : k % 2 ^ 8 = k := Nat.mod_eq_of_lt (by omega)
  have wp : p % 2 ^ 8 = p := Nat.mod_eq_of_lt (by omega)
  have wv : v % 2 ^ 64 = v := Nat.mod_eq_of_lt (by omega)
  have wc : c % 2 ^ 8 = c := Nat.mod_eq_of_lt (by omega)
  refine enter Tryd.func67 rfl Tryd.ntmps67 rfl ?_
  repeat' (first | refine Z H ?_ | (refine Zc ?_ ?_ <;> intro hc <;> first | (exfalso; omega) | skip) | (refine Y ?_; try change C _ _ _ _ _ _) | (refine Zs H ?_; clear H; (try clear w); intro w H) | (refine Zn H ?_; clear H; (try clear w); (first | ((fail_if_success (have := bl1)); intro bl1 w H) | intro _ w H)) | (refine Ze H ?_; clear H; (try clear w); intro gv w H))
  refine C.flow (secFS bl1 n k p v c) [26] (List.range 27) H (by kernel_rfl) rfl rfl ?_ ?_
  · repeat' (first | exact StepsF.nil | refine StepsF.cons ?_ ?_)
    · intro s1 h w E hs1; (conv => whnf); intro H; replace H : Holds s1 w (var bl1 34 [.int .i64 (k : Int), .int .i64 (p : Int), .int .u32 (v : Int), .int .i64 (c : Int)] :: (R ++ E)) := H
      repeat' (first | refine Z H ?_ | (refine Zc ?_ ?_ <;> intro hc <;> first | (exfalso; omega) | skip) | (refine Y ?_; try change C _ _ _ _ _ _) | (refine Zs H ?_; clear H; (try clear w); intro w H) | (refine Zn H ?_; clear H; (try clear w); (first | ((fail_if_success (have := bl1)); intro bl1 w H) | intro _ w H)) | (refine Ze H ?_; clear H; (try clear w); intro gv w H))
      exact ⟨rfl, by (repeat (first | exact Agr.refl | exact Agr.hav | refine Agr.upd rfl ?_ | refine Agr.in rfl ?_)), s1, Ro.Le.refl _, rfl, H⟩
    · intro s1 h w E hs1; (conv => whnf); rintro _ rfl; (conv => whnf); intro H; replace H : Holds s1 w (var bl1 34 [.int .i64 (k : Int), .int .i64 (p : Int), .int .u32 (v : Int), .int .i64 (c : Int)] :: (R ++ E)) := H
      refine B.conv Tryd.underlying3 ?_
      rw [wn]
      repeat' (first | refine Z H ?_ | (refine Zc ?_ ?_ <;> intro hc <;> first | (exfalso; omega) | skip) | (refine Y ?_; try change C _ _ _ _ _ _) | (refine Zs H ?_; clear H; (try clear w); intro w H) | (refine Zn H ?_; clear H; (try clear w); (first | ((fail_if_success (have := bl1)); intro bl1 w H) | intro _ w H)) | (refine Ze H ?_; clear H; (try clear w); intro gv w H))
      exact ⟨rfl, by (repeat (first | exact Agr.refl | exact Agr.hav | refine Agr.upd rfl ?_ | refine Agr.in rfl ?_)), s1, Ro.Le.refl _, rfl, H⟩
    · intro s1 h w E hs1; (conv => whnf); rintro _ rfl; (conv => whnf); intro H; replace H : Holds s1 w (var bl1 34 [.int .i64 (k : Int), .int .i64 (p : Int), .int .u32 (v : Int), .int .i64 (c : Int)] :: (R ++ E)) := H
      (refine X.call (Put2_s (n := n) (size := 4) H (by omega) (by decide)) ?_; (try clear H); rintro _ w ⟨a1, c1, rfl, H⟩; refine ⟨_, rfl, ?_⟩)
      obtain ⟨s2, hs2, H, hS⟩ := H.fixRow
      repeat' (first | refine Z H ?_ | (refine Zc ?_ ?_ <;> intro hc <;> first | (exfalso; omega) | skip) | (refine Y ?_; try change C _ _ _ _ _ _) | (refine Zs H ?_; clear H; (try clear w); intro w H) | (refine Zn H ?_; clear H; (try clear w); (first | ((fail_if_success (have := bl1)); intro bl1 w H) | intro _ w H)) | (refine Ze H ?_; clear H; (try clear w); intro gv w H))
      exact ⟨rfl, by (repeat (first | exact Agr.refl | exact Agr.hav | refine Agr.upd rfl ?_ | refine Agr.in rfl ?_)), s2, hs2, ⟨a1, c1, by rw [putN_len]; rfl, hS⟩, H⟩
    · intro s1 h w E hs1; (conv => whnf); rintro _ ⟨a1, c1, rfl, hS⟩; (conv => whnf); intro H; replace H : Holds s1 w (var bl1 34 [.int .i64 (k : Int), .int .i64 (p : Int), .int .u32 (v : Int), .int .i64 (c : Int)] :: (R ++ E)) := H
      repeat' (first | refine Z H ?_ | (refine Zc ?_ ?_ <;> intro hc <;> first | (exfalso; omega) | skip) | (refine Y ?_; try change C _ _ _ _ _ _) | (refine Zs H ?_; clear H; (try clear w); intro w H) | (refine Zn H ?_; clear H; (try clear w); (first | ((fail_if_success (have := bl1)); intro bl1 w H) | intro _ w H)) | (refine Ze H ?_; clear H; (try clear w); intro gv w H))
      exact ⟨rfl, by (repeat (first | exact Agr.refl | exact Agr.hav | refine Agr.upd rfl ?_ | refine Agr.in rfl ?_)), s1, Ro.Le.refl _, rfl, H⟩
    · intro s1 h w E hs1; (conv => whnf); rintro _ rfl; (conv => whnf); intro H; replace H : Holds s1 w (var bl1 34 [.int .i64 (k : Int), .int .i64 (p : Int), .int .u32 (v : Int), .int .i64 (c : Int)] :: (R ++ E)) := H
      refine J.cat (a := bst [65]) ?_ (hl := by rw [bst_size, bst_size, putN_len]; decide)
      rw [bst_app]
      repeat' (first | refine Z H ?_ | (refine Zc ?_ ?_ <;> intro hc <;> first | (exfalso; omega) | skip) | (refine Y ?_; try change C _ _ _ _ _ _) | (refine Zs H ?_; clear H; (try clear w); intro w H) | (refine Zn H ?_; clear H; (try clear w); (first | ((fail_if_success (have := bl1)); intro bl1 w H) | intro _ w H)) | (refine Ze H ?_; clear H; (try clear w); intro gv w H))
      exact ⟨rfl, by (repeat (first | exact Agr.refl | exact Agr.hav | refine Agr.upd rfl ?_ | refine Agr.in rfl ?_)), s1, Ro.Le.refl _, rfl, H⟩
    · intro s1 h w E hs1; (conv => whnf); intro H; replace H : Holds s1 w (var bl1 34 [.int .i64 (k : Int), .int .i64 (p : Int), .int .u32 (v : Int), .int .i64 (c : Int)] :: (R ++ E)) := H
      repeat' (first | refine Z H ?_ | (refine Zc ?_ ?_ <;> intro hc <;> first | (exfalso; omega) | skip) | (refine Y ?_; try change C _ _ _ _ _ _) | (refine Zs H ?_; clear H; (try clear w); intro w H) | (refine Zn H ?_; clear H; (try clear w); (first | ((fail_if_success (have := bl1)); intro bl1 w H) | intro _ w H)) | (refine Ze H ?_; clear H; (try clear w); intro gv w H))
      exact ⟨rfl, by (repeat (first | exact Agr.refl | exact Agr.hav | refine Agr.upd rfl ?_ | refine Agr.in rfl ?_)), s1, Ro.Le.refl _, rfl, H⟩
    · intro s1 h w E hs1; (conv => whnf); rintro _ rfl; (conv => whnf); intro H; replace H : Holds s1 w (var bl1 34 [.int .i64 (k : Int), .int .i64 (p : Int), .int .u32 (v : Int), .int .i64 (c : Int)] :: (R ++ E)) := H
      repeat' (first | refine Z H ?_ | (refine Zc ?_ ?_ <;> intro hc <;> first | (exfalso; omega) | skip) | (refine Y ?_; try change C _ _ _ _ _ _) | (refine Zs H ?_; clear H; (try clear w); intro w H) | (refine Zn H ?_; clear H; (try clear w); (first | ((fail_if_success (have := bl1)); intro bl1 w H) | intro _ w H)) | (refine Ze H ?_; clear H; (try clear w); intro gv w H))
      exact ⟨rfl, by (repeat (first | exact Agr.refl | exact Agr.hav | refine Agr.upd rfl ?_ | refine Agr.in rfl ?_)), s1, Ro.Le.refl _, rfl, H⟩
    · intro s1 h w E hs1; (conv => whnf); rintro _ rfl; (conv => whnf); intro H; replace H : Holds s1 w (var bl1 34 [.int .i64 (k : Int), .int .i64 (p : Int), .int .u32 (v : Int), .int .i64 (c : Int)] :: (R ++ E)) := H
      refine B.conv Tryd.underlying3 ?_
      rw [wk]
      repeat' (first | refine Z H ?_ | (refine Zc ?_ ?_ <;> intro hc <;> first | (exfalso; omega) | skip) | (refine Y ?_; try change C _ _ _ _ _ _) | (refine Zs H ?_; clear H; (try clear w); intro w H) | (refine Zn H ?_; clear H; (try clear w); (first | ((fail_if_success (have := bl1)); intro bl1 w H) | intro _ w H)) | (refine Ze H ?_; clear H; (try clear w); intro gv w H))
      exact ⟨rfl, by (repeat (first | exact Agr.refl | exact Agr.hav | refine Agr.upd rfl ?_ | refine Agr.in rfl ?_)), s1, Ro.Le.refl _, rfl, H⟩
    · intro s1 h w E hs1; (conv => whnf); intro H; replace H : Holds s1 w (var bl1 34 [.int .i64 (k : Int), .int .i64 (p : Int), .int .u32 (v : Int), .int .i64 (c : Int)] :: (R ++ E)) := H
      repeat' (first | refine Z H ?_ | (refine Zc ?_ ?_ <;> intro hc <;> first | (exfalso; omega) | skip) | (refine Y ?_; try change C _ _ _ _ _ _) | (refine Zs H ?_; clear H; (try clear w); intro w H) | (refine Zn H ?_; clear H; (try clear w); (first | ((fail_if_success (have := bl1)); intro bl1 w H) | intro _ w H)) | (refine Ze H ?_; clear H; (try clear w); intro gv w H))
      exact ⟨rfl, by (repeat (first | exact Agr.refl | exact Agr.hav | refine Agr.upd rfl ?_ | refine Agr.in rfl ?_)), s1, Ro.Le.refl _, rfl, H⟩
    · intro s1 h w E hs1; (conv => whnf); rintro _ rfl; (conv => whnf); intro H; replace H : Holds s1 w (var bl1 34 [.int .i64 (k : Int), .int .i64 (p : Int), .int .u32 (v : Int), .int .i64 (c : Int)] :: (R ++ E)) := H
      repeat' (first | refine Z H ?_ | (refine Zc ?_ ?_ <;> intro hc <;> first | (exfalso; omega) | skip) | (refine Y ?_; try change C _ _ _ _ _ _) | (refine Zs H ?_; clear H; (try clear w); intro w H) | (refine Zn H ?_; clear H; (try clear w); (first | ((fail_if_success (have := bl1)); intro bl1 w H) | intro _ w H)) | (refine Ze H ?_; clear H; (try clear w); intro gv w H))
      exact ⟨rfl, by (repeat (first | exact Agr.refl | exact Agr.hav | refine Agr.upd rfl ?_ | refine Agr.in rfl ?_)), s1, Ro.Le.refl _, rfl, H⟩
    · intro s1 h w E hs1; (conv => whnf); rintro _ rfl; (conv => whnf); intro H; replace H : Holds s1 w (var bl1 34 [.int .i64 (k : Int), .int .i64 (p : Int), .int .u32 (v : Int), .int .i64 (c : Int)] :: (R ++ E)) := H
      refine B.conv Tryd.underlying3 ?_
      rw [wp]
      repeat' (first | refine Z H ?_ | (refine Zc ?_ ?_ <;> intro hc <;> first | (exfalso; omega) | skip) | (refine Y ?_; try change C _ _ _ _ _ _) | (refine Zs H ?_; clear H; (try clear w); intro w H) | (refine Zn H ?_; clear H; (try clear w); (first | ((fail_if_success (have := bl1)); intro bl1 w H) | intro _ w H)) | (refine Ze H ?_; clear H; (try clear w); intro gv w H))
      exact ⟨rfl, by (repeat (first | exact Agr.refl | exact Agr.hav | refine Agr.upd rfl ?_ | refine Agr.in rfl ?_)), s1, Ro.Le.refl _, rfl, H⟩
    · intro s1 h w E hs1; (conv => whnf); rintro _ rfl; (conv => whnf); rintro _ rfl; (conv => whnf); intro H; replace H : Holds s1 w (var bl1 34 [.int .i64 (k : Int), .int .i64 (p : Int), .int .u32 (v : Int), .int .i64 (c : Int)] :: (R ++ E)) := H
      refine K.lit [(0, .int .u8 (k : Int)), (1, .int .u8 (p : Int))] 5 1 [.int .u8 (k : Int), .int .u8 (p : Int)] H (build_two8 _ _) rfl rfl rfl rfl (by decide) ?_
      clear H
      intro g5 w H
      obtain ⟨s2, hs2, H, hS⟩ := H.fixRow
      have e5 : ([.int .u8 (k : Int), .int .u8 (p : Int)] : List Value) = u8s (putN k 1 ++ putN p 1) := by rw [put1 hk, put1 hp, u8_of hk, u8_of hp]; rfl
      rw [e5] at hS
      repeat' (first | refine Z H ?_ | (refine Zc ?_ ?_ <;> intro hc <;> first | (exfalso; omega) | skip) | (refine Y ?_; try change C _ _ _ _ _ _) | (refine Zs H ?_; clear H; (try clear w); intro w H) | (refine Zn H ?_; clear H; (try clear w); (first | ((fail_if_success (have := bl1)); intro bl1 w H) | intro _ w H)) | (refine Ze H ?_; clear H; (try clear w); intro gv w H))
      exact ⟨rfl, by (repeat (first | exact Agr.refl | exact Agr.hav | refine Agr.upd rfl ?_ | refine Agr.in rfl ?_)), s2, hs2, ⟨some ⟨g5, 0, none⟩, 2, by rw [List.length_append, putN_len, putN_len]; rfl, by rw [List.length_append, putN_len, putN_len]; exact hS⟩, H⟩
    · intro s1 h w E hs1; (conv => whnf); rintro _ ⟨a1, c1, rfl, hS⟩; (conv => whnf); intro H; replace H : Holds s1 w (var bl1 34 [.int .i64 (k : Int), .int .i64 (p : Int), .int .u32 (v : Int), .int .i64 (c : Int)] :: (R ++ E)) := H
      repeat' (first | refine Z H ?_ | (refine Zc ?_ ?_ <;> intro hc <;> first | (exfalso; omega) | skip) | (refine Y ?_; try change C _ _ _ _ _ _) | (refine Zs H ?_; clear H; (try clear w); intro w H) | (refine Zn H ?_; clear H; (try clear w); (first | ((fail_if_success (have := bl1)); intro bl1 w H) | intro _ w H)) | (refine Ze H ?_; clear H; (try clear w); intro gv w H))
      exact ⟨rfl, by (repeat (first | exact Agr.refl | exact Agr.hav | refine Agr.upd rfl ?_ | refine Agr.in rfl ?_)), s1, Ro.Le.refl _, rfl, H⟩
    · intro s1 h w E hs1; (conv => whnf); rintro _ rfl; (conv => whnf); rintro _ rfl; (conv => whnf); intro H; replace H : Holds s1 w (var bl1 34 [.int .i64 (k : Int), .int .i64 (p : Int), .int .u32 (v : Int), .int .i64 (c : Int)] :: (R ++ E)) := H
      refine J.cat ?_ (hl := by rw [bst_size, bst_size]; simp only [List.length_append, putN_len, List.length_cons, List.length_nil]; omega)
      rw [bst_app]
      repeat' (first | refine Z H ?_ | (refine Zc ?_ ?_ <;> intro hc <;> first | (exfalso; omega) | skip) | (refine Y ?_; try change C _ _ _ _ _ _) | (refine Zs H ?_; clear H; (try clear w); intro w H) | (refine Zn H ?_; clear H; (try clear w); (first | ((fail_if_success (have := bl1)); intro bl1 w H) | intro _ w H)) | (refine Ze H ?_; clear H; (try clear w); intro gv w H))
      exact ⟨rfl, by (repeat (first | exact Agr.refl | exact Agr.hav | refine Agr.upd rfl ?_ | refine Agr.in rfl ?_)), s1, Ro.Le.refl _, rfl, H⟩
    · intro s1 h w E hs1; (conv => whnf); intro H; replace H : Holds s1 w (var bl1 34 [.int .i64 (k : Int), .int .i64 (p : Int), .int .u32 (v : Int), .int .i64 (c : Int)] :: (R ++ E)) := H
      repeat' (first | refine Z H ?_ | (refine Zc ?_ ?_ <;> intro hc <;> first | (exfalso; omega) | skip) | (refine Y ?_; try change C _ _ _ _ _ _) | (refine Zs H ?_; clear H; (try clear w); intro w H) | (refine Zn H ?_; clear H; (try clear w); (first | ((fail_if_success (have := bl1)); intro bl1 w H) | intro _ w H)) | (refine Ze H ?_; clear H; (try clear w); intro gv w H))
      exact ⟨rfl, by (repeat (first | exact Agr.refl | exact Agr.hav | refine Agr.upd rfl ?_ | refine Agr.in rfl ?_)), s1, Ro.Le.refl _, rfl, H⟩
    · intro s1 h w E hs1; (conv => whnf); rintro _ rfl; (conv => whnf); intro H; replace H : Holds s1 w (var bl1 34 [.int .i64 (k : Int), .int .i64 (p : Int), .int .u32 (v : Int), .int .i64 (c : Int)] :: (R ++ E)) := H
      repeat' (first | refine Z H ?_ | (refine Zc ?_ ?_ <;> intro hc <;> first | (exfalso; omega) | skip) | (refine Y ?_; try change C _ _ _ _ _ _) | (refine Zs H ?_; clear H; (try clear w); intro w H) | (refine Zn H ?_; clear H; (try clear w); (first | ((fail_if_success (have := bl1)); intro bl1 w H) | intro _ w H)) | (refine Ze H ?_; clear H; (try clear w); intro gv w H))
      exact ⟨rfl, by (repeat (first | exact Agr.refl | exact Agr.hav | refine Agr.upd rfl ?_ | refine Agr.in rfl ?_)), s1, Ro.Le.refl _, rfl, H⟩
    · intro s1 h w E hs1; (conv => whnf); rintro _ rfl; (conv => whnf); intro H; replace H : Holds s1 w (var bl1 34 [.int .i64 (k : Int), .int .i64 (p : Int), .int .u32 (v : Int), .int .i64 (c : Int)] :: (R ++ E)) := H
      refine B.conv Tryd.underlying32 ?_
      rw [wv]
      repeat' (first | refine Z H ?_ | (refine Zc ?_ ?_ <;> intro hc <;> first | (exfalso; omega) | skip) | (refine Y ?_; try change C _ _ _ _ _ _) | (refine Zs H ?_; clear H; (try clear w); intro w H) | (refine Zn H ?_; clear H; (try clear w); (first | ((fail_if_success (have := bl1)); intro bl1 w H) | intro _ w H)) | (refine Ze H ?_; clear H; (try clear w); intro gv w H))
      exact ⟨rfl, by (repeat (first | exact Agr.refl | exact Agr.hav | refine Agr.upd rfl ?_ | refine Agr.in rfl ?_)), s1, Ro.Le.refl _, rfl, H⟩
    · intro s1 h w E hs1; (conv => whnf); rintro _ rfl; (conv => whnf); intro H; replace H : Holds s1 w (var bl1 34 [.int .i64 (k : Int), .int .i64 (p : Int), .int .u32 (v : Int), .int .i64 (c : Int)] :: (R ++ E)) := H
      (refine X.call (Put2_s (n := v) (size := 4) H (by omega) (by decide)) ?_; (try clear H); rintro _ w ⟨a1, c1, rfl, H⟩; refine ⟨_, rfl, ?_⟩)
      obtain ⟨s2, hs2, H, hS⟩ := H.fixRow
      repeat' (first | refine Z H ?_ | (refine Zc ?_ ?_ <;> intro hc <;> first | (exfalso; omega) | skip) | (refine Y ?_; try change C _ _ _ _ _ _) | (refine Zs H ?_; clear H; (try clear w); intro w H) | (refine Zn H ?_; clear H; (try clear w); (first | ((fail_if_success (have := bl1)); intro bl1 w H) | intro _ w H)) | (refine Ze H ?_; clear H; (try clear w); intro gv w H))
      exact ⟨rfl, by (repeat (first | exact Agr.refl | exact Agr.hav | refine Agr.upd rfl ?_ | refine Agr.in rfl ?_)), s2, hs2, ⟨a1, c1, by rw [putN_len]; rfl, hS⟩, H⟩
    · intro s1 h w E hs1; (conv => whnf); rintro _ ⟨a1, c1, rfl, hS⟩; (conv => whnf); intro H; replace H : Holds s1 w (var bl1 34 [.int .i64 (k : Int), .int .i64 (p : Int), .int .u32 (v : Int), .int .i64 (c : Int)] :: (R ++ E)) := H
      repeat' (first | refine Z H ?_ | (refine Zc ?_ ?_ <;> intro hc <;> first | (exfalso; omega) | skip) | (refine Y ?_; try change C _ _ _ _ _ _) | (refine Zs H ?_; clear H; (try clear w); intro w H) | (refine Zn H ?_; clear H; (try clear w); (first | ((fail_if_success (have := bl1)); intro bl1 w H) | intro _ w H)) | (refine Ze H ?_; clear H; (try clear w); intro gv w H))
      exact ⟨rfl, by (repeat (first | exact Agr.refl | exact Agr.hav | refine Agr.upd rfl ?_ | refine Agr.in rfl ?_)), s1, Ro.Le.refl _, rfl, H⟩
    · intro s1 h w E hs1; (conv => whnf); rintro _ rfl; (conv => whnf); rintro _ rfl; (conv => whnf); intro H; replace H : Holds s1 w (var bl1 34 [.int .i64 (k : Int), .int .i64 (p : Int), .int .u32 (v : Int), .int .i64 (c : Int)] :: (R ++ E)) := H
      refine J.cat ?_ (hl := by rw [bst_size, bst_size]; simp only [List.length_append, putN_len, List.length_cons, List.length_nil]; omega)
      rw [bst_app]
      repeat' (first | refine Z H ?_ | (refine Zc ?_ ?_ <;> intro hc <;> first | (exfalso; omega) | skip) | (refine Y ?_; try change C _ _ _ _ _ _) | (refine Zs H ?_; clear H; (try clear w); intro w H) | (refine Zn H ?_; clear H; (try clear w); (first | ((fail_if_success (have := bl1)); intro bl1 w H) | intro _ w H)) | (refine Ze H ?_; clear H; (try clear w); intro gv w H))
      exact ⟨rfl, by (repeat (first | exact Agr.refl | exact Agr.hav | refine Agr.upd rfl ?_ | refine Agr.in rfl ?_)), s1, Ro.Le.refl _, rfl, H⟩
    · intro s1 h w E hs1; (conv => whnf); intro H; replace H : Holds s1 w (var bl1 34 [.int .i64 (k : Int), .int .i64 (p : Int), .int .u32 (v : Int), .int .i64 (c : Int)] :: (R ++ E)) := H
      repeat' (first | refine Z H ?_ | (refine Zc ?_ ?_ <;> intro hc <;> first | (exfalso; omega) | skip) | (refine Y ?_; try change C _ _ _ _ _ _) | (refine Zs H ?_; clear H; (try clear w); intro w H) | (refine Zn H ?_; clear H; (try clear w); (first | ((fail_if_success (have := bl1)); intro bl1 w H) | intro _ w H)) | (refine Ze H ?_; clear H; (try clear w); intro gv w H))
      exact ⟨rfl, by (repeat (first | exact Agr.refl | exact Agr.hav | refine Agr.upd rfl ?_ | refine Agr.in rfl ?_)), s1, Ro.Le.refl _, rfl, H⟩
    · intro s1 h w E hs1; (conv => whnf); rintro _ rfl; (conv => whnf); intro H; replace H : Holds s1 w (var bl1 34 [.int .i64 (k : Int), .int .i64 (p : Int), .int .u32 (v : Int), .int .i64 (c : Int)] :: (R ++ E)) := H
      repeat' (first | refine Z H ?_ | (refine Zc ?_ ?_ <;> intro hc <;> first | (exfalso; omega) | skip) | (refine Y ?_; try change C _ _ _ _ _ _) | (refine Zs H ?_; clear H; (try clear w); intro w H) | (refine Zn H ?_; clear H; (try clear w); (first | ((fail_if_success (have := bl1)); intro bl1 w H) | intro _ w H)) | (refine Ze H ?_; clear H; (try clear w); intro gv w H))
      exact ⟨rfl, by (repeat (first | exact Agr.refl | exact Agr.hav | refine Agr.upd rfl ?_ | refine Agr.in rfl ?_)), s1, Ro.Le.refl _, rfl, H⟩
    · intro s1 h w E hs1; (conv => whnf); rintro _ rfl; (conv => whnf); intro H; replace H : Holds s1 w (var bl1 34 [.int .i64 (k : Int), .int .i64 (p : Int), .int .u32 (v : Int), .int .i64 (c : Int)] :: (R ++ E)) := H
      refine B.conv Tryd.underlying3 ?_
      rw [wc]
      repeat' (first | refine Z H ?_ | (refine Zc ?_ ?_ <;> intro hc <;> first | (exfalso; omega) | skip) | (refine Y ?_; try change C _ _ _ _ _ _) | (refine Zs H ?_; clear H; (try clear w); intro w H) | (refine Zn H ?_; clear H; (try clear w); (first | ((fail_if_success (have := bl1)); intro bl1 w H) | intro _ w H)) | (refine Ze H ?_; clear H; (try clear w); intro gv w H))
      exact ⟨rfl, by (repeat (first | exact Agr.refl | exact Agr.hav | refine Agr.upd rfl ?_ | refine Agr.in rfl ?_)), s1, Ro.Le.refl _, rfl, H⟩
    · intro s1 h w E hs1; (conv => whnf); rintro _ rfl; (conv => whnf); intro H; replace H : Holds s1 w (var bl1 34 [.int .i64 (k : Int), .int .i64 (p : Int), .int .u32 (v : Int), .int .i64 (c : Int)] :: (R ++ E)) := H
      refine K.one H rfl rfl (by conv => lhs; whnf) (by rfl) (by rfl) ?_; clear H; (try clear w); intro g1 w H
      obtain ⟨s2, hs2, H, hS⟩ := H.fixRow
      have e5 : ([.int .u8 (c : Int)] : List Value) = u8s (putN c 1) := by rw [put1 hc, u8_of hc]; rfl
      rw [e5] at hS
      repeat' (first | refine Z H ?_ | (refine Zc ?_ ?_ <;> intro hc <;> first | (exfalso; omega) | skip) | (refine Y ?_; try change C _ _ _ _ _ _) | (refine Zs H ?_; clear H; (try clear w); intro w H) | (refine Zn H ?_; clear H; (try clear w); (first | ((fail_if_success (have := bl1)); intro bl1 w H) | intro _ w H)) | (refine Ze H ?_; clear H; (try clear w); intro gv w H))
      exact ⟨rfl, by (repeat (first | exact Agr.refl | exact Agr.hav | refine Agr.upd rfl ?_ | refine Agr.in rfl ?_)), s2, hs2, ⟨some ⟨g1, 0, none⟩, 1, by rw [putN_len]; rfl, by rw [putN_len]; exact hS⟩, H⟩
    · intro s1 h w E hs1; (conv => whnf); rintro _ ⟨a1, c1, rfl, hS⟩; (conv => whnf); intro H; replace H : Holds s1 w (var bl1 34 [.int .i64 (k : Int), .int .i64 (p : Int), .int .u32 (v : Int), .int .i64 (c : Int)] :: (R ++ E)) := H
      repeat' (first | refine Z H ?_ | (refine Zc ?_ ?_ <;> intro hc <;> first | (exfalso; omega) | skip) | (refine Y ?_; try change C _ _ _ _ _ _) | (refine Zs H ?_; clear H; (try clear w); intro w H) | (refine Zn H ?_; clear H; (try clear w); (first | ((fail_if_success (have := bl1)); intro bl1 w H) | intro _ w H)) | (refine Ze H ?_; clear H; (try clear w); intro gv w H))
      exact ⟨rfl, by (repeat (first | exact Agr.refl | exact Agr.hav | refine Agr.upd rfl ?_ | refine Agr.in rfl ?_)), s1, Ro.Le.refl _, rfl, H⟩
    · intro s1 h w E hs1; (conv => whnf); rintro _ rfl; (conv => whnf); rintro _ rfl; (conv => whnf); intro H; replace H : Holds s1 w (var bl1 34 [.int .i64 (k : Int), .int .i64 (p : Int), .int .u32 (v : Int), .int .i64 (c : Int)] :: (R ++ E)) := H
      refine J.cat ?_ (hl := by rw [bst_size, bst_size]; simp only [List.length_append, putN_len, List.length_cons, List.length_nil]; omega)
      rw [bst_app]
      repeat' (first | refine Z H ?_ | (refine Zc ?_ ?_ <;> intro hc <;> first | (exfalso; omega) | skip) | (refine Y ?_; try change C _ _ _ _ _ _) | (refine Zs H ?_; clear H; (try clear w); intro w H) | (refine Zn H ?_; clear H; (try clear w); (first | ((fail_if_success (have := bl1)); intro bl1 w H) | intro _ w H)) | (refine Ze H ?_; clear H; (try clear w); intro gv w H))
      exact ⟨rfl, by (repeat (first | exact Agr.refl | exact Agr.hav | refine Agr.upd rfl ?_ | refine Agr.in rfl ?_)), s1, Ro.Le.refl _, by unfold secFS headN; simp only [List.append_assoc]; rfl, H⟩
    · intro s1 h w E hs1; (conv => whnf); rintro _ rfl; (conv => whnf); intro H; replace H : Holds s1 w (var bl1 34 [.int .i64 (k : Int), .int .i64 (p : Int), .int .u32 (v : Int), .int .i64 (c : Int)] :: (R ++ E)) := H
      repeat' (first | refine Z H ?_ | (refine Zc ?_ ?_ <;> intro hc <;> first | (exfalso; omega) | skip) | (refine Y ?_; try change C _ _ _ _ _ _) | (refine Zs H ?_; clear H; (try clear w); intro w H) | (refine Zn H ?_; clear H; (try clear w); (first | ((fail_if_success (have := bl1)); intro bl1 w H) | intro _ w H)) | (refine Ze H ?_; clear H; (try clear w); intro gv w H))
      exact ⟨rfl, by (repeat (first | exact Agr.refl | exact Agr.hav | refine Agr.upd rfl ?_ | refine Agr.in rfl ?_)), s1, Ro.Le.refl _, rfl, H⟩
  · intro s1 h w hs1
    conv => whnf
    rintro _ rfl
    conv => whnf
    intro H
    replace H : Holds s1 w (var bl1 34 [.int .i64 (k : Int), .int .i64 (p : Int), .int .u32 (v : Int), .int .i64 (c : Int)] :: R) := H
    have hhl := headN_len n k p v c
    refine L.nil ⟨rfl, ?_⟩
    have hsz : (60 : Int) - ((bst (headN n k p v c)).size : Int) = ((48 : Nat) : Int) := by rw [bst_size, hhl]; rfl
    have hcl := contN_len n k p v c
    repeat' (first | refine Z H ?_ | (refine Zc ?_ ?_ <;> intro hc <;> first | (exfalso; omega) | skip) | (refine Y ?_; try change C _ _ _ _ _ _) | (refine Zs H ?_; clear H; (try clear w); intro w H) | (refine Zn H ?_; clear H; (try clear w); (first | ((fail_if_success (have := bl1)); intro bl1 w H) | intro _ w H)) | (refine Ze H ?_; clear H; (try clear w); intro gv w H))
    rw [hsz]
    (refine X.call (Noughts16_s (n := 48) H (by decide)) ?_; (try clear H); rintro _ w ⟨rfl, _, H⟩; refine ⟨_, rfl, ?_⟩)
    refine J.cat ?_ (hl := by rw [bst_size, bst_size, hhl, List.length_replicate]; decide)
    rw [bst_app, show headN n k p v c ++ List.replicate 48 0 = contN n k p v c from rfl]
    refine X.bts H ?_ Tryd.underlying5 (hl := by rw [hcl]; decide)
    clear H
    intro s2 gb cb w hs2 H hS
    repeat' (first | refine Z H ?_ | (refine Zc ?_ ?_ <;> intro hc <;> first | (exfalso; omega) | skip) | (refine Y ?_; try change C _ _ _ _ _ _) | (refine Zs H ?_; clear H; (try clear w); intro w H) | (refine Zn H ?_; clear H; (try clear w); (first | ((fail_if_success (have := bl1)); intro bl1 w H) | intro _ w H)) | (refine Ze H ?_; clear H; (try clear w); intro gv w H))
    (refine X.call (Seal3_s H (.ro hS) (by omega)) ?_; (try clear H); rintro _ w ⟨a1, c1, rfl, H⟩; refine ⟨_, rfl, ?_⟩)
    repeat' (first | refine Z H ?_ | (refine Zc ?_ ?_ <;> intro hc <;> first | (exfalso; omega) | skip) | (refine Y ?_; try change C _ _ _ _ _ _) | (refine Zs H ?_; clear H; (try clear w); intro w H) | (refine Zn H ?_; clear H; (try clear w); (first | ((fail_if_success (have := bl1)); intro bl1 w H) | intro _ w H)) | (refine Ze H ?_; clear H; (try clear w); intro gv w H))
    exact ⟨_, resT rfl, s2, rfl, hs1.trans hs2, H.tail.tail⟩
theorem build_en (a b : Int) (c d : Int) (w : World) : (Instr.build 34 [(0, .int .i64 a), (1, .int .i64 b), (2, .int .u32 c), (3, .int .i64 d)].toArray).run Tryd.prog w = .ok (.agg #[.int .i64 a, .int .i64 b, .int .u32 c, .int .i64 d]) w := by kernel_rfl
def byt (l : List UInt8) (i : Nat) : Nat := (l[i]?.getD 0).toNat
def fieldsR (l : List UInt8) : En := ⟨(byt l 5 : Int), (byt l 6 : Int), numN ((l.drop 7).take 4) % 2 ^ 32, (byt l 11 : Int)⟩
theorem byt_lt (l : List UInt8) (i : Nat) : byt l i < 256 := (l[i]?.getD 0).toNat_lt
theorem numN_one (x : UInt8) : numN [x] = x.toNat := by simp [numN, numI]
theorem byt_num {l : List UInt8} {i : Nat} (h : i < l.length) : numN ((l.drop i).take 1) = byt l i := by
  rw [List.drop_eq_getElem_cons h, List.take_succ_cons, List.take_zero, numN_one]
  unfold byt; rw [List.getElem?_eq_getElem h]; rfl
theorem fields_eq {l : List UInt8} (hl : l.length = 64) : fieldsE (l.take 60) = fieldsR l := by
  have e : ∀ i, i < 60 → ((l.take 60).drop i).take 1 = (l.drop i).take 1 := fun i hi => by
    rw [List.drop_take, List.take_take]; congr 1; omega
  have e2 : ((l.take 60).drop 7).take 4 = (l.drop 7).take 4 := by rw [List.drop_take, List.take_take]; rfl
  unfold fieldsE fieldsR
  rw [e 5 (by decide), e 6 (by decide), e 11 (by decide), e2, byt_num (by omega), byt_num (by omega), byt_num (by omega)]
/-- what a sector says, by the document -/
theorem said_ref {n : Nat} {l : List UInt8} (hl : l.length = 64) : saidE n l = if (fieldsR l).valid = true ∧ secE n (fieldsR l) = l then some (fieldsR l) else none := by
  unfold saidE
  by_cases h0 : (openL l).2 = 0
  · have h1 : (openL l).1 = l.take 60 := by
      unfold openL at h0 ⊢
      rw [if_neg (by omega)] at h0 ⊢
      split at h0
      · rename_i h; rw [if_pos h, hl]
      · cases h0
    rw [h1, fields_eq hl]
    simp only [h0, true_and]
  · rw [if_neg (fun h => h0 h.1), if_neg]
    rintro ⟨_, h2⟩
    refine h0 ?_
    rw [← h2]
    unfold secE secN
    rw [open_seal]
def saidFS (l : List UInt8) : List FS := [
/-  0 -/ FS.v 7 [] (.string (bst l)),
/-  1 -/ FS.v 8 [0] (.int .u8 (byt l 5)),
/-  2 -/ FS.v 9 [1] (.int .i64 (byt l 5)),
/-  3 -/ FS.v 10 [] (.string (bst l)),
/-  4 -/ FS.v 11 [3] (.int .u8 (byt l 6)),
/-  5 -/ FS.v 12 [4] (.int .i64 (byt l 6)),
/-  6 -/ FS.v 13 [] (.string (bst l)),
/-  7 -/ FS.v 14 [6] (.string (bst ((l.drop 7).take 4))),
/-  8 -/ FS.b 15 [7] ((l.drop 7).take 4),
/-  9 -/ FS.v 16 [8] (.int .u64 (numN ((l.drop 7).take 4))),
/- 10 -/ FS.v 17 [9] (.int .u32 ((numN ((l.drop 7).take 4) % 2 ^ 32 : Nat) : Int)),
/- 11 -/ FS.v 18 [] (.string (bst l)),
/- 12 -/ FS.v 19 [11] (.int .u8 (byt l 11)),
/- 13 -/ FS.v 20 [12] (.int .i64 (byt l 11)),
/- 14 -/ FS.v 21 [2, 5, 10, 13] (.agg (fieldsR l).cells.toArray),
/- 15 -/ FS.new 6 34 [.int .i64 0, .int .i64 0, .int .u32 0, .int .i64 0],
/- 16 -/ FS.put 6 15 [15, 14] 34 (fieldsR l).cells]
set_option maxRecDepth 100000 in
set_option maxHeartbeats 1000000 in
theorem Said20_s {n : Nat} {l : List UInt8} (H : Holds s w R) (hn : n < 2 ^ 32) (hl : l.length = 64) : Calls Tryd.prog 66 #[.int .i64 (n : Int), .string (bst l)] w fun e w' => ∃ s', e = .returned (.tuple #[.agg (fieldsR l).cells.toArray, .bool (saidE n l).isSome]) ∧ s.Le s' ∧ Holds s' w' R := by
  have h4 : ((l.drop 7).take 4).length = 4 := by rw [List.length_take, List.length_drop]; omega
  have wr : ∀ i, IntKind.i64.wrap ((byt l i : Nat) : Int) = (byt l i : Int) := fun i => IntWalk.i64_in _ (by have := byt_lt l i; omega)
  refine enter Tryd.func66 rfl Tryd.ntmps66 rfl ?_
  repeat' (first | refine Z H ?_ | (refine Zc ?_ ?_ <;> intro hc <;> first | (exfalso; omega) | skip) | (refine Y ?_; try change C _ _ _ _ _ _) | (refine Zs H ?_; clear H; (try clear w); intro w H) | (refine Zn H ?_; clear H; (try clear w); (first | ((fail_if_success (have := bl1)); intro bl1 w H) | ((fail_if_success (have := bl2)); intro bl2 w H) | intro _ w H)) | (refine Ze H ?_; clear H; (try clear w); intro gv w H))
  refine C.flow (saidFS l) [16] [0, 1, 2, 3, 4, 5, 6, 7, 8, 9, 10, 11, 12, 13, 14, 16] H (by kernel_rfl) rfl rfl ?_ ?_
  · repeat' (first | exact StepsF.nil | refine StepsF.cons ?_ ?_)
    · intro s1 h w E hs1; (conv => whnf); intro H; replace H : Holds s1 w (var bl1 34 [.int .i64 0, .int .i64 0, .int .u32 0, .int .i64 0] :: (R ++ E)) := H
      repeat' (first | refine Z H ?_ | (refine Zc ?_ ?_ <;> intro hc <;> first | (exfalso; omega) | skip) | (refine Y ?_; try change C _ _ _ _ _ _) | (refine Zs H ?_; clear H; (try clear w); intro w H) | (refine Zn H ?_; clear H; (try clear w); (first | ((fail_if_success (have := bl1)); intro bl1 w H) | ((fail_if_success (have := bl2)); intro bl2 w H) | intro _ w H)) | (refine Ze H ?_; clear H; (try clear w); intro gv w H))
      exact ⟨rfl, by (repeat (first | exact Agr.refl | exact Agr.hav | refine Agr.upd rfl ?_ | refine Agr.in rfl ?_)), s1, Ro.Le.refl _, rfl, H⟩
    · intro s1 h w E hs1; (conv => whnf); rintro _ rfl; (conv => whnf); intro H; replace H : Holds s1 w (var bl1 34 [.int .i64 0, .int .i64 0, .int .u32 0, .int .i64 0] :: (R ++ E)) := H
      refine X.sidx (l := l) 5 ?_
      repeat' (first | refine Z H ?_ | (refine Zc ?_ ?_ <;> intro hc <;> first | (exfalso; omega) | skip) | (refine Y ?_; try change C _ _ _ _ _ _) | (refine Zs H ?_; clear H; (try clear w); intro w H) | (refine Zn H ?_; clear H; (try clear w); (first | ((fail_if_success (have := bl1)); intro bl1 w H) | ((fail_if_success (have := bl2)); intro bl2 w H) | intro _ w H)) | (refine Ze H ?_; clear H; (try clear w); intro gv w H))
      exact ⟨rfl, by (repeat (first | exact Agr.refl | exact Agr.hav | refine Agr.upd rfl ?_ | refine Agr.in rfl ?_)), s1, Ro.Le.refl _, rfl, H⟩
    · intro s1 h w E hs1; (conv => whnf); rintro _ rfl; (conv => whnf); intro H; replace H : Holds s1 w (var bl1 34 [.int .i64 0, .int .i64 0, .int .u32 0, .int .i64 0] :: (R ++ E)) := H
      refine K.convI Tryd.underlying5 rfl rfl rfl ?_
      rw [wr]
      repeat' (first | refine Z H ?_ | (refine Zc ?_ ?_ <;> intro hc <;> first | (exfalso; omega) | skip) | (refine Y ?_; try change C _ _ _ _ _ _) | (refine Zs H ?_; clear H; (try clear w); intro w H) | (refine Zn H ?_; clear H; (try clear w); (first | ((fail_if_success (have := bl1)); intro bl1 w H) | ((fail_if_success (have := bl2)); intro bl2 w H) | intro _ w H)) | (refine Ze H ?_; clear H; (try clear w); intro gv w H))
      exact ⟨rfl, by (repeat (first | exact Agr.refl | exact Agr.hav | refine Agr.upd rfl ?_ | refine Agr.in rfl ?_)), s1, Ro.Le.refl _, rfl, H⟩
    · intro s1 h w E hs1; (conv => whnf); intro H; replace H : Holds s1 w (var bl1 34 [.int .i64 0, .int .i64 0, .int .u32 0, .int .i64 0] :: (R ++ E)) := H
      repeat' (first | refine Z H ?_ | (refine Zc ?_ ?_ <;> intro hc <;> first | (exfalso; omega) | skip) | (refine Y ?_; try change C _ _ _ _ _ _) | (refine Zs H ?_; clear H; (try clear w); intro w H) | (refine Zn H ?_; clear H; (try clear w); (first | ((fail_if_success (have := bl1)); intro bl1 w H) | ((fail_if_success (have := bl2)); intro bl2 w H) | intro _ w H)) | (refine Ze H ?_; clear H; (try clear w); intro gv w H))
      exact ⟨rfl, by (repeat (first | exact Agr.refl | exact Agr.hav | refine Agr.upd rfl ?_ | refine Agr.in rfl ?_)), s1, Ro.Le.refl _, rfl, H⟩
    · intro s1 h w E hs1; (conv => whnf); rintro _ rfl; (conv => whnf); intro H; replace H : Holds s1 w (var bl1 34 [.int .i64 0, .int .i64 0, .int .u32 0, .int .i64 0] :: (R ++ E)) := H
      refine X.sidx (l := l) 6 ?_
      repeat' (first | refine Z H ?_ | (refine Zc ?_ ?_ <;> intro hc <;> first | (exfalso; omega) | skip) | (refine Y ?_; try change C _ _ _ _ _ _) | (refine Zs H ?_; clear H; (try clear w); intro w H) | (refine Zn H ?_; clear H; (try clear w); (first | ((fail_if_success (have := bl1)); intro bl1 w H) | ((fail_if_success (have := bl2)); intro bl2 w H) | intro _ w H)) | (refine Ze H ?_; clear H; (try clear w); intro gv w H))
      exact ⟨rfl, by (repeat (first | exact Agr.refl | exact Agr.hav | refine Agr.upd rfl ?_ | refine Agr.in rfl ?_)), s1, Ro.Le.refl _, rfl, H⟩
    · intro s1 h w E hs1; (conv => whnf); rintro _ rfl; (conv => whnf); intro H; replace H : Holds s1 w (var bl1 34 [.int .i64 0, .int .i64 0, .int .u32 0, .int .i64 0] :: (R ++ E)) := H
      refine K.convI Tryd.underlying5 rfl rfl rfl ?_
      rw [wr]
      repeat' (first | refine Z H ?_ | (refine Zc ?_ ?_ <;> intro hc <;> first | (exfalso; omega) | skip) | (refine Y ?_; try change C _ _ _ _ _ _) | (refine Zs H ?_; clear H; (try clear w); intro w H) | (refine Zn H ?_; clear H; (try clear w); (first | ((fail_if_success (have := bl1)); intro bl1 w H) | ((fail_if_success (have := bl2)); intro bl2 w H) | intro _ w H)) | (refine Ze H ?_; clear H; (try clear w); intro gv w H))
      exact ⟨rfl, by (repeat (first | exact Agr.refl | exact Agr.hav | refine Agr.upd rfl ?_ | refine Agr.in rfl ?_)), s1, Ro.Le.refl _, rfl, H⟩
    · intro s1 h w E hs1; (conv => whnf); intro H; replace H : Holds s1 w (var bl1 34 [.int .i64 0, .int .i64 0, .int .u32 0, .int .i64 0] :: (R ++ E)) := H
      repeat' (first | refine Z H ?_ | (refine Zc ?_ ?_ <;> intro hc <;> first | (exfalso; omega) | skip) | (refine Y ?_; try change C _ _ _ _ _ _) | (refine Zs H ?_; clear H; (try clear w); intro w H) | (refine Zn H ?_; clear H; (try clear w); (first | ((fail_if_success (have := bl1)); intro bl1 w H) | ((fail_if_success (have := bl2)); intro bl2 w H) | intro _ w H)) | (refine Ze H ?_; clear H; (try clear w); intro gv w H))
      exact ⟨rfl, by (repeat (first | exact Agr.refl | exact Agr.hav | refine Agr.upd rfl ?_ | refine Agr.in rfl ?_)), s1, Ro.Le.refl _, rfl, H⟩
    · intro s1 h w E hs1; (conv => whnf); rintro _ rfl; (conv => whnf); intro H; replace H : Holds s1 w (var bl1 34 [.int .i64 0, .int .i64 0, .int .u32 0, .int .i64 0] :: (R ++ E)) := H
      refine K.sub_ (l := 7) (h' := 11) rfl rfl rfl rfl rfl rfl rfl (by decide) (by rw [bst_size, hl]; decide) ?_
      rw [bst_extract]
      repeat' (first | refine Z H ?_ | (refine Zc ?_ ?_ <;> intro hc <;> first | (exfalso; omega) | skip) | (refine Y ?_; try change C _ _ _ _ _ _) | (refine Zs H ?_; clear H; (try clear w); intro w H) | (refine Zn H ?_; clear H; (try clear w); (first | ((fail_if_success (have := bl1)); intro bl1 w H) | ((fail_if_success (have := bl2)); intro bl2 w H) | intro _ w H)) | (refine Ze H ?_; clear H; (try clear w); intro gv w H))
      exact ⟨rfl, by (repeat (first | exact Agr.refl | exact Agr.hav | refine Agr.upd rfl ?_ | refine Agr.in rfl ?_)), s1, Ro.Le.refl _, rfl, H⟩
    · intro s1 h w E hs1; (conv => whnf); rintro _ rfl; (conv => whnf); intro H; replace H : Holds s1 w (var bl1 34 [.int .i64 0, .int .i64 0, .int .u32 0, .int .i64 0] :: (R ++ E)) := H
      refine X.bts H ?_ Tryd.underlying5 (hl := by rw [h4]; decide)
      clear H
      intro s2 gb cb w hs2 H hS
      repeat' (first | refine Z H ?_ | (refine Zc ?_ ?_ <;> intro hc <;> first | (exfalso; omega) | skip) | (refine Y ?_; try change C _ _ _ _ _ _) | (refine Zs H ?_; clear H; (try clear w); intro w H) | (refine Zn H ?_; clear H; (try clear w); (first | ((fail_if_success (have := bl1)); intro bl1 w H) | ((fail_if_success (have := bl2)); intro bl2 w H) | intro _ w H)) | (refine Ze H ?_; clear H; (try clear w); intro gv w H))
      exact ⟨rfl, by (repeat (first | exact Agr.refl | exact Agr.hav | refine Agr.upd rfl ?_ | refine Agr.in rfl ?_)), s2, hs2, ⟨_, _, rfl, hS⟩, H⟩
    · intro s1 h w E hs1; (conv => whnf); rintro _ ⟨a1, c1, rfl, hS⟩; (conv => whnf); intro H; replace H : Holds s1 w (var bl1 34 [.int .i64 0, .int .i64 0, .int .u32 0, .int .i64 0] :: (R ++ E)) := H
      (refine X.call (Number2_s H hS (by rw [h4]; decide)) ?_; (try clear H); rintro _ w ⟨rfl, H⟩; refine ⟨_, rfl, ?_⟩)
      repeat' (first | refine Z H ?_ | (refine Zc ?_ ?_ <;> intro hc <;> first | (exfalso; omega) | skip) | (refine Y ?_; try change C _ _ _ _ _ _) | (refine Zs H ?_; clear H; (try clear w); intro w H) | (refine Zn H ?_; clear H; (try clear w); (first | ((fail_if_success (have := bl1)); intro bl1 w H) | ((fail_if_success (have := bl2)); intro bl2 w H) | intro _ w H)) | (refine Ze H ?_; clear H; (try clear w); intro gv w H))
      exact ⟨rfl, by (repeat (first | exact Agr.refl | exact Agr.hav | refine Agr.upd rfl ?_ | refine Agr.in rfl ?_)), s1, Ro.Le.refl _, rfl, H⟩
    · intro s1 h w E hs1; (conv => whnf); rintro _ rfl; (conv => whnf); intro H; replace H : Holds s1 w (var bl1 34 [.int .i64 0, .int .i64 0, .int .u32 0, .int .i64 0] :: (R ++ E)) := H
      refine B.conv Tryd.underlying145 ?_
      repeat' (first | refine Z H ?_ | (refine Zc ?_ ?_ <;> intro hc <;> first | (exfalso; omega) | skip) | (refine Y ?_; try change C _ _ _ _ _ _) | (refine Zs H ?_; clear H; (try clear w); intro w H) | (refine Zn H ?_; clear H; (try clear w); (first | ((fail_if_success (have := bl1)); intro bl1 w H) | ((fail_if_success (have := bl2)); intro bl2 w H) | intro _ w H)) | (refine Ze H ?_; clear H; (try clear w); intro gv w H))
      exact ⟨rfl, by (repeat (first | exact Agr.refl | exact Agr.hav | refine Agr.upd rfl ?_ | refine Agr.in rfl ?_)), s1, Ro.Le.refl _, rfl, H⟩
    · intro s1 h w E hs1; (conv => whnf); intro H; replace H : Holds s1 w (var bl1 34 [.int .i64 0, .int .i64 0, .int .u32 0, .int .i64 0] :: (R ++ E)) := H
      repeat' (first | refine Z H ?_ | (refine Zc ?_ ?_ <;> intro hc <;> first | (exfalso; omega) | skip) | (refine Y ?_; try change C _ _ _ _ _ _) | (refine Zs H ?_; clear H; (try clear w); intro w H) | (refine Zn H ?_; clear H; (try clear w); (first | ((fail_if_success (have := bl1)); intro bl1 w H) | ((fail_if_success (have := bl2)); intro bl2 w H) | intro _ w H)) | (refine Ze H ?_; clear H; (try clear w); intro gv w H))
      exact ⟨rfl, by (repeat (first | exact Agr.refl | exact Agr.hav | refine Agr.upd rfl ?_ | refine Agr.in rfl ?_)), s1, Ro.Le.refl _, rfl, H⟩
    · intro s1 h w E hs1; (conv => whnf); rintro _ rfl; (conv => whnf); intro H; replace H : Holds s1 w (var bl1 34 [.int .i64 0, .int .i64 0, .int .u32 0, .int .i64 0] :: (R ++ E)) := H
      refine X.sidx (l := l) 11 ?_
      repeat' (first | refine Z H ?_ | (refine Zc ?_ ?_ <;> intro hc <;> first | (exfalso; omega) | skip) | (refine Y ?_; try change C _ _ _ _ _ _) | (refine Zs H ?_; clear H; (try clear w); intro w H) | (refine Zn H ?_; clear H; (try clear w); (first | ((fail_if_success (have := bl1)); intro bl1 w H) | ((fail_if_success (have := bl2)); intro bl2 w H) | intro _ w H)) | (refine Ze H ?_; clear H; (try clear w); intro gv w H))
      exact ⟨rfl, by (repeat (first | exact Agr.refl | exact Agr.hav | refine Agr.upd rfl ?_ | refine Agr.in rfl ?_)), s1, Ro.Le.refl _, rfl, H⟩
    · intro s1 h w E hs1; (conv => whnf); rintro _ rfl; (conv => whnf); intro H; replace H : Holds s1 w (var bl1 34 [.int .i64 0, .int .i64 0, .int .u32 0, .int .i64 0] :: (R ++ E)) := H
      refine K.convI Tryd.underlying5 rfl rfl rfl ?_
      rw [wr]
      repeat' (first | refine Z H ?_ | (refine Zc ?_ ?_ <;> intro hc <;> first | (exfalso; omega) | skip) | (refine Y ?_; try change C _ _ _ _ _ _) | (refine Zs H ?_; clear H; (try clear w); intro w H) | (refine Zn H ?_; clear H; (try clear w); (first | ((fail_if_success (have := bl1)); intro bl1 w H) | ((fail_if_success (have := bl2)); intro bl2 w H) | intro _ w H)) | (refine Ze H ?_; clear H; (try clear w); intro gv w H))
      exact ⟨rfl, by (repeat (first | exact Agr.refl | exact Agr.hav | refine Agr.upd rfl ?_ | refine Agr.in rfl ?_)), s1, Ro.Le.refl _, rfl, H⟩
    · intro s1 h w E hs1; (conv => whnf); rintro _ rfl; (conv => whnf); rintro _ rfl; (conv => whnf); rintro _ rfl; (conv => whnf); rintro _ rfl; (conv => whnf); intro H; replace H : Holds s1 w (var bl1 34 [.int .i64 0, .int .i64 0, .int .u32 0, .int .i64 0] :: (R ++ E)) := H
      refine K.build [(0, .int .i64 _), (1, .int .i64 _), (2, .int .u32 _), (3, .int .i64 _)] (.agg #[.int .i64 _, .int .i64 _, .int .u32 _, .int .i64 _]) (build_en _ _ _ _) rfl rfl rfl ?_
      repeat' (first | refine Z H ?_ | (refine Zc ?_ ?_ <;> intro hc <;> first | (exfalso; omega) | skip) | (refine Y ?_; try change C _ _ _ _ _ _) | (refine Zs H ?_; clear H; (try clear w); intro w H) | (refine Zn H ?_; clear H; (try clear w); (first | ((fail_if_success (have := bl1)); intro bl1 w H) | ((fail_if_success (have := bl2)); intro bl2 w H) | intro _ w H)) | (refine Ze H ?_; clear H; (try clear w); intro gv w H))
      exact ⟨rfl, by (repeat (first | exact Agr.refl | exact Agr.hav | refine Agr.upd rfl ?_ | refine Agr.in rfl ?_)), s1, Ro.Le.refl _, rfl, H⟩
    · intro s1 h w E hs1; (conv => whnf); intro H; replace H : Holds s1 w (var bl1 34 [.int .i64 0, .int .i64 0, .int .u32 0, .int .i64 0] :: (R ++ E)) := H
      repeat' (first | refine Z H ?_ | (refine Zc ?_ ?_ <;> intro hc <;> first | (exfalso; omega) | skip) | (refine Y ?_; try change C _ _ _ _ _ _) | (refine Zs H ?_; clear H; (try clear w); intro w H) | (refine Zn H ?_; clear H; (try clear w); (first | ((fail_if_success (have := bl1)); intro bl1 w H) | ((fail_if_success (have := bl2)); intro bl2 w H) | intro _ w H)) | (refine Ze H ?_; clear H; (try clear w); intro gv w H))
      exact ⟨rfl, by (repeat (first | exact Agr.refl | exact Agr.hav | refine Agr.upd rfl ?_ | refine Agr.in rfl ?_)), s1, Ro.Le.refl _, ⟨bl2, rfl⟩, H⟩
    · intro s1 h w E hs1; (conv => whnf); rintro _ ⟨b1, rfl⟩; (conv => whnf); rintro _ rfl; (conv => whnf); intro H; replace H : Holds s1 w (var b1 34 [.int .i64 0, .int .i64 0, .int .u32 0, .int .i64 0] :: (var bl1 34 [.int .i64 0, .int .i64 0, .int .u32 0, .int .i64 0] :: (R ++ E))) := H
      repeat' (first | refine Z H ?_ | (refine Zc ?_ ?_ <;> intro hc <;> first | (exfalso; omega) | skip) | (refine Y ?_; try change C _ _ _ _ _ _) | (refine Zs H ?_; clear H; (try clear w); intro w H) | (refine Zn H ?_; clear H; (try clear w); (first | ((fail_if_success (have := bl1)); intro bl1 w H) | ((fail_if_success (have := bl2)); intro bl2 w H) | intro _ w H)) | (refine Ze H ?_; clear H; (try clear w); intro gv w H))
      exact ⟨rfl, by (repeat (first | exact Agr.refl | exact Agr.hav | refine Agr.upd rfl ?_ | refine Agr.in rfl ?_)), s1, Ro.Le.refl _, ⟨b1, rfl⟩, H⟩
  · intro s1 h w hs1; (conv => whnf); rintro _ ⟨b1, rfl⟩; (conv => whnf); intro H; replace H : Holds s1 w (var b1 34 (fieldsR l).cells :: var bl1 34 [.int .i64 0, .int .i64 0, .int .u32 0, .int .i64 0] :: R) := H
    refine L.nil ⟨rfl, ?_⟩
    rw [said_ref hl]
    unfold fieldsR at H ⊢
    have b5 := byt_lt l 5
    have b6 := byt_lt l 6
    have b11 := byt_lt l 11
    have hv : numN ((l.drop 7).take 4) % 2 ^ 32 < 2 ^ 32 := Nat.mod_lt _ (by decide)
    generalize byt l 5 = x5 at *
    generalize byt l 6 = x6 at *
    generalize byt l 11 = x11 at *
    generalize numN ((l.drop 7).take 4) % 2 ^ 32 = xv at *
    dsimp only [En.cells] at H
    repeat' (first | refine Z H ?_ | (refine Zc ?_ ?_ <;> intro hc <;> first | (exfalso; omega) | skip) | (refine Y ?_; try change C _ _ _ _ _ _) | (refine Zs H ?_; clear H; (try clear w); intro w H) | (refine Zn H ?_; clear H; (try clear w); (first | ((fail_if_success (have := bl1)); intro bl1 w H) | ((fail_if_success (have := bl2)); intro bl2 w H) | intro _ w H)) | (refine Ze H ?_; clear H; (try clear w); intro gv w H))
    refine C.drawn2 [b1] [1, 4, 2, 0, 0, 4, 2, 0, 0, 0, 3, 0] [3, 4] [0, 0, 2, 6, 14, 14, 62, 14, 254, 510, 127, 2047] (by kernel_rfl) ?_; replace H := H.drew; simp only [segL, List.take_succ_cons, List.take_zero, List.drop_succ_cons, List.drop_zero]; have H0 := H
    repeat' (first | refine Z H ?_ | (refine Zc ?_ ?_ <;> intro hc <;> first | (exfalso; omega) | skip) | (refine Y ?_; try change C _ _ _ _ _ _) | (refine Zs H ?_; clear H; (try clear w); intro w H) | (refine Zn H ?_; clear H; (try clear w); (first | ((fail_if_success (have := bl1)); intro bl1 w H) | ((fail_if_success (have := bl2)); intro bl2 w H) | intro _ w H)) | (refine Ze H ?_; clear H; (try clear w); intro gv w H))
    (refine X.call (May20_s (x := ⟨(x5 : Int), (x6 : Int), xv, (x11 : Int)⟩) H) ?_; (try clear H); rintro _ w ⟨rfl, H⟩; refine ⟨_, rfl, ?_⟩); refine L.nil ?_; refine ⟨rfl, rfl, (by repeat (first | exact subN_nil | refine subN_cons (by simp) ?_)), (by first | exact keep_same | (repeat (first | exact keepV H0 H | exact keepP H0 H | exact keep_nil | refine keep_cons ?_ ?_))), ?_⟩; clear H0; have H0 := H
    have hse : secE n ⟨(x5 : Int), (x6 : Int), xv, (x11 : Int)⟩ = secN n x5 x6 xv x11 := by simp [secE]
    rw [hse]
    cases hva : En.valid ⟨(x5 : Int), (x6 : Int), xv, (x11 : Int)⟩ with
    | false =>
      rw [if_neg (fun h => by cases h.1)]
      repeat' (first | refine Z H ?_ | (refine Zc ?_ ?_ <;> intro hc <;> first | (exfalso; omega) | skip) | (refine Y ?_; try change C _ _ _ _ _ _) | (refine Zs H ?_; clear H; (try clear w); intro w H) | (refine Zn H ?_; clear H; (try clear w); (first | ((fail_if_success (have := bl1)); intro bl1 w H) | ((fail_if_success (have := bl2)); intro bl2 w H) | intro _ w H)) | (refine Ze H ?_; clear H; (try clear w); intro gv w H))
      refine ⟨rfl, rfl, (by repeat (first | exact subN_nil | refine subN_cons (by simp) ?_)), (by first | exact keep_same | (repeat (first | exact keepV H0 H | exact keepP H0 H | exact keep_nil | refine keep_cons ?_ ?_))), ?_⟩; clear H0; have H0 := H
      repeat' (first | refine Z H ?_ | (refine Zc ?_ ?_ <;> intro hc <;> first | (exfalso; omega) | skip) | (refine Y ?_; try change C _ _ _ _ _ _) | (refine Zs H ?_; clear H; (try clear w); intro w H) | (refine Zn H ?_; clear H; (try clear w); (first | ((fail_if_success (have := bl1)); intro bl1 w H) | ((fail_if_success (have := bl2)); intro bl2 w H) | intro _ w H)) | (refine Ze H ?_; clear H; (try clear w); intro gv w H))
      refine ⟨rfl, rfl, (by repeat (first | exact subN_nil | refine subN_cons (by simp) ?_)), (by first | exact keep_same | (repeat (first | exact keepV H0 H | exact keepP H0 H | exact keep_nil | refine keep_cons ?_ ?_))), ?_⟩; clear H0; have H0 := H
      repeat' (first | refine Z H ?_ | (refine Zc ?_ ?_ <;> intro hc <;> first | (exfalso; omega) | skip) | (refine Y ?_; try change C _ _ _ _ _ _) | (refine Zs H ?_; clear H; (try clear w); intro w H) | (refine Zn H ?_; clear H; (try clear w); (first | ((fail_if_success (have := bl1)); intro bl1 w H) | ((fail_if_success (have := bl2)); intro bl2 w H) | intro _ w H)) | (refine Ze H ?_; clear H; (try clear w); intro gv w H))
      exact ⟨_, resVT H rfl, s1, rfl, hs1, H.tail.tail⟩
    | true =>
      repeat' (first | refine Z H ?_ | (refine Zc ?_ ?_ <;> intro hc <;> first | (exfalso; omega) | skip) | (refine Y ?_; try change C _ _ _ _ _ _) | (refine Zs H ?_; clear H; (try clear w); intro w H) | (refine Zn H ?_; clear H; (try clear w); (first | ((fail_if_success (have := bl1)); intro bl1 w H) | ((fail_if_success (have := bl2)); intro bl2 w H) | intro _ w H)) | (refine Ze H ?_; clear H; (try clear w); intro gv w H))
      (refine X.call (Sector20_s (n := n) (k := x5) (p := x6) (v := xv) (c := x11) H hn (by omega) (by omega) hv (by omega)) ?_; (try clear H); rintro _ w ⟨s2, rfl, hs2, H⟩; refine ⟨_, rfl, ?_⟩); refine L.nil ?_; refine ⟨rfl, rfl, (by repeat (first | exact subN_nil | refine subN_cons (by simp) ?_)), (by first | exact keep_same | (repeat (first | exact keepV H0 H | exact keepP H0 H | exact keep_nil | refine keep_cons ?_ ?_))), ?_⟩; clear H0; have H0 := H
      by_cases heq : secN n x5 x6 xv x11 = l
      · rw [if_pos ⟨rfl, heq⟩, heq]
        repeat' (first | (refine J.eqS (fun _ => ?_) (fun hc => absurd rfl hc)) | refine Z H ?_ | (refine Zc ?_ ?_ <;> intro hc <;> first | (exfalso; omega) | skip) | (refine Y ?_; try change C _ _ _ _ _ _) | (refine Zs H ?_; clear H; (try clear w); intro w H) | (refine Zn H ?_; clear H; (try clear w); (first | ((fail_if_success (have := bl1)); intro bl1 w H) | ((fail_if_success (have := bl2)); intro bl2 w H) | intro _ w H)) | (refine Ze H ?_; clear H; (try clear w); intro gv w H))
        refine ⟨rfl, rfl, (by repeat (first | exact subN_nil | refine subN_cons (by simp) ?_)), (by first | exact keep_same | (repeat (first | exact keepV H0 H | exact keepP H0 H | exact keep_nil | refine keep_cons ?_ ?_))), ?_⟩; clear H0; have H0 := H
        repeat' (first | refine Z H ?_ | (refine Zc ?_ ?_ <;> intro hc <;> first | (exfalso; omega) | skip) | (refine Y ?_; try change C _ _ _ _ _ _) | (refine Zs H ?_; clear H; (try clear w); intro w H) | (refine Zn H ?_; clear H; (try clear w); (first | ((fail_if_success (have := bl1)); intro bl1 w H) | ((fail_if_success (have := bl2)); intro bl2 w H) | intro _ w H)) | (refine Ze H ?_; clear H; (try clear w); intro gv w H))
        exact ⟨_, resVT H rfl, s2, rfl, hs1.trans hs2, H.tail.tail⟩
      · rw [if_neg (fun h => heq h.2)]
        repeat' (first | (refine J.eqS (fun hc => absurd (bst_inj hc) heq) (fun _ => ?_)) | refine Z H ?_ | (refine Zc ?_ ?_ <;> intro hc <;> first | (exfalso; omega) | skip) | (refine Y ?_; try change C _ _ _ _ _ _) | (refine Zs H ?_; clear H; (try clear w); intro w H) | (refine Zn H ?_; clear H; (try clear w); (first | ((fail_if_success (have := bl1)); intro bl1 w H) | ((fail_if_success (have := bl2)); intro bl2 w H) | intro _ w H)) | (refine Ze H ?_; clear H; (try clear w); intro gv w H))
        refine ⟨rfl, rfl, (by repeat (first | exact subN_nil | refine subN_cons (by simp) ?_)), (by first | exact keep_same | (repeat (first | exact keepV H0 H | exact keepP H0 H | exact keep_nil | refine keep_cons ?_ ?_))), ?_⟩; clear H0; have H0 := H
        repeat' (first | refine Z H ?_ | (refine Zc ?_ ?_ <;> intro hc <;> first | (exfalso; omega) | skip) | (refine Y ?_; try change C _ _ _ _ _ _) | (refine Zs H ?_; clear H; (try clear w); intro w H) | (refine Zn H ?_; clear H; (try clear w); (first | ((fail_if_success (have := bl1)); intro bl1 w H) | ((fail_if_success (have := bl2)); intro bl2 w H) | intro _ w H)) | (refine Ze H ?_; clear H; (try clear w); intro gv w H))
        exact ⟨_, resVT H rfl, s2, rfl, hs1.trans hs2, H.tail.tail⟩
end
end Go.Proofs.YtbknpbihgfphaaaDoor
