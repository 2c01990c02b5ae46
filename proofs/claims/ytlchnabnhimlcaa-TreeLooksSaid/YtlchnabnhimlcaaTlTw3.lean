/- package tree, walked: a block that no file has; whether a node fits. -/
import Derived.Test.YtlchnabnhimlcaaTlTc
set_option linter.unusedSimpArgs false
set_option linter.unusedVariables false
namespace Go.Proofs.Ytlchnabnhimlcaa
open Go Go.RowKit Go.Own
section
variable {s : Ro} {w : World} {R : List Asn} {b : Nat} {t : TR}
set_option maxRecDepth 100000 in
set_option maxHeartbeats 1000000 in
theorem unused_s (H : Holds s w (var b 34 t.cells :: R)) (ht : t.Ok) : Calls Try.prog 60 #[.pointer (some ⟨b, 0, none⟩)] w fun e w' => e = .returned (.int .i64 (unusedM t : Int)) ∧ Holds s w' (var b 34 t.cells :: R) := by
  refine enter Try.func60 rfl Try.ntmps60 rfl ?_
  have hnd := TR.nodes ht
  have hl48 := TR.nd_len ht
  repeat' (first | (refine C.scope ?_) | (refine C.label ?_; try change C _ _ _ _ _ _) | (refine X.lenL ?_) | (refine X.lv H ?_) | (refine X.lp H ?_) | (refine X.eqL ?_ ?_ <;> intro hc <;> first | (exfalso; first | exact absurd hc (by assumption) | exact absurd (by assumption) hc) | skip) | refine Z H ?_ | (refine Zc ?_ ?_ <;> intro hc <;> first | (exfalso; omega) | skip) | (refine Y ?_; try change C _ _ _ _ _ _) | (refine Zs H ?_; clear H; (try clear w); intro w H) | (refine Zn H ?_; clear H; (try clear w); intro _ w H) | (refine Ze H ?_; clear H; (try clear w); intro gv w H))
  refine C.loopH H [2, 3, 5, 6, 7, 8, 9, 10, 11, 12, 13, 14, 15, 16, 17, 18, 19, 20, 21, 22, 23, 24, 25, 26, 27, 28, 29, 30] [3] rfl (fun m vs => ∃ i : Nat, m = 9 - i ∧ 1 ≤ i ∧ i ≤ 9 ∧ vs = [.int .i64 (i : Int)] ∧ unusedFrom t (9 - i) i = unusedM t) 8 ⟨1, rfl, by omega, by omega, rfl, rfl⟩ ?_
  clear H
  rintro m vs hv w ⟨i, rfl, hi1, hi, rfl, hr⟩ H
  by_cases hlt : i < 9
  rotate_left
  · obtain rfl : i = 9 := by omega
    repeat' (first | (refine X.lenL ?_) | (refine X.lv H ?_) | (refine X.lp H ?_) | (refine X.eqL ?_ ?_ <;> intro hc <;> first | (exfalso; first | exact absurd hc (by assumption) | exact absurd (by assumption) hc) | skip) | refine Z H ?_ | (refine Zc ?_ ?_ <;> intro hc <;> first | (exfalso; omega) | skip) | (refine Y ?_; try change C _ _ _ _ _ _) | (refine Zs H ?_; clear H; (try clear w); intro w H) | (refine Zn H ?_; clear H; (try clear w); intro _ w H) | (refine Ze H ?_; clear H; (try clear w); intro gv w H))
    exact ⟨_, resT rfl, by rw [← hr]; rfl, H⟩
  rw [show 9 - i = (8 - i) + 1 by omega, unusedFrom] at hr
  repeat' (first | (refine X.lenL ?_) | (refine X.lv H ?_) | (refine X.lp H ?_) | (refine X.eqL ?_ ?_ <;> intro hc <;> first | (exfalso; first | exact absurd hc (by assumption) | exact absurd (by assumption) hc) | skip) | refine Z H ?_ | (refine Zc ?_ ?_ <;> intro hc <;> first | (exfalso; omega) | skip) | (refine Y ?_; try change C _ _ _ _ _ _) | (refine Zs H ?_; clear H; (try clear w); intro w H) | (refine Zn H ?_; clear H; (try clear w); intro _ w H) | (refine Ze H ?_; clear H; (try clear w); intro gv w H))
  refine C.loopH H [5, 14, 15, 16, 17, 18, 19, 20, 21, 22, 23, 24, 25, 26, 27, 28, 29] [14] rfl (fun m vs => ∃ j : Nat, m = 8 - j ∧ j ≤ 8 ∧ vs = [.int .i64 (j : Int)] ∧ (t.nd.take j).any (fun n => decide (n.b0 = (i : Int) ∨ n.b1 = (i : Int))) = false) 8 ⟨0, rfl, by omega, rfl, by simp⟩ ?_
  clear H
  rintro m vs hv1 w ⟨j, rfl, hj, rfl, ha⟩ H
  by_cases hjl : j < 8
  rotate_left
  · obtain rfl : j = 8 := by omega
    rw [List.take_of_length_le (by rw [ht.n8]; omega)] at ha
    rw [if_neg (by rw [hasB, ha]; simp)] at hr
    repeat' (first | (refine X.lenL ?_) | (refine X.lv H ?_) | (refine X.lp H ?_) | (refine X.eqL ?_ ?_ <;> intro hc <;> first | (exfalso; first | exact absurd hc (by assumption) | exact absurd (by assumption) hc) | skip) | refine Z H ?_ | (refine Zc ?_ ?_ <;> intro hc <;> first | (exfalso; omega) | skip) | (refine Y ?_; try change C _ _ _ _ _ _) | (refine Zs H ?_; clear H; (try clear w); intro w H) | (refine Zn H ?_; clear H; (try clear w); intro _ w H) | (refine Ze H ?_; clear H; (try clear w); intro gv w H))
    exact ⟨_, resT rfl, by rw [← hr]; rfl, H⟩
  have hn := TR.nodeL ht hjl
  have hmem : t.n j ∈ t.nd := by rw [TR.n_get ht hjl]; exact List.getElem_mem _
  have htk : (t.nd.take (j + 1)).any (fun n => decide (n.b0 = (i : Int) ∨ n.b1 = (i : Int))) = decide ((t.n j).b0 = (i : Int) ∨ (t.n j).b1 = (i : Int)) := by
    rw [List.take_succ_eq_append_getElem (by rw [ht.n8]; exact hjl), ← TR.n_get ht hjl, List.any_append, ha]
    simp
  by_cases hb : (t.n j).b0 = (i : Int) ∨ (t.n j).b1 = (i : Int)
  · rw [if_pos (by rw [hasB, List.any_eq_true]; exact ⟨_, hmem, by simpa using hb⟩)] at hr
    repeat' (first | (refine X.ixP j ?_ hn hjl) | (refine K.iaA (i := 0) rfl rfl rfl rfl rfl (by decide) ?_) | (refine K.iaA (i := 1) rfl rfl rfl rfl rfl (by decide) ?_) | (refine X.lenL ?_) | (refine X.lv H ?_) | (refine X.lp H ?_) | (refine X.eqL ?_ ?_ <;> intro hc <;> first | (exfalso; first | exact absurd hc (by assumption) | exact absurd (by assumption) hc) | skip) | refine Z H ?_ | (refine Zc ?_ ?_ <;> intro hc <;> first | (exfalso; omega) | skip) | (refine Y ?_; try change C _ _ _ _ _ _) | (refine Zs H ?_; clear H; (try clear w); intro w H) | (refine Zn H ?_; clear H; (try clear w); intro _ w H) | (refine Ze H ?_; clear H; (try clear w); intro gv w H))
    all_goals exact ⟨by (repeat (first | exact Agr.refl | exact Agr.hav | refine Agr.upd rfl ?_ | refine Agr.in rfl ?_)), 9 - (i + 1), by omega, ⟨i + 1, rfl, by omega, by omega, rfl, by rw [← hr]; congr 1; omega⟩, H.tail⟩
  · repeat' (first | (refine X.ixP j ?_ hn hjl) | (refine K.iaA (i := 0) rfl rfl rfl rfl rfl (by decide) ?_) | (refine K.iaA (i := 1) rfl rfl rfl rfl rfl (by decide) ?_) | (refine X.lenL ?_) | (refine X.lv H ?_) | (refine X.lp H ?_) | (refine X.eqL ?_ ?_ <;> intro hc <;> first | (exfalso; first | exact absurd hc (by assumption) | exact absurd (by assumption) hc) | skip) | refine Z H ?_ | (refine Zc ?_ ?_ <;> intro hc <;> first | (exfalso; omega) | skip) | (refine Y ?_; try change C _ _ _ _ _ _) | (refine Zs H ?_; clear H; (try clear w); intro w H) | (refine Zn H ?_; clear H; (try clear w); intro _ w H) | (refine Ze H ?_; clear H; (try clear w); intro gv w H))
    exact ⟨by (repeat (first | exact Agr.refl | exact Agr.hav | refine Agr.upd rfl ?_ | refine Agr.in rfl ?_)), 8 - (j + 1), by omega, ⟨j + 1, rfl, by omega, rfl, by rw [htk]; simpa using hb⟩, H.tail⟩
set_option maxRecDepth 100000 in
set_option maxHeartbeats 1000000 in
theorem nodeFits_s {i : Nat} (H : Holds s w (var b 34 t.cells :: R)) (ht : t.Ok) (hi : i < 8) : Calls Try.prog 37 #[.pointer (some ⟨b, 0, none⟩), .int .i64 (i : Int)] w fun e w' => e = .returned (.bool (decide (Fits t i))) ∧ Holds s w' (var b 34 t.cells :: R) := by
  refine enter Try.func37 rfl Try.ntmps37 rfl ?_
  have hn := TR.node ht hi
  repeat' (first | (refine K.iaA (i := i) rfl rfl rfl rfl (by omega) hi ?_) | (refine X.lenL ?_) | (refine X.lv H ?_) | (refine X.lp H ?_) | (refine X.eqL ?_ ?_ <;> intro hc <;> first | (exfalso; first | exact absurd hc (by assumption) | exact absurd (by assumption) hc) | skip) | ((fail_if_success (with_reducible show C _ _ _ (Code.seq (Code.seq (Code.region 2 _ _) _) _) _ _)); refine Z H ?_) | (refine Zc ?_ ?_ <;> intro hc <;> first | (exfalso; omega) | skip) | (refine Y ?_; try change C _ _ _ _ _ _) | (refine Zs H ?_; clear H; (try clear w); intro w H) | (refine Zn H ?_; clear H; (try clear w); (first | ((fail_if_success (have := bl1)); intro bl1 w H) | intro _ w H)) | (refine Ze H ?_; clear H; (try clear w); intro gv w H))
  refine C.cut [4, 14, 15, 16, 17, 18, 19, 20, 21, 22, 23, 24, 25, 26, 27, 28, 29, 30, 31, 32] [] rfl (fun vs w => 0 ≤ (t.n i).parent ∧ (t.n i).parent < 8 ∧ (t.n (t.n i).parent.toNat).kind = 1 ∧ Holds s w (var bl1 29 (t.n i).cells :: var b 34 t.cells :: R)) ?_ ?_
  · by_cases hp : 0 ≤ (t.n i).parent ∧ (t.n i).parent < 8
    · obtain ⟨hp0, hp8⟩ := hp
      obtain ⟨p, hpp⟩ : ∃ p : Nat, (t.n i).parent = p := ⟨(t.n i).parent.toNat, by omega⟩
      have hkp := TR.cell0 ht (i := p) (by omega)
      have hpt : (t.n i).parent.toNat = p := by omega
      by_cases hk : (t.n p).kind = 1
      · repeat' (first | refine Z H ?_ | (refine Zc ?_ ?_ <;> intro hc <;> first | (exfalso; omega) | skip) | (refine Y ?_; try change C _ _ _ _ _ _) | (refine Zs H ?_; clear H; (try clear w); intro w H) | (refine Zn H ?_; clear H; (try clear w); (first | ((fail_if_success (have := bl1)); intro bl1 w H) | intro _ w H)) | (refine Ze H ?_; clear H; (try clear w); intro gv w H))
        refine C.drawn1 [0, 1, 0, 0, 0, 1, 0, 0, 0, 0, 0, 1, 0, 0, 0, 0, 1, 0, 0] [0, 1, 3, 7, 15, 31, 63, 127, 255, 511, 511, 1535, 1023, 5119, 16383, 32767, 65535, 131071, 262143] (by kernel_rfl) ?_; replace H := H.drew
        repeat' (first | (refine K.iaA (i := p) rfl rfl rfl rfl hpp (by omega) ?_) | (refine X.lenL ?_) | (refine X.lv H ?_) | (refine X.lp H ?_) | (refine X.eqL ?_ ?_ <;> intro hc <;> first | (exfalso; first | exact absurd hc (by assumption) | exact absurd (by assumption) hc) | skip) | refine Z H ?_ | (refine Zc ?_ ?_ <;> intro hc <;> first | (exfalso; omega) | skip) | (refine Y ?_; try change C _ _ _ _ _ _) | (refine Zs H ?_; clear H; (try clear w); intro w H) | (refine Zn H ?_; clear H; (try clear w); (first | ((fail_if_success (have := bl1)); intro bl1 w H) | intro _ w H)) | (refine Ze H ?_; clear H; (try clear w); intro gv w H))
        exact ⟨by (repeat (first | exact Agr.refl | exact Agr.hav | refine Agr.upd rfl ?_ | refine Agr.in rfl ?_)), hp0, hp8, by rw [hpt]; exact hk, H⟩
      · repeat' (first | refine Z H ?_ | (refine Zc ?_ ?_ <;> intro hc <;> first | (exfalso; omega) | skip) | (refine Y ?_; try change C _ _ _ _ _ _) | (refine Zs H ?_; clear H; (try clear w); intro w H) | (refine Zn H ?_; clear H; (try clear w); (first | ((fail_if_success (have := bl1)); intro bl1 w H) | intro _ w H)) | (refine Ze H ?_; clear H; (try clear w); intro gv w H))
        refine C.drawn1 [0, 1, 0, 0, 0, 1, 0, 0, 0, 0, 0, 1, 0, 0, 0, 0, 1, 0, 0] [0, 1, 3, 7, 15, 31, 63, 127, 255, 511, 511, 1535, 1023, 5119, 16383, 32767, 65535, 131071, 262143] (by kernel_rfl) ?_; replace H := H.drew
        repeat' (first | (refine K.iaA (i := p) rfl rfl rfl rfl hpp (by omega) ?_) | (refine X.lenL ?_) | (refine X.lv H ?_) | (refine X.lp H ?_) | (refine X.eqL ?_ ?_ <;> intro hc <;> first | (exfalso; first | exact absurd hc (by assumption) | exact absurd (by assumption) hc) | skip) | refine Z H ?_ | (refine Zc ?_ ?_ <;> intro hc <;> first | (exfalso; omega) | skip) | (refine Y ?_; try change C _ _ _ _ _ _) | (refine Zs H ?_; clear H; (try clear w); intro w H) | (refine Zn H ?_; clear H; (try clear w); (first | ((fail_if_success (have := bl1)); intro bl1 w H) | intro _ w H)) | (refine Ze H ?_; clear H; (try clear w); intro gv w H))
        exact ⟨_, resT rfl, by rw [decide_eq_false (fun h => hk (by have := h.2.2.1; rwa [hpt] at this))]; rfl, H.tail⟩
    · repeat' (first | refine Z H ?_ | (refine Zc ?_ ?_ <;> intro hc <;> first | (exfalso; omega) | skip) | (refine Y ?_; try change C _ _ _ _ _ _) | (refine Zs H ?_; clear H; (try clear w); intro w H) | (refine Zn H ?_; clear H; (try clear w); (first | ((fail_if_success (have := bl1)); intro bl1 w H) | intro _ w H)) | (refine Ze H ?_; clear H; (try clear w); intro gv w H))
      refine C.drawn1 [0, 1, 0, 0, 0, 1, 0, 0, 0, 0, 0, 1, 0, 0, 0, 0, 1, 0, 0] [0, 1, 3, 7, 15, 31, 63, 127, 255, 511, 511, 1535, 1023, 5119, 16383, 32767, 65535, 131071, 262143] (by kernel_rfl) ?_; replace H := H.drew
      repeat' (first | (refine X.lenL ?_) | (refine X.lv H ?_) | (refine X.lp H ?_) | (refine X.eqL ?_ ?_ <;> intro hc <;> first | (exfalso; first | exact absurd hc (by assumption) | exact absurd (by assumption) hc) | skip) | refine Z H ?_ | (refine Zc ?_ ?_ <;> intro hc <;> first | (exfalso; omega) | skip) | (refine Y ?_; try change C _ _ _ _ _ _) | (refine Zs H ?_; clear H; (try clear w); intro w H) | (refine Zn H ?_; clear H; (try clear w); (first | ((fail_if_success (have := bl1)); intro bl1 w H) | intro _ w H)) | (refine Ze H ?_; clear H; (try clear w); intro gv w H))
      all_goals exact ⟨_, resT rfl, by rw [decide_eq_false (fun h => hp ⟨h.1, h.2.1⟩)]; rfl, H.tail⟩
  clear H
  rintro vs hv w ⟨hp0, hp8, hk, H⟩
  by_cases hnm : isNameM (t.n i).name = true
  rotate_left
  · have hnf : isNameM (t.n i).name = false := by simpa using hnm
    repeat' (first | (refine X.lenL ?_) | (refine X.lv H ?_) | (refine X.lp H ?_) | (refine X.eqL ?_ ?_ <;> intro hc <;> first | (exfalso; first | exact absurd hc (by assumption) | exact absurd (by assumption) hc) | skip) | refine Z H ?_ | (refine Zc ?_ ?_ <;> intro hc <;> first | (exfalso; omega) | skip) | (refine Y ?_; try change C _ _ _ _ _ _) | (refine Zs H ?_; clear H; (try clear w); intro w H) | (refine Zn H ?_; clear H; (try clear w); (first | ((fail_if_success (have := bl1)); intro bl1 w H) | intro _ w H)) | (refine Ze H ?_; clear H; (try clear w); intro gv w H))
    have hN := isName_s (l := (t.n i).name) H
    rw [hnf] at hN
    (refine X.call (hN) ?_; (try clear H); rintro _ w ⟨rfl, H⟩; refine ⟨_, rfl, ?_⟩)
    clear hN
    repeat' (first | (refine X.lenL ?_) | (refine X.lv H ?_) | (refine X.lp H ?_) | (refine X.eqL ?_ ?_ <;> intro hc <;> first | (exfalso; first | exact absurd hc (by assumption) | exact absurd (by assumption) hc) | skip) | refine Z H ?_ | (refine Zc ?_ ?_ <;> intro hc <;> first | (exfalso; omega) | skip) | (refine Y ?_; try change C _ _ _ _ _ _) | (refine Zs H ?_; clear H; (try clear w); intro w H) | (refine Zn H ?_; clear H; (try clear w); (first | ((fail_if_success (have := bl1)); intro bl1 w H) | intro _ w H)) | (refine Ze H ?_; clear H; (try clear w); intro gv w H))
    exact ⟨_, resT rfl, by rw [decide_eq_false (fun h => hnm h.2.2.2.1)]; rfl, H.tail⟩
  repeat' (first | (refine X.lenL ?_) | (refine X.lv H ?_) | (refine X.lp H ?_) | (refine X.eqL ?_ ?_ <;> intro hc <;> first | (exfalso; first | exact absurd hc (by assumption) | exact absurd (by assumption) hc) | skip) | refine Z H ?_ | (refine Zc ?_ ?_ <;> intro hc <;> first | (exfalso; omega) | skip) | (refine Y ?_; try change C _ _ _ _ _ _) | (refine Zs H ?_; clear H; (try clear w); intro w H) | (refine Zn H ?_; clear H; (try clear w); (first | ((fail_if_success (have := bl1)); intro bl1 w H) | intro _ w H)) | (refine Ze H ?_; clear H; (try clear w); intro gv w H))
  have hN := isName_s (l := (t.n i).name) H
  rw [hnm] at hN
  (refine X.call (hN) ?_; (try clear H); rintro _ w ⟨rfl, H⟩; refine ⟨_, rfl, ?_⟩)
  clear hN
  repeat' (first | (refine X.lenL ?_) | (refine X.lv H ?_) | (refine X.lp H ?_) | (refine X.eqL ?_ ?_ <;> intro hc <;> first | (exfalso; first | exact absurd hc (by assumption) | exact absurd (by assumption) hc) | skip) | refine Z H ?_ | (refine Zc ?_ ?_ <;> intro hc <;> first | (exfalso; omega) | skip) | (refine Y ?_; try change C _ _ _ _ _ _) | (refine Zs H ?_; clear H; (try clear w); intro w H) | (refine Zn H ?_; clear H; (try clear w); (first | ((fail_if_success (have := bl1)); intro bl1 w H) | intro _ w H)) | (refine Ze H ?_; clear H; (try clear w); intro gv w H))
  have H1 := H.up 1 rfl
  clear H
  have H : Holds s _ (var b 34 t.cells :: var bl1 29 (t.n i).cells :: R) := H1
  clear H1
  have hR := rooted_s (i := i) H ht hi
  by_cases hr : rootedM t i = true
  rotate_left
  · rw [show rootedM t i = false by simpa using hr] at hR
    (refine X.call (hR) ?_; (try clear H); rintro _ w ⟨rfl, H⟩; refine ⟨_, rfl, ?_⟩)
    clear hR
    repeat' (first | (refine X.lenL ?_) | (refine X.lv H ?_) | (refine X.lp H ?_) | (refine X.eqL ?_ ?_ <;> intro hc <;> first | (exfalso; first | exact absurd hc (by assumption) | exact absurd (by assumption) hc) | skip) | refine Z H ?_ | (refine Zc ?_ ?_ <;> intro hc <;> first | (exfalso; omega) | skip) | (refine Y ?_; try change C _ _ _ _ _ _) | (refine Zs H ?_; clear H; (try clear w); intro w H) | (refine Zn H ?_; clear H; (try clear w); (first | ((fail_if_success (have := bl1)); intro bl1 w H) | intro _ w H)) | (refine Ze H ?_; clear H; (try clear w); intro gv w H))
    exact ⟨_, resT rfl, by rw [decide_eq_false (fun h => hr h.2.2.2.2.1)]; rfl, (H.up 1 rfl).tail⟩
  rw [hr] at hR
  (refine X.call (hR) ?_; (try clear H); rintro _ w ⟨rfl, H⟩; refine ⟨_, rfl, ?_⟩)
  clear hR
  have H1 := H.up 1 rfl
  clear H
  have H : Holds s _ (var bl1 29 (t.n i).cells :: var b 34 t.cells :: R) := H1
  clear H1
  have hff : ∀ {x : Bool}, decide (Shaped (t.n i)) = x → decide (Fits t i) = x := fun h => by
    rw [← h]
    exact decide_eq_decide.2 ⟨fun h => h.2.2.2.2.2, fun h => ⟨hp0, hp8, hk, hnm, hr, h⟩⟩
  have hB : ∀ {x : Bool}, decide (Shaped (t.n i)) = x → decide (Fits t i) = x := hff
  clear hff
  by_cases h1 : (t.n i).kind = 1
  · by_cases h2 : (t.n i).size = 0
    · by_cases h3 : (t.n i).b0 = 0 ∧ (t.n i).b1 = 0
      · repeat' (first | (refine X.ldp [.int .i64 (t.n i).b0, .int .i64 (t.n i).b1] H ?_) | (refine K.build [] _ build_blk0 rfl rfl rfl ?_) | (refine X.eqA (eq_blk 9998 (t.n i).b0 (t.n i).b1 0 0) guard_blk ?_) | (refine X.lenL ?_) | (refine X.lv H ?_) | (refine X.lp H ?_) | (refine X.eqL ?_ ?_ <;> intro hc <;> first | (exfalso; first | exact absurd hc (by assumption) | exact absurd (by assumption) hc) | skip) | refine Z H ?_ | (refine Zc ?_ ?_ <;> intro hc <;> first | (exfalso; omega) | skip) | (refine Y ?_; try change C _ _ _ _ _ _) | (refine Zs H ?_; clear H; (try clear w); intro w H) | (refine Zn H ?_; clear H; (try clear w); (first | ((fail_if_success (have := bl1)); intro bl1 w H) | intro _ w H)) | (refine Ze H ?_; clear H; (try clear w); intro gv w H))
        exact ⟨_, resT rfl, by rw [hB (decide_eq_true (.inl ⟨h1, h2, h3⟩))]; show Ending.returned (Value.bool (decide _)) = _; rw [decide_eq_true h3], H.tail⟩
      · repeat' (first | (refine X.ldp [.int .i64 (t.n i).b0, .int .i64 (t.n i).b1] H ?_) | (refine K.build [] _ build_blk0 rfl rfl rfl ?_) | (refine X.eqA (eq_blk 9998 (t.n i).b0 (t.n i).b1 0 0) guard_blk ?_) | (refine X.lenL ?_) | (refine X.lv H ?_) | (refine X.lp H ?_) | (refine X.eqL ?_ ?_ <;> intro hc <;> first | (exfalso; first | exact absurd hc (by assumption) | exact absurd (by assumption) hc) | skip) | refine Z H ?_ | (refine Zc ?_ ?_ <;> intro hc <;> first | (exfalso; omega) | skip) | (refine Y ?_; try change C _ _ _ _ _ _) | (refine Zs H ?_; clear H; (try clear w); intro w H) | (refine Zn H ?_; clear H; (try clear w); (first | ((fail_if_success (have := bl1)); intro bl1 w H) | intro _ w H)) | (refine Ze H ?_; clear H; (try clear w); intro gv w H))
        exact ⟨_, resT rfl, by rw [hB (decide_eq_false (by rintro (⟨_, _, h⟩ | ⟨h, _⟩) <;> omega))]; show Ending.returned (Value.bool (decide _)) = _; rw [decide_eq_false h3], H.tail⟩
    · repeat' (first | (refine X.lenL ?_) | (refine X.lv H ?_) | (refine X.lp H ?_) | (refine X.eqL ?_ ?_ <;> intro hc <;> first | (exfalso; first | exact absurd hc (by assumption) | exact absurd (by assumption) hc) | skip) | refine Z H ?_ | (refine Zc ?_ ?_ <;> intro hc <;> first | (exfalso; omega) | skip) | (refine Y ?_; try change C _ _ _ _ _ _) | (refine Zs H ?_; clear H; (try clear w); intro w H) | (refine Zn H ?_; clear H; (try clear w); (first | ((fail_if_success (have := bl1)); intro bl1 w H) | intro _ w H)) | (refine Ze H ?_; clear H; (try clear w); intro gv w H))
      exact ⟨_, resT rfl, by rw [hB (decide_eq_false (by rintro (⟨_, h, _⟩ | ⟨h, _⟩) <;> omega))]; rfl, H.tail⟩
  by_cases h2 : (t.n i).kind = 2
  rotate_left
  · repeat' (first | (refine X.lenL ?_) | (refine X.lv H ?_) | (refine X.lp H ?_) | (refine X.eqL ?_ ?_ <;> intro hc <;> first | (exfalso; first | exact absurd hc (by assumption) | exact absurd (by assumption) hc) | skip) | refine Z H ?_ | (refine Zc ?_ ?_ <;> intro hc <;> first | (exfalso; omega) | skip) | (refine Y ?_; try change C _ _ _ _ _ _) | (refine Zs H ?_; clear H; (try clear w); intro w H) | (refine Zn H ?_; clear H; (try clear w); (first | ((fail_if_success (have := bl1)); intro bl1 w H) | intro _ w H)) | (refine Ze H ?_; clear H; (try clear w); intro gv w H))
    exact ⟨_, resT rfl, by rw [hB (decide_eq_false (by rintro (⟨h, _⟩ | ⟨h, _⟩) <;> omega))]; rfl, H.tail⟩
  by_cases h3 : 0 ≤ (t.n i).size ∧ (t.n i).size ≤ 80
  rotate_left
  · repeat' (first | (refine X.lenL ?_) | (refine X.lv H ?_) | (refine X.lp H ?_) | (refine X.eqL ?_ ?_ <;> intro hc <;> first | (exfalso; first | exact absurd hc (by assumption) | exact absurd (by assumption) hc) | skip) | refine Z H ?_ | (refine Zc ?_ ?_ <;> intro hc <;> first | (exfalso; omega) | skip) | (refine Y ?_; try change C _ _ _ _ _ _) | (refine Zs H ?_; clear H; (try clear w); intro w H) | (refine Zn H ?_; clear H; (try clear w); (first | ((fail_if_success (have := bl1)); intro bl1 w H) | intro _ w H)) | (refine Ze H ?_; clear H; (try clear w); intro gv w H))
    all_goals exact ⟨_, resT rfl, by rw [hB (decide_eq_false (by rintro (⟨h, _⟩ | ⟨_, h, h', _⟩) <;> omega))]; rfl, H.tail⟩
  obtain ⟨h3, h4⟩ := h3
  repeat' (first | (refine X.ldp [.int .i64 (t.n i).b0, .int .i64 (t.n i).b1] H ?_) | (refine X.lenL ?_) | (refine X.lv H ?_) | (refine X.lp H ?_) | (refine X.eqL ?_ ?_ <;> intro hc <;> first | (exfalso; first | exact absurd hc (by assumption) | exact absurd (by assumption) hc) | skip) | refine Z H ?_ | (refine Zc ?_ ?_ <;> intro hc <;> first | (exfalso; omega) | skip) | (refine Y ?_; try change C _ _ _ _ _ _) | (refine Zs H ?_; clear H; (try clear w); intro w H) | (refine Zn H ?_; clear H; (try clear w); (first | ((fail_if_success (have := bl1)); intro bl1 w H) | intro _ w H)) | (refine Ze H ?_; clear H; (try clear w); intro gv w H))
  refine C.loopH H [4, 6, 7, 68, 69, 70, 71, 72, 73, 74, 75, 76, 77, 78, 79, 80, 81, 82, 83, 84, 85] [68] rfl (fun m vs => ∃ j : Nat, m = 2 - j ∧ j ≤ 2 ∧ vs = [.int .i64 (j : Int)] ∧ (0 < j → ((t.n i).size ≤ 0 → (t.n i).b0 = 0) ∧ (0 < (t.n i).size → 1 ≤ (t.n i).b0 ∧ (t.n i).b0 ≤ 8)) ∧ (1 < j → ((t.n i).size ≤ 40 → (t.n i).b1 = 0) ∧ (40 < (t.n i).size → 1 ≤ (t.n i).b1 ∧ (t.n i).b1 ≤ 8))) 2 ⟨0, rfl, by omega, rfl, fun h => by omega, fun h => by omega⟩ ?_
  clear H
  rintro m vs hv1 w ⟨j, rfl, hj, rfl, q0, q1⟩ H
  rcases (show j = 0 ∨ j = 1 ∨ j = 2 by omega) with rfl | rfl | rfl
  · by_cases hq : ((t.n i).size ≤ 0 → (t.n i).b0 = 0) ∧ (0 < (t.n i).size → 1 ≤ (t.n i).b0 ∧ (t.n i).b0 ≤ 8)
    · repeat' (first | (refine X.ix1 (v := .int .i64 (t.n i).b0) 0 ?_ rfl (by decide)) | (refine J.mul ?_) | (refine X.lenL ?_) | (refine X.lv H ?_) | (refine X.lp H ?_) | (refine X.eqL ?_ ?_ <;> intro hc <;> first | (exfalso; first | exact absurd hc (by assumption) | exact absurd (by assumption) hc) | skip) | refine Z H ?_ | (refine Zc ?_ ?_ <;> intro hc <;> first | (exfalso; omega) | skip) | (refine Y ?_; try change C _ _ _ _ _ _) | (refine Zs H ?_; clear H; (try clear w); intro w H) | (refine Zn H ?_; clear H; (try clear w); (first | ((fail_if_success (have := bl1)); intro bl1 w H) | intro _ w H)) | (refine Ze H ?_; clear H; (try clear w); intro gv w H))
      all_goals exact ⟨by (repeat (first | exact Agr.refl | exact Agr.hav | refine Agr.upd rfl ?_ | refine Agr.in rfl ?_)), 1, by omega, ⟨1, rfl, by omega, rfl, fun _ => hq, fun h => by omega⟩, H⟩
    · repeat' (first | (refine X.ix1 (v := .int .i64 (t.n i).b0) 0 ?_ rfl (by decide)) | (refine J.mul ?_) | (refine X.lenL ?_) | (refine X.lv H ?_) | (refine X.lp H ?_) | (refine X.eqL ?_ ?_ <;> intro hc <;> first | (exfalso; first | exact absurd hc (by assumption) | exact absurd (by assumption) hc) | skip) | refine Z H ?_ | (refine Zc ?_ ?_ <;> intro hc <;> first | (exfalso; omega) | skip) | (refine Y ?_; try change C _ _ _ _ _ _) | (refine Zs H ?_; clear H; (try clear w); intro w H) | (refine Zn H ?_; clear H; (try clear w); (first | ((fail_if_success (have := bl1)); intro bl1 w H) | intro _ w H)) | (refine Ze H ?_; clear H; (try clear w); intro gv w H))
      all_goals first
        | (exfalso; exact hq ⟨fun _ => by omega, fun _ => by omega⟩)
        | exact ⟨_, resT rfl, by rw [hB (decide_eq_false (by rintro (⟨h, _⟩ | ⟨_, _, _, a, b, _⟩) <;> first | omega | exact hq ⟨a, b⟩))]; rfl, H.tail⟩
  · by_cases hq : ((t.n i).size ≤ 40 → (t.n i).b1 = 0) ∧ (40 < (t.n i).size → 1 ≤ (t.n i).b1 ∧ (t.n i).b1 ≤ 8)
    · repeat' (first | (refine X.ix1 (v := .int .i64 (t.n i).b1) 1 ?_ rfl (by decide)) | (refine J.mul ?_) | (refine X.lenL ?_) | (refine X.lv H ?_) | (refine X.lp H ?_) | (refine X.eqL ?_ ?_ <;> intro hc <;> first | (exfalso; first | exact absurd hc (by assumption) | exact absurd (by assumption) hc) | skip) | refine Z H ?_ | (refine Zc ?_ ?_ <;> intro hc <;> first | (exfalso; omega) | skip) | (refine Y ?_; try change C _ _ _ _ _ _) | (refine Zs H ?_; clear H; (try clear w); intro w H) | (refine Zn H ?_; clear H; (try clear w); (first | ((fail_if_success (have := bl1)); intro bl1 w H) | intro _ w H)) | (refine Ze H ?_; clear H; (try clear w); intro gv w H))
      all_goals exact ⟨by (repeat (first | exact Agr.refl | exact Agr.hav | refine Agr.upd rfl ?_ | refine Agr.in rfl ?_)), 0, by omega, ⟨2, rfl, by omega, rfl, fun _ => q0 (by omega), fun _ => hq⟩, H⟩
    · repeat' (first | (refine X.ix1 (v := .int .i64 (t.n i).b1) 1 ?_ rfl (by decide)) | (refine J.mul ?_) | (refine X.lenL ?_) | (refine X.lv H ?_) | (refine X.lp H ?_) | (refine X.eqL ?_ ?_ <;> intro hc <;> first | (exfalso; first | exact absurd hc (by assumption) | exact absurd (by assumption) hc) | skip) | refine Z H ?_ | (refine Zc ?_ ?_ <;> intro hc <;> first | (exfalso; omega) | skip) | (refine Y ?_; try change C _ _ _ _ _ _) | (refine Zs H ?_; clear H; (try clear w); intro w H) | (refine Zn H ?_; clear H; (try clear w); (first | ((fail_if_success (have := bl1)); intro bl1 w H) | intro _ w H)) | (refine Ze H ?_; clear H; (try clear w); intro gv w H))
      all_goals first
        | (exfalso; exact hq ⟨fun _ => by omega, fun _ => by omega⟩)
        | exact ⟨_, resT rfl, by rw [hB (decide_eq_false (by rintro (⟨h, _⟩ | ⟨_, _, _, _, _, a, b⟩) <;> first | omega | exact hq ⟨a, b⟩))]; rfl, H.tail⟩
  · obtain ⟨a0, a1⟩ := q0 (by omega)
    obtain ⟨b0, b1⟩ := q1 (by omega)
    repeat' (first | (refine X.lenL ?_) | (refine X.lv H ?_) | (refine X.lp H ?_) | (refine X.eqL ?_ ?_ <;> intro hc <;> first | (exfalso; first | exact absurd hc (by assumption) | exact absurd (by assumption) hc) | skip) | refine Z H ?_ | (refine Zc ?_ ?_ <;> intro hc <;> first | (exfalso; omega) | skip) | (refine Y ?_; try change C _ _ _ _ _ _) | (refine Zs H ?_; clear H; (try clear w); intro w H) | (refine Zn H ?_; clear H; (try clear w); (first | ((fail_if_success (have := bl1)); intro bl1 w H) | intro _ w H)) | (refine Ze H ?_; clear H; (try clear w); intro gv w H))
    exact ⟨_, resT rfl, by rw [hB (decide_eq_true (.inr ⟨h2, h3, h4, a0, a1, b0, b1⟩))]; rfl, H.tail⟩
end
end Go.Proofs.Ytlchnabnhimlcaa
