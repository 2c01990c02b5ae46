/- Squeezed copy of the texts Tw3 Tw4 Tp. -/
import Derived.Test.YtgilmcpdpggikaaGreatDoorCK9
import Derived.MapKept
import Derived.Carry
set_option maxRecDepth 100000
set_option maxHeartbeats 1000000
set_option linter.unusedSimpArgs false
set_option linter.unusedVariables false
namespace Go.Proofs.YtgilmcpdpggikaaGreatDoor
open Go Go.RowKit Go.Own
section
variable {s : Ro} {w : World} {R : List Asn} {b : Nat} {t : TR}
theorem unused_s (H : Holds s w (var b 41 t.cells :: R)) (ht : t.Ok) : Calls Tryz.prog 98 #[.pointer (some ⟨b, 0, none⟩)] w fun e w' => e = .returned (.int .i64 (unusedM t : Int)) ∧ Holds s w' (var b 41 t.cells :: R) := by
 refine enter Tryz.func98 rfl Tryz.ntmps98 rfl ?_
 have hnd := TR.nodes ht
 have hl48 := TR.nd_len ht
 repeat' (first | (refine C.scope ?_) | (refine C.label ?_; try change C _ _ _ _ _ _) | refine Go2 H ?_ | (refine Gs2 H ?_; clear H; (try clear w); intro w H) | (refine Gn H ?_; clear H; (try clear w); intro _ w H))
 refine C.loopH H [2, 3, 5, 6, 7, 8, 9, 10, 11, 12, 13, 14, 15, 16, 17, 18, 19, 20, 21, 22, 23, 24, 25, 26, 27, 28, 29, 30] [3] rfl (fun m vs => ∃ i : Nat, m = 9 - i ∧ 1 ≤ i ∧ i ≤ 9 ∧ vs = [.int .i64 (i : Int)] ∧ unusedFrom t (9 - i) i = unusedM t) 8 ⟨1, rfl, by omega, by omega, rfl, rfl⟩ ?_
 clear H
 rintro m vs hv w ⟨i, rfl, hi1, hi, rfl, hr⟩ H
 by_cases hlt : i < 9
 rotate_left
 ·obtain rfl : i = 9 := by omega
  refine Gq2 H ?_
  exact ⟨_, resT rfl, by rw [← hr]; rfl, H⟩
 rw [show 9 - i = (8 - i) + 1 by omega, unusedFrom] at hr
 refine Gq2 H ?_
 refine C.loopH H [5, 14, 15, 16, 17, 18, 19, 20, 21, 22, 23, 24, 25, 26, 27, 28, 29] [14] rfl (fun m vs => ∃ j : Nat, m = 8 - j ∧ j ≤ 8 ∧ vs = [.int .i64 (j : Int)] ∧ (t.nd.take j).any (fun n => decide (n.b0 = (i : Int) ∨ n.b1 = (i : Int))) = false) 8 ⟨0, rfl, by omega, rfl, by simp⟩ ?_
 clear H
 rintro m vs hv1 w ⟨j, rfl, hj, rfl, ha⟩ H
 by_cases hjl : j < 8
 rotate_left
 ·obtain rfl : j = 8 := by omega
  rw [List.take_of_length_le (by rw [ht.n8]; omega)] at ha
  rw [if_neg (by rw [hasB, ha]; simp)] at hr
  refine Gq2 H ?_
  exact ⟨_, resT rfl, by rw [← hr]; rfl, H⟩
 have hn := TR.nodeL ht hjl
 have hmem : t.n j ∈ t.nd := by rw [TR.n_get ht hjl]; exact List.getElem_mem _
 have htk : (t.nd.take (j + 1)).any (fun n => decide (n.b0 = (i : Int) ∨ n.b1 = (i : Int))) = decide ((t.n j).b0 = (i : Int) ∨ (t.n j).b1 = (i : Int)) := by
  rw [List.take_succ_eq_append_getElem (by rw [ht.n8]; exact hjl), ← TR.n_get ht hjl, List.any_append, ha]
  simp
 by_cases hb : (t.n j).b0 = (i : Int) ∨ (t.n j).b1 = (i : Int)
 ·rw [if_pos (by rw [hasB, List.any_eq_true]; exact ⟨_, hmem, by simpa using hb⟩)] at hr
  repeat' (first | (refine X.ixP j ?_ hn hjl) | (refine K.iaA (i := 0) rfl rfl rfl rfl rfl (by decide) ?_) | (refine K.iaA (i := 1) rfl rfl rfl rfl rfl (by decide) ?_) | (refine X.lenL ?_) | (refine X.lv H ?_) | (refine X.lp H ?_) | (refine X.eqL ?_ ?_ <;> intro hc <;> first | (exfalso; first | exact absurd hc (by assumption) | exact absurd (by assumption) hc) | skip) | refine Z H ?_ | (refine Zc ?_ ?_ <;> intro hc <;> first | (exfalso; omega) | skip) | (refine Y ?_; try change C _ _ _ _ _ _) | (refine Zs H ?_; clear H; (try clear w); intro w H) | (refine Zn H ?_; clear H; (try clear w); intro _ w H) | (refine Ze H ?_; clear H; (try clear w); intro gv w H))
  all_goals exact ⟨agr, 9 - (i + 1), by omega, ⟨i + 1, rfl, by omega, by omega, rfl, by rw [← hr]; congr 1; omega⟩, H.tail⟩
 ·repeat' (first | (refine X.ixP j ?_ hn hjl) | (refine K.iaA (i := 0) rfl rfl rfl rfl rfl (by decide) ?_) | (refine K.iaA (i := 1) rfl rfl rfl rfl rfl (by decide) ?_) | refine Go2 H ?_ | (refine Gs2 H ?_; clear H; (try clear w); intro w H) | (refine Gn H ?_; clear H; (try clear w); intro _ w H))
  exact ⟨agr, 8 - (j + 1), by omega, ⟨j + 1, rfl, by omega, rfl, by rw [htk]; simpa using hb⟩, H.tail⟩
theorem Go8 {p q : Prop} {s : Ro} {w : World} {rs : List Asn} (H : Holds s w rs) (h : q) (g : Holds s w rs → Wq q → p := by intro H h; (first | refine Z H ?_ | (refine Zc ?_ ?_ <;> intro hc <;> first | (exfalso; omega) | skip) | (refine Y ?_; try change C _ _ _ _ _ _)) <;> exact h.out) : p := g H ⟨h⟩
theorem Gs8 {p q : Prop} {s : Ro} {w : World} {rs : List Asn} (H : Holds s w rs) (h : q) (g : Holds s w rs → Wq q → p := by intro H h; (first | (refine Zs H ?_; clear H; (try clear w); intro w H)) <;> (revert w; exact h.out)) : p := g H ⟨h⟩
theorem Gq8 {p q : Prop} {s : Ro} {w : World} {rs : List Asn} (H : Holds s w rs) (h : q) (g : Holds s w rs → Wq q → p := by intro H h; (repeat' (first | refine Go8 H ?_ | (refine Gs8 H ?_; clear H; (try clear w); intro w H) | (refine Gn H ?_; clear H; (try clear w); intro b w H))) <;> (first | exact h.out | (revert w; exact h.out) | (revert w; revert b; exact h.out))) : p := g H ⟨h⟩
theorem nodeFits_s {i : Nat} (H : Holds s w (var b 41 t.cells :: R)) (ht : t.Ok) (hi : i < 8) : Calls Tryz.prog 48 #[.pointer (some ⟨b, 0, none⟩), .int .i64 (i : Int)] w fun e w' => e = .returned (.bool (decide (Fits t i))) ∧ Holds s w' (var b 41 t.cells :: R) := by
 refine enter Tryz.func48 rfl Tryz.ntmps48 rfl ?_
 have hn := TR.node ht hi
 repeat' (first | (refine K.iaA (i := i) rfl rfl rfl rfl (by omega) hi ?_) | (refine X.lenL ?_) | (refine X.lv H ?_) | (refine X.lp H ?_) | (refine X.eqL ?_ ?_ <;> intro hc <;> first | (exfalso; first | exact absurd hc (by assumption) | exact absurd (by assumption) hc) | skip) | ((fail_if_success (with_reducible show C _ _ _ (Code.seq (Code.seq (Code.region 2 _ _) _) _) _ _)); refine Z H ?_) | (refine Zc ?_ ?_ <;> intro hc <;> first | (exfalso; omega) | skip) | (refine Y ?_; try change C _ _ _ _ _ _) | (refine Zs H ?_; clear H; (try clear w); intro w H) | (refine Zn H ?_; clear H; (try clear w); (first | ((fail_if_success (have := bl1)); intro bl1 w H) | intro _ w H)) | (refine Ze H ?_; clear H; (try clear w); intro gv w H))
 refine C.cut [4, 14, 15, 16, 17, 18, 19, 20, 21, 22, 23, 24, 25, 26, 27, 28, 29, 30, 31, 32] [] rfl (fun vs w => 0 ≤ (t.n i).parent ∧ (t.n i).parent < 8 ∧ (t.n (t.n i).parent.toNat).kind = 1 ∧ Holds s w (var bl1 36 (t.n i).cells :: var b 41 t.cells :: R)) ?_ ?_
 ·by_cases hp : 0 ≤ (t.n i).parent ∧ (t.n i).parent < 8
  ·obtain ⟨hp0, hp8⟩ := hp
   obtain ⟨p, hpp⟩ : ∃ p : Nat, (t.n i).parent = p := ⟨(t.n i).parent.toNat, by omega⟩
   have hkp := TR.cell0 ht (i := p) (by omega)
   have hpt : (t.n i).parent.toNat = p := by omega
   by_cases hk : (t.n p).kind = 1
   ·refine Gq8 H ?_
    refine C.drawn1 [0, 1, 0, 0, 0, 1, 0, 0, 0, 0, 0, 1, 0, 0, 0, 0, 1, 0, 0] [0, 1, 3, 7, 15, 31, 63, 127, 255, 511, 511, 1535, 1023, 5119, 16383, 32767, 65535, 131071, 262143] (by kernel_rfl) ?_; replace H := H.drew
    repeat' (first | (refine K.iaA (i := p) rfl rfl rfl rfl hpp (by omega) ?_) | refine Go2 H ?_ | (refine Gs2 H ?_; clear H; (try clear w); intro w H) | (refine Gn H ?_; clear H; (try clear w); (first | ((fail_if_success (have := bl1)); intro bl1 w H) | intro _ w H)))
    exact ⟨agr, hp0, hp8, by rw [hpt]; exact hk, H⟩
   ·refine Gq8 H ?_
    refine C.drawn1 [0, 1, 0, 0, 0, 1, 0, 0, 0, 0, 0, 1, 0, 0, 0, 0, 1, 0, 0] [0, 1, 3, 7, 15, 31, 63, 127, 255, 511, 511, 1535, 1023, 5119, 16383, 32767, 65535, 131071, 262143] (by kernel_rfl) ?_; replace H := H.drew
    repeat' (first | (refine K.iaA (i := p) rfl rfl rfl rfl hpp (by omega) ?_) | refine Go2 H ?_ | (refine Gs2 H ?_; clear H; (try clear w); intro w H) | (refine Gn H ?_; clear H; (try clear w); (first | ((fail_if_success (have := bl1)); intro bl1 w H) | intro _ w H)))
    exact ⟨_, resT rfl, by rw [decide_eq_false (fun h => hk (by have := h.2.2.1; rwa [hpt] at this))]; rfl, H.tail⟩
  ·refine Gq8 H ?_
   refine C.drawn1 [0, 1, 0, 0, 0, 1, 0, 0, 0, 0, 0, 1, 0, 0, 0, 0, 1, 0, 0] [0, 1, 3, 7, 15, 31, 63, 127, 255, 511, 511, 1535, 1023, 5119, 16383, 32767, 65535, 131071, 262143] (by kernel_rfl) ?_; replace H := H.drew
   repeat' (first | (refine X.lenL ?_) | (refine X.lv H ?_) | (refine X.lp H ?_) | (refine X.eqL ?_ ?_ <;> intro hc <;> first | (exfalso; first | exact absurd hc (by assumption) | exact absurd (by assumption) hc) | skip) | refine Z H ?_ | (refine Zc ?_ ?_ <;> intro hc <;> first | (exfalso; omega) | skip) | (refine Y ?_; try change C _ _ _ _ _ _) | (refine Zs H ?_; clear H; (try clear w); intro w H) | (refine Zn H ?_; clear H; (try clear w); (first | ((fail_if_success (have := bl1)); intro bl1 w H) | intro _ w H)) | (refine Ze H ?_; clear H; (try clear w); intro gv w H))
   all_goals exact ⟨_, resT rfl, by rw [decide_eq_false (fun h => hp ⟨h.1, h.2.1⟩)]; rfl, H.tail⟩
 clear H
 rintro vs hv w ⟨hp0, hp8, hk, H⟩
 by_cases hnm : isNameM (t.n i).name = true
 rotate_left
 ·have hnf : isNameM (t.n i).name = false := by simpa using hnm
  refine Gq2 H ?_
  have hN := isName_s (l := (t.n i).name) H
  rw [hnf] at hN
  (refine X.call (hN) ?_; (try clear H); rintro _ w ⟨rfl, H⟩; refine ⟨_, rfl, ?_⟩)
  clear hN
  refine Gq2 H ?_
  exact ⟨_, resT rfl, by rw [decide_eq_false (fun h => hnm h.2.2.2.1)]; rfl, H.tail⟩
 refine Gq2 H ?_
 have hN := isName_s (l := (t.n i).name) H
 rw [hnm] at hN
 (refine X.call (hN) ?_; (try clear H); rintro _ w ⟨rfl, H⟩; refine ⟨_, rfl, ?_⟩)
 clear hN
 refine Gq2 H ?_
 have H1 := H.up 1 rfl
 clear H
 have H : Holds s _ (var b 41 t.cells :: var bl1 36 (t.n i).cells :: R) := H1
 clear H1
 have hR := rooted_s (i := i) H ht hi
 by_cases hr : rootedM t i = true
 rotate_left
 ·rw [show rootedM t i = false by simpa using hr] at hR
  (refine X.call (hR) ?_; (try clear H); rintro _ w ⟨rfl, H⟩; refine ⟨_, rfl, ?_⟩)
  clear hR
  refine Gq2 H ?_
  exact ⟨_, resT rfl, by rw [decide_eq_false (fun h => hr h.2.2.2.2.1)]; rfl, (H.up 1 rfl).tail⟩
 rw [hr] at hR
 (refine X.call (hR) ?_; (try clear H); rintro _ w ⟨rfl, H⟩; refine ⟨_, rfl, ?_⟩)
 clear hR
 have H1 := H.up 1 rfl
 clear H
 have H : Holds s _ (var bl1 36 (t.n i).cells :: var b 41 t.cells :: R) := H1
 clear H1
 have hff : ∀ {x : Bool}, decide (Shaped (t.n i)) = x → decide (Fits t i) = x := fun h => by
  rw [← h]
  exact decide_eq_decide.2 ⟨fun h => h.2.2.2.2.2, fun h => ⟨hp0, hp8, hk, hnm, hr, h⟩⟩
 have hB : ∀ {x : Bool}, decide (Shaped (t.n i)) = x → decide (Fits t i) = x := hff
 clear hff
 by_cases h1 : (t.n i).kind = 1
 ·by_cases h2 : (t.n i).size = 0
  ·by_cases h3 : (t.n i).b0 = 0 ∧ (t.n i).b1 = 0
   ·repeat' (first | (refine X.ldp [.int .i64 (t.n i).b0, .int .i64 (t.n i).b1] H ?_) | (refine K.build [] _ build_blk0 rfl rfl rfl ?_) | (refine X.eqA (eq_blk 9998 (t.n i).b0 (t.n i).b1 0 0) guard_blk ?_) | refine Go2 H ?_ | (refine Gs2 H ?_; clear H; (try clear w); intro w H) | (refine Gn H ?_; clear H; (try clear w); (first | ((fail_if_success (have := bl1)); intro bl1 w H) | intro _ w H)))
    exact ⟨_, resT rfl, by rw [hB (decide_eq_true (.inl ⟨h1, h2, h3⟩))]; show Ending.returned (Value.bool (decide _)) = _; rw [decide_eq_true h3], H.tail⟩
   ·repeat' (first | (refine X.ldp [.int .i64 (t.n i).b0, .int .i64 (t.n i).b1] H ?_) | (refine K.build [] _ build_blk0 rfl rfl rfl ?_) | (refine X.eqA (eq_blk 9998 (t.n i).b0 (t.n i).b1 0 0) guard_blk ?_) | refine Go2 H ?_ | (refine Gs2 H ?_; clear H; (try clear w); intro w H) | (refine Gn H ?_; clear H; (try clear w); (first | ((fail_if_success (have := bl1)); intro bl1 w H) | intro _ w H)))
    exact ⟨_, resT rfl, by rw [hB (decide_eq_false (by rintro (⟨_, _, h⟩ | ⟨h, _⟩) <;> omega))]; show Ending.returned (Value.bool (decide _)) = _; rw [decide_eq_false h3], H.tail⟩
  ·refine Gq2 H ?_
   exact ⟨_, resT rfl, by rw [hB (decide_eq_false (by rintro (⟨_, h, _⟩ | ⟨h, _⟩) <;> omega))]; rfl, H.tail⟩
 by_cases h2 : (t.n i).kind = 2
 rotate_left
 ·repeat' (first | (refine X.lenL ?_) | (refine X.lv H ?_) | (refine X.lp H ?_) | (refine X.eqL ?_ ?_ <;> intro hc <;> first | (exfalso; first | exact absurd hc (by assumption) | exact absurd (by assumption) hc) | skip) | refine Z H ?_ | (refine Zc ?_ ?_ <;> intro hc <;> first | (exfalso; omega) | skip) | (refine Y ?_; try change C _ _ _ _ _ _) | (refine Zs H ?_; clear H; (try clear w); intro w H) | (refine Zn H ?_; clear H; (try clear w); (first | ((fail_if_success (have := bl1)); intro bl1 w H) | intro _ w H)) | (refine Ze H ?_; clear H; (try clear w); intro gv w H))
  exact ⟨_, resT rfl, by rw [hB (decide_eq_false (by rintro (⟨h, _⟩ | ⟨h, _⟩) <;> omega))]; rfl, H.tail⟩
 by_cases h3 : 0 ≤ (t.n i).size ∧ (t.n i).size ≤ 80
 rotate_left
 ·repeat' (first | (refine X.lenL ?_) | (refine X.lv H ?_) | (refine X.lp H ?_) | (refine X.eqL ?_ ?_ <;> intro hc <;> first | (exfalso; first | exact absurd hc (by assumption) | exact absurd (by assumption) hc) | skip) | refine Z H ?_ | (refine Zc ?_ ?_ <;> intro hc <;> first | (exfalso; omega) | skip) | (refine Y ?_; try change C _ _ _ _ _ _) | (refine Zs H ?_; clear H; (try clear w); intro w H) | (refine Zn H ?_; clear H; (try clear w); (first | ((fail_if_success (have := bl1)); intro bl1 w H) | intro _ w H)) | (refine Ze H ?_; clear H; (try clear w); intro gv w H))
  all_goals exact ⟨_, resT rfl, by rw [hB (decide_eq_false (by rintro (⟨h, _⟩ | ⟨_, h, h', _⟩) <;> omega))]; rfl, H.tail⟩
 obtain ⟨h3, h4⟩ := h3
 repeat' (first | (refine X.ldp [.int .i64 (t.n i).b0, .int .i64 (t.n i).b1] H ?_) | refine Go2 H ?_ | (refine Gs2 H ?_; clear H; (try clear w); intro w H) | (refine Gn H ?_; clear H; (try clear w); (first | ((fail_if_success (have := bl1)); intro bl1 w H) | intro _ w H)))
 refine C.loopH H [4, 6, 7, 68, 69, 70, 71, 72, 73, 74, 75, 76, 77, 78, 79, 80, 81, 82, 83, 84, 85] [68] rfl (fun m vs => ∃ j : Nat, m = 2 - j ∧ j ≤ 2 ∧ vs = [.int .i64 (j : Int)] ∧ (0 < j → ((t.n i).size ≤ 0 → (t.n i).b0 = 0) ∧ (0 < (t.n i).size → 1 ≤ (t.n i).b0 ∧ (t.n i).b0 ≤ 8)) ∧ (1 < j → ((t.n i).size ≤ 40 → (t.n i).b1 = 0) ∧ (40 < (t.n i).size → 1 ≤ (t.n i).b1 ∧ (t.n i).b1 ≤ 8))) 2 ⟨0, rfl, by omega, rfl, fun h => by omega, fun h => by omega⟩ ?_
 clear H
 rintro m vs hv1 w ⟨j, rfl, hj, rfl, q0, q1⟩ H
 rcases (show j = 0 ∨ j = 1 ∨ j = 2 by omega) with rfl | rfl | rfl
 ·by_cases hq : ((t.n i).size ≤ 0 → (t.n i).b0 = 0) ∧ (0 < (t.n i).size → 1 ≤ (t.n i).b0 ∧ (t.n i).b0 ≤ 8)
  ·repeat' (first | (refine X.ix1 (v := .int .i64 (t.n i).b0) 0 ?_ rfl (by decide)) | (refine J.mul ?_) | (refine X.lenL ?_) | (refine X.lv H ?_) | (refine X.lp H ?_) | (refine X.eqL ?_ ?_ <;> intro hc <;> first | (exfalso; first | exact absurd hc (by assumption) | exact absurd (by assumption) hc) | skip) | refine Z H ?_ | (refine Zc ?_ ?_ <;> intro hc <;> first | (exfalso; omega) | skip) | (refine Y ?_; try change C _ _ _ _ _ _) | (refine Zs H ?_; clear H; (try clear w); intro w H) | (refine Zn H ?_; clear H; (try clear w); (first | ((fail_if_success (have := bl1)); intro bl1 w H) | intro _ w H)) | (refine Ze H ?_; clear H; (try clear w); intro gv w H))
   all_goals exact ⟨agr, 1, by omega, ⟨1, rfl, by omega, rfl, fun _ => hq, fun h => by omega⟩, H⟩
  ·repeat' (first | (refine X.ix1 (v := .int .i64 (t.n i).b0) 0 ?_ rfl (by decide)) | (refine J.mul ?_) | (refine X.lenL ?_) | (refine X.lv H ?_) | (refine X.lp H ?_) | (refine X.eqL ?_ ?_ <;> intro hc <;> first | (exfalso; first | exact absurd hc (by assumption) | exact absurd (by assumption) hc) | skip) | refine Z H ?_ | (refine Zc ?_ ?_ <;> intro hc <;> first | (exfalso; omega) | skip) | (refine Y ?_; try change C _ _ _ _ _ _) | (refine Zs H ?_; clear H; (try clear w); intro w H) | (refine Zn H ?_; clear H; (try clear w); (first | ((fail_if_success (have := bl1)); intro bl1 w H) | intro _ w H)) | (refine Ze H ?_; clear H; (try clear w); intro gv w H))
   all_goals first
    | (exfalso; exact hq ⟨fun _ => by omega, fun _ => by omega⟩)
    | exact ⟨_, resT rfl, by rw [hB (decide_eq_false (by rintro (⟨h, _⟩ | ⟨_, _, _, a, b, _⟩) <;> first | omega | exact hq ⟨a, b⟩))]; rfl, H.tail⟩
 ·by_cases hq : ((t.n i).size ≤ 40 → (t.n i).b1 = 0) ∧ (40 < (t.n i).size → 1 ≤ (t.n i).b1 ∧ (t.n i).b1 ≤ 8)
  ·repeat' (first | (refine X.ix1 (v := .int .i64 (t.n i).b1) 1 ?_ rfl (by decide)) | (refine J.mul ?_) | (refine X.lenL ?_) | (refine X.lv H ?_) | (refine X.lp H ?_) | (refine X.eqL ?_ ?_ <;> intro hc <;> first | (exfalso; first | exact absurd hc (by assumption) | exact absurd (by assumption) hc) | skip) | refine Z H ?_ | (refine Zc ?_ ?_ <;> intro hc <;> first | (exfalso; omega) | skip) | (refine Y ?_; try change C _ _ _ _ _ _) | (refine Zs H ?_; clear H; (try clear w); intro w H) | (refine Zn H ?_; clear H; (try clear w); (first | ((fail_if_success (have := bl1)); intro bl1 w H) | intro _ w H)) | (refine Ze H ?_; clear H; (try clear w); intro gv w H))
   all_goals exact ⟨agr, 0, by omega, ⟨2, rfl, by omega, rfl, fun _ => q0 (by omega), fun _ => hq⟩, H⟩
  ·repeat' (first | (refine X.ix1 (v := .int .i64 (t.n i).b1) 1 ?_ rfl (by decide)) | (refine J.mul ?_) | (refine X.lenL ?_) | (refine X.lv H ?_) | (refine X.lp H ?_) | (refine X.eqL ?_ ?_ <;> intro hc <;> first | (exfalso; first | exact absurd hc (by assumption) | exact absurd (by assumption) hc) | skip) | refine Z H ?_ | (refine Zc ?_ ?_ <;> intro hc <;> first | (exfalso; omega) | skip) | (refine Y ?_; try change C _ _ _ _ _ _) | (refine Zs H ?_; clear H; (try clear w); intro w H) | (refine Zn H ?_; clear H; (try clear w); (first | ((fail_if_success (have := bl1)); intro bl1 w H) | intro _ w H)) | (refine Ze H ?_; clear H; (try clear w); intro gv w H))
   all_goals first
    | (exfalso; exact hq ⟨fun _ => by omega, fun _ => by omega⟩)
    | exact ⟨_, resT rfl, by rw [hB (decide_eq_false (by rintro (⟨h, _⟩ | ⟨_, _, _, _, _, a, b⟩) <;> first | omega | exact hq ⟨a, b⟩))]; rfl, H.tail⟩
 ·obtain ⟨a0, a1⟩ := q0 (by omega)
  obtain ⟨b0, b1⟩ := q1 (by omega)
  refine Gq2 H ?_
  exact ⟨_, resT rfl, by rw [hB (decide_eq_true (.inr ⟨h2, h3, h4, a0, a1, b0, b1⟩))]; rfl, H.tail⟩
end
def usedV (m : List (Option Int)) : List Value := m.map fun o => .bool o.isSome
def lenVs (m : List (Option Int)) : List Value := m.map fun o => .int .i64 (o.getD 0)
theorem usedV_get {m : List (Option Int)} {k : Nat} (hk : k < m.length) : (usedV m)[0 + k * 1]? = some (.bool (m[k]?.getD none).isSome) := by
 rw [Nat.zero_add, Nat.mul_one]
 simp [usedV, hk]
theorem lenVs_get {m : List (Option Int)} {k : Nat} (hk : k < m.length) : (lenVs m)[0 + k * 1]? = some (.int .i64 (lenOf m k)) := by
 rw [Nat.zero_add, Nat.mul_one]
 simp [lenVs, lenOf, hk]
theorem usedV_set {m : List (Option Int)} {k : Nat} {l : Int} : (usedV m).set (0 + k * 1) (.bool true) = usedV (m.set k (some l)) := by
 rw [Nat.zero_add, Nat.mul_one, usedV, usedV, List.map_set]; rfl
theorem lenVs_set {m : List (Option Int)} {k : Nat} {l : Int} : (lenVs m).set (0 + k * 1) (.int .i64 l) = lenVs (m.set k (some l)) := by
 rw [Nat.zero_add, Nat.mul_one, lenVs, lenVs, List.map_set]; rfl
def lensOk (m : List (Option Int)) : Prop := ∀ o ∈ m, 0 ≤ o.getD 0 ∧ o.getD 0 ≤ 40
theorem lensOk.set {m : List (Option Int)} (h : lensOk m) {k : Nat} {l : Int} (h0 : 0 ≤ l) (h1 : l ≤ 40) : lensOk (m.set k (some l)) := fun o ho => by
 rcases List.mem_or_eq_of_mem_set ho with ho | rfl
 ·exact h o ho
 ·exact ⟨h0, h1⟩
theorem lensOk.get {m : List (Option Int)} (h : lensOk m) {k : Nat} (hk : k < m.length) : 0 ≤ lenOf m k ∧ lenOf m k ≤ 40 := by
 have := h (m[k]) (List.getElem_mem _)
 unfold lenOf
 rw [List.getElem?_eq_getElem hk]
 exact this
section
variable {s : Ro} {w : World} {R : List Asn} {b : Nat} {t : TR}
theorem blocksFit_s (H : Holds s w (var b 41 t.cells :: R)) (ht : t.Ok) (hs : ∀ i, i < 8 → t.n i = Nd.zero ∨ Shaped (t.n i)) : Calls Tryz.prog 49 #[.pointer (some ⟨b, 0, none⟩)] w fun e w' => e = .returned (.bool (blocksFitM t)) ∧ Holds s w' (var b 41 t.cells :: R) := by
 refine enter Tryz.func49 rfl Tryz.ntmps49 rfl ?_
 have hnd := TR.nodes ht
 have hl48 := TR.nd_len ht
 repeat' (first | (refine X.lenL ?_) | (refine X.lv H ?_) | (refine X.lp H ?_) | (refine X.eqL ?_ ?_ <;> intro hc <;> first | (exfalso; first | exact absurd hc (by assumption) | exact absurd (by assumption) hc) | skip) | ((fail_if_success (with_reducible show C _ _ _ (Code.seq (Code.seq (Code.region 3 _ _) _) _) _ _)); refine Z H ?_) | (refine Zc ?_ ?_ <;> intro hc <;> first | (exfalso; omega) | skip) | (refine Y ?_; try change C _ _ _ _ _ _) | (refine Zs H ?_; clear H; (try clear w); intro w H) | (refine Zn H ?_; clear H; (try clear w); (first | ((fail_if_success (have := bl1)); intro bl1 w H) | ((fail_if_success (have := bl2)); intro bl2 w H) | ((fail_if_success (have := bl3)); intro bl3 w H) | intro _ w H)) | (refine Ze H ?_; clear H; (try clear w); intro gv w H))
 refine C.cut [2, 6, 7, 8, 13, 14, 15, 16, 17, 18, 19, 20, 21, 22, 23, 24, 25, 26, 27, 28, 29, 30, 31, 32, 33, 34, 35, 36, 37, 38, 39, 40, 41, 42, 43, 44, 45] [] rfl (fun vs w => ∃ m : List (Option Int), m.length = 8 ∧ lensOk m ∧ markAll t = some m ∧ Holds s w (var bl2 154 (lenVs m) :: var bl1 153 (usedV m) :: var b 41 t.cells :: R)) ?_ ?_
 ·refine Gq2 H ?_
  have H1 : Holds s w (var bl2 154 (lenVs (List.replicate 8 none)) :: var bl1 153 (usedV (List.replicate 8 none)) :: var b 41 t.cells :: R) := H
  clear H
  refine C.loopS [2, 6, 7, 8, 17, 18, 19, 20, 21, 22, 23, 24, 25, 26, 27, 28, 29, 30, 31, 32, 33, 34, 35, 36, 37, 38, 39, 40, 41, 42, 43, 44, 45] [17] rfl (fun k vs w => ∃ (i : Nat) (m : List (Option Int)), k = 8 - i ∧ i ≤ 8 ∧ vs = [.int .i64 (i : Int)] ∧ m.length = 8 ∧ lensOk m ∧ markFrom t (8 - i) i m = markAll t ∧ Holds s w (var bl2 154 (lenVs m) :: var bl1 153 (usedV m) :: var b 41 t.cells :: R)) 8 ⟨0, _, rfl, by omega, rfl, rfl, fun o ho => by rw [List.eq_of_mem_replicate ho]; decide, rfl, H1⟩ ?_
  clear H1
  rintro k vs hv w ⟨i, m, rfl, hi, rfl, hml, hmo, hmf, H⟩
  by_cases hlt : i < 8
  rotate_left
  ·obtain rfl : i = 8 := by omega
   refine Gq2 H ?_
   exact ⟨agr, m, hml, hmo, by rw [← hmf]; rfl, H⟩
  have hn := TR.nodeL ht hlt
  rw [show 8 - i = (7 - i) + 1 by omega, markFrom] at hmf
  have hsh : 0 ≤ (t.n i).b0 ∧ (t.n i).b0 ≤ 8 ∧ 0 ≤ (t.n i).b1 ∧ (t.n i).b1 ≤ 8 ∧ 0 ≤ (t.n i).size ∧ (t.n i).size ≤ 80 ∧ ((t.n i).b1 ≠ 0 → 40 < (t.n i).size) := by
   rcases hs i hlt with h | ⟨_, h1, h2, h3⟩ | ⟨_, h1, h2, h3, h4, h5, h6⟩
   ·rw [h]; decide
   ·omega
   ·have : 40 < (t.n i).size ∨ (t.n i).size ≤ 40 := by omega
    have : 0 < (t.n i).size ∨ (t.n i).size ≤ 0 := by omega
    omega
  obtain ⟨a1, a2, a3, a4, a5, a6, a7⟩ := hsh
  repeat' (first | (refine X.ixP i ?_ hn hlt) | (refine X.ldp [.int .i64 (t.n i).b0, .int .i64 (t.n i).b1] H ?_) | refine Go2 H ?_ | (refine Gs2 H ?_; clear H; (try clear w); intro w H) | (refine Gn H ?_; clear H; (try clear w); (first | ((fail_if_success (have := bl1)); intro bl1 w H) | ((fail_if_success (have := bl2)); intro bl2 w H) | ((fail_if_success (have := bl3)); intro bl3 w H) | intro _ w H)))
  refine C.loopS [2, 7, 8, 22, 23, 24, 25, 26, 27, 28, 29, 30, 31, 32, 33, 34, 35, 36, 37, 38, 39, 40, 41, 42, 43, 44] [22] rfl (fun k vs w => ∃ (j : Nat) (m' : List (Option Int)), k = 2 - j ∧ vs = [.int .i64 (j : Int)] ∧ m'.length = 8 ∧ lensOk m' ∧ (j = 0 ∧ m' = m ∨ j = 1 ∧ mark m (t.n i).b0 (least (t.n i).size 40) = some m' ∨ j = 2 ∧ marks (t.n i) m = some m') ∧ Holds s w (var bl3 36 (t.n i).cells :: var bl2 154 (lenVs m') :: var bl1 153 (usedV m') :: var b 41 t.cells :: R)) 2 ⟨0, m, rfl, rfl, hml, hmo, .inl ⟨rfl, rfl⟩, H⟩ ?_
  clear H
  rintro k vs hv1 w ⟨j, m', rfl, rfl, hml', hmo', hj, H⟩
  rcases hj with ⟨rfl, rfl⟩ | ⟨rfl, hj⟩ | ⟨rfl, hj⟩
  ·by_cases hb : (t.n i).b0 = 0
   ·repeat' (first | (refine X.ix1 (v := .int .i64 (t.n i).b0) 0 ?_ rfl (by decide)) | refine Go2 H ?_ | (refine Gs2 H ?_; clear H; (try clear w); intro w H) | (refine Gn H ?_; clear H; (try clear w); (first | ((fail_if_success (have := bl1)); intro bl1 w H) | ((fail_if_success (have := bl2)); intro bl2 w H) | ((fail_if_success (have := bl3)); intro bl3 w H) | intro _ w H)))
    exact ⟨agr, 1, by omega, 1, m', rfl, rfl, hml', hmo', .inr (.inl ⟨rfl, by rw [mark, if_pos hb]⟩), H⟩
   obtain ⟨q, hq⟩ : ∃ q : Nat, (t.n i).b0 - 1 = q := ⟨((t.n i).b0 - 1).toNat, by omega⟩
   have hq8 : q < m'.length := by omega
   have hu := usedV_get hq8
   by_cases hh : (m'[q]?.getD none).isSome = true
   ·rw [hh] at hu
    repeat' (first | (refine X.ix1 (v := .int .i64 (t.n i).b0) 0 ?_ rfl (by decide)) | (refine K.iaA (i := q) rfl rfl rfl rfl hq (by omega) ?_) | refine Go2 H ?_ | (refine Gs2 H ?_; clear H; (try clear w); intro w H) | (refine Gn H ?_; clear H; (try clear w); (first | ((fail_if_success (have := bl1)); intro bl1 w H) | ((fail_if_success (have := bl2)); intro bl2 w H) | ((fail_if_success (have := bl3)); intro bl3 w H) | intro _ w H)))
    exact ⟨_, resT rfl, by rw [blocksFitM, ← hmf, marks, mark, if_neg hb, hq, Int.toNat_natCast, if_pos hh]; rfl, ((H.tail).tail).tail⟩
   ·have hh' : (m'[q]?.getD none).isSome = false := by simpa using hh
    rw [hh'] at hu
    have hbu : Nat.blt (0 + q * 1) (usedV m').length = true := by rw [Nat.blt_eq]; simp [usedV]; omega
    have hbl : Nat.blt (0 + q * 1) (lenVs m').length = true := by rw [Nat.blt_eq]; simp [lenVs]; omega
    repeat' (first | (refine X.ix1 (v := .int .i64 (t.n i).b0) 0 ?_ rfl (by decide)) | (refine K.iaA (i := q) rfl rfl rfl rfl hq (by omega) ?_) | refine Go2 H ?_ | (refine Gs2 H ?_; clear H; (try clear w); intro w H) | (refine Gn H ?_; clear H; (try clear w); (first | ((fail_if_success (have := bl1)); intro bl1 w H) | ((fail_if_success (have := bl2)); intro bl2 w H) | ((fail_if_success (have := bl3)); intro bl3 w H) | intro _ w H)))
    refine K.store 2 (v := .bool true) H rfl rfl rfl rfl rfl hbu ?_
    clear H
    intro w H
    (try simp only [List.set_cons_zero, List.set_cons_succ, List.eraseIdx_cons_zero, List.eraseIdx_cons_succ] at H)
    repeat' (first | (refine X.ix1 (v := .int .i64 (t.n i).b0) 0 ?_ rfl (by decide)) | (refine J.mul ?_) | (refine X.min (least ((t.n i).size - ((0 : Nat) : Int) * 40) 40) ?_ rfl) | (refine K.iaA (i := q) rfl rfl rfl rfl hq (by omega) ?_) | refine Go2 H ?_ | (refine Gs2 H ?_; clear H; (try clear w); intro w H) | (refine Gn H ?_; clear H; (try clear w); (first | ((fail_if_success (have := bl1)); intro bl1 w H) | ((fail_if_success (have := bl2)); intro bl2 w H) | ((fail_if_success (have := bl3)); intro bl3 w H) | intro _ w H)))
    refine K.store 1 (v := .int .i64 (least ((t.n i).size - ((0 : Nat) : Int) * 40) 40)) H rfl rfl rfl rfl rfl hbl ?_
    clear H
    intro w H
    (try simp only [List.set_cons_zero, List.set_cons_succ, List.eraseIdx_cons_zero, List.eraseIdx_cons_succ] at H)
    rw [show (t.n i).size - ((0 : Nat) : Int) * 40 = (t.n i).size by omega, usedV_set (l := least (t.n i).size 40), lenVs_set] at H
    have hle : 0 ≤ least (t.n i).size 40 ∧ least (t.n i).size 40 ≤ 40 := by unfold least; split <;> omega
    refine Gq2 H ?_
    exact ⟨agr, 1, by omega, 1, m'.set q (some (least (t.n i).size 40)), rfl, rfl, by simpa using hml', hmo'.set hle.1 hle.2, .inr (.inl ⟨rfl, by rw [mark, if_neg hb, hq, Int.toNat_natCast, if_neg hh]⟩), H⟩
  ·by_cases hb : (t.n i).b1 = 0
   ·repeat' (first | (refine X.ix1 (v := .int .i64 (t.n i).b1) 1 ?_ rfl (by decide)) | refine Go2 H ?_ | (refine Gs2 H ?_; clear H; (try clear w); intro w H) | (refine Gn H ?_; clear H; (try clear w); (first | ((fail_if_success (have := bl1)); intro bl1 w H) | ((fail_if_success (have := bl2)); intro bl2 w H) | ((fail_if_success (have := bl3)); intro bl3 w H) | intro _ w H)))
    exact ⟨agr, 0, by omega, 2, m', rfl, rfl, hml', hmo', .inr (.inr ⟨rfl, by rw [marks, hj, Option.bind_some, mark, if_pos hb]⟩), H⟩
   obtain ⟨q, hq⟩ : ∃ q : Nat, (t.n i).b1 - 1 = q := ⟨((t.n i).b1 - 1).toNat, by omega⟩
   have hq8 : q < m'.length := by omega
   have hu := usedV_get hq8
   by_cases hh : (m'[q]?.getD none).isSome = true
   ·rw [hh] at hu
    repeat' (first | (refine X.ix1 (v := .int .i64 (t.n i).b1) 1 ?_ rfl (by decide)) | (refine K.iaA (i := q) rfl rfl rfl rfl hq (by omega) ?_) | refine Go2 H ?_ | (refine Gs2 H ?_; clear H; (try clear w); intro w H) | (refine Gn H ?_; clear H; (try clear w); (first | ((fail_if_success (have := bl1)); intro bl1 w H) | ((fail_if_success (have := bl2)); intro bl2 w H) | ((fail_if_success (have := bl3)); intro bl3 w H) | intro _ w H)))
    exact ⟨_, resT rfl, by rw [blocksFitM, ← hmf, marks, hj, Option.bind_some, mark, if_neg hb, hq, Int.toNat_natCast, if_pos hh]; rfl, ((H.tail).tail).tail⟩
   ·have hh' : (m'[q]?.getD none).isSome = false := by simpa using hh
    rw [hh'] at hu
    have hbu : Nat.blt (0 + q * 1) (usedV m').length = true := by rw [Nat.blt_eq]; simp [usedV]; omega
    have hbl : Nat.blt (0 + q * 1) (lenVs m').length = true := by rw [Nat.blt_eq]; simp [lenVs]; omega
    repeat' (first | (refine X.ix1 (v := .int .i64 (t.n i).b1) 1 ?_ rfl (by decide)) | (refine K.iaA (i := q) rfl rfl rfl rfl hq (by omega) ?_) | refine Go2 H ?_ | (refine Gs2 H ?_; clear H; (try clear w); intro w H) | (refine Gn H ?_; clear H; (try clear w); (first | ((fail_if_success (have := bl1)); intro bl1 w H) | ((fail_if_success (have := bl2)); intro bl2 w H) | ((fail_if_success (have := bl3)); intro bl3 w H) | intro _ w H)))
    refine K.store 2 (v := .bool true) H rfl rfl rfl rfl rfl hbu ?_
    clear H
    intro w H
    (try simp only [List.set_cons_zero, List.set_cons_succ, List.eraseIdx_cons_zero, List.eraseIdx_cons_succ] at H)
    have hle : 0 ≤ least ((t.n i).size - 40) 40 ∧ least ((t.n i).size - 40) 40 ≤ 40 := by have := a7 hb; unfold least; split <;> omega
    repeat' (first | (refine X.ix1 (v := .int .i64 (t.n i).b1) 1 ?_ rfl (by decide)) | (refine J.mul ?_) | (refine X.min (least ((t.n i).size - 40) 40) ?_ rfl) | (refine K.iaA (i := q) rfl rfl rfl rfl hq (by omega) ?_) | refine Go2 H ?_ | (refine Gs2 H ?_; clear H; (try clear w); intro w H) | (refine Gn H ?_; clear H; (try clear w); (first | ((fail_if_success (have := bl1)); intro bl1 w H) | ((fail_if_success (have := bl2)); intro bl2 w H) | ((fail_if_success (have := bl3)); intro bl3 w H) | intro _ w H)))
    refine K.store 1 (v := .int .i64 (least ((t.n i).size - 40) 40)) H rfl rfl rfl rfl rfl hbl ?_
    clear H
    intro w H
    (try simp only [List.set_cons_zero, List.set_cons_succ, List.eraseIdx_cons_zero, List.eraseIdx_cons_succ] at H)
    rw [usedV_set (l := least ((t.n i).size - 40) 40), lenVs_set] at H
    refine Gq2 H ?_
    exact ⟨agr, 0, by omega, 2, m'.set q (some (least ((t.n i).size - 40) 40)), rfl, rfl, by simpa using hml', hmo'.set hle.1 hle.2, .inr (.inr ⟨rfl, by rw [marks, hj, Option.bind_some, mark, if_neg hb, hq, Int.toNat_natCast, if_neg hh]⟩), H⟩
  ·rw [hj, Option.bind_some] at hmf
   refine Gq2 H ?_
   exact ⟨agr, 8 - (i + 1), by omega, i + 1, m', rfl, by omega, rfl, hml', hmo', by rw [← hmf]; congr 1; omega, H.tail⟩
 clear H
 rintro vs hv w ⟨m, hml, hmo, hma, H⟩
 have hbf : ∀ {x : Bool}, decide (∀ k : Nat, k < 8 → Clean t m k) = x → blocksFitM t = x := fun h => by rw [blocksFitM, hma, ← h]
 have hbs := TR.blocks ht
 have hl320 := TR.bl_len ht
 refine Gq2 H ?_
 refine C.loopH H [2, 9, 10, 12, 50, 51, 52, 53, 54, 55, 56, 57, 58, 59, 60, 61, 62, 63, 64, 65, 66] [50] rfl (fun k vs => ∃ i : Nat, k = 8 - i ∧ i ≤ 8 ∧ vs = [.int .i64 (i : Int)] ∧ ∀ k, k < i → Clean t m k) 8 ⟨0, rfl, by omega, rfl, fun k hk => by omega⟩ ?_
 clear H
 rintro k vs hv1 w ⟨i, rfl, hi, rfl, hcl⟩ H
 by_cases hlt : i < 8
 rotate_left
 ·obtain rfl : i = 8 := by omega
  refine Gq2 H ?_
  exact ⟨_, resT rfl, by rw [hbf (decide_eq_true hcl)]; rfl, (H.tail).tail⟩
 have hn : ((t.bl.flatMap u8s).drop (i * 40)).take 40 = u8s (t.b i) := by
  have := flatS_part (f := u8s) (sz := 40) t.bl (fun x hx => by rw [u8s_len]; exact ht.b40 x hx) i 0 40 (by rw [ht.b8]; exact hlt) (by omega)
  rw [Nat.add_zero] at this
  rw [this, ← TR.b_get ht hlt, List.drop_zero, List.take_of_length_le (by rw [u8s_len, TR.b_len ht hlt]; omega)]
 have hlg := lenVs_get (m := m) (k := i) (by omega)
 obtain ⟨hl0, hl40⟩ := hmo.get (k := i) (by omega)
 obtain ⟨l, hl⟩ : ∃ l : Nat, lenOf m i = l := ⟨(lenOf m i).toNat, by omega⟩
 rw [hl] at hlg
 have hone := u8s_one (t.b i)
 have hall : (u8s (t.b i)).all Value.oneCell' = true := List.all_eq_true.2 hone
 have hbl40 : (u8s (t.b i)).length = 40 := by rw [u8s_len, TR.b_len ht hlt]
 repeat' (first | (refine X.ixP i ?_ hn hlt) | refine Go2 H ?_ | (refine Gs2 H ?_; clear H; (try clear w); intro w H) | (refine Gn H ?_; clear H; (try clear w); (first | ((fail_if_success (have := bl1)); intro bl1 w H) | ((fail_if_success (have := bl2)); intro bl2 w H) | ((fail_if_success (have := bl3)); intro bl3 w H) | intro _ w H)))
 --DBG
 refine K.storeAll 0 H rfl rfl rfl rfl hall hbl40 rfl ?_
 clear H
 intro w H
 (try simp only [List.set_cons_zero, List.set_cons_succ, List.eraseIdx_cons_zero, List.eraseIdx_cons_succ] at H)
 repeat' (first | (refine K.iaA (i := i) rfl rfl rfl rfl rfl hlt ?_) | (refine X.arrF l ?_ rfl (by omega)) | refine Go2 H ?_ | (refine Gs2 H ?_; clear H; (try clear w); intro w H) | (refine Gn H ?_; clear H; (try clear w); (first | ((fail_if_success (have := bl1)); intro bl1 w H) | ((fail_if_success (have := bl2)); intro bl2 w H) | ((fail_if_success (have := bl3)); intro bl3 w H) | intro _ w H)))
 refine C.loopH H [2, 12, 59, 60, 61, 62, 63, 64, 65] [59] rfl (fun k vs => ∃ q : Nat, k = 40 - l - q ∧ q ≤ 40 - l ∧ vs = [.int .i64 (q : Int)] ∧ ∀ p : Nat, l ≤ p → p < l + q → (t.b i)[p]? = some 0) (40 - l) ⟨0, rfl, by omega, rfl, fun p h1 h2 => by omega⟩ ?_
 clear H
 rintro k vs hv2 w ⟨q, rfl, hq, rfl, hz⟩ H
 by_cases hql : q < 40 - l
 rotate_left
 ·refine Gq2 H ?_
  exact ⟨agr, 8 - (i + 1), by omega, ⟨i + 1, rfl, by omega, rfl, fun k hk => by
   by_cases hki : k = i
   ·subst hki
    intro p hp hlp
    exact hz p (by omega) (by omega)
   ·exact hcl k (by omega)⟩, H.tail⟩
 obtain ⟨x, hx⟩ : ∃ x, (t.b i)[l + q]? = some x := ⟨(t.b i)[l + q]'(by rw [TR.b_len ht hlt]; omega), List.getElem?_eq_getElem _⟩
 have hxl : (u8s (t.b i))[(if 40 = l then 0 else 0 + l * 1) + q * 1]? = some (u8 x) := by
  rw [if_neg (by omega), Nat.zero_add, Nat.mul_one, Nat.mul_one]
  simp [u8s, hx]
 by_cases hx0 : x = 0
 ·subst hx0
  have hx2 : (u8s (t.b i))[(if 40 = l then 0 else 0 + l * 1) + q * 1]? = some (.int .u8 0) := hxl
  clear hxl
  repeat' (first | (refine K.ia (i := q) rfl rfl rfl rfl rfl hql ?_) | refine Go2 H ?_ | (refine Gs2 H ?_; clear H; (try clear w); intro w H) | (refine Gn H ?_; clear H; (try clear w); (first | ((fail_if_success (have := bl1)); intro bl1 w H) | ((fail_if_success (have := bl2)); intro bl2 w H) | ((fail_if_success (have := bl3)); intro bl3 w H) | intro _ w H)))
  exact ⟨agr, 40 - l - (q + 1), by omega, ⟨q + 1, rfl, by omega, rfl, fun p h1 h2 => by
   by_cases hp : p = l + q
   ·subst hp; exact hx
   ·exact hz p h1 (by omega)⟩, H⟩
 ·have hx1 : x.toNat ≠ 0 := fun h => hx0 (UInt8.toNat_inj.1 (by simpa using h))
  repeat' (first | (refine K.ia (i := q) rfl rfl rfl rfl rfl hql ?_) | refine Go2 H ?_ | (refine Gs2 H ?_; clear H; (try clear w); intro w H) | (refine Gn H ?_; clear H; (try clear w); (first | ((fail_if_success (have := bl1)); intro bl1 w H) | ((fail_if_success (have := bl2)); intro bl2 w H) | ((fail_if_success (have := bl3)); intro bl3 w H) | intro _ w H)))
  exact ⟨_, resT rfl, by
   rw [hbf (decide_eq_false (fun h => hx0 (by
    have := h i hlt (l + q) (by omega) (by omega)
    rw [hx] at this
    exact Option.some.inj this)))]
   rfl, ((H.tail).tail).tail⟩
end
abbrev Key := Int × Str
def keyV (k : Key) : Value := .agg ([.int .i64 k.1, .string ⟨k.2.toArray⟩] : List Value).toArray
def ent (i : Nat) (x : Key × Int) : MapEntry := { key := keyV x.1, val := .int .i64 x.2, born := i }
def entsFrom : Nat → List (Key × Int) → List MapEntry
 | _, [] => []
 | i, x :: r => ent i x :: entsFrom (i + 1) r
def ents (l : List (Key × Int)) : Array MapEntry := (entsFrom 0 l).toArray
def findFrom (k : Key) : Nat → List (Key × Int) → Option (Nat × Value)
 | _, [] => none
 | i, x :: r => if x.1 = k then some (i, .int .i64 x.2) else findFrom k (i + 1) r
theorem eq_place (d : Nat) (k k' : Key) : EqA Tryz.prog (d + 2) 116 [.int .i64 k.1, .string ⟨k.2.toArray⟩] [.int .i64 k'.1, .string ⟨k'.2.toArray⟩] (k = k') :=
 (EqA.struct (b := fun f => match f.offset with
   | 0 => k.1 = k'.1
   | _ => k.2 = k'.2) Tryz.underlying116 (by kernel_rfl) (fun f hf => by
  simp only [List.mem_cons, List.not_mem_nil, or_false] at hf
  rcases hf with rfl | rfl
  ·exact ⟨by decide, EqP.int Tryz.underlying3 rfl rfl⟩
  ·exact ⟨by decide, EqP.str Tryz.underlying9 rfl rfl⟩)).iff (by
  obtain ⟨a, c⟩ := k
  obtain ⟨a', c'⟩ := k'
  simp only [List.mem_cons, List.not_mem_nil, or_false, forall_eq_or_imp, forall_eq, Prod.mk.injEq])
theorem checkKey_place (e : Bool) (k : Key) (w : World) : (Instr.checkKey e 10000 116 (keyV k)).run Tryz.prog w = .ok () w := by
 have u3 := Tryz.underlying3
 have u9 := Tryz.underlying9
 have a3 := Tryz.isAgg3
 have a9 := Tryz.isAgg9
 have c1 : (Instr.checkKey e 9999 3 (.int .i64 k.1)).run Tryz.prog w = .ok () w := Go.MapKept.run_checkKey u3 (by simp [Go.MapKept.IsKey]) e 9998
 have c2 : (Instr.checkKey e 9999 9 (.string ⟨k.2.toArray⟩)).run Tryz.prog w = .ok () w := Go.MapKept.run_checkKey u9 (by simp [Go.MapKept.IsKey]) e 9998
 rw [show (10000 : Nat) = 9999 + 1 from rfl]
 unfold keyV Instr.checkKey
 simp only [Sem.run_bind, run_underlying Tryz.underlying116, Result.andThen_ok]
 rw [← Array.forIn_toList]
 simp [part, isAgg, run_underlying u3, run_underlying u9, c1, c2]
theorem findAsking_place (k : Key) (w : World) : ∀ (l : List (Key × Int)) (i : Nat), (Instr.findAsking 116 (keyV k) (entsFrom i l) i).run Tryz.prog w = .ok (findFrom k i l) w
 | [], i => by simp [entsFrom, Instr.findAsking, findFrom]
 | x :: l, i => by
  obtain ⟨r, h1, h2⟩ := eq_place 9998 k x.1 w
  have h3 : (Op.equal 116 (keyV k) (keyV x.1)).run Tryz.prog w = .ok r w := h1
  have ih := findAsking_place k w l (i + 1)
  simp only [entsFrom, Instr.findAsking, ent, Sem.run_bind, h3, Result.andThen_ok, findFrom]
  cases r
  ·have hne : ¬ x.1 = k := fun h => absurd (h2.2 h.symm) (by simp)
   rw [if_neg hne]
   simpa using ih
  ·rw [if_pos (h2.1 rfl).symm]
   simp
theorem findKey_place (k : Key) (l : List (Key × Int)) (w : World) : (Instr.findKey 116 (keyV k) (entsFrom 0 l)).run Tryz.prog w = .ok (findFrom k 0 l) w := by
 have hfa := findAsking_place k w l 0
 unfold Instr.findKey
 simp only [Sem.run_bind, run_underlying Tryz.underlying116, Result.andThen_ok]
 cases l with
 | nil => simp [entsFrom, Instr.findNow, findFrom]
 | cons x r =>
  simp only [entsFrom, ent, Instr.findNow, Instr.sameNow, keyV]
  exact hfa
def mapA (b : Nat) (l : List (Key × Int)) : Asn :=
 ⟨fun w F => F = [b] ∧ w.heap[b]? = some (.map (ents l) l.length), fun h hk => ⟨h.1, (hk b (by simp [h.1])).trans h.2⟩, fun h k hk => by
  rw [h.1] at hk; simp at hk; subst hk; exact lt_of_heap h.2⟩
theorem entsFrom_get : ∀ (l : List (Key × Int)) (i j : Nat), (entsFrom i l)[j]? = l[j]?.map (ent (i + j))
 | [], i, j => by simp [entsFrom]
 | x :: l, i, 0 => by simp [entsFrom]
 | x :: l, i, j + 1 => by
  rw [entsFrom, List.getElem?_cons_succ, entsFrom_get l (i + 1) j, List.getElem?_cons_succ, show i + 1 + j = i + (j + 1) by omega]
theorem entsFrom_app : ∀ (l m : List (Key × Int)) (i : Nat), entsFrom i (l ++ m) = entsFrom i l ++ entsFrom (i + l.length) m
 | [], m, i => by simp [entsFrom]
 | x :: l, m, i => by
  rw [List.cons_append, entsFrom, entsFrom, entsFrom_app l m (i + 1), List.cons_append, List.length_cons, show i + 1 + l.length = i + (l.length + 1) by omega]
theorem findFrom_some {k : Key} : ∀ {l : List (Key × Int)} {i j : Nat} {v : Value}, findFrom k i l = some (j, v) → ∃ (q : Nat) (c : Int), j = i + q ∧ l[q]? = some (k, c) ∧ v = .int .i64 c
 | [], i, j, v, h => by simp [findFrom] at h
 | x :: l, i, j, v, h => by
  unfold findFrom at h
  split at h
  ·rename_i hx
   cases h
   obtain ⟨a, c⟩ := x
   exact ⟨0, c, rfl, by simp only [] at hx; rw [← hx]; rfl, rfl⟩
  ·obtain ⟨q, c, h1, h2, h3⟩ := findFrom_some h
   exact ⟨q + 1, c, by omega, by simpa using h2, h3⟩
theorem findFrom_none {k : Key} : ∀ {l : List (Key × Int)} {i : Nat}, findFrom k i l = none ↔ ∀ x ∈ l, x.1 ≠ k
 | [], i => by simp [findFrom]
 | x :: l, i => by
  unfold findFrom
  split
  ·rename_i hx
   constructor
   ·intro h; cases h
   ·intro h; exact absurd hx (h x (by simp))
  ·rename_i hx
   rw [findFrom_none]
   constructor
   ·intro h y hy
    rcases List.mem_cons.1 hy with rfl | hy
    ·exact hx
    ·exact h y hy
   ·intro h y hy; exact h y (by simp [hy])
theorem sameBits_key (k : Key) : Instr.sameBits 10000 (keyV k) (keyV k) = true := by
 rw [show (10000 : Nat) = 9999 + 1 from rfl]
 simp [keyV, Instr.sameBits]
 rw [beq_toListBytes]
 simp
theorem entsFrom_set : ∀ (l : List (Key × Int)) (i q : Nat) (k : Key) (c : Int), (entsFrom i l).modify q (fun e => { e with val := .int .i64 c }) = entsFrom i (l.modify q fun x => (x.1, c))
 | [], i, q, k, c => by simp [entsFrom]
 | x :: l, i, 0, k, c => by simp [entsFrom, ent]
 | x :: l, i, q + 1, k, c => by
  rw [entsFrom, List.modify_succ_cons, entsFrom_set l (i + 1) q k c, List.modify_succ_cons, entsFrom]
theorem entsFrom_key : ∀ (l : List (Key × Int)) (i q : Nat) (k : Key) (c : Int), l[q]? = some (k, c) → (entsFrom i l).modify q (fun e => { e with key := keyV k }) = entsFrom i l
 | [], i, q, k, c, h => by simp at h
 | x :: l, i, 0, k, c, h => by
  simp at h; subst h
  simp [entsFrom, ent]
 | x :: l, i, q + 1, k, c, h => by
  rw [entsFrom, List.modify_succ_cons, entsFrom_key l (i + 1) q k c (by simpa using h)]
theorem findIdx_born : ∀ (l : List (Key × Int)) (i q : Nat), q < l.length → (entsFrom i l).findIdx? (fun e => (e.born : Int) == ((i + q : Nat) : Int)) = some q
 | [], i, q, h => by simp at h
 | x :: l, i, 0, h => by simp [entsFrom, ent, List.findIdx?_cons]
 | x :: l, i, q + 1, h => by
  have hne : ((ent i x).born : Int) ≠ ((i + (q + 1) : Nat) : Int) := by
   show (i : Int) ≠ _
   omega
  rw [entsFrom, List.findIdx?_cons]
  simp only [beq_eq_false_iff_ne.2 hne]
  have ih := findIdx_born l (i + 1) q (by simpa using h)
  rw [show i + 1 + q = i + (q + 1) by omega] at ih
  rw [ih]
  simp
end Go.Proofs.YtgilmcpdpggikaaGreatDoor
