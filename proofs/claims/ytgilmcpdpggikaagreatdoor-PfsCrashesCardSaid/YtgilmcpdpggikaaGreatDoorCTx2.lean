/- Squeezed copy of the texts Tx2. -/
import Derived.Test.YtgilmcpdpggikaaGreatDoorCTx1
set_option maxRecDepth 100000
set_option maxHeartbeats 1000000
set_option linter.unusedSimpArgs false
set_option linter.unusedVariables false
namespace Go.Proofs.YtgilmcpdpggikaaGreatDoor
open Go Go.RowKit Go.Own
theorem last_some : ∀ {l : Str}, l[0]? = some 47 → ∃ i, lastM l = some i
 | [], h => by cases h
 | c :: r, h => by
  simp at h; subst h
  unfold lastM
  cases lastM r with
  | none => exact ⟨0, by simp⟩
  | some i => exact ⟨i + 1, rfl⟩
theorem inner_facts {p : Str} (h : isInnerM p = true) : p.length ≤ 72 ∧ p[0]? = some 47 := by
 unfold isInnerM isPathM at h
 simp only [Bool.and_eq_true, Bool.or_eq_true, decide_eq_true_eq] at h
 rcases h.2 with h2 | h2
 ·exact absurd h2 h.1
 ·exact ⟨h2.1.2.1, h2.1.2.2⟩
section
variable {n : Nat} {ops : Array Oper} {Q : Post} {rest : List Oper} {e : Env} {w : World} {s : Ro} {rs R : List Asn} {tt : Nat} {pp : String} {af : Array Edge} {g : Option (Nat × Bool)} {d : Nat}
variable {p q : Str} {b : Nat} {t : TR}
theorem remove_t (H : Holds s w R) (ht : t.Ok) : Calls Tryz.prog 44 #[.agg t.cells.toArray, .string ⟨p.toArray⟩] w fun e w' => e = .returned (.tuple #[.agg (removeM t p).1.cells.toArray, .int .i64 (removeM t p).2]) ∧ Holds s w' R := by
 have hz := TR.ok_zero
 refine enter Tryz.func44 rfl Tryz.ntmps44 rfl ?_
 repeat' (first | refine Go4 H ?_ | (refine Gs4 H ?_; clear H; (try clear w); intro w H) | (refine Gn H ?_; clear H; (try clear w); (first | ((fail_if_success (have := bl1)); intro bl1 w H) | intro _ w H)))
 have hC := Check_s H ht
 by_cases hchk : checkM t = true
 rotate_left
 ·rw [show checkM t = false by simpa using hchk] at hC
  (refine X.call (hC) ?_; (try clear H); rintro _ w ⟨rfl, H⟩; refine ⟨_, rfl, ?_⟩)
  clear hC
  (refine Gq4 H ?_; clear H; (try clear w); intro w H)
  exact ⟨_, resVT (cs := TR.zero.cells) H rfl rfl inferInstance (TR.cells_len hz), by rw [removeM, if_pos (by simpa using hchk)]; rfl, H.tail.tail⟩
 rw [hchk] at hC
 (refine X.call (hC) ?_; (try clear H); rintro _ w ⟨rfl, H⟩; refine ⟨_, rfl, ?_⟩)
 clear hC
 refine Gq4 H ?_
 have hI := isInner_s (p := p) H
 by_cases hin : isInnerM p = true
 rotate_left
 ·rw [show isInnerM p = false by simpa using hin] at hI
  (refine X.call (hI) ?_; (try clear H); rintro _ w ⟨rfl, H⟩; refine ⟨_, rfl, ?_⟩)
  clear hI
  (refine Gq4 H ?_; clear H; (try clear w); intro w H)
  exact ⟨_, resVT (cs := TR.zero.cells) H rfl rfl inferInstance (TR.cells_len hz), by rw [removeM, if_neg (by simp [hchk]), if_pos (by simpa using hin)]; rfl, H.tail.tail⟩
 rw [hin] at hI
 (refine X.call (hI) ?_; (try clear H); rintro _ w ⟨rfl, H⟩; refine ⟨_, rfl, ?_⟩)
 clear hI
 refine Gq4 H ?_
 replace H : Holds _ _ (var bl1 41 _ :: _) := tp H
 (refine X.call (find_s (p := p) H ht) ?_; (try clear H); rintro _ w ⟨rfl, H⟩; refine ⟨_, rfl, ?_⟩)
 by_cases hk : (findM t p).2 = 0
 rotate_left
 ·(refine Gq4 H ?_; clear H; (try clear w); intro w H)
  exact ⟨_, resVT (cs := TR.zero.cells) H rfl rfl inferInstance (TR.cells_len hz), by rw [removeM, if_neg (by simp [hchk]), if_neg (by simp [hin]), if_pos hk]; rfl, H.tail.tail⟩
 obtain ⟨f, hf, hkf⟩ := findM_range hk
 have hbk := bks_of hchk hf
 have ec : removeM t p = if heldFrom t (f : Int) 7 1 = true then (TR.zero, 172) else ((emptyM t f).set f Nd.zero, 0) := by rw [removeM, if_neg (by simp [hchk]), if_neg (by simp [hin]), if_neg (by simp [hk]), hkf]; rfl
 rw [hkf]
 clear hkf hk
 refine Gq4 H ?_
 refine C.loopH H [5, 8, 26, 27, 28, 29, 30, 31, 32, 33, 34, 35, 36, 37, 38, 39, 40, 41, 42, 43, 44, 45] [8] rfl (fun m vs => ∃ i : Nat, m = 8 - i ∧ 1 ≤ i ∧ i ≤ 8 ∧ vs = [.int .i64 (i : Int)] ∧ heldFrom t (f : Int) (8 - i) i = heldFrom t (f : Int) 7 1) 7 ⟨1, rfl, by omega, by omega, rfl, rfl⟩ ?_
 clear H
 rintro m vs hv w ⟨i, rfl, hi1, hi, rfl, hr⟩ H
 by_cases hlt : i < 8
 ·have c0 := TR.cell0 ht hlt
  have c1 := TR.cell ht hlt 1 _ rfl
  rw [show 8 - i = (7 - i) + 1 by omega, heldFrom] at hr
  by_cases hh : (t.n i).kind ≠ 0 ∧ (t.n i).parent = (f : Int)
  ·rw [if_pos hh] at hr
   obtain ⟨k1, k2⟩ := hh
   repeat' (first | (refine K.iaA (i := i) rfl rfl rfl rfl rfl hlt ?_) | refine Go4 H ?_ | (refine Gs4 H ?_; clear H; (try clear w); intro w H) | (refine Gn H ?_; clear H; (try clear w); (first | ((fail_if_success (have := bl1)); intro bl1 w H) | intro _ w H)))
   exact ⟨_, resVT (cs := TR.zero.cells) H rfl rfl inferInstance (TR.cells_len hz), by rw [ec, if_pos hr.symm]; rfl, H.tail.tail⟩
  ·rw [if_neg hh] at hr
   repeat' (first | (refine K.iaA (i := i) rfl rfl rfl rfl rfl hlt ?_) | (refine X.lenL ?_) | (refine X.lv H ?_) | (refine X.lp H ?_) | (refine X.ldT H ?_) | (refine X.stT H ?_; clear H; (try clear w); intro w H) | (refine K.build [] _ build_tree0 rfl rfl rfl ?_) | (refine X.eqL ?_ ?_ <;> intro hc <;> first | (exfalso; first | exact absurd hc (by assumption) | exact absurd (by assumption) hc) | skip) | refine Z H ?_ | (refine Zc ?_ ?_ <;> intro hc <;> first | (exfalso; omega) | skip) | (refine Y ?_; try change C _ _ _ _ _ _) | (refine Zs H ?_; clear H; (try clear w); intro w H) | (refine Zn H ?_; clear H; (try clear w); (first | ((fail_if_success (have := bl1)); intro bl1 w H) | intro _ w H)) | (refine Ze H ?_; clear H; (try clear w); intro gv w H))
   all_goals first
    | (exfalso; exact hh ⟨by assumption, by assumption⟩)
    | exact ⟨agr, 8 - (i + 1), by omega, ⟨i + 1, rfl, by omega, by omega, rfl, by rw [← hr]; congr 1; omega⟩, H⟩
 obtain rfl : i = 8 := by omega
 rw [if_neg (by rw [← hr]; simp [heldFrom])] at ec
 have hek := ok_empty ht (i := f)
 have hsk := TR.ok_set hek f Nd.zero
 refine Gq4 H ?_
 (refine X.call (empty_s H ht hf hbk) ?_; (try clear H); rintro _ w ⟨rfl, H⟩; refine ⟨_, rfl, ?_⟩)
 repeat' (first | (refine K.iaA (i := f) rfl rfl rfl rfl rfl hf ?_) | (refine K.build [] _ build_node0 rfl rfl rfl ?_) | (refine X.stM (ys := Nd.zero.cells) f 0 Nd.zero hek hf (by decide) (by simp [putL, Nd.cells]) rfl rfl H ?_; clear H; (try clear w); intro w H) | refine Go4 H ?_ | (refine Gs4 H ?_; clear H; (try clear w); intro w H) | (refine Gn H ?_; clear H; (try clear w); (first | ((fail_if_success (have := bl1)); intro bl1 w H) | intro _ w H)))
 exact ⟨_, resVT (cs := ((emptyM t f).set f Nd.zero).cells) H rfl rfl inferInstance (TR.cells_len hsk), by rw [ec]; rfl, H.tail.tail⟩
theorem make_t {k : Int} (H : Holds s w R) (ht : t.Ok) : Calls Tryz.prog 43 #[.agg t.cells.toArray, .string ⟨p.toArray⟩, .int .i64 k] w fun e w' => e = .returned (.tuple #[.agg (makeM t p k).1.cells.toArray, .int .i64 (makeM t p k).2]) ∧ Holds s w' R := by
 have hz := TR.ok_zero
 refine enter Tryz.func43 rfl Tryz.ntmps43 rfl ?_
 repeat' (first | refine Go4 H ?_ | (refine Gs4 H ?_; clear H; (try clear w); intro w H) | (refine Gn H ?_; clear H; (try clear w); (first | ((fail_if_success (have := bl1)); intro bl1 w H) | intro _ w H)))
 have hC := Check_s H ht
 by_cases hchk : checkM t = true
 rotate_left
 ·rw [show checkM t = false by simpa using hchk] at hC
  (refine X.call (hC) ?_; (try clear H); rintro _ w ⟨rfl, H⟩; refine ⟨_, rfl, ?_⟩)
  clear hC
  (refine Gq4 H ?_; clear H; (try clear w); intro w H)
  exact ⟨_, resVT (cs := TR.zero.cells) H rfl rfl inferInstance (TR.cells_len hz), by rw [makeM, if_pos (by simpa using hchk)]; rfl, H.tail.tail⟩
 rw [hchk] at hC
 (refine X.call (hC) ?_; (try clear H); rintro _ w ⟨rfl, H⟩; refine ⟨_, rfl, ?_⟩)
 clear hC
 repeat' (first | (refine X.lenL ?_) | (refine X.lv H ?_) | (refine X.lp H ?_) | (refine X.ldT H ?_) | (refine X.stT H ?_; clear H; (try clear w); intro w H) | (refine K.build [] _ build_tree0 rfl rfl rfl ?_) | (refine X.eqL ?_ ?_ <;> intro hc <;> first | (exfalso; first | exact absurd hc (by assumption) | exact absurd (by assumption) hc) | skip) | ((fail_if_success (with_reducible show C _ _ _ (Code.seq (Code.seq (Code.region 3 _ _) _) _) _ _)); refine Z H ?_) | (refine Zc ?_ ?_ <;> intro hc <;> first | (exfalso; omega) | skip) | (refine Y ?_; try change C _ _ _ _ _ _) | (refine Zs H ?_; clear H; (try clear w); intro w H) | (refine Zn H ?_; clear H; (try clear w); (first | ((fail_if_success (have := bl1)); intro bl1 w H) | intro _ w H)) | (refine Ze H ?_; clear H; (try clear w); intro gv w H))
 refine C.cutH H [7, 17, 18, 19, 20, 21, 22, 23, 24, 25, 26, 27, 28] [] rfl (fun vs => ¬ (k ≠ 1 ∧ k ≠ 2) ∧ isInnerM p = true) ?_ ?_
 ·by_cases hkk : k ≠ 1 ∧ k ≠ 2
  ·have em : makeM t p k = (TR.zero, 1) := by rw [makeM, if_neg (by simp [hchk]), if_pos (.inl hkk)]
   obtain ⟨hk1, hk2⟩ := hkk
   (refine Gq4 H ?_; clear H; (try clear w); intro w H)
   exact ⟨_, resVT (cs := TR.zero.cells) H rfl rfl inferInstance (TR.cells_len hz), by rw [em]; rfl, H.tail.tail⟩
  have hI := isInner_s (p := p) H
  by_cases hin : isInnerM p = true
  ·rw [hin] at hI
   rcases (show k = 1 ∨ k = 2 by omega) with rfl | rfl
   ·refine Gq4 H ?_
    (refine X.call (hI) ?_; (try clear H); rintro _ w ⟨rfl, H⟩; refine ⟨_, rfl, ?_⟩)
    refine Gq4 H ?_
    exact ⟨agr, ⟨by omega, hin⟩, H⟩
   ·refine Gq4 H ?_
    (refine X.call (hI) ?_; (try clear H); rintro _ w ⟨rfl, H⟩; refine ⟨_, rfl, ?_⟩)
    refine Gq4 H ?_
    exact ⟨agr, ⟨by omega, hin⟩, H⟩
  ·rw [show isInnerM p = false by simpa using hin] at hI
   have em : makeM t p k = (TR.zero, 1) := by rw [makeM, if_neg (by simp [hchk]), if_pos (.inr (by simpa using hin))]
   rcases (show k = 1 ∨ k = 2 by omega) with rfl | rfl
   ·refine Gq4 H ?_
    (refine X.call (hI) ?_; (try clear H); rintro _ w ⟨rfl, H⟩; refine ⟨_, rfl, ?_⟩)
    (refine Gq4 H ?_; clear H; (try clear w); intro w H)
    exact ⟨_, resVT (cs := TR.zero.cells) H rfl rfl inferInstance (TR.cells_len hz), by rw [em]; rfl, H.tail.tail⟩
   ·refine Gq4 H ?_
    (refine X.call (hI) ?_; (try clear H); rintro _ w ⟨rfl, H⟩; refine ⟨_, rfl, ?_⟩)
    (refine Gq4 H ?_; clear H; (try clear w); intro w H)
    exact ⟨_, resVT (cs := TR.zero.cells) H rfl rfl inferInstance (TR.cells_len hz), by rw [em]; rfl, H.tail.tail⟩
 clear H
 rintro vs hv w ⟨hkk, hin⟩ H
 obtain ⟨hp72, hp0⟩ := inner_facts hin
 obtain ⟨li, hli⟩ := last_some hp0
 refine Gq4 H ?_
 (refine X.call (split_s (l := p) H (by omega) hli) ?_; (try clear H); rintro _ w ⟨rfl, H⟩; refine ⟨_, rfl, ?_⟩)
 refine Gq4 H ?_
 replace H : Holds _ _ (var bl1 41 _ :: _) := tp H
 (refine X.call (kindOf_s (p := (splitM p).1) (k := 1) H ht) ?_; (try clear H); rintro _ w ⟨rfl, H⟩; refine ⟨_, rfl, ?_⟩)
 have em : makeM t p k = if (kindOfM t (splitM p).1 1).2 ≠ 0 then (TR.zero, (kindOfM t (splitM p).1 1).2) else
   if 0 ≤ childM t (kindOfM t (splitM p).1 1).1 (splitM p).2 then (TR.zero, 171) else
   match freeFrom t 7 1 with
   | none => (TR.zero, 5)
   | some i => (t.set i ⟨k, (kindOfM t (splitM p).1 1).1, (splitM p).2, 0, 0, 0⟩, 0) := by
  rw [makeM, if_neg (by simp [hchk]), if_neg (by rw [hin]; simp; omega)]
  rfl
 by_cases hk : (kindOfM t (splitM p).1 1).2 = 0
 rotate_left
 ·rw [if_pos hk] at em
  (refine Gq4 H ?_; clear H; (try clear w); intro w H)
  exact ⟨_, resVT (cs := TR.zero.cells) H rfl rfl inferInstance (TR.cells_len hz), by rw [em]; rfl, H.tail.tail⟩
 rw [if_neg (by simp [hk])] at em
 obtain ⟨f, hf, hkf, hkd, hfd⟩ := kindOfM_range hk
 rw [hkf] at em ⊢
 refine Gq4 H ?_
 replace H : Holds _ _ (var bl1 41 _ :: _) := tp H
 (refine X.call (child_s (dir := (f : Int)) (nm := (splitM p).2) H ht) ?_; (try clear H); rintro _ w ⟨rfl, H⟩; refine ⟨_, rfl, ?_⟩)
 by_cases hch : 0 ≤ childM t (f : Int) (splitM p).2
 ·rw [if_pos hch] at em
  (refine Gq4 H ?_; clear H; (try clear w); intro w H)
  exact ⟨_, resVT (cs := TR.zero.cells) H rfl rfl inferInstance (TR.cells_len hz), by rw [em]; rfl, H.tail.tail⟩
 rw [if_neg hch] at em
 refine Gq4 H ?_
 refine C.loopH H [7, 12, 48, 49, 50, 51, 52, 53, 54, 55, 56, 57, 58, 59, 60, 61, 62, 63, 64, 65] [12] rfl (fun m vs => ∃ i : Nat, m = 8 - i ∧ 1 ≤ i ∧ i ≤ 8 ∧ vs = [.int .i64 (i : Int)] ∧ freeFrom t (8 - i) i = freeFrom t 7 1) 7 ⟨1, rfl, by omega, by omega, rfl, rfl⟩ ?_
 clear H
 rintro m vs hv2 w ⟨i, rfl, hi1, hi, rfl, hr⟩ H
 by_cases hlt : i < 8
 ·have c0 := TR.cell0 ht hlt
  rw [show 8 - i = (7 - i) + 1 by omega, freeFrom] at hr
  by_cases hh : (t.n i).kind = 0
  ·rw [if_pos hh] at hr
   rw [← hr] at em
   have hsk := TR.ok_set ht i ⟨k, (f : Int), (splitM p).2, 0, 0, 0⟩
   repeat' (first | (refine K.iaA (i := i) rfl rfl rfl rfl rfl hlt ?_) | (refine K.build [(0, .int .i64 k), (1, .int .i64 (f : Int)), (2, .string ⟨(splitM p).2.toArray⟩)] _ (build_node k (f : Int) (splitM p).2) rfl rfl rfl ?_) | (refine X.stM (ys := Nd.cells ⟨k, (f : Int), (splitM p).2, 0, 0, 0⟩) i 0 ⟨k, (f : Int), (splitM p).2, 0, 0, 0⟩ ht hlt (Nat.le_refl 6) (by simp [putL, Nd.cells]) rfl rfl H ?_; clear H; (try clear w); intro w H) | refine Go4 H ?_ | (refine Gs4 H ?_; clear H; (try clear w); intro w H) | (refine Gn H ?_; clear H; (try clear w); (first | ((fail_if_success (have := bl1)); intro bl1 w H) | intro _ w H)))
   exact ⟨_, resVT (cs := (t.set i ⟨k, (f : Int), (splitM p).2, 0, 0, 0⟩).cells) H rfl rfl inferInstance (TR.cells_len hsk), by rw [em]; rfl, H.tail.tail⟩
  ·rw [if_neg hh] at hr
   repeat' (first | (refine K.iaA (i := i) rfl rfl rfl rfl rfl hlt ?_) | refine Go4 H ?_ | (refine Gs4 H ?_; clear H; (try clear w); intro w H) | (refine Gn H ?_; clear H; (try clear w); (first | ((fail_if_success (have := bl1)); intro bl1 w H) | intro _ w H)))
   exact ⟨agr, 8 - (i + 1), by omega, ⟨i + 1, rfl, by omega, by omega, rfl, by rw [← hr]; congr 1; omega⟩, H⟩
 obtain rfl : i = 8 := by omega
 rw [← hr] at em
 (refine Gq4 H ?_; clear H; (try clear w); intro w H)
 exact ⟨_, resVT (cs := TR.zero.cells) H rfl rfl inferInstance (TR.cells_len hz), by rw [em]; rfl, H.tail.tail⟩
theorem move_t (H : Holds s w R) (ht : t.Ok) : Calls Tryz.prog 45 #[.agg t.cells.toArray, .string ⟨p.toArray⟩, .string ⟨q.toArray⟩] w fun e w' => e = .returned (.tuple #[.agg (moveM t p q).1.cells.toArray, .int .i64 (moveM t p q).2]) ∧ Holds s w' R := by
 have hz := TR.ok_zero
 refine enter Tryz.func45 rfl Tryz.ntmps45 rfl ?_
 repeat' (first | refine Go4 H ?_ | (refine Gs4 H ?_; clear H; (try clear w); intro w H) | (refine Gn H ?_; clear H; (try clear w); (first | ((fail_if_success (have := bl1)); intro bl1 w H) | intro _ w H)))
 have hC := Check_s H ht
 by_cases hchk : checkM t = true
 rotate_left
 ·rw [show checkM t = false by simpa using hchk] at hC
  (refine X.call (hC) ?_; (try clear H); rintro _ w ⟨rfl, H⟩; refine ⟨_, rfl, ?_⟩)
  clear hC
  (refine Gq4 H ?_; clear H; (try clear w); intro w H)
  exact ⟨_, resVT (cs := TR.zero.cells) H rfl rfl inferInstance (TR.cells_len hz), by rw [moveM, if_pos (by simpa using hchk)]; rfl, H.tail.tail⟩
 rw [hchk] at hC
 (refine X.call (hC) ?_; (try clear H); rintro _ w ⟨rfl, H⟩; refine ⟨_, rfl, ?_⟩)
 clear hC
 refine Gq4 H ?_
 have hI := isInner_s (p := p) H
 by_cases hin : isInnerM p = true
 rotate_left
 ·have em : moveM t p q = (TR.zero, 1) := by rw [moveM, if_neg (by simp [hchk]), if_pos (.inl (by simpa using hin))]
  rw [show isInnerM p = false by simpa using hin] at hI
  (refine X.call (hI) ?_; (try clear H); rintro _ w ⟨rfl, H⟩; refine ⟨_, rfl, ?_⟩)
  clear hI
  (refine Gq4 H ?_; clear H; (try clear w); intro w H)
  exact ⟨_, resVT (cs := TR.zero.cells) H rfl rfl inferInstance (TR.cells_len hz), by rw [em]; rfl, H.tail.tail⟩
 rw [hin] at hI
 (refine X.call (hI) ?_; (try clear H); rintro _ w ⟨rfl, H⟩; refine ⟨_, rfl, ?_⟩)
 clear hI
 refine Gq4 H ?_
 have hI := isInner_s (p := q) H
 by_cases hin2 : isInnerM q = true
 rotate_left
 ·have em : moveM t p q = (TR.zero, 1) := by rw [moveM, if_neg (by simp [hchk]), if_pos (.inr (by simpa using hin2))]
  rw [show isInnerM q = false by simpa using hin2] at hI
  (refine X.call (hI) ?_; (try clear H); rintro _ w ⟨rfl, H⟩; refine ⟨_, rfl, ?_⟩)
  clear hI
  (refine Gq4 H ?_; clear H; (try clear w); intro w H)
  exact ⟨_, resVT (cs := TR.zero.cells) H rfl rfl inferInstance (TR.cells_len hz), by rw [em]; rfl, H.tail.tail⟩
 rw [hin2] at hI
 (refine X.call (hI) ?_; (try clear H); rintro _ w ⟨rfl, H⟩; refine ⟨_, rfl, ?_⟩)
 clear hI
 refine Gq4 H ?_
 replace H : Holds _ _ (var bl1 41 _ :: _) := tp H
 (refine X.call (find_s (p := p) H ht) ?_; (try clear H); rintro _ w ⟨rfl, H⟩; refine ⟨_, rfl, ?_⟩)
 have em : moveM t p q = if (findM t p).2 ≠ 0 then (TR.zero, (findM t p).2) else
  if (kindOfM t (splitM q).1 1).2 ≠ 0 then (TR.zero, (kindOfM t (splitM q).1 1).2) else
  if underFrom t (findM t p).1 8 (kindOfM t (splitM q).1 1).1 = true then (TR.zero, 172) else
  if 0 ≤ childM t (kindOfM t (splitM q).1 1).1 (splitM q).2 then (TR.zero, 171) else
  (t.set (findM t p).1.toNat { t.n (findM t p).1.toNat with parent := (kindOfM t (splitM q).1 1).1, name := (splitM q).2 }, 0) := by
  rw [moveM, if_neg (by simp [hchk]), if_neg (by simp [hin, hin2])]
 by_cases hk : (findM t p).2 = 0
 rotate_left
 ·rw [if_pos hk] at em
  (refine Gq4 H ?_; clear H; (try clear w); intro w H)
  exact ⟨_, resVT (cs := TR.zero.cells) H rfl rfl inferInstance (TR.cells_len hz), by rw [em]; rfl, H.tail.tail⟩
 rw [if_neg (by simp [hk])] at em
 obtain ⟨a, ha, hka⟩ := findM_range hk
 rw [hka] at em ⊢
 clear hka hk
 obtain ⟨hp72, hp0⟩ := inner_facts hin2
 obtain ⟨li, hli⟩ := last_some hp0
 refine Gq4 H ?_
 (refine X.call (split_s (l := q) H (by omega) hli) ?_; (try clear H); rintro _ w ⟨rfl, H⟩; refine ⟨_, rfl, ?_⟩)
 refine Gq4 H ?_
 replace H : Holds _ _ (var bl1 41 _ :: _) := tp H
 (refine X.call (kindOf_s (p := (splitM q).1) (k := 1) H ht) ?_; (try clear H); rintro _ w ⟨rfl, H⟩; refine ⟨_, rfl, ?_⟩)
 by_cases hk : (kindOfM t (splitM q).1 1).2 = 0
 rotate_left
 ·rw [if_pos hk] at em
  (refine Gq4 H ?_; clear H; (try clear w); intro w H)
  exact ⟨_, resVT (cs := TR.zero.cells) H rfl rfl inferInstance (TR.cells_len hz), by rw [em]; rfl, H.tail.tail⟩
 rw [if_neg (by simp [hk])] at em
 obtain ⟨f, hf, hkf, hkd, hfd⟩ := kindOfM_range hk
 rw [hkf] at em ⊢
 clear hkf hk
 have hrt := rooted_of hchk hf (by omega)
 refine Gq4 H ?_
 refine C.loopH H [7, 13, 51, 52, 53, 54, 55, 56, 57, 58, 59, 60, 61] [13] rfl (fun m vs => ∃ i : Nat, i < 8 ∧ vs = [.int .i64 (i : Int)] ∧ rootedFrom t m i = true ∧ underFrom t (a : Int) m (i : Int) = underFrom t (a : Int) 8 (f : Int)) 8 ⟨f, hf, rfl, hrt, rfl⟩ ?_
 clear H
 rintro m vs hv w ⟨i, hi, rfl, hri, hu⟩ H
 by_cases hi0 : i = 0
 rotate_left
 ·cases m with
  | zero => exact absurd (rooted_zero hri) hi0
  | succ m =>
   obtain ⟨y, hy, hpy, hry⟩ := rooted_step hri hi0
   rw [underFrom, if_neg (by omega), Int.toNat_natCast, hpy] at hu
   have c1 := TR.cell ht hi 1 _ rfl
   by_cases hia : i = a
   ·rw [if_pos (by omega)] at hu
    rw [if_pos hu.symm] at em
    (refine Gq4 H ?_; clear H; (try clear w); intro w H)
    exact ⟨_, resVT (cs := TR.zero.cells) H rfl rfl inferInstance (TR.cells_len hz), by rw [em]; rfl, H.tail.tail⟩
   ·rw [if_neg (by omega)] at hu
    repeat' (first | (refine K.iaA (i := i) rfl rfl rfl rfl rfl hi ?_) | refine Go4 H ?_ | (refine Gs4 H ?_; clear H; (try clear w); intro w H) | (refine Gn H ?_; clear H; (try clear w); (first | ((fail_if_success (have := bl1)); intro bl1 w H) | intro _ w H)))
    exact ⟨agr, m, by omega, ⟨y, hy, by show [Value.int .i64 (t.n i).parent] = _; rw [hpy], hry, hu⟩, H⟩
 subst hi0
 have hu0 : underFrom t (a : Int) m ((0 : Nat) : Int) = false := by
  cases m with
  | zero => rfl
  | succ m => rw [underFrom, if_pos (by simp)]
 rw [if_neg (by rw [← hu, hu0]; simp)] at em
 refine Gq4 H ?_
 replace H : Holds _ _ (var bl1 41 _ :: _) := tp H
 (refine X.call (child_s (dir := (f : Int)) (nm := (splitM q).2) H ht) ?_; (try clear H); rintro _ w ⟨rfl, H⟩; refine ⟨_, rfl, ?_⟩)
 by_cases hch : 0 ≤ childM t (f : Int) (splitM q).2
 ·rw [if_pos hch] at em
  (refine Gq4 H ?_; clear H; (try clear w); intro w H)
  exact ⟨_, resVT (cs := TR.zero.cells) H rfl rfl inferInstance (TR.cells_len hz), by rw [em]; rfl, H.tail.tail⟩
 rw [if_neg hch] at em
 have hsk := TR.ok_set ht a { t.n a with parent := (f : Int) }
 have hsk2 := TR.ok_set hsk a { t.n a with parent := (f : Int), name := (splitM q).2 }
 repeat' (first | (refine K.iaA (i := a) rfl rfl rfl rfl rfl ha ?_) | (refine X.stN a 1 { t.n a with parent := (f : Int) } ht ha (by decide) rfl H ?_; clear H; (try clear w); intro w H) | (refine X.stN a 2 { t.n a with parent := (f : Int), name := (splitM q).2 } hsk ha (by decide) (by rw [TR.n_set ht ha, if_pos rfl]; rfl) H ?_; clear H; (try clear w); intro w H) | refine Go4 H ?_ | (refine Gs4 H ?_; clear H; (try clear w); intro w H) | (refine Gn H ?_; clear H; (try clear w); (first | ((fail_if_success (have := bl1)); intro bl1 w H) | intro _ w H)))
 have e2 : ((t.set a { t.n a with parent := (f : Int) }).set a { t.n a with parent := (f : Int), name := (splitM q).2 }) = t.set a { t.n a with parent := (f : Int), name := (splitM q).2 } := by
  rw [TR.set, TR.set, List.set_set]; rfl
 exact ⟨_, resVT (cs := ((t.set a { t.n a with parent := (f : Int) }).set a { t.n a with parent := (f : Int), name := (splitM q).2 }).cells) H rfl rfl inferInstance (TR.cells_len hsk2), by rw [em, e2]; rfl, H.tail.tail⟩
end
end Go.Proofs.YtgilmcpdpggikaaGreatDoor
