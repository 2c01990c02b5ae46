/- Squeezed copy of the texts Tx2 Tx3. -/
import Derived.Test.YtgilmcpdpggikaaGreatDoorZTw8
set_option maxRecDepth 100000
set_option maxHeartbeats 1000000
set_option linter.unusedSimpArgs false
set_option linter.unusedVariables false
namespace Go.Proofs.YtgilmcpdpggikaaGreatDoor
open Go Go.RowKit Go.Own
theorem last_some : ∀ {l : Str}, l[0]? = some 47 → ∃ i, lastM l = some i
 | [], h => by cases h
 | c :: r, h => by
  simp at h; subst h
  unfold lastM
  cases lastM r with
  | none => exact ⟨0, by simp⟩
  | some i => exact ⟨i + 1, rfl⟩
theorem inner_facts {p : Str} (h : isInnerM p = true) : p.length ≤ 72 ∧ p[0]? = some 47 := by
 unfold isInnerM isPathM at h
 simp only [Bool.and_eq_true, Bool.or_eq_true, decide_eq_true_eq] at h
 rcases h.2 with h2 | h2
 ·exact absurd h2 h.1
 ·exact ⟨h2.1.2.1, h2.1.2.2⟩
section
variable {n : Nat} {ops : Array Oper} {Q : Post} {rest : List Oper} {e : Env} {w : World} {s : Ro} {rs R : List Asn} {tt : Nat} {pp : String} {af : Array Edge} {g : Option (Nat × Bool)} {d : Nat}
variable {p q : Str} {b : Nat} {t : TR}
theorem remove_t (H : Holds s w R) (ht : t.Ok) : Calls Tryz.prog 44 #[.agg t.cells.toArray, .string ⟨p.toArray⟩] w fun e w' => e = .returned (.tuple #[.agg (removeM t p).1.cells.toArray, .int .i64 (removeM t p).2]) ∧ Holds s w' R := by
 have hz := TR.ok_zero
 refine enter Tryz.func44 rfl Tryz.ntmps44 rfl ?_
 repeat' (first | refine Go4 H ?_ | (refine Gs4 H ?_; clear H; (try clear w); intro w H) | (refine Gn H ?_; clear H; (try clear w); (first | ((fail_if_success (have := bl1)); intro bl1 w H) | intro _ w H)))
 have hC := Check_s H ht
 by_cases hchk : checkM t = true
 rotate_left
 ·rw [show checkM t = false by simpa using hchk] at hC
  (refine X.call (hC) ?_; (try clear H); rintro _ w ⟨rfl, H⟩; refine ⟨_, rfl, ?_⟩)
  clear hC
  (refine Gq4 H ?_; clear H; (try clear w); intro w H)
  exact ⟨_, resVT (cs := TR.zero.cells) H rfl rfl inferInstance (TR.cells_len hz), by rw [removeM, if_pos (by simpa using hchk)]; rfl, H.tail.tail⟩
 rw [hchk] at hC
 (refine X.call (hC) ?_; (try clear H); rintro _ w ⟨rfl, H⟩; refine ⟨_, rfl, ?_⟩)
 clear hC
 refine Gq4 H ?_
 have hI := isInner_s (p := p) H
 by_cases hin : isInnerM p = true
 rotate_left
 ·rw [show isInnerM p = false by simpa using hin] at hI
  (refine X.call (hI) ?_; (try clear H); rintro _ w ⟨rfl, H⟩; refine ⟨_, rfl, ?_⟩)
  clear hI
  (refine Gq4 H ?_; clear H; (try clear w); intro w H)
  exact ⟨_, resVT (cs := TR.zero.cells) H rfl rfl inferInstance (TR.cells_len hz), by rw [removeM, if_neg (by simp [hchk]), if_pos (by simpa using hin)]; rfl, H.tail.tail⟩
 rw [hin] at hI
 (refine X.call (hI) ?_; (try clear H); rintro _ w ⟨rfl, H⟩; refine ⟨_, rfl, ?_⟩)
 clear hI
 refine Gq4 H ?_
 replace H : Holds _ _ (var bl1 41 _ :: _) := tp H
 (refine X.call (find_s (p := p) H ht) ?_; (try clear H); rintro _ w ⟨rfl, H⟩; refine ⟨_, rfl, ?_⟩)
 by_cases hk : (findM t p).2 = 0
 rotate_left
 ·(refine Gq4 H ?_; clear H; (try clear w); intro w H)
  exact ⟨_, resVT (cs := TR.zero.cells) H rfl rfl inferInstance (TR.cells_len hz), by rw [removeM, if_neg (by simp [hchk]), if_neg (by simp [hin]), if_pos hk]; rfl, H.tail.tail⟩
 obtain ⟨f, hf, hkf⟩ := findM_range hk
 have hbk := bks_of hchk hf
 have ec : removeM t p = if heldFrom t (f : Int) 7 1 = true then (TR.zero, 172) else ((emptyM t f).set f Nd.zero, 0) := by rw [removeM, if_neg (by simp [hchk]), if_neg (by simp [hin]), if_neg (by simp [hk]), hkf]; rfl
 rw [hkf]
 clear hkf hk
 refine Gq4 H ?_
 refine C.loopH H [5, 8, 26, 27, 28, 29, 30, 31, 32, 33, 34, 35, 36, 37, 38, 39, 40, 41, 42, 43, 44, 45] [8] rfl (fun m vs => ∃ i : Nat, m = 8 - i ∧ 1 ≤ i ∧ i ≤ 8 ∧ vs = [.int .i64 (i : Int)] ∧ heldFrom t (f : Int) (8 - i) i = heldFrom t (f : Int) 7 1) 7 ⟨1, rfl, by omega, by omega, rfl, rfl⟩ ?_
 clear H
 rintro m vs hv w ⟨i, rfl, hi1, hi, rfl, hr⟩ H
 by_cases hlt : i < 8
 ·have c0 := TR.cell0 ht hlt
  have c1 := TR.cell ht hlt 1 _ rfl
  rw [show 8 - i = (7 - i) + 1 by omega, heldFrom] at hr
  by_cases hh : (t.n i).kind ≠ 0 ∧ (t.n i).parent = (f : Int)
  ·rw [if_pos hh] at hr
   obtain ⟨k1, k2⟩ := hh
   repeat' (first | (refine K.iaA (i := i) rfl rfl rfl rfl rfl hlt ?_) | refine Go4 H ?_ | (refine Gs4 H ?_; clear H; (try clear w); intro w H) | (refine Gn H ?_; clear H; (try clear w); (first | ((fail_if_success (have := bl1)); intro bl1 w H) | intro _ w H)))
   exact ⟨_, resVT (cs := TR.zero.cells) H rfl rfl inferInstance (TR.cells_len hz), by rw [ec, if_pos hr.symm]; rfl, H.tail.tail⟩
  ·rw [if_neg hh] at hr
   repeat' (first | (refine K.iaA (i := i) rfl rfl rfl rfl rfl hlt ?_) | (refine X.lenL ?_) | (refine X.lv H ?_) | (refine X.lp H ?_) | (refine X.ldT H ?_) | (refine X.stT H ?_; clear H; (try clear w); intro w H) | (refine K.build [] _ build_tree0 rfl rfl rfl ?_) | (refine X.eqL ?_ ?_ <;> intro hc <;> first | (exfalso; first | exact absurd hc (by assumption) | exact absurd (by assumption) hc) | skip) | refine Z H ?_ | (refine Zc ?_ ?_ <;> intro hc <;> first | (exfalso; omega) | skip) | (refine Y ?_; try change C _ _ _ _ _ _) | (refine Zs H ?_; clear H; (try clear w); intro w H) | (refine Zn H ?_; clear H; (try clear w); (first | ((fail_if_success (have := bl1)); intro bl1 w H) | intro _ w H)) | (refine Ze H ?_; clear H; (try clear w); intro gv w H))
   all_goals first
    | (exfalso; exact hh ⟨by assumption, by assumption⟩)
    | exact ⟨agr, 8 - (i + 1), by omega, ⟨i + 1, rfl, by omega, by omega, rfl, by rw [← hr]; congr 1; omega⟩, H⟩
 obtain rfl : i = 8 := by omega
 rw [if_neg (by rw [← hr]; simp [heldFrom])] at ec
 have hek := ok_empty ht (i := f)
 have hsk := TR.ok_set hek f Nd.zero
 refine Gq4 H ?_
 (refine X.call (empty_s H ht hf hbk) ?_; (try clear H); rintro _ w ⟨rfl, H⟩; refine ⟨_, rfl, ?_⟩)
 repeat' (first | (refine K.iaA (i := f) rfl rfl rfl rfl rfl hf ?_) | (refine K.build [] _ build_node0 rfl rfl rfl ?_) | (refine X.stM (ys := Nd.zero.cells) f 0 Nd.zero hek hf (by decide) (by simp [putL, Nd.cells]) rfl rfl H ?_; clear H; (try clear w); intro w H) | refine Go4 H ?_ | (refine Gs4 H ?_; clear H; (try clear w); intro w H) | (refine Gn H ?_; clear H; (try clear w); (first | ((fail_if_success (have := bl1)); intro bl1 w H) | intro _ w H)))
 exact ⟨_, resVT (cs := ((emptyM t f).set f Nd.zero).cells) H rfl rfl inferInstance (TR.cells_len hsk), by rw [ec]; rfl, H.tail.tail⟩
theorem make_t {k : Int} (H : Holds s w R) (ht : t.Ok) : Calls Tryz.prog 43 #[.agg t.cells.toArray, .string ⟨p.toArray⟩, .int .i64 k] w fun e w' => e = .returned (.tuple #[.agg (makeM t p k).1.cells.toArray, .int .i64 (makeM t p k).2]) ∧ Holds s w' R := by
 have hz := TR.ok_zero
 refine enter Tryz.func43 rfl Tryz.ntmps43 rfl ?_
 repeat' (first | refine Go4 H ?_ | (refine Gs4 H ?_; clear H; (try clear w); intro w H) | (refine Gn H ?_; clear H; (try clear w); (first | ((fail_if_success (have := bl1)); intro bl1 w H) | intro _ w H)))
 have hC := Check_s H ht
 by_cases hchk : checkM t = true
 rotate_left
 ·rw [show checkM t = false by simpa using hchk] at hC
  (refine X.call (hC) ?_; (try clear H); rintro _ w ⟨rfl, H⟩; refine ⟨_, rfl, ?_⟩)
  clear hC
  (refine Gq4 H ?_; clear H; (try clear w); intro w H)
  exact ⟨_, resVT (cs := TR.zero.cells) H rfl rfl inferInstance (TR.cells_len hz), by rw [makeM, if_pos (by simpa using hchk)]; rfl, H.tail.tail⟩
 rw [hchk] at hC
 (refine X.call (hC) ?_; (try clear H); rintro _ w ⟨rfl, H⟩; refine ⟨_, rfl, ?_⟩)
 clear hC
 repeat' (first | (refine X.lenL ?_) | (refine X.lv H ?_) | (refine X.lp H ?_) | (refine X.ldT H ?_) | (refine X.stT H ?_; clear H; (try clear w); intro w H) | (refine K.build [] _ build_tree0 rfl rfl rfl ?_) | (refine X.eqL ?_ ?_ <;> intro hc <;> first | (exfalso; first | exact absurd hc (by assumption) | exact absurd (by assumption) hc) | skip) | ((fail_if_success (with_reducible show C _ _ _ (Code.seq (Code.seq (Code.region 3 _ _) _) _) _ _)); refine Z H ?_) | (refine Zc ?_ ?_ <;> intro hc <;> first | (exfalso; omega) | skip) | (refine Y ?_; try change C _ _ _ _ _ _) | (refine Zs H ?_; clear H; (try clear w); intro w H) | (refine Zn H ?_; clear H; (try clear w); (first | ((fail_if_success (have := bl1)); intro bl1 w H) | intro _ w H)) | (refine Ze H ?_; clear H; (try clear w); intro gv w H))
 refine C.cutH H [7, 17, 18, 19, 20, 21, 22, 23, 24, 25, 26, 27, 28] [] rfl (fun vs => ¬ (k ≠ 1 ∧ k ≠ 2) ∧ isInnerM p = true) ?_ ?_
 ·by_cases hkk : k ≠ 1 ∧ k ≠ 2
  ·have em : makeM t p k = (TR.zero, 1) := by rw [makeM, if_neg (by simp [hchk]), if_pos (.inl hkk)]
   obtain ⟨hk1, hk2⟩ := hkk
   (refine Gq4 H ?_; clear H; (try clear w); intro w H)
   exact ⟨_, resVT (cs := TR.zero.cells) H rfl rfl inferInstance (TR.cells_len hz), by rw [em]; rfl, H.tail.tail⟩
  have hI := isInner_s (p := p) H
  by_cases hin : isInnerM p = true
  ·rw [hin] at hI
   rcases (show k = 1 ∨ k = 2 by omega) with rfl | rfl
   ·refine Gq4 H ?_
    (refine X.call (hI) ?_; (try clear H); rintro _ w ⟨rfl, H⟩; refine ⟨_, rfl, ?_⟩)
    refine Gq4 H ?_
    exact ⟨agr, ⟨by omega, hin⟩, H⟩
   ·refine Gq4 H ?_
    (refine X.call (hI) ?_; (try clear H); rintro _ w ⟨rfl, H⟩; refine ⟨_, rfl, ?_⟩)
    refine Gq4 H ?_
    exact ⟨agr, ⟨by omega, hin⟩, H⟩
  ·rw [show isInnerM p = false by simpa using hin] at hI
   have em : makeM t p k = (TR.zero, 1) := by rw [makeM, if_neg (by simp [hchk]), if_pos (.inr (by simpa using hin))]
   rcases (show k = 1 ∨ k = 2 by omega) with rfl | rfl
   ·refine Gq4 H ?_
    (refine X.call (hI) ?_; (try clear H); rintro _ w ⟨rfl, H⟩; refine ⟨_, rfl, ?_⟩)
    (refine Gq4 H ?_; clear H; (try clear w); intro w H)
    exact ⟨_, resVT (cs := TR.zero.cells) H rfl rfl inferInstance (TR.cells_len hz), by rw [em]; rfl, H.tail.tail⟩
   ·refine Gq4 H ?_
    (refine X.call (hI) ?_; (try clear H); rintro _ w ⟨rfl, H⟩; refine ⟨_, rfl, ?_⟩)
    (refine Gq4 H ?_; clear H; (try clear w); intro w H)
    exact ⟨_, resVT (cs := TR.zero.cells) H rfl rfl inferInstance (TR.cells_len hz), by rw [em]; rfl, H.tail.tail⟩
 clear H
 rintro vs hv w ⟨hkk, hin⟩ H
 obtain ⟨hp72, hp0⟩ := inner_facts hin
 obtain ⟨li, hli⟩ := last_some hp0
 refine Gq4 H ?_
 (refine X.call (split_s (l := p) H (by omega) hli) ?_; (try clear H); rintro _ w ⟨rfl, H⟩; refine ⟨_, rfl, ?_⟩)
 refine Gq4 H ?_
 replace H : Holds _ _ (var bl1 41 _ :: _) := tp H
 (refine X.call (kindOf_s (p := (splitM p).1) (k := 1) H ht) ?_; (try clear H); rintro _ w ⟨rfl, H⟩; refine ⟨_, rfl, ?_⟩)
 have em : makeM t p k = if (kindOfM t (splitM p).1 1).2 ≠ 0 then (TR.zero, (kindOfM t (splitM p).1 1).2) else
   if 0 ≤ childM t (kindOfM t (splitM p).1 1).1 (splitM p).2 then (TR.zero, 171) else
   match freeFrom t 7 1 with
   | none => (TR.zero, 5)
   | some i => (t.set i ⟨k, (kindOfM t (splitM p).1 1).1, (splitM p).2, 0, 0, 0⟩, 0) := by
  rw [makeM, if_neg (by simp [hchk]), if_neg (by rw [hin]; simp; omega)]
  rfl
 by_cases hk : (kindOfM t (splitM p).1 1).2 = 0
 rotate_left
 ·rw [if_pos hk] at em
  (refine Gq4 H ?_; clear H; (try clear w); intro w H)
  exact ⟨_, resVT (cs := TR.zero.cells) H rfl rfl inferInstance (TR.cells_len hz), by rw [em]; rfl, H.tail.tail⟩
 rw [if_neg (by simp [hk])] at em
 obtain ⟨f, hf, hkf, hkd, hfd⟩ := kindOfM_range hk
 rw [hkf] at em ⊢
 refine Gq4 H ?_
 replace H : Holds _ _ (var bl1 41 _ :: _) := tp H
 (refine X.call (child_s (dir := (f : Int)) (nm := (splitM p).2) H ht) ?_; (try clear H); rintro _ w ⟨rfl, H⟩; refine ⟨_, rfl, ?_⟩)
 by_cases hch : 0 ≤ childM t (f : Int) (splitM p).2
 ·rw [if_pos hch] at em
  (refine Gq4 H ?_; clear H; (try clear w); intro w H)
  exact ⟨_, resVT (cs := TR.zero.cells) H rfl rfl inferInstance (TR.cells_len hz), by rw [em]; rfl, H.tail.tail⟩
 rw [if_neg hch] at em
 refine Gq4 H ?_
 refine C.loopH H [7, 12, 48, 49, 50, 51, 52, 53, 54, 55, 56, 57, 58, 59, 60, 61, 62, 63, 64, 65] [12] rfl (fun m vs => ∃ i : Nat, m = 8 - i ∧ 1 ≤ i ∧ i ≤ 8 ∧ vs = [.int .i64 (i : Int)] ∧ freeFrom t (8 - i) i = freeFrom t 7 1) 7 ⟨1, rfl, by omega, by omega, rfl, rfl⟩ ?_
 clear H
 rintro m vs hv2 w ⟨i, rfl, hi1, hi, rfl, hr⟩ H
 by_cases hlt : i < 8
 ·have c0 := TR.cell0 ht hlt
  rw [show 8 - i = (7 - i) + 1 by omega, freeFrom] at hr
  by_cases hh : (t.n i).kind = 0
  ·rw [if_pos hh] at hr
   rw [← hr] at em
   have hsk := TR.ok_set ht i ⟨k, (f : Int), (splitM p).2, 0, 0, 0⟩
   repeat' (first | (refine K.iaA (i := i) rfl rfl rfl rfl rfl hlt ?_) | (refine K.build [(0, .int .i64 k), (1, .int .i64 (f : Int)), (2, .string ⟨(splitM p).2.toArray⟩)] _ (build_node k (f : Int) (splitM p).2) rfl rfl rfl ?_) | (refine X.stM (ys := Nd.cells ⟨k, (f : Int), (splitM p).2, 0, 0, 0⟩) i 0 ⟨k, (f : Int), (splitM p).2, 0, 0, 0⟩ ht hlt (Nat.le_refl 6) (by simp [putL, Nd.cells]) rfl rfl H ?_; clear H; (try clear w); intro w H) | refine Go4 H ?_ | (refine Gs4 H ?_; clear H; (try clear w); intro w H) | (refine Gn H ?_; clear H; (try clear w); (first | ((fail_if_success (have := bl1)); intro bl1 w H) | intro _ w H)))
   exact ⟨_, resVT (cs := (t.set i ⟨k, (f : Int), (splitM p).2, 0, 0, 0⟩).cells) H rfl rfl inferInstance (TR.cells_len hsk), by rw [em]; rfl, H.tail.tail⟩
  ·rw [if_neg hh] at hr
   repeat' (first | (refine K.iaA (i := i) rfl rfl rfl rfl rfl hlt ?_) | refine Go4 H ?_ | (refine Gs4 H ?_; clear H; (try clear w); intro w H) | (refine Gn H ?_; clear H; (try clear w); (first | ((fail_if_success (have := bl1)); intro bl1 w H) | intro _ w H)))
   exact ⟨agr, 8 - (i + 1), by omega, ⟨i + 1, rfl, by omega, by omega, rfl, by rw [← hr]; congr 1; omega⟩, H⟩
 obtain rfl : i = 8 := by omega
 rw [← hr] at em
 (refine Gq4 H ?_; clear H; (try clear w); intro w H)
 exact ⟨_, resVT (cs := TR.zero.cells) H rfl rfl inferInstance (TR.cells_len hz), by rw [em]; rfl, H.tail.tail⟩
end
def growTo (t : TR) (f : Nat) (size quota : Int) : Nat → Option TR
 | 0 => some t
 | j + 1 => (growTo t f size quota j).bind fun u => growJ u f size quota j
theorem growM_eq {t : TR} {f : Nat} {size quota : Int} : growM t f size quota = (growTo t f size quota 2).map fun u => u.set f { u.n f with size := size } := by
 unfold growM growTo growTo growTo
 cases h : growJ t f size quota 0 with
 | none => simp [h]
 | some u => simp [h]
theorem growTo_none {t : TR} {f : Nat} {size quota : Int} {j : Nat} (hj : j < 2) (h : growTo t f size quota (j + 1) = none) : growM t f size quota = none := by
 rw [growM_eq]
 rcases (show j = 0 ∨ j = 1 by omega) with rfl | rfl
 ·rw [growTo, h]; rfl
 ·rw [h]; rfl
theorem unusedFrom_range {t : TR} : ∀ (f b : Nat), unusedFrom t f b = 0 ∨ (b ≤ unusedFrom t f b ∧ unusedFrom t f b < b + f)
 | 0, b => .inl rfl
 | f + 1, b => by
  rw [unusedFrom]
  split
  ·rcases unusedFrom_range (t := t) f (b + 1) with h | h
   ·exact .inl h
   ·exact .inr (by omega)
  ·exact .inr (by omega)
theorem unusedM_le {t : TR} : unusedM t ≤ 8 := by
 unfold unusedM
 rcases unusedFrom_range (t := t) 8 1 with h | h <;> omega
theorem blk_set {n : Nd} {j k : Nat} {v : Int} (hj : j < 2) (hk : k < 2) : (n.setBlk j v).blk k = if k = j then v else n.blk k := by
 rcases (show j = 0 ∨ j = 1 by omega) with rfl | rfl <;> rcases (show k = 0 ∨ k = 1 by omega) with rfl | rfl <;> rfl
theorem setBlk_cells {n : Nd} {j : Nat} {v : Int} (hj : j < 2) : (n.setBlk j v).cells = n.cells.set (4 + j) (.int .i64 v) := by
 rcases (show j = 0 ∨ j = 1 by omega) with rfl | rfl <;> rfl
theorem blk_cell {t : TR} (ht : t.Ok) {f j : Nat} (hf : f < 8) (hj : j < 2) : t.cells[0 + f * 6 + 4 + j * 1]? = some (.int .i64 ((t.n f).blk j)) := by
 have := TR.cell ht hf (4 + j) (.int .i64 ((t.n f).blk j)) (by rcases (show j = 0 ∨ j = 1 by omega) with rfl | rfl <;> rfl)
 rw [show 0 + f * 6 + 4 + j * 1 = 0 + f * 6 + (4 + j) by omega]
 exact this
abbrev BksJ (n : Nd) : Prop := ∀ k : Nat, k < 2 → 0 ≤ n.blk k ∧ n.blk k ≤ 8
theorem bksJ_iff {n : Nd} : BksJ n ↔ Bks n := by
 constructor
 ·intro h
  have h0 := h 0 (by omega)
  have h1 := h 1 (by omega)
  exact ⟨h0.1, h0.2, h1.1, h1.2⟩
 ·intro h k hk
  rcases (show k = 0 ∨ k = 1 by omega) with rfl | rfl
  ·exact ⟨h.1, h.2.1⟩
  ·exact ⟨h.2.2.1, h.2.2.2⟩
theorem growJ_facts {u v : TR} {f : Nat} {size quota : Int} {j : Nat} (hu : u.Ok) (hf : f < 8) (hj : j < 2) (hb : BksJ (u.n f)) (h : growJ u f size quota j = some v) : v.Ok ∧ BksJ (v.n f) ∧ (∀ k, k < j → (v.n f).blk k = (u.n f).blk k) ∧ ((j : Int) * 40 < size → (v.n f).blk j ≠ 0) := by
 unfold growJ at h
 split at h
 ·rename_i hc
  cases h
  refine ⟨hu, hb, fun _ _ => rfl, fun hs => ?_⟩
  rcases hc with hc | hc
  ·omega
  ·exact hc
 ·rename_i hc
  split at h
  ·cases h
  ·rename_i hc2
   cases h
   refine ⟨TR.ok_set hu _ _, ?_, ?_, ?_⟩
   ·intro k hk
    rw [TR.n_set hu hf, if_pos rfl, blk_set hj hk]
    have := unusedM_le (t := u)
    have := hb k hk
    split <;> omega
   ·intro k hk
    rw [TR.n_set hu hf, if_pos rfl, blk_set hj (by omega), if_neg (by omega)]
   ·intro _
    rw [TR.n_set hu hf, if_pos rfl, blk_set hj hj, if_pos rfl]
    omega
theorem growM_facts {t u : TR} {f : Nat} {size quota : Int} (ht : t.Ok) (hf : f < 8) (hb : BksJ (t.n f)) (h : growM t f size quota = some u) : u.Ok ∧ BksJ (u.n f) ∧ (u.n f).size = size ∧ ∀ j : Nat, j < 2 → (j : Int) * 40 < size → (u.n f).blk j ≠ 0 := by
 rw [growM_eq] at h
 unfold growTo growTo growTo at h
 simp only [Option.bind_some] at h
 cases h0 : growJ t f size quota 0 with
 | none => rw [h0] at h; cases h
 | some a =>
  rw [h0, Option.bind_some] at h
  cases h1 : growJ a f size quota 1 with
  | none => rw [h1] at h; cases h
  | some b =>
   rw [h1, Option.map_some] at h
   cases h
   obtain ⟨a1, a2, a3, a4⟩ := growJ_facts ht hf (by omega) hb h0
   obtain ⟨b1, b2, b3, b4⟩ := growJ_facts a1 hf (by omega) a2 h1
   refine ⟨TR.ok_set b1 _ _, ?_, ?_, ?_⟩
   ·rw [TR.n_set b1 hf, if_pos rfl]; exact b2
   ·rw [TR.n_set b1 hf, if_pos rfl]
   ·intro j hj hs
    rw [TR.n_set b1 hf, if_pos rfl]
    rcases (show j = 0 ∨ j = 1 by omega) with rfl | rfl
    ·have := b3 0 (by omega)
     intro h'
     exact a4 hs (this.symm.trans h')
    ·exact b4 hs
theorem pokes_snoc {f : Nat} : ∀ {l : Str} {t : TR} {p : Nat} {c : UInt8}, pokesM t f p (l ++ [c]) = pokeM (pokesM t f p l) f (p + l.length) c
 | [], t, p, c => rfl
 | x :: l, t, p, c => by
  rw [List.cons_append, pokesM, pokesM, pokes_snoc, List.length_cons, show p + 1 + l.length = p + (l.length + 1) by omega]
theorem pokes_n {f : Nat} : ∀ {l : Str} {t : TR} {p i : Nat}, (pokesM t f p l).n i = t.n i
 | [], t, p, i => rfl
 | x :: l, t, p, i => by rw [pokesM, pokes_n]; rfl
section
variable {n : Nat} {ops : Array Oper} {Q : Post} {rest : List Oper} {e : Env} {w : World} {s : Ro} {rs R : List Asn} {tt : Nat} {pp : String} {af : Array Edge} {g : Option (Nat × Bool)} {d : Nat}
theorem X.quoI {x y : Operand} {t u : TypeId} {xx : Int} (a b : Nat) (hxx : xx = (a : Int)) (hb : 0 < b) (ha : a < 9223372036854775808) (h : L Tryz.prog n ops Q rest (upd e d (.int .i64 ((a / b : Nat) : Int))) w) (hw : wg n ops g e = true := by rfl) (hd : Nat.blt d n = true := by rfl) (hx : ev e x = .int .i64 xx := by rfl) (hy : ev e y = .int .i64 (b : Int) := by rfl) : L Tryz.prog n ops Q (⟨some d, .binOp .quo t x y u, tt, pp, af, g⟩ :: rest) e w :=
 L.val (o := ⟨some d, .binOp .quo t x y u, tt, pp, af, g⟩) _ w hw hd (by
  subst hxx
  have h1 : (b : Int) ≠ 0 := by omega
  have hlt : a / b ≤ a := Nat.div_le_self _ _
  have h2 : IntKind.i64.wrap ((a : Int).tdiv (b : Int)) = ((a / b : Nat) : Int) := by
   rw [← Int.ofNat_tdiv]
   generalize a / b = q at hlt ⊢
   exact IntWalk.i64_in _ (by omega)
  unfold execOp
  simp only [hx, hy, eqGuard, binOp, Op.intDiv, if_neg h1, h2]
  simp) h
theorem X.remI {x y : Operand} {t u : TypeId} {xx : Int} (a b r : Nat) (hxx : xx = (a : Int)) (hb : 0 < b) (hr : a % b = r) (h : L Tryz.prog n ops Q rest (upd e d (.int .i64 (r : Int))) w) (hw : wg n ops g e = true := by rfl) (hd : Nat.blt d n = true := by rfl) (hx : ev e x = .int .i64 xx := by rfl) (hy : ev e y = .int .i64 (b : Int) := by rfl) : L Tryz.prog n ops Q (⟨some d, .binOp .rem t x y u, tt, pp, af, g⟩ :: rest) e w :=
 K.rem hw hd hx hy (by omega) (by rw [hxx, ← Int.ofNat_tmod, hr]; exact h)
theorem X.mulI {x y : Operand} {t u : TypeId} {a b : Int} (r : Int) (hr : IntKind.i64.wrap (a * b) = r) (h : L Tryz.prog n ops Q rest (upd e d (.int .i64 r)) w) (hw : wg n ops g e = true := by rfl) (hd : Nat.blt d n = true := by rfl) (hx : ev e x = .int .i64 a := by rfl) (hy : ev e y = .int .i64 b := by rfl) : L Tryz.prog n ops Q (⟨some d, .binOp .mul t x y u, tt, pp, af, g⟩ :: rest) e w :=
 K.arith _ hw hd hx hy (by
  show some (IntKind.i64.wrap (a * b)) = some r
  rw [hr]) h
theorem X.stY {ty : TypeId} {x y : Operand} [T : OneC Tryz.prog ty] {b off : Nat} {tp : TypeId} {t : TR} {f : List Value → List Asn} (k q : Nat) (c : UInt8) (ht : t.Ok) (hk : k < 8) (hq : q < 40) (H : Holds s w rs) (h : ∀ w', Holds s w' (f (t.setB k ((t.b k).set q c)).cells) → L Tryz.prog n ops Q rest e w') (ho : off = 48 + k * 40 + q * 1 := by rfl) (hw : wg n ops g e = true := by rfl) (hx : ev e x = .pointer (some ⟨b, off, none⟩) := by rfl) (V : PutV rs b tp t.cells f := by infer_instance) (hy : ev e y = u8 c := by rfl) : L Tryz.prog n ops Q (⟨none, .store ty x y, tt, pp, af, g⟩ :: rest) e w := by
 obtain ⟨j, hj, hf⟩ := V.ix
 subst ho
 exact K.store j H hw hx hj hy rfl (by rw [Nat.blt_eq, TR.cells_len ht]; omega) (fun w' H' => h w' (by rw [hf, TR.put_byte ht hk hq c] at H'; exact H'))
variable {p q : Str} {b : Nat} {t : TR}
theorem grow_s {f : Nat} {size quota : Int} (H : Holds s w (var b 41 t.cells :: R)) (ht : t.Ok) (hf : f < 8) : Calls Tryz.prog 72 #[.pointer (some ⟨b, 0, none⟩), .int .i64 (f : Int), .int .i64 size, .int .i64 quota] w fun e w' => match growM t f size quota with
  | none => e = .returned (.bool false) ∧ ∃ u : TR, Holds s w' (var b 41 u.cells :: R)
  | some u => e = .returned (.bool true) ∧ Holds s w' (var b 41 u.cells :: R) := by
 refine enter Tryz.func72 rfl Tryz.ntmps72 rfl ?_
 refine Gq4 H ?_
 refine C.loopR H [8, 9, 10, 11, 12, 13, 14, 15, 16, 17, 18, 19, 20, 21, 22, 23, 24, 25, 26, 27, 28, 29, 30, 31, 32, 33, 34, 35, 36, 37, 38, 39, 40, 41, 42, 43, 44, 45, 46, 47, 48, 49] [11] rfl (fun m vs A => ∃ (j : Nat) (u : TR), m = 2 - j ∧ j ≤ 2 ∧ vs = [.int .i64 (j : Int)] ∧ A = var b 41 u.cells ∧ u.Ok ∧ growTo t f size quota j = some u) 2 ⟨0, t, rfl, by omega, rfl, rfl, ht, rfl⟩ ?_
 clear H
 rintro m vs hv w A ⟨j, u, rfl, hj, rfl, rfl, hu, hg⟩ H
 by_cases hj2 : j < 2
 rotate_left
 ·obtain rfl : j = 2 := by omega
  have hm : growM t f size quota = some (u.set f { u.n f with size := size }) := by rw [growM_eq, hg]; rfl
  repeat' (first | (refine K.iaA (i := f) rfl rfl rfl rfl rfl hf ?_) | (refine X.stN f 3 { u.n f with size := size } hu hf (by decide) rfl H ?_; clear H; (try clear w); intro w H) | refine Go4 H ?_ | (refine Gs4 H ?_; clear H; (try clear w); intro w H) | (refine Gn H ?_; clear H; (try clear w); intro _ w H))
  exact ⟨_, resT rfl, by rw [hm]; exact ⟨rfl, H⟩⟩
 have hbc := blk_cell hu hf hj2
 have hml : IntKind.i64.wrap ((j : Int) * 40) = (j : Int) * 40 := IntWalk.i64_in _ (by omega)
 have hg1 : growTo t f size quota (j + 1) = growJ u f size quota j := by rw [growTo, hg]; rfl
 by_cases hs : size ≤ (j : Int) * 40
 ·rw [growJ, if_pos (.inl hs)] at hg1
  repeat' (first | (refine X.mulI _ hml ?_) | refine Go4 H ?_ | (refine Gs4 H ?_; clear H; (try clear w); intro w H) | (refine Gn H ?_; clear H; (try clear w); intro _ w H))
  exact ⟨agr, 2 - (j + 1), by omega, _, ⟨j + 1, u, rfl, by omega, rfl, rfl, hu, hg1⟩, H⟩
 by_cases hb0 : (u.n f).blk j ≠ 0
 ·rw [growJ, if_pos (.inr hb0)] at hg1
  repeat' (first | (refine X.mulI _ hml ?_) | (refine K.iaA (i := f) rfl rfl rfl rfl rfl hf ?_) | (refine K.iaA (i := j) rfl rfl rfl rfl rfl hj2 ?_) | refine Go4 H ?_ | (refine Gs4 H ?_; clear H; (try clear w); intro w H) | (refine Gn H ?_; clear H; (try clear w); intro _ w H))
  exact ⟨agr, 2 - (j + 1), by omega, _, ⟨j + 1, u, rfl, by omega, rfl, rfl, hu, hg1⟩, H⟩
 rw [growJ, if_neg (by intro h; exact h.elim hs hb0)] at hg1
 have hb0' : (u.n f).blk j = 0 := by omega
 repeat' (first | (refine X.mulI _ hml ?_) | (refine K.iaA (i := f) rfl rfl rfl rfl rfl hf ?_) | (refine K.iaA (i := j) rfl rfl rfl rfl rfl hj2 ?_) | refine Go4 H ?_ | (refine Gs4 H ?_; clear H; (try clear w); intro w H) | (refine Gn H ?_; clear H; (try clear w); intro _ w H))
 (refine X.call (unused_s H hu) ?_; (try clear H); rintro _ w ⟨rfl, H⟩; refine ⟨_, rfl, ?_⟩)
 by_cases hun : unusedM u = 0
 ·rw [if_pos (.inl hun)] at hg1
  refine Gq4 H ?_
  exact ⟨_, resT rfl, by rw [growTo_none hj2 hg1]; exact ⟨rfl, u, H⟩⟩
 refine Gq4 H ?_
 (refine X.call (used_s H hu) ?_; (try clear H); rintro _ w ⟨rfl, H⟩; refine ⟨_, rfl, ?_⟩)
 by_cases hq : quota ≤ (usedN u : Int)
 ·rw [if_pos (.inr hq)] at hg1
  refine Gq4 H ?_
  exact ⟨_, resT rfl, by rw [growTo_none hj2 hg1]; exact ⟨rfl, u, H⟩⟩
 rw [if_neg (by intro h; exact h.elim hun hq)] at hg1
 repeat' (first | (refine X.mulI _ hml ?_) | (refine K.iaA (i := f) rfl rfl rfl rfl rfl hf ?_) | (refine K.iaA (i := j) rfl rfl rfl rfl rfl hj2 ?_) | (refine X.stN (off := 0 + f * 6 + 4 + j * 1) f (4 + j) ((u.n f).setBlk j (unusedM u)) hu hf (by omega) (setBlk_cells hj2) H ?_ (ho := by omega); clear H; (try clear w); intro w H) | refine Go4 H ?_ | (refine Gs4 H ?_; clear H; (try clear w); intro w H) | (refine Gn H ?_; clear H; (try clear w); intro _ w H))
 exact ⟨agr, 2 - (j + 1), by omega, _, ⟨j + 1, _, rfl, by omega, rfl, rfl, TR.ok_set hu _ _, hg1⟩, H⟩
end
end Go.Proofs.YtgilmcpdpggikaaGreatDoor
