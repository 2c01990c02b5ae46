/- Squeezed copy of the texts Tx1. -/
import Derived.Test.YtgilmcpdpggikaaGreatDoorCTw8
set_option maxRecDepth 100000
set_option maxHeartbeats 1000000
set_option linter.unusedSimpArgs false
set_option linter.unusedVariables false
namespace Go.Proofs.YtgilmcpdpggikaaGreatDoor
open Go Go.RowKit Go.Own
def clrs (t : TR) (n : Nd) : Nat → TR
 | 0 => t
 | j + 1 => clrM (clrs t n j) (n.blk j)
theorem ok_clr {t : TR} (h : t.Ok) {b : Int} : (clrM t b).Ok := by
 unfold clrM
 split
 ·exact TR.ok_setB h _ (by simp)
 ·exact h
theorem ok_clrs {t : TR} (h : t.Ok) {n : Nd} : ∀ j, (clrs t n j).Ok
 | 0 => h
 | j + 1 => ok_clr (ok_clrs h j)
theorem n_clr {t : TR} {b : Int} {i : Nat} : (clrM t b).n i = t.n i := by unfold clrM; split <;> rfl
theorem n_clrs {t : TR} {n : Nd} {i : Nat} : ∀ j, (clrs t n j).n i = t.n i
 | 0 => rfl
 | j + 1 => n_clr.trans (n_clrs j)
theorem ok_empty {t : TR} (h : t.Ok) {i : Nat} : (emptyM t i).Ok := TR.ok_set (ok_clr (ok_clr h)) _ _
abbrev Bks (n : Nd) : Prop := 0 ≤ n.b0 ∧ n.b0 ≤ 8 ∧ 0 ≤ n.b1 ∧ n.b1 ≤ 8
theorem bks_of {t : TR} (h : checkM t = true) {i : Nat} (hi : i < 8) : Bks (t.n i) := by
 by_cases h0 : i = 0
 ·subst h0; rw [(check_iff.1 h).1]; decide
 ·rcases (check_iff.1 h).2.1 i hi (by omega) with hz | hf
  ·rw [hz]; decide
  ·have := hf.1.2.2.2.2.2
   unfold Shaped at this
   unfold Bks
   omega
section
variable {n : Nat} {ops : Array Oper} {Q : Post} {rest : List Oper} {e : Env} {w : World} {s : Ro} {rs R : List Asn} {tt : Nat} {pp : String} {af : Array Edge} {g : Option (Nat × Bool)} {d : Nat}
theorem X.stB {ty : TypeId} {x y : Operand} [T : RowC Tryz.prog ty 40] {b off : Nat} {tp : TypeId} {t : TR} {f : List Value → List Asn} (k : Nat) (z : Str) (ht : t.Ok) (hk : k < 8) (hz : z.length = 40) (H : Holds s w rs) (h : ∀ w', Holds s w' (f (t.setB k z).cells) → L Tryz.prog n ops Q rest e w') (ho : off = 48 + k * 40 := by rfl) (hw : wg n ops g e = true := by rfl) (hx : ev e x = .pointer (some ⟨b, off, none⟩) := by rfl) (V : PutV rs b tp t.cells f := by infer_instance) (hy : ev e y = .agg (u8s z).toArray := by rfl) : L Tryz.prog n ops Q (⟨none, .store ty x y, tt, pp, af, g⟩ :: rest) e w := by
 subst ho
 refine X.stp (ys := u8s z) (t.setB k z).cells H h hw hx V hy ?_ (List.all_eq_true.2 (u8s_one z)) (by rw [u8s_len, hz]) (by rw [Nat.ble_eq, TR.cells_len ht]; omega)
 rw [← TR.put_block ht hk hz, putL, u8s_len, hz]
variable {p : Str} {b : Nat} {t : TR}
theorem empty_s {i : Nat} (H : Holds s w (var b 41 t.cells :: R)) (ht : t.Ok) (hi : i < 8) (hb : Bks (t.n i)) : Calls Tryz.prog 71 #[.pointer (some ⟨b, 0, none⟩), .int .i64 (i : Int)] w fun e w' => e = .returned (.tuple #[]) ∧ Holds s w' (var b 41 (emptyM t i).cells :: R) := by
 refine enter Tryz.func71 rfl Tryz.ntmps71 rfl ?_
 have hbk := TR.blks ht hi
 repeat' (first | (refine K.iaA (i := i) rfl rfl rfl rfl rfl hi ?_) | refine Go4 H ?_ | (refine Gs4 H ?_; clear H; (try clear w); intro w H) | (refine Gn H ?_; clear H; (try clear w); intro _ w H))
 refine C.loopR H [5, 13, 14, 15, 16, 17, 18, 19, 20, 21, 22, 23, 24, 25] [13] rfl (fun m vs A => ∃ j : Nat, m = 2 - j ∧ j ≤ 2 ∧ vs = [.int .i64 (j : Int)] ∧ A = var b 41 (clrs t (t.n i) j).cells) 2 ⟨0, rfl, by omega, rfl, rfl⟩ ?_
 clear H
 rintro m vs hv w A ⟨j, rfl, hj, rfl, rfl⟩ H
 have hk := ok_clrs ht (n := t.n i) j
 by_cases hj2 : j < 2
 ·have hbb : 0 ≤ (t.n i).blk j ∧ (t.n i).blk j ≤ 8 := by unfold Nd.blk Bks at *; split <;> omega
  have hv0 : ([.int .i64 (t.n i).b0, .int .i64 (t.n i).b1] : List Value)[j]? = some (.int .i64 ((t.n i).blk j)) := by
   rcases (show j = 0 ∨ j = 1 by omega) with rfl | rfl <;> rfl
  by_cases hb0 : (t.n i).blk j = 0
  ·repeat' (first | (refine X.ix1 (v := .int .i64 ((t.n i).blk j)) j ?_ hv0 hj2) | refine Go4 H ?_ | (refine Gs4 H ?_; clear H; (try clear w); intro w H) | (refine Gn H ?_; clear H; (try clear w); intro _ w H))
   exact ⟨agr, 2 - (j + 1), by omega, _, ⟨j + 1, rfl, by omega, rfl, rfl⟩, by rw [clrs, clrM, if_neg (by omega)]; exact H⟩
  ·have hq : (t.n i).blk j - 1 = (((t.n i).blk j - 1).toNat : Int) := by omega
   repeat' (first | (refine X.ix1 (v := .int .i64 ((t.n i).blk j)) j ?_ hv0 hj2) | (refine K.iaA (i := ((t.n i).blk j - 1).toNat) rfl rfl rfl rfl hq (by omega) ?_) | (refine K.build [] _ build_block0 rfl rfl rfl ?_) | (refine X.stB ((t.n i).blk j - 1).toNat (List.replicate 40 0) hk (by omega) (by simp) H ?_; clear H; (try clear w); intro w H) | refine Go4 H ?_ | (refine Gs4 H ?_; clear H; (try clear w); intro w H) | (refine Gn H ?_; clear H; (try clear w); intro _ w H))
   exact ⟨agr, 2 - (j + 1), by omega, _, ⟨j + 1, rfl, by omega, rfl, rfl⟩, by rw [clrs, clrM, if_pos hb0]; exact H⟩
 obtain rfl : j = 2 := by omega
 have hk2 := TR.ok_set hk i { (clrs t (t.n i) 2).n i with size := 0 }
 repeat' (first | (refine K.iaA (i := i) rfl rfl rfl rfl rfl hi ?_) | (refine K.build [] _ build_blk0 rfl rfl rfl ?_) | (refine X.stN i 3 { (clrs t (t.n i) 2).n i with size := 0 } hk hi (by decide) rfl H ?_; clear H; (try clear w); intro w H) | (refine X.stM (ys := [.int .i64 0, .int .i64 0]) i 4 { t.n i with size := 0, b0 := 0, b1 := 0 } hk2 hi (by decide) (by rw [TR.n_set hk hi, if_pos rfl, n_clrs]; rfl) rfl rfl H ?_; clear H; (try clear w); intro w H) | refine Go4 H ?_ | (refine Gs4 H ?_; clear H; (try clear w); intro w H) | (refine Gn H ?_; clear H; (try clear w); intro _ w H))
 exact ⟨_, res0 rfl, rfl, by
  have e : (TR.set (TR.set (clrs t (t.n i) 2) i { (clrs t (t.n i) 2).n i with size := 0 }) i { t.n i with size := 0, b0 := 0, b1 := 0 }) = emptyM t i := by
   rw [TR.set, TR.set, List.set_set]; rfl
  rw [← e]; exact H⟩
theorem cut_t {q : Str} (H : Holds s w R) (ht : t.Ok) : Calls Tryz.prog 46 #[.agg t.cells.toArray, .string ⟨q.toArray⟩] w fun e w' => e = .returned (.tuple #[.agg (cutM t q).1.cells.toArray, .int .i64 (cutM t q).2]) ∧ Holds s w' R := by
 have hz := TR.ok_zero
 refine enter Tryz.func46 rfl Tryz.ntmps46 rfl ?_
 repeat' (first | refine Go4 H ?_ | (refine Gs4 H ?_; clear H; (try clear w); intro w H) | (refine Gn H ?_; clear H; (try clear w); (first | ((fail_if_success (have := bl1)); intro bl1 w H) | intro _ w H)))
 have hC := Check_s H ht
 by_cases hchk : checkM t = true
 rotate_left
 ·rw [show checkM t = false by simpa using hchk] at hC
  (refine X.call (hC) ?_; (try clear H); rintro _ w ⟨rfl, H⟩; refine ⟨_, rfl, ?_⟩)
  clear hC
  (refine Gq4 H ?_; clear H; (try clear w); intro w H)
  exact ⟨_, resVT (cs := TR.zero.cells) H rfl rfl inferInstance (TR.cells_len hz), by rw [cutM, if_pos (by simpa using hchk)]; rfl, H.tail.tail⟩
 rw [hchk] at hC
 (refine X.call (hC) ?_; (try clear H); rintro _ w ⟨rfl, H⟩; refine ⟨_, rfl, ?_⟩)
 clear hC
 refine Gq4 H ?_
 replace H : Holds _ _ (var bl1 41 _ :: _) := tp H
 (refine X.call (kindOf_s (p := q) H ht) ?_; (try clear H); rintro _ w ⟨rfl, H⟩; refine ⟨_, rfl, ?_⟩)
 by_cases hk : (kindOfM t q 2).2 = 0
 rotate_left
 ·(refine Gq4 H ?_; clear H; (try clear w); intro w H)
  exact ⟨_, resVT (cs := TR.zero.cells) H rfl rfl inferInstance (TR.cells_len hz), by rw [cutM, if_neg (by simp [hchk]), if_pos hk]; rfl, H.tail.tail⟩
 obtain ⟨f, hf, hkf, hkd, hfd⟩ := kindOfM_range hk
 have hbk := bks_of hchk hf
 have ec : cutM t q = (emptyM t f, 0) := by rw [cutM, if_neg (by simp [hchk]), if_neg (by simp [hk]), hkf]; rfl
 rw [hkf] at *
 have hek := ok_empty ht (i := f)
 refine Gq4 H ?_
 replace H : Holds _ _ (var bl1 41 _ :: _) := tp H
 (refine X.call (empty_s H ht hf hbk) ?_; (try clear H); rintro _ w ⟨rfl, H⟩; refine ⟨_, rfl, ?_⟩)
 (refine Gq4 H ?_; clear H; (try clear w); intro w H)
 exact ⟨_, resVT (cs := (emptyM t f).cells) H rfl rfl inferInstance (TR.cells_len hek), by rw [ec]; rfl, H.tail.tail⟩
end
end Go.Proofs.YtgilmcpdpggikaaGreatDoor
