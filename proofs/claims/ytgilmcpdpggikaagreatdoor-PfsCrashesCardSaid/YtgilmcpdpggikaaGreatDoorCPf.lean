/- Squeezed copy of the texts Pf Kg Cp. -/
import Derived.Test.YtgilmcpdpggikaaGreatDoorCPe
import Derived.Test.YtgilmcpdpggikaaGreatDoorCK9
import Derived.Test.YtgilmcpdpggikaaGreatDoorCK4
import Derived.Test.YtgilmcpdpggikaaGreatDoorCTg
set_option maxRecDepth 100000
set_option maxHeartbeats 1000000
set_option linter.unusedSimpArgs false
set_option linter.unusedVariables false
namespace Go.Proofs.YtgilmcpdpggikaaGreatDoor
open Go Go.RowKit Go.Own
def heldH (hs : List Hd) (k : Int) : Bool := hs.any fun h => h.op && decide (h.node = k)
def remF (t : TR) (hs : List Hd) (p : Str) : TR × Int := if (removeM t p).2 ≠ 0 then (t, (removeM t p).2) else if heldH hs (findTM t p).1 = true then (t, 172) else ((removeM t p).1, 0)
def freeH (hs : List Hd) : Nat → Nat → Option Nat
 | 0, _ => none
 | f + 1, i => if (hd hs i).op = false then some i else freeH hs f (i + 1)
def openF (t : TR) (hs : List Hd) (p : Str) : List Hd × Int × Int := if (findTM t p).2 ≠ 0 then (hs, 0, (findTM t p).2) else if (t.n (findTM t p).1.toNat).kind ≠ 2 then (hs, 0, 170) else match freeH hs 4 0 with
 | none => (hs, 0, 5)
 | some i => (hs.set i ⟨true, (findTM t p).1, 0⟩, (i : Int), 0)
theorem findT_range {t : TR} {p : Str} (h : (findTM t p).2 = 0) : ∃ k : Nat, k < 8 ∧ findTM t p = ((k : Int), 0) := by
 unfold findTM at h ⊢
 split at h
 ·simp at h
 ·rename_i hc
  rw [if_neg hc]
  exact findM_range h
theorem fs_node {bL : Nat} {t : TR} {q : Int} {hs : List Hd} (ht : t.Ok) {k : Nat} (hk : k < 8) : (fsC bL t q hs)[1 + k * 6 + 0]? = some (.int .i64 (t.n k).kind) := by
 have h0 := TR.cell ht hk 0 (.int .i64 (t.n k).kind) rfl
 unfold fsC
 rw [show 1 + k * 6 + 0 = (0 + k * 6 + 0) + 1 by omega, List.getElem?_cons_succ, List.getElem?_append_left (by rw [TR.cells_len ht]; omega)]
 exact h0
section
variable {w : World} {s : Ro} {R : List Asn} {bF bL : Nat} {t : TR} {q : Int} {hs : List Hd}
theorem Remove_f {p : Str} (H : Holds s w (fsV bF bL t q hs :: R)) (ht : t.Ok) (h4 : hs.length = 4) : Calls Tryz.prog 17 #[.pointer (some ⟨bF, 0, none⟩), .string ⟨p.toArray⟩] w fun e w' => e = .returned (.int .i64 (remF t hs p).2) ∧ Holds s w' (fsV bF bL (remF t hs p).1 q hs :: R) := by
 have hz := TR.ok_zero
 have hu := ok_remove ht (p := p)
 unfold remF
 refine enter Tryz.func17 rfl Tryz.ntmps17 rfl ?_
 refine Gq7 H ?_
 (refine X.call (remove_t (p := p) H ht) ?_; (try clear H); rintro _ w ⟨rfl, H⟩; refine ⟨_, rfl, ?_⟩)
 by_cases h0 : (removeM t p).2 = 0
 rotate_left
 ·rw [if_pos h0]
  (refine Gq7 H ?_; clear H; (try clear w); intro bl1 w H)
  exact ⟨_, resT rfl, rfl, H.tail⟩
 rw [if_neg (by simp [h0])]
 (refine Gq7 H ?_; clear H; (try clear w); intro bl1 w H)
 (refine X.call (Find_s (p := p) H ht) ?_; (try clear H); rintro _ w ⟨rfl, H⟩; refine ⟨_, rfl, ?_⟩)
 generalize (findTM t p).1 = nd at *
 generalize (removeM t p).1 = u at *
 repeat' (first | (refine X.ldHs H ?_) | refine Go7 H ?_ | (refine Gs7 H ?_; clear H; (try clear w); intro w H) | (refine Gn H ?_; clear H; (try clear w); (first | ((fail_if_success (have := bl1)); intro bl1 w H) | intro _ w H)))
 refine C.loopS [4, 10, 36, 37, 38, 39, 40, 41, 42, 43, 44, 45, 46, 47] [36] rfl (fun k vs w => ∃ i : Nat, k = 4 - i ∧ i ≤ 4 ∧ vs = [.int .i64 (i : Int)] ∧ heldH (hs.take i) nd = false ∧ Holds s w (var bl1 41 u.cells :: fsV bF bL t q hs :: R)) 4 ⟨0, rfl, Nat.zero_le _, rfl, rfl, H⟩ ?_
 clear H
 rintro k vs hv w ⟨i, rfl, hi, rfl, hheld, H⟩
 by_cases hlt : i < 4
 ·have hix : ((hs.flatMap Hd.cells).drop (i * 3)).take 3 = (hd hs i).cells := by
   have := flatS_part (f := Hd.cells) hs (fun x _ => Hd.cells_len x) i 0 3 (by rw [h4]; exact hlt) (by decide)
   rw [Nat.add_zero] at this
   rw [this, ← hd_get h4 hlt]; rfl
  have htk : heldH (hs.take (i + 1)) nd = ((hd hs i).op && decide ((hd hs i).node = nd)) := by
   rw [heldH, List.take_succ_eq_append_getElem (by rw [h4]; exact hlt), List.any_append, ← hd_get h4 hlt]
   rw [heldH] at hheld
   rw [hheld]; simp
  have hall : (hd hs i).op = true → (hd hs i).node = nd → heldH hs nd = true := fun h1 h2 => by
   unfold heldH
   rw [List.any_eq_true]
   refine ⟨hd hs i, by rw [hd_get h4 hlt]; exact List.getElem_mem _, by rw [h1, h2]; simp⟩
  generalize hd hs i = h at *
  obtain ⟨op, node, at_⟩ := h
  dsimp only at htk hall
  replace hix : ((hs.flatMap Hd.cells).drop (i * 3)).take 3 = [.bool op, .int .i64 node, .int .i64 at_] := hix
  cases op
  ·repeat' (first | (refine X.ixP i ?_ hix hlt) | (refine X.ldHs H ?_) | refine Go7 H ?_ | (refine Gs7 H ?_; clear H; (try clear w); intro w H) | (refine Gn H ?_; clear H; (try clear w); (first | ((fail_if_success (have := bl1)); intro bl1 w H) | intro _ w H)))
   have H' := H.arr (rs' := var bl1 41 u.cells :: fsV bF bL t q hs :: R)
   exact ⟨agr, 4 - (i + 1), by omega, i + 1, rfl, by omega, rfl, by rw [htk]; rfl, H'⟩
  ·by_cases hn : node = nd
   ·rw [if_pos (hall rfl hn)]
    repeat' (first | (refine X.ixP i ?_ hix hlt) | (refine X.ldHs H ?_) | refine Go7 H ?_ | (refine Gs7 H ?_; clear H; (try clear w); intro w H) | (refine Gn H ?_; clear H; (try clear w); (first | ((fail_if_success (have := bl1)); intro bl1 w H) | intro _ w H)))
    have H' := H.arr (rs' := fsV bF bL t q hs :: R)
    exact ⟨_, resT rfl, rfl, H'⟩
   ·repeat' (first | (refine X.ixP i ?_ hix hlt) | (refine X.ldHs H ?_) | refine Go7 H ?_ | (refine Gs7 H ?_; clear H; (try clear w); intro w H) | (refine Gn H ?_; clear H; (try clear w); (first | ((fail_if_success (have := bl1)); intro bl1 w H) | intro _ w H)))
    have H' := H.arr (rs' := var bl1 41 u.cells :: fsV bF bL t q hs :: R)
    exact ⟨agr, 4 - (i + 1), by omega, i + 1, rfl, by omega, rfl, by rw [htk]; simp [hn], H'⟩
 ·have hie : i = 4 := by omega
  subst hie
  rw [List.take_of_length_le (by omega)] at hheld
  rw [hheld, if_neg (by decide)]
  refine Gq7 H ?_
  replace H := H.arr (rs' := fsV bF bL t q hs :: var bl1 41 u.cells :: R)
  have hB := become_f (c := 0) H ht hu h4
  rw [becM, if_pos rfl] at hB
  (refine X.call (hB) ?_; (try clear H); rintro _ w ⟨rfl, H⟩; refine ⟨_, rfl, ?_⟩)
  clear hB
  refine Gq7 H ?_
  have H' := H.arr (rs' := fsV bF bL u q hs :: R)
  exact ⟨_, resT rfl, rfl, H'⟩
theorem Open_f {p : Str} (H : Holds s w (fsV bF bL t q hs :: R)) (ht : t.Ok) (h4 : hs.length = 4) : Calls Tryz.prog 12 #[.pointer (some ⟨bF, 0, none⟩), .string ⟨p.toArray⟩] w fun e w' => e = .returned (.tuple #[.int .i64 (openF t hs p).2.1, .int .i64 (openF t hs p).2.2]) ∧ Holds s w' (fsV bF bL t q (openF t hs p).1 :: R) := by
 unfold openF
 refine enter Tryz.func12 rfl Tryz.ntmps12 rfl ?_
 refine Gq7 H ?_
 have hF := Find_s (p := p) H ht
 by_cases h0 : (findTM t p).2 = 0
 rotate_left
 ·rw [if_pos h0]
  (refine X.call (hF) ?_; (try clear H); rintro _ w ⟨rfl, H⟩; refine ⟨_, rfl, ?_⟩)
  clear hF
  refine Gq7 H ?_
  exact ⟨_, resTT rfl, rfl, H⟩
 rw [if_neg (by simp [h0])]
 obtain ⟨nd, hnd, hfe⟩ := findT_range h0
 rw [hfe] at hF ⊢
 dsimp only at hF ⊢
 rw [Int.toNat_natCast]
 (refine X.call (hF) ?_; (try clear H); rintro _ w ⟨rfl, H⟩; refine ⟨_, rfl, ?_⟩)
 clear hF
 by_cases hk : (t.n nd).kind = 2
 rotate_left
 ·rw [if_pos hk]
  repeat' (first | (refine K.iaA (i := nd) rfl rfl rfl rfl rfl hnd ?_) | (refine X.ld H ?_ (hv := fs_node ht hnd)) | refine Go7 H ?_ | (refine Gs7 H ?_; clear H; (try clear w); intro w H) | (refine Gn H ?_; clear H; (try clear w); intro _ w H))
  exact ⟨_, resTT rfl, rfl, H⟩
 rw [if_neg (by simp [hk])]
 repeat' (first | (refine K.iaA (i := nd) rfl rfl rfl rfl rfl hnd ?_) | (refine X.ld H ?_ (hv := fs_node ht hnd)) | refine Go7 H ?_ | (refine Gs7 H ?_; clear H; (try clear w); intro w H) | (refine Gn H ?_; clear H; (try clear w); intro _ w H))
 refine C.loopS [4, 5, 8, 30, 31, 32, 33, 34, 35, 36, 37, 38, 39, 40, 41, 42, 43, 44, 45, 46, 47, 48, 49] [30] rfl (fun k vs w => ∃ i : Nat, k = 4 - i ∧ i ≤ 4 ∧ vs = [.int .i64 (i : Int)] ∧ freeH hs 4 0 = freeH hs (4 - i) i ∧ Holds s w (fsV bF bL t q hs :: R)) 4 ⟨0, rfl, Nat.zero_le _, rfl, rfl, H⟩ ?_
 clear H
 rintro k vs hv w ⟨i, rfl, hi, rfl, hfr, H⟩
 generalize freeH hs 4 0 = fr at *
 by_cases hlt : i < 4
 ·rw [show 4 - i = (4 - (i + 1)) + 1 by omega, freeH] at hfr
  have hz0 : (hd hs i).cells[0]? = some (.bool (hd hs i).op) := rfl
  cases hop : (hd hs i).op with
  | false =>
   rw [hop] at hz0
   rw [hop, if_pos rfl] at hfr
   rw [hfr]
   repeat' (first | (refine K.iaA (i := i) rfl rfl rfl rfl rfl hlt ?_) | (refine X.ldH i 0 H hlt hz0 ?_) | (refine K.build [(0, .bool true), (1, .int .i64 (nd : Int))] _ (build_hd _) rfl rfl rfl ?_) | (refine X.putH i ⟨true, (nd : Int), 0⟩ H hlt ?_; clear H; (try clear w); intro w H) | refine Go7 H ?_ | (refine Gs7 H ?_; clear H; (try clear w); intro w H) | (refine Gn H ?_; clear H; (try clear w); intro _ w H))
   exact ⟨_, resTT rfl, rfl, H⟩
  | true =>
   rw [hop] at hz0
   rw [hop, if_neg (by decide)] at hfr
   repeat' (first | (refine K.iaA (i := i) rfl rfl rfl rfl rfl hlt ?_) | (refine X.ldH i 0 H hlt hz0 ?_) | refine Go7 H ?_ | (refine Gs7 H ?_; clear H; (try clear w); intro w H) | (refine Gn H ?_; clear H; (try clear w); intro _ w H))
   exact ⟨agr, 4 - (i + 1), by omega, i + 1, rfl, by omega, rfl, hfr, H⟩
 ·have hie : 4 - i = 0 := by omega
  rw [hie, freeH] at hfr
  rw [hfr]
  refine Gq7 H ?_
  exact ⟨_, resTT rfl, rfl, H⟩
def readF (t : TR) (hs : List Hd) (n m : Int) : List Hd × Str × Int := if OpenH hs n then (if (readM t (nameT t (hd hs n.toNat)) (hd hs n.toNat).at_ m).2 ≠ 0 then (hs, [], (readM t (nameT t (hd hs n.toNat)) (hd hs n.toNat).at_ m).2) else (hs.set n.toNat { hd hs n.toNat with at_ := (hd hs n.toNat).at_ + ((readM t (nameT t (hd hs n.toNat)) (hd hs n.toNat).at_ m).1.length : Int) }, (readM t (nameT t (hd hs n.toNat)) (hd hs n.toNat).at_ m).1, 0)) else (hs, [], 4)
def writeF (t : TR) (q : Int) (hs : List Hd) (n : Int) (b : Str) : TR × List Hd × Int := if OpenH hs n then (if (writeM t (nameT t (hd hs n.toNat)) (hd hs n.toNat).at_ b q).2 = 0 then ((writeM t (nameT t (hd hs n.toNat)) (hd hs n.toNat).at_ b q).1, hs.set n.toNat { hd hs n.toNat with at_ := (hd hs n.toNat).at_ + (b.length : Int) }, 0) else (t, hs, (writeM t (nameT t (hd hs n.toNat)) (hd hs n.toNat).at_ b q).2)) else (t, hs, 4)
def cutF (t : TR) (hs : List Hd) (n : Int) : TR × Int := if OpenH hs n then (becM t (cutM t (nameT t (hd hs n.toNat))), (cutM t (nameT t (hd hs n.toNat))).2) else (t, 4)
theorem Read_f {n m : Int} (H : Holds s w (fsV bF bL t q hs :: R)) (ht : t.Ok) (hct : checkM t = true) (h4 : HOk hs) : Calls Tryz.prog 15 #[.pointer (some ⟨bF, 0, none⟩), .int .i64 n, .int .i64 m] w fun e w' => ∃ aa cc, e = .returned (.tuple #[.slice aa (readF t hs n m).2.1.length cc, .int .i64 (readF t hs n m).2.2]) ∧ Holds s w' (row 5 1 (.slice aa (readF t hs n m).2.1.length cc) (readF t hs n m).2.1.length (u8s (readF t hs n m).2.1) :: fsV bF bL t q (readF t hs n m).1 :: R) := by
 obtain ⟨h4, hok⟩ := h4
 have hF := file_f (n := n) H ht h4
 unfold readF
 refine enter Tryz.func15 rfl Tryz.ntmps15 rfl ?_
 refine Gq7 H ?_
 by_cases ho : OpenH hs n
 rotate_left
 ·rw [if_neg ho] at hF ⊢
  (refine X.call (hF) ?_; (try clear H); rintro _ w ⟨rfl, H⟩; refine ⟨_, rfl, ?_⟩)
  clear hF
  refine Gq7 H ?_
  exact ⟨_, resTT rfl, none, 0, rfl, H.nilRow _ _⟩
 rw [if_pos ho] at hF ⊢
 have hi4 : n.toNat < 4 := by have := ho.1; have := ho.2.1; omega
 generalize n.toNat = i at *
 have hat := hok (hd hs i) (by rw [hd_get h4 hi4]; exact List.getElem_mem _)
 (refine X.call (hF) ?_; (try clear H); rintro _ w ⟨rfl, H⟩; refine ⟨_, rfl, ?_⟩)
 clear hF ho
 have hz2 : (hd hs i).cells[2]? = some (.int .i64 (hd hs i).at_) := rfl
 have hrl := read_len ht (p := nameT t (hd hs i)) (n := m) hat.1 hat.2
 refine Gq7 H ?_
 refine C.drawn5 [0, 1, 2, 3, 4, 5, 7, 8, 9, 10, 11, 6, 12, 13, 14, 15, 16, 17] [0, 0, 0, 1, 0, 0, 0, 0, 0, 1, 0, 2, 3, 0, 0, 0, 0, 0] [12, 1] [0, 1, 3, 7, 0, 0, 48, 0, 128, 384, 896, 0, 4095, 8191, 16383, 16383, 32767, 131071] (by kernel_rfl) ?_; replace H := H.drew; refine sgA ?_
 repeat' (first | (refine X.ldH i 2 H hi4 hz2 ?_) | refine Go7 H ?_ | (refine Gs7 H ?_; clear H; (try clear w); intro w H) | (refine Gn H ?_; clear H; (try clear w); intro _ w H))
 (refine X.call (path_e (i := i) H ht hct h4 hi4) ?_; (try clear H); rintro _ w ⟨rfl, ho, H⟩; refine ⟨_, rfl, ?_⟩); refine L.nil ?_; refine ⟨rfl, rfl, q4, ?_⟩
 clear ho
 have hR := read_t (p := nameT t (hd hs i)) (at_ := (hd hs i).at_) (n := m) H ht
 by_cases hre : (readM t (nameT t (hd hs i)) (hd hs i).at_ m).2 = 0
 rotate_left
 ·rw [if_pos hre]
  (refine X.call (hR) ?_; (try clear H); rintro _ w ⟨a1, c1, rfl, H⟩; refine ⟨_, rfl, ?_⟩); refine L.nil ?_; refine ⟨rfl, rfl, q4, ?_⟩
  clear hR
  refine Gq7 H ?_
  refine ⟨_, resTT rfl, none, 0, rfl, ?_⟩
  have H' := H.arr (rs' := fsV bF bL t q hs :: R)
  exact H'.nilRow _ _
 rw [if_neg (by simp [hre])]
 rw [hre] at hR
 generalize (readM t (nameT t (hd hs i)) (hd hs i).at_ m).1 = l at *
 have hl80 : l.length ≤ 80 := by have := hat.1; omega
 (refine X.call (hR) ?_; (try clear H); rintro _ w ⟨a1, c1, rfl, H⟩; refine ⟨_, rfl, ?_⟩); refine L.nil ?_; refine ⟨rfl, rfl, q4, ?_⟩
 clear hR
 obtain ⟨hat1, hat2⟩ := hat
 repeat' (first | (refine X.ldH i 2 H hi4 hz2 ?_) | (refine X.stH i 2 { hd hs i with at_ := (hd hs i).at_ + (l.length : Int) } H hi4 (by decide) rfl ?_; clear H; (try clear w); intro w H) | refine Go7 H ?_ | (refine Gs7 H ?_; clear H; (try clear w); intro w H) | (refine Gn H ?_; clear H; (try clear w); intro _ w H))
 exact ⟨_, resTT rfl, a1, c1, rfl, H⟩
theorem Write_f {n : Int} {b : Str} {a : Option Addr} {c : Nat} (H : Holds s w (fsV bF bL t q hs :: R)) (ht : t.Ok) (hct : checkM t = true) (h4 : HOk hs) (hb : SlS s (.slice a b.length c) 1 b.length (u8s b)) (hbl : b.length ≤ 140737488355328) : Calls Tryz.prog 20 #[.pointer (some ⟨bF, 0, none⟩), .int .i64 n, .slice a b.length c] w fun e w' => e = .returned (.int .i64 (writeF t q hs n b).2.2) ∧ Holds s w' (fsV bF bL (writeF t q hs n b).1 q (writeF t q hs n b).2.1 :: R) := by
 obtain ⟨h4, hok⟩ := h4
 have hF := file_f (n := n) H ht h4
 unfold writeF
 refine enter Tryz.func20 rfl Tryz.ntmps20 rfl ?_
 refine Gq7 H ?_
 by_cases ho : OpenH hs n
 rotate_left
 ·rw [if_neg ho] at hF ⊢
  (refine X.call (hF) ?_; (try clear H); rintro _ w ⟨rfl, H⟩; refine ⟨_, rfl, ?_⟩)
  clear hF
  refine Gq7 H ?_
  exact ⟨_, resT rfl, rfl, H⟩
 rw [if_pos ho] at hF ⊢
 have hi4 : n.toNat < 4 := by have := ho.1; have := ho.2.1; omega
 generalize n.toNat = i at *
 have hat := hok (hd hs i) (by rw [hd_get h4 hi4]; exact List.getElem_mem _)
 (refine X.call (hF) ?_; (try clear H); rintro _ w ⟨rfl, H⟩; refine ⟨_, rfl, ?_⟩)
 clear hF ho
 have hz2 : (hd hs i).cells[2]? = some (.int .i64 (hd hs i).at_) := rfl
 have hwl := write_len (t := t) (p := nameT t (hd hs i)) (a := (hd hs i).at_) (l := b) (qu := q)
 have hu := ok_write ht (p := nameT t (hd hs i)) (a := (hd hs i).at_) (l := b) (qu := q)
 refine Gq7 H ?_
 refine C.drawn5 [0, 1, 2, 3, 4, 5, 6, 8, 9, 10, 11, 12, 13, 14, 15, 16, 7, 17, 18, 19, 20, 21] [0, 0, 0, 0, 1, 0, 0, 0, 0, 0, 1, 0, 0, 0, 0, 1, 2, 3, 0, 0, 3, 0] [17, 1, 3] [0, 0, 2, 6, 14, 0, 0, 96, 0, 256, 768, 1792, 0, 0, 8192, 24576, 57344, 131070, 262142, 262142, 1048575, 2097151] (by kernel_rfl) ?_; replace H := H.drew; refine sgA ?_
 repeat' (first | (refine X.ldH i 2 H hi4 hz2 ?_) | refine Go7 H ?_ | (refine Gs7 H ?_; clear H; (try clear w); intro w H) | (refine Gn H ?_; clear H; (try clear w); intro _ w H))
 (refine X.call (path_e (i := i) H ht hct h4 hi4) ?_; (try clear H); rintro _ w ⟨rfl, ho, H⟩; refine ⟨_, rfl, ?_⟩); refine L.nil ?_; refine ⟨rfl, rfl, q4, ?_⟩
 clear ho
 have hW := write_t (p := nameT t (hd hs i)) (at_ := (hd hs i).at_) (quota := q) H ht hb hbl
 generalize writeM t (nameT t (hd hs i)) (hd hs i).at_ b q = r at *
 obtain ⟨u, code⟩ := r
 dsimp only at hW hwl hu ⊢
 (refine X.call (hW) ?_; (try clear H); rintro _ w ⟨rfl, H⟩; refine ⟨_, rfl, ?_⟩); refine L.nil ?_; refine ⟨rfl, rfl, q4, ?_⟩
 clear hW
 refine Gq7 H ?_
 have hB := become_f (c := code) H ht hu h4
 by_cases hc0 : code = 0
 ·rw [if_pos hc0]
  rw [becM, if_pos hc0] at hB
  subst hc0
  obtain ⟨hw1, hw2⟩ := hwl rfl
  (refine X.call (hB) ?_; (try clear H); rintro _ w ⟨rfl, H⟩; refine ⟨_, rfl, ?_⟩); refine L.nil ?_; refine ⟨rfl, rfl, q4, ?_⟩
  clear hB
  obtain ⟨hat1, hat2⟩ := hat
  repeat' (first | (refine X.ldH i 2 H hi4 hz2 ?_) | (refine X.stH i 2 { hd hs i with at_ := (hd hs i).at_ + (b.length : Int) } H hi4 (by decide) rfl ?_; clear H; (try clear w); intro w H) | refine Go7 H ?_ | (refine Gs7 H ?_; clear H; (try clear w); intro w H) | (refine Gn H ?_; clear H; (try clear w); intro _ w H))
  exact ⟨_, resT rfl, rfl, H⟩
 ·rw [if_neg hc0]
  rw [becM, if_neg hc0] at hB
  (refine X.call (hB) ?_; (try clear H); rintro _ w ⟨rfl, H⟩; refine ⟨_, rfl, ?_⟩); refine L.nil ?_; refine ⟨rfl, rfl, q4, ?_⟩
  clear hB
  refine Gq7 H ?_
  exact ⟨_, resT rfl, rfl, H⟩
theorem Cut_f {n : Int} (H : Holds s w (fsV bF bL t q hs :: R)) (ht : t.Ok) (hct : checkM t = true) (h4 : hs.length = 4) : Calls Tryz.prog 19 #[.pointer (some ⟨bF, 0, none⟩), .int .i64 n] w fun e w' => e = .returned (.int .i64 (cutF t hs n).2) ∧ Holds s w' (fsV bF bL (cutF t hs n).1 q hs :: R) := by
 have hF := file_f (n := n) H ht h4
 unfold cutF
 refine enter Tryz.func19 rfl Tryz.ntmps19 rfl ?_
 refine Gq7 H ?_
 by_cases ho : OpenH hs n
 rotate_left
 ·rw [if_neg ho] at hF ⊢
  (refine X.call (hF) ?_; (try clear H); rintro _ w ⟨rfl, H⟩; refine ⟨_, rfl, ?_⟩)
  clear hF
  refine Gq7 H ?_
  exact ⟨_, resT rfl, rfl, H⟩
 rw [if_pos ho] at hF ⊢
 have hi4 : n.toNat < 4 := by have := ho.1; have := ho.2.1; omega
 generalize n.toNat = i at *
 (refine X.call (hF) ?_; (try clear H); rintro _ w ⟨rfl, H⟩; refine ⟨_, rfl, ?_⟩)
 clear hF ho
 have hu := ok_cut ht (p := nameT t (hd hs i))
 refine Gq7 H ?_
 refine C.drawn5 [0, 1, 2, 3, 4, 5, 6, 7, 8, 9, 10, 11, 12] [0, 0, 0, 0, 1, 0, 0, 2, 3, 0, 0, 3, 0] [8, 1, 3] [0, 0, 2, 6, 14, 0, 0, 96, 254, 510, 510, 2047, 4095] (by kernel_rfl) ?_; replace H := H.drew; refine sgA ?_
 refine Gq7 H ?_
 (refine X.call (path_e (i := i) H ht hct h4 hi4) ?_; (try clear H); rintro _ w ⟨rfl, ho, H⟩; refine ⟨_, rfl, ?_⟩); refine L.nil ?_; refine ⟨rfl, rfl, q4, ?_⟩
 clear ho
 (refine X.call (cut_t (q := nameT t (hd hs i)) H ht) ?_; (try clear H); rintro _ w ⟨rfl, H⟩; refine ⟨_, rfl, ?_⟩); refine L.nil ?_; refine ⟨rfl, rfl, q4, ?_⟩
 refine Gq7 H ?_
 (refine X.call (become_f (c := (cutM t (nameT t (hd hs i))).2) H ht hu h4) ?_; (try clear H); rintro _ w ⟨rfl, H⟩; refine ⟨_, rfl, ?_⟩); refine L.nil ?_; refine ⟨rfl, rfl, q4, ?_⟩
 refine Gq7 H ?_
 exact ⟨_, resT rfl, rfl, H⟩
end
end Go.Proofs.YtgilmcpdpggikaaGreatDoor
namespace Go.Own
open Go Go.RowKit
theorem zero_cells1 (x : Value) (n : Nat) : Builtin.zeroCells #[x] n = (List.replicate n x).toArray := by
 unfold Builtin.zeroCells
 apply Array.ext
 ·simp
 ·intro i h1 h2
  simp [Nat.mod_one]
section
variable {P : Program} {n : Nat} {ops : Array Oper} {Q : Post} {rest : List Oper} {e : Env} {w w' : World} {s : Ro} {rs : List Asn} {tt : Nat} {pp : String} {af : Array Edge} {g : Option (Nat × Bool)} {d : Nat}
theorem run_grow {t ti ty el : TypeId} {by_ : Nat} {x : Value} {k k' : IntKind} {z : Value} (E : ElT P t el 1 by_ z) (hz1 : z.cells = #[x]) (hti : P.underlying ti = some (.int k)) {m : Nat} (h0 : 0 < m) (hm : m ≤ 1000000) (hby : by_ = 1) :
  (Builtin.append_ #[t, ti] ty #[.slice none 0 0, .int k' (m : Int)]).run P w = .ok (.slice (some ⟨w.heap.size, 0, none⟩) m (grownCap w m 0 el)) (w.drew.alloc (.cells ((List.replicate (grownCap w m 0 el) x).toArray) el)) := by
 obtain ⟨i, hi, hz, hsz, hb⟩ := E.info
 have hw : IntKind.i64.wrap (m : Int) = (m : Int) := IntWalk.i64_in _ (by omega)
 have h1 : ¬ ((m : Int) < 0) := by omega
 have h2 : ¬ ((m : Int) * (i.bytes : Int) > 281474976710656) := by rw [hb, hby]; omega
 have h3 : ¬ (m = 0) := by omega
 have h4 : ¬ (9223372036854775807 < (m : Int)) := by omega
 have h5 : ¬ (281474976710656 < Builtin.nextslicecap m 0 * i.bytes) := by rw [nextslicecap_zero h0, hb, hby]; omega
 have hge := grownCap_ge w m 0 el
 have hcat : (List.replicate m x).toArray ++ (List.replicate (grownCap w m 0 el - m) x).toArray = (List.replicate (grownCap w m 0 el) x).toArray := by
  rw [List.append_toArray, List.replicate_append_replicate]
  congr 2; omega
 simp [Builtin.append_, run_underlying E.slice, run_underlying hti, sizeOf, typeInfo, zeroValue, hi, hz, hsz, asInt, asIntOf, hw, h1, h2, h3, h4, h5, Question.forced, run_firstCells_none, newRow, grownCap, hz1, zero_cells1]
 unfold grownCap at hge
 rw [Nat.add_sub_cancel' hge]
theorem K.grow {t ti el : TypeId} {by_ : Nat} {zz : List Value} [E : ElC P t el 1 by_ zz] {x y : Operand} {k k' : IntKind} {m : Nat} {ii : Int} {u : Value} (H : Holds s w rs) (hti : P.underlying ti = some (.int k)) (hzz : zz = [u]) (hby : by_ = 1) (hd : Nat.blt d n = true) (hx : ev e x = .slice none 0 0) (hy : ev e y = .int k' ii) (hii : ii = (m : Int)) (h0 : 0 < m) (hm : m ≤ 1000000)
  (h : ∀ gg cc w', Holds s w' (row el 1 (.slice (some ⟨gg, 0, none⟩) m cc) m (List.replicate m u) :: rs) → L P n ops Q rest (upd e d (.slice (some ⟨gg, 0, none⟩) m cc)) w') : L P n ops Q (⟨some d, .call { callee := .builtin .append, args := #[x, y], argTypes := #[t, ti] }, tt, pp, af, none⟩ :: rest) e w := by
 subst hii
 obtain ⟨v, E', hzv⟩ := E.el
 have hrun := fun ty => run_grow (P := P) (w := w) (ty := ty) (k' := k') E' (by rw [hzv, hzz]) hti h0 hm hby
 have hge := grownCap_ge w m 0 el
 have hle := grownCap_le_maxLen w m 0 el (by unfold maxLen; omega)
 generalize grownCap w m 0 el = cc at *
 refine L.val (o := ⟨some d, .call { callee := .builtin .append, args := #[x, y], argTypes := #[t, ti] }, tt, pp, af, none⟩) _ _ rfl hd ?_ (h w.heap.size cc _ (H.add (F1 := [w.heap.size]) (w' := w.drew.alloc (.cells (List.replicate cc u).toArray el)) ⟨rfl, ?_⟩ ((only_drew [] w).trans (only_alloc [] w.drew _)) (by simp)))
 ·unfold execOp
  simp only [resolve, invoke, builtin, Sem.run_bind, Sem.run_pure, Result.andThen_ok, List.map_toArray, List.map_cons, List.map_nil, hx, hy, hrun]
 ·refine ⟨by simp, .inr ⟨w.heap.size, cc, _, rfl, Nat.zero_le _, heap_alloc_new w.drew _, hge, hle, by simp, ?_⟩⟩
  rw [Nat.mul_one, List.take_replicate, Nat.min_eq_left hge]
theorem set_two (A : Array Value) (hA : A.size = 2) (v u : Value) : (A.setIfInBounds 0 v).setIfInBounds 1 u = #[v, u] := by
 apply Array.ext
 ·simp [hA]
 ·intro i h1 h2
  have : i < 2 := by simpa using h2
  rcases i with _ | _ | i
  ·rw [Array.getElem_setIfInBounds_ne (by simp [hA]) (by decide)]; simp
  ·simp
  ·omega
theorem K.two {t el : TypeId} {by_ : Nat} {zz : List Value} [E : ElC P t el 1 by_ zz] {x y : Operand} {v u : Value} (H : Holds s w rs) (hd : Nat.blt d n = true) (hx : ev e x = v) (hy : ev e y = u) (h1 : v.cells = #[v]) (h2 : u.cells = #[u])
  (h : ∀ gg w', Holds s w' (row el 1 (.slice (some ⟨gg, 0, none⟩) 2 2) 2 [v, u] :: rs) → L P n ops Q rest (upd e d (.slice (some ⟨gg, 0, none⟩) 2 2)) w') : L P n ops Q (⟨some d, .buildSlice t 2 #[(0, x), (1, y)], tt, pp, af, none⟩ :: rest) e w := by
 obtain ⟨z, E', _⟩ := E.el
 obtain ⟨i, hi, hz, hsz, hb⟩ := E'.info
 refine ⟨fun a ha => ?_⟩
 refine wpList_buildSlice (o := ⟨some d, .buildSlice t 2 #[(0, x), (1, y)], tt, pp, af, none⟩) rfl t el 2 #[(0, x), (1, y)] rfl #[v, u] i z E'.slice hi hz (by rw [hsz]; decide) (by rw [hsz]; decide) ?_ ?_
 ·simp only [List.map_toArray, List.map_cons, List.map_nil, ha.eval, hx, hy, Instr.fill, hsz, h1, h2]
  simp only [Nat.zero_mul, Nat.one_mul, Nat.mul_one]
  generalize hA : (Array.range 2).map (fun j => z.cells[j % z.cells.size]!) = A
  have hAs : A.size = 2 := by rw [← hA]; simp
  simp [hAs, set_two]
 ·have := (h w.heap.size _ (H.add (F1 := [w.heap.size]) (w' := w.alloc (.cells #[v, u] el)) ⟨rfl, ?_⟩ (only_alloc _ _ _) (by simp))).go _ (ha.put (d := some d) hd _)
  ·exact this
  ·exact ⟨by simp, .inr ⟨_, 2, #[v, u], rfl, Nat.zero_le _, heap_alloc_new _ _, Nat.le_refl _, by decide, by simp, by simp⟩⟩
theorem K.cap {x : Operand} {t : TypeId} {a : Option Addr} {m c : Nat} {el : TypeId} {sz by_ : Nat} {zz : List Value} [E : ElC P t el sz by_ zz] (hw : wg n ops g e = true) (hd : Nat.blt d n = true) (hx : ev e x = .slice a m c) (h : L P n ops Q rest (upd e d (.int .i64 (c : Int))) w) : L P n ops Q (⟨some d, .call { callee := .builtin .cap, args := #[x], argTypes := #[t] }, tt, pp, af, g⟩ :: rest) e w := by
 obtain ⟨v, E', _⟩ := E.el
 exact L.val (o := ⟨some d, .call { callee := .builtin .cap, args := #[x], argTypes := #[t] }, tt, pp, af, g⟩) _ w hw hd (by
  unfold execOp
  simp [resolve, invoke, builtin, Builtin.cap_, hx, run_underlying E'.slice, goInt]) h
theorem Holds.fewer {el : TypeId} {sz k c m : Nat} {a : Option Addr} {xs : List Value} (i : Nat) (H : Holds s w rs) (hi : rs[i]? = some (Own.row el sz (.slice a k c) k xs)) (hm : m ≤ k) : Holds s w (rs.set i (Own.row el sz (.slice a m c) m (xs.take (m * sz)))) := by
 obtain ⟨F1, hp, hn, hB, h3⟩ := H.upd hi
 obtain ⟨hF, hl, ho⟩ := hp
 refine h3 _ w F1 ⟨by rw [hF]; cases a <;> rfl, by rw [List.length_take, hl]; exact Nat.min_eq_left (Nat.mul_le_mul_right _ hm), ?_⟩ (Only.refl _ _) (fun k hk => .inl hk)
 rcases ho with ⟨he, hx⟩ | ⟨g', cap, cur, hv, hb, hg, h5, h6, h7, h8⟩
 ·cases he
  left
  have : m = 0 := by omega
  subst this
  exact ⟨rfl, rfl⟩
 ·cases hv
  refine .inr ⟨g', c, cur, rfl, hb, hg, by omega, h6, h7, ?_⟩
  rw [← h8, List.take_take, Nat.min_eq_left (Nat.mul_le_mul_right _ hm)]
theorem Src.part {v : Value} {sz k : Nat} {xs : List Value} (i b off c : Nat) (t : TypeId) {cs : List Value} (h : rs[i]? = some (var b t cs)) (hv : v = .slice (some ⟨b, off, none⟩) k c) (h1 : xs.length = k * sz) (h2 : k ≤ c) (h3 : c ≤ maxLen) (hx : (cs.drop off).take xs.length = xs) : Src s rs v sz k xs := by
 subst hv
 refine ⟨fun w H => ⟨some ⟨b, off, none⟩, c, rfl, h1, h2, h3, fun j x hj => ⟨⟨b, off, none⟩, rfl, ?_⟩⟩, fun _ k hk => ?_⟩
 ·have hb := H.var h
  have hadd : (⟨b, off, none⟩ : Addr).add j = ⟨b, off + j, none⟩ := by unfold Addr.add; split <;> simp_all
  rw [hadd, cell_of_row w b (off + j) _ _ _ hb]
  rw [← hx, List.getElem?_take] at hj
  split at hj
  ·simpa using hj
  ·cases hj
 ·simp [Value.ownBlock] at hk
  subst hk
  exact .inr ⟨i, _, h, fun w F hp => by have := hp.1; simp [this]⟩
end
end Go.Own
namespace Go.Proofs.YtgilmcpdpggikaaGreatDoor
open Go Go.RowKit Go.Own
def crcS (r : Nat) : Nat := (r >>> 1) ^^^ (if r % 2 = 1 then 2197175160 else 0)
def bitR (r bit : Nat) : Nat := if (r % 2 + bit) % 2 = 1 then (r / 2) ^^^ 2197175160 else r / 2
def itS : Nat → Nat → Nat
 | 0, r => r
 | k + 1, r => crcS (itS k r)
def bitsR (r x : Nat) : Nat → Nat
 | 0 => r
 | k + 1 => bitR (bitsR r x k) ((x >>> k) % 2)
theorem crcS_xor (a y : Nat) : crcS (a ^^^ 2 * y) = crcS a ^^^ y := by
 have h1 : (a ^^^ 2 * y) >>> 1 = (a >>> 1) ^^^ y := by
  rw [Nat.shiftRight_xor_distrib]
  congr 1
  rw [Nat.shiftRight_eq_div_pow]; omega
 have h2 : (a ^^^ 2 * y) % 2 = a % 2 := by
  have := Nat.xor_mod_two_pow (a := a) (b := 2 * y) (n := 1)
  rw [Nat.pow_one] at this
  rw [this, show 2 * y % 2 = 0 by omega, Nat.xor_zero]
 unfold crcS
 rw [h1, h2, Nat.xor_assoc, Nat.xor_assoc, Nat.xor_comm y]
theorem itS_xor (k : Nat) : ∀ (a y : Nat), itS k (a ^^^ 2 ^ k * y) = itS k a ^^^ y := by
 induction k with
 | zero => intro a y; simp [itS]
 | succ k ih =>
  intro a y
  rw [itS, itS, show 2 ^ (k + 1) * y = 2 ^ k * (2 * y) by rw [Nat.pow_succ, Nat.mul_assoc], ih, crcS_xor]
theorem bitR_eq (r : Nat) {b : Nat} (hb : b < 2) : bitR r b = crcS (r ^^^ b) := by
 have h1 : (r ^^^ b) >>> 1 = r / 2 := by
  rw [Nat.shiftRight_xor_distrib, Nat.shiftRight_eq_div_pow, Nat.shiftRight_eq_div_pow, Nat.pow_one, show b / 2 = 0 by omega, Nat.xor_zero]
 have h2 : (r ^^^ b) % 2 = (r % 2 + b) % 2 := by
  have := Nat.xor_mod_two_pow (a := r) (b := b) (n := 1)
  rw [Nat.pow_one] at this
  rw [this]
  have hr : r % 2 = 0 ∨ r % 2 = 1 := by omega
  have hb2 : b = 0 ∨ b = 1 := by omega
  rcases hr with hr | hr <;> rcases hb2 with rfl | rfl <;> rw [hr] <;> rfl
 unfold bitR crcS
 rw [h1, h2]
 split
 ·rfl
 ·rw [Nat.xor_zero]
theorem low_bits : ∀ x : Fin 256, ∀ k : Fin 8, x.1 % 2 ^ (k.1 + 1) = (x.1 % 2 ^ k.1) ^^^ 2 ^ k.1 * ((x.1 >>> k.1) % 2) := by decide +kernel
theorem bitsR_eq (r : Nat) {x : Nat} (hx : x < 256) : ∀ k, k ≤ 8 → bitsR r x k = itS k (r ^^^ x % 2 ^ k)
 | 0, _ => by simp [bitsR, itS, Nat.mod_one]
 | k + 1, hk => by
  rw [bitsR, bitsR_eq r hx k (by omega), bitR_eq _ (Nat.mod_lt _ (by decide)), ← itS_xor, itS, low_bits ⟨x, hx⟩ ⟨k, by omega⟩, Nat.xor_assoc]
theorem nib_S : ∀ a : Fin 16, itS 4 a.1 = nib a.1 := by decide +kernel
theorem round_S (r : Nat) : crcRound r = itS 4 r := by
 have h15 : r &&& 15 = r % 16 := Nat.and_two_pow_sub_one_eq_mod r 4
 have hr : r = r % 16 ^^^ 2 ^ 4 * (r >>> 4) := by
  have h1 : r % 2 ^ 4 ^^^ 2 ^ 4 * (r / 2 ^ 4) = r := by
   apply Nat.eq_of_testBit_eq
   intro i
   rw [Nat.testBit_xor, Nat.testBit_mod_two_pow, Nat.testBit_two_pow_mul, Nat.testBit_div_two_pow]
   by_cases h : i < 4
   ·simp [h, show ¬ 4 ≤ i by omega]
   ·simp [h, show 4 ≤ i by omega]
  rw [Nat.shiftRight_eq_div_pow]
  exact h1.symm
 have h2 : itS 4 r = itS 4 (r % 16) ^^^ (r >>> 4) := by
  conv => lhs; rw [hr]
  exact itS_xor 4 _ _
 rw [h2, nib_S ⟨r % 16, Nat.mod_lt _ (by decide)⟩]
 unfold crcRound
 rw [h15, Nat.xor_comm]
theorem itS_add (j k r : Nat) : itS j (itS k r) = itS (j + k) r := by
 induction j with
 | zero => rw [itS, Nat.zero_add]
 | succ j ih => rw [itS, ih, show j + 1 + k = j + k + 1 by omega, itS]
theorem byte_bits (r : Nat) (x : UInt8) : bitsR r x.toNat 8 = crcByte r x := by
 have hx : x.toNat < 256 := x.toNat_lt
 rw [bitsR_eq r hx 8 (Nat.le_refl _), Nat.mod_eq_of_lt hx]
 unfold crcByte
 rw [round_S, round_S, itS_add]
theorem bitR_lt {r bit : Nat} (h : r < 2 ^ 32) : bitR r bit < 2 ^ 32 := by
 unfold bitR
 split
 ·exact Nat.xor_lt_two_pow (by omega) (by decide)
 ·omega
theorem bitsR_lt {r x : Nat} (h : r < 2 ^ 32) : ∀ k, bitsR r x k < 2 ^ 32
 | 0 => h
 | k + 1 => bitR_lt (bitsR_lt h k)
theorem not_sub {a : Nat} (h : a < 2 ^ 32) : (2 ^ 32 - 1) ^^^ a = 4294967295 - a := by
 rw [show (2 ^ 32 - 1 : Nat) = 2 ^ 32 - 0 - 1 by rfl]
 have := Nat.xor_comm (2 ^ 32 - 1) a
 apply Nat.eq_of_testBit_eq
 intro i
 have e := Nat.testBit_two_pow_sub_succ h i
 rw [show 4294967295 - a = 2 ^ 32 - (a + 1) by omega, e, Nat.sub_zero, Nat.testBit_xor, Nat.testBit_two_pow_sub_one]
 by_cases hi : i < 32
 ·simp [hi]
 ·have : a.testBit i = false := Nat.testBit_lt_two_pow (Nat.lt_of_lt_of_le h (Nat.pow_le_pow_right (by decide) (by omega)))
  simp [hi, this]
end Go.Proofs.YtgilmcpdpggikaaGreatDoor
