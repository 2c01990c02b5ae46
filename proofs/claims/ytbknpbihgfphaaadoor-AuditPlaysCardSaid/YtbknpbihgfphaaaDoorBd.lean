/- AuditPlays, walked. -/
import Derived.Test.YtbknpbihgfphaaaDoorBc
import Derived.Test.YtbknpbihgfphaaaDoorRe
set_option linter.unusedSimpArgs false
set_option linter.unusedVariables false
namespace Go.Proofs.YtbknpbihgfphaaaDoor
open Go Go.RowKit Go.Own

def cntM (n : Int) : Nat := if n < 1 ∨ 9 < n then 6 else n.toNat
theorem cntM_le (n : Int) : 1 ≤ cntM n ∧ cntM n ≤ 9 := by unfold cntM; split <;> omega
theorem scanA_len (d : DM) (x : Ext) : ∀ k n, (scanA d x k n).1.length ≤ k
  | 0, n => by simp [scanA]
  | k + 1, n => by
    have := scanA_len d x k (n + 1)
    rw [scanA]
    split
    · split
      · simp only [List.length_cons]; omega
      · simp
    · simp
theorem pend_flush (d : DM) : d.flush.1.pend.length ≤ d.pend.length := by
  have := pend_pow d
  unfold DM.flush
  split
  · simp
  · simpa using this
theorem pend_pwrite (d : DM) (x : Ext) (a : Int) (l : List UInt8) : (pwrite d x a l).1.pend.length ≤ d.pend.length + 1 := by
  unfold pwrite
  split
  · exact pend_write _ _ _
  · simp
theorem addA_pend (d : DM) (x : Ext) (m : AL) (y : En) : (addA d x m y).1.pend.length ≤ d.pend.length + 1 := by
  have h1 := pend_pwrite d x (m.ents.length : Int) (secE m.ents.length y)
  have h2 := pend_flush (pwrite d x (m.ents.length : Int) (secE m.ents.length y)).1
  unfold addA
  split
  · simp
  · split
    · simp
    · split
      · simp
      · split
        · split <;> simp only <;> omega
        · simpa using h1
theorem addA_len {d : DM} {x : Ext} {m : AL} {y : En} {c : Nat} (hx : x.2 = (c : Int)) (h : m.ents.length ≤ c) : (addA d x m y).2.1.ents.length ≤ c := by
  unfold addA
  split
  · exact h
  · split
    · exact h
    · split
      · exact h
      · split
        · split
          · simp only [List.length_append, List.length_cons, List.length_nil]; omega
          · exact h
        · exact h
theorem pend_arm (d : DM) (n : Int) (sv : List Bool) : (d.arm n sv).pend = d.pend := by
  unfold DM.arm DM.disarm
  split
  · rfl
  · split <;> rfl
/-- what the document's Open gives -/
def GotA (s : Ro) (cs : List Value) (d : DM) (c : Nat) : Prop := (scanA d (((2 : Nat) : Int), (c : Int)) c 0).2 = 0 ∧ RefA s cs d 2 c ⟨(scanA d (((2 : Nat) : Int), (c : Int)) c 0).1, false⟩ ∨ (scanA d (((2 : Nat) : Int), (c : Int)) c 0).2 ≠ 0 ∧ cs = zlog
theorem GotA.mono {s s' : Ro} {cs : List Value} {d : DM} {c : Nat} (h : GotA s cs d c) (hs : s.Le s') : GotA s' cs d c := h.imp (fun h => ⟨h.1, h.2.mono hs⟩) id
theorem RefA.cells {s : Ro} {cs : List Value} {d : DM} {f c : Nat} {m : AL} (h : RefA s cs d f c m) : ∃ x0 m0 y0 x1 m1 y1 bo li x2 m2 y2 gf gc x3 m3 y3 de, cs = [.slice x0 m0 y0, .slice x1 m1 y1, .bool bo, .int .i64 li, .slice x2 m2 y2, .int .i64 gf, .int .i64 gc, .slice x3 m3 y3, .bool de] := by
  obtain ⟨a0, c0, a1, c1, lf, a2, n2, c2, aL, cL, h1, _⟩ := h
  exact ⟨_, _, _, _, _, _, _, _, _, _, _, _, _, _, _, _, _, h1⟩
theorem GotA.cells {s : Ro} {cs : List Value} {d : DM} {c : Nat} (h : GotA s cs d c) : ∃ x0 m0 y0 x1 m1 y1 bo li x2 m2 y2 gf gc x3 m3 y3 de, cs = [.slice x0 m0 y0, .slice x1 m1 y1, .bool bo, .int .i64 li, .slice x2 m2 y2, .int .i64 gf, .int .i64 gc, .slice x3 m3 y3, .bool de] := by
  rcases h with ⟨_, h⟩ | ⟨_, rfl⟩
  · exact h.cells
  · exact ⟨_, _, _, _, _, _, _, _, _, _, _, _, _, _, _, _, _, rfl⟩
def openFS (ds : List Value) (n : Int) (d : DM) : List FS := [
/-  0 -/ FS.v 41 [] (.agg ds.toArray),
/-  1 -/ FS.v 42 [] (.int .i64 n),
/-  2 -/ FS.v 43 [1] (.int .i64 (cntM n)),
/-  3 -/ FS.f 44 [0, 2] (fun s v => ∃ cs, v = .tuple #[.agg cs.toArray, .int .i64 (scanA d (((2 : Nat) : Int), (cntM n : Int)) (cntM n) 0).2] ∧ GotA s cs d (cntM n)) (fun hs h => by obtain ⟨cs, h, k⟩ := h; exact ⟨cs, h, k.mono hs⟩),
/-  4 -/ FS.f 40 [3] (fun s v => ∃ cs, v = .tuple #[.agg cs.toArray, .int .i64 (scanA d (((2 : Nat) : Int), (cntM n : Int)) (cntM n) 0).2] ∧ GotA s cs d (cntM n)) (fun hs h => by obtain ⟨cs, h, k⟩ := h; exact ⟨cs, h, k.mono hs⟩),
/-  5 -/ FS.f 45 [4] (fun s v => ∃ cs, v = .agg cs.toArray ∧ GotA s cs d (cntM n)) (fun hs h => by obtain ⟨cs, h, k⟩ := h; exact ⟨cs, h, k.mono hs⟩),
/-  6 -/ FS.v 46 [4] (.int .i64 (scanA d (((2 : Nat) : Int), (cntM n : Int)) (cntM n) 0).2),
/-  7 -/ FS.new 12 58 zlog,
/-  8 -/ FS.put2 12 45 7 [7, 5] 58]
def openFS2 (rb : Nat) (ds : List Value) (n : Int) (d : DM) : List FS := [
/-  0 -/ FS.v 91 [] (.pointer (some ⟨rb, 0, none⟩)),
/-  1 -/ FS.v 92 [0] (.agg ds.toArray),
/-  2 -/ FS.v 93 [] (.int .i64 n),
/-  3 -/ FS.v 94 [2] (.int .i64 (cntM n)),
/-  4 -/ FS.f 95 [1, 3] (fun s v => ∃ cs, v = .tuple #[.agg cs.toArray, .int .i64 (scanA d (((2 : Nat) : Int), (cntM n : Int)) (cntM n) 0).2] ∧ GotA s cs d (cntM n)) (fun hs h => by obtain ⟨cs, h, k⟩ := h; exact ⟨cs, h, k.mono hs⟩),
/-  5 -/ FS.f 90 [4] (fun s v => ∃ cs, v = .tuple #[.agg cs.toArray, .int .i64 (scanA d (((2 : Nat) : Int), (cntM n : Int)) (cntM n) 0).2] ∧ GotA s cs d (cntM n)) (fun hs h => by obtain ⟨cs, h, k⟩ := h; exact ⟨cs, h, k.mono hs⟩),
/-  6 -/ FS.f 96 [5] (fun s v => ∃ cs, v = .agg cs.toArray ∧ GotA s cs d (cntM n)) (fun hs h => by obtain ⟨cs, h, k⟩ := h; exact ⟨cs, h, k.mono hs⟩),
/-  7 -/ FS.v 97 [5] (.int .i64 (scanA d (((2 : Nat) : Int), (cntM n : Int)) (cntM n) 0).2),
/-  8 -/ FS.new 20 58 zlog,
/-  9 -/ FS.put2 20 96 8 [8, 6] 58]
section
variable {s : Ro} {w : World} {R : List Asn}
theorem count_s {n : Int} (H : Holds s w R) : Calls Tryd.prog 23 #[.int .i64 n] w fun e w' => e = .returned (.int .i64 (cntM n : Int)) ∧ Holds s w' R := by
  refine enter Tryd.func23 rfl Tryd.ntmps23 rfl ?_
  repeat' (first | refine Z H ?_ | (refine Zc ?_ ?_ <;> intro hc <;> first | (exfalso; omega) | skip) | (refine Y ?_; try change C _ _ _ _ _ _) | (refine Zs H ?_; clear H; (try clear w); intro w H) | (refine Zn H ?_; clear H; (try clear w); intro _ w H) | (refine Ze H ?_; clear H; (try clear w); intro gv w H))
  all_goals
    refine ⟨_, resT rfl, ?_, H⟩
    unfold cntM
    first
      | rw [if_pos (by omega)]; rfl
      | (rw [if_neg (by omega)]; show _ = Ending.returned (.int .i64 ((n.toNat : Nat) : Int)); rw [Int.toNat_of_nonneg (by omega)]; rfl)
theorem Dead_e {bL bp cc : Nat} {aa : Option Addr} {m : AL} (H : Holds s w (logP bL bp aa cc m R)) : Calls Tryd.prog 31 #[.pointer (some ⟨bL, 0, none⟩)] w fun e w' => e = .returned (.bool m.dead) ∧ Only [] w w' ∧ Holds s w' (logP bL bp aa cc m R) := by
  have p1 := full_pin (j := 2) H (i := 0) rfl rfl
  have key : Calls Tryd.prog 31 #[.pointer (some ⟨bL, 0, none⟩)] w fun e w' => e = .returned (.bool m.dead) ∧ Holds (full s w) w' [] := by
    have HF := H.full
    clear H
    have H := HF
    clear HF
    generalize full s w = s1 at *
    refine enter Tryd.func31 rfl Tryd.ntmps31 rfl ?_
    repeat' (first | refine Z H ?_ | (refine Zc ?_ ?_ <;> intro hc <;> first | (exfalso; omega) | skip) | (refine Y ?_; try change C _ _ _ _ _ _) | (refine Zs H ?_; clear H; (try clear w); intro w H) | (refine Zn H ?_; clear H; (try clear w); intro _ w H) | (refine Ze H ?_; clear H; (try clear w); intro gv w H))
    exact ⟨_, resT rfl, rfl, H⟩
  exact key.mono fun e w' ⟨he, H'⟩ => ⟨he, H.pure0 H'⟩
set_option maxRecDepth 100000 in
set_option maxHeartbeats 1000000 in
theorem aplays_walk {n : Int} {acts : List Act20} {va : Option Addr} {vc : Nat} (hN : Nib s) (H : Holds s w []) (hn : I64 n) (hl : SlS s (.slice va acts.length vc) 7 acts.length (acts.flatMap Act20.cells)) (hok : ∀ a ∈ acts, a.Ok s) :
    Calls Tryd.prog 5 #[.int .i64 n, .slice va acts.length vc] w fun e w' => e = .returned (.bool true) ∧ Fin s w' := by
  obtain ⟨hc1, hc9⟩ := cntM_le n
  have hL0 : Lg 12 2 (cntM n) (DM.new 12) ⟨[], false⟩ := Lg.new
  have hs0 := hL0.scan (by omega) (by decide) (by simp) (cntM n) 0 (by omega) (by simp)
  rw [List.drop_zero] at hs0
  dsimp only at hs0
  clear hL0
  refine enter Tryd.func5 rfl Tryd.ntmps5 rfl ?_
  repeat' (first | refine Z H ?_ | (refine Zc ?_ ?_ <;> intro hc <;> first | (exfalso; omega) | skip) | (refine Y ?_; try change C _ _ _ _ _ _) | (refine Zs H ?_; clear H; (try clear w); intro w H) | (refine Zn H ?_; clear H; (try clear w); (first | ((fail_if_success (have := bl1)); intro bl1 w H) | ((fail_if_success (have := bl2)); intro bl2 w H) | ((fail_if_success (have := bl3)); intro bl3 w H) | intro _ w H)) | (refine Ze H ?_; clear H; (try clear w); intro gv w H))
  (refine X.call (count_s (n := n) H) ?_; (try clear H); rintro _ w ⟨rfl, H⟩; refine ⟨_, rfl, ?_⟩)
  repeat' (first | refine Z H ?_ | (refine Zc ?_ ?_ <;> intro hc <;> first | (exfalso; omega) | skip) | (refine Y ?_; try change C _ _ _ _ _ _) | (refine Zs H ?_; clear H; (try clear w); intro w H) | (refine Zn H ?_; clear H; (try clear w); (first | ((fail_if_success (have := bl1)); intro bl1 w H) | ((fail_if_success (have := bl2)); intro bl2 w H) | ((fail_if_success (have := bl3)); intro bl3 w H) | intro _ w H)) | (refine Ze H ?_; clear H; (try clear w); intro gv w H))
  (refine X.call (part20_s (cnt := cntM n) H hc1 (by omega)) ?_; (try clear H); rintro _ w ⟨s1, b, bp, rfl, hle1, hp, H⟩; refine ⟨_, rfl, ?_⟩)
  repeat' (first | refine Z H ?_ | (refine Zc ?_ ?_ <;> intro hc <;> first | (exfalso; omega) | skip) | (refine Y ?_; try change C _ _ _ _ _ _) | (refine Zs H ?_; clear H; (try clear w); intro w H) | (refine Zn H ?_; clear H; (try clear w); (first | ((fail_if_success (have := bl1)); intro bl1 w H) | ((fail_if_success (have := bl2)); intro bl2 w H) | ((fail_if_success (have := bl3)); intro bl3 w H) | intro _ w H)) | (refine Ze H ?_; clear H; (try clear w); intro gv w H))
  (refine X.call (New_r (n := 12) H (by decide) (by decide)) ?_; (try clear H); rintro _ w ⟨s2, v1, rfl, hle2, hR, H⟩; refine ⟨_, rfl, ?_⟩)
  obtain ⟨a0, c0, a1, c1, lf, a2, n2, c2, rfl⟩ := refCells hR
  repeat' (first | refine Z H ?_ | (refine Zc ?_ ?_ <;> intro hc <;> first | (exfalso; omega) | skip) | (refine Y ?_; try change C _ _ _ _ _ _) | (refine Zs H ?_; clear H; (try clear w); intro w H) | (refine Zn H ?_; clear H; (try clear w); (first | ((fail_if_success (have := bl1)); intro bl1 w H) | ((fail_if_success (have := bl2)); intro bl2 w H) | ((fail_if_success (have := bl3)); intro bl3 w H) | intro _ w H)) | (refine Ze H ?_; clear H; (try clear w); intro gv w H))
  first | (have hT : Holds _ _ (dsk b _ :: _) := H; clear hT) | (replace H := H.up 1 rfl; (try simp only [List.set_cons_zero, List.set_cons_succ, List.eraseIdx_cons_zero, List.eraseIdx_cons_succ] at H); have hT : Holds _ _ (dsk b _ :: _) := H; clear hT) | (replace H := H.up 2 rfl; (try simp only [List.set_cons_zero, List.set_cons_succ, List.eraseIdx_cons_zero, List.eraseIdx_cons_succ] at H); have hT : Holds _ _ (dsk b _ :: _) := H; clear hT) | (replace H := H.up 3 rfl; (try simp only [List.set_cons_zero, List.set_cons_succ, List.eraseIdx_cons_zero, List.eraseIdx_cons_succ] at H); have hT : Holds _ _ (dsk b _ :: _) := H; clear hT) | (replace H := H.up 4 rfl; (try simp only [List.set_cons_zero, List.set_cons_succ, List.eraseIdx_cons_zero, List.eraseIdx_cons_succ] at H); have hT : Holds _ _ (dsk b _ :: _) := H; clear hT) | (replace H := H.up 5 rfl; (try simp only [List.set_cons_zero, List.set_cons_succ, List.eraseIdx_cons_zero, List.eraseIdx_cons_succ] at H); have hT : Holds _ _ (dsk b _ :: _) := H; clear hT) | (replace H := H.up 6 rfl; (try simp only [List.set_cons_zero, List.set_cons_succ, List.eraseIdx_cons_zero, List.eraseIdx_cons_succ] at H); have hT : Holds _ _ (dsk b _ :: _) := H; clear hT)
  (refine X.call (OpenA_ok (cnt := cntM n) (hN.mono (hle1.trans hle2)) H (hp.mono hle2) rfl (by omega) hs0) ?_; (try clear H); rintro _ w ⟨s3, bL, aa, cc, rfl, hle3, H⟩; refine ⟨_, rfl, ?_⟩)
  repeat' (first | refine Z H ?_ | (refine Zc ?_ ?_ <;> intro hc <;> first | (exfalso; omega) | skip) | (refine Y ?_; try change C _ _ _ _ _ _) | (refine Zs H ?_; clear H; (try clear w); intro w H) | (refine Zn H ?_; clear H; (try clear w); (first | ((fail_if_success (have := bl1)); intro bl1 w H) | ((fail_if_success (have := bl2)); intro bl2 w H) | ((fail_if_success (have := bl3)); intro bl3 w H) | intro _ w H)) | (refine Ze H ?_; clear H; (try clear w); intro gv w H))
  have H1 : Holds s3 w (var bL 112 [.pointer (some ⟨bp, 0, none⟩), .slice aa ([] : List En).length cc, .bool false] :: row 34 4 (.slice aa ([] : List En).length cc) ([] : List En).length (([] : List En).flatMap En.cells) :: dsk b (DM.new 12) :: var bl1 54 [.slice a0 (DM.new 12).secs.length c0, .slice a1 (DM.new 12).pend.length c1, .bool (DM.new 12).off, .int .i64 lf, .slice a2 n2 c2] :: []) := H.arr
  clear H
  have H := H1
  clear H1
  replace hR := hR.mono hle3
  have hpn : (DM.new 12).pend.length ≤ 0 := by decide
  refine C.flow (openFS [.slice a0 (DM.new 12).secs.length c0, .slice a1 (DM.new 12).pend.length c1, .bool (DM.new 12).off, .int .i64 lf, .slice a2 n2 c2] n (DM.new 12)) [5, 6, 8] [0, 1, 2, 3, 4, 5, 6, 8] H (by kernel_rfl) rfl rfl ?_ ?_
  · repeat' (first | exact StepsF.nil | refine StepsF.cons ?_ ?_)
    · intro s1 h w E hs1; (conv => whnf); intro H; replace H : Holds s1 w (var bL 112 [.pointer (some ⟨bp, 0, none⟩), .slice aa ([] : List En).length cc, .bool false] :: row 34 4 (.slice aa ([] : List En).length cc) ([] : List En).length (([] : List En).flatMap En.cells) :: dsk b (DM.new 12) :: var bl1 54 [.slice a0 (DM.new 12).secs.length c0, .slice a1 (DM.new 12).pend.length c1, .bool (DM.new 12).off, .int .i64 lf, .slice a2 n2 c2] :: ([] ++ E)) := H
      repeat' (first | refine Z H ?_ | (refine Zc ?_ ?_ <;> intro hc <;> first | (exfalso; omega) | skip) | (refine Y ?_; try change C _ _ _ _ _ _) | (refine Zs H ?_; clear H; (try clear w); intro w H) | (refine Zn H ?_; clear H; (try clear w); (first | ((fail_if_success (have := bl1)); intro bl1 w H) | ((fail_if_success (have := bl2)); intro bl2 w H) | ((fail_if_success (have := bl3)); intro bl3 w H) | intro _ w H)) | (refine Ze H ?_; clear H; (try clear w); intro gv w H))
      exact ⟨rfl, by (repeat (first | exact Agr.refl | exact Agr.hav | refine Agr.upd rfl ?_ | refine Agr.in rfl ?_)), s1, Ro.Le.refl _, rfl, H⟩
    · intro s1 h w E hs1; (conv => whnf); intro H; replace H : Holds s1 w (var bL 112 [.pointer (some ⟨bp, 0, none⟩), .slice aa ([] : List En).length cc, .bool false] :: row 34 4 (.slice aa ([] : List En).length cc) ([] : List En).length (([] : List En).flatMap En.cells) :: dsk b (DM.new 12) :: var bl1 54 [.slice a0 (DM.new 12).secs.length c0, .slice a1 (DM.new 12).pend.length c1, .bool (DM.new 12).off, .int .i64 lf, .slice a2 n2 c2] :: ([] ++ E)) := H
      repeat' (first | refine Z H ?_ | (refine Zc ?_ ?_ <;> intro hc <;> first | (exfalso; omega) | skip) | (refine Y ?_; try change C _ _ _ _ _ _) | (refine Zs H ?_; clear H; (try clear w); intro w H) | (refine Zn H ?_; clear H; (try clear w); (first | ((fail_if_success (have := bl1)); intro bl1 w H) | ((fail_if_success (have := bl2)); intro bl2 w H) | ((fail_if_success (have := bl3)); intro bl3 w H) | intro _ w H)) | (refine Ze H ?_; clear H; (try clear w); intro gv w H))
      exact ⟨rfl, by (repeat (first | exact Agr.refl | exact Agr.hav | refine Agr.upd rfl ?_ | refine Agr.in rfl ?_)), s1, Ro.Le.refl _, rfl, H⟩
    · intro s1 h w E hs1; (conv => whnf); rintro _ rfl; (conv => whnf); intro H; replace H : Holds s1 w (var bL 112 [.pointer (some ⟨bp, 0, none⟩), .slice aa ([] : List En).length cc, .bool false] :: row 34 4 (.slice aa ([] : List En).length cc) ([] : List En).length (([] : List En).flatMap En.cells) :: dsk b (DM.new 12) :: var bl1 54 [.slice a0 (DM.new 12).secs.length c0, .slice a1 (DM.new 12).pend.length c1, .bool (DM.new 12).off, .int .i64 lf, .slice a2 n2 c2] :: ([] ++ E)) := H
      (refine X.call (count_s (n := n) H) ?_; (try clear H); rintro _ w ⟨rfl, H⟩; refine ⟨_, rfl, ?_⟩)
      repeat' (first | refine Z H ?_ | (refine Zc ?_ ?_ <;> intro hc <;> first | (exfalso; omega) | skip) | (refine Y ?_; try change C _ _ _ _ _ _) | (refine Zs H ?_; clear H; (try clear w); intro w H) | (refine Zn H ?_; clear H; (try clear w); (first | ((fail_if_success (have := bl1)); intro bl1 w H) | ((fail_if_success (have := bl2)); intro bl2 w H) | ((fail_if_success (have := bl3)); intro bl3 w H) | intro _ w H)) | (refine Ze H ?_; clear H; (try clear w); intro gv w H))
      exact ⟨rfl, by (repeat (first | exact Agr.refl | exact Agr.hav | refine Agr.upd rfl ?_ | refine Agr.in rfl ?_)), s1, Ro.Le.refl _, rfl, H⟩
    · intro s1 h w E hs1; (conv => whnf); rintro _ rfl; (conv => whnf); rintro _ rfl; (conv => whnf); intro H; replace H : Holds s1 w (var bL 112 [.pointer (some ⟨bp, 0, none⟩), .slice aa ([] : List En).length cc, .bool false] :: row 34 4 (.slice aa ([] : List En).length cc) ([] : List En).length (([] : List En).flatMap En.cells) :: dsk b (DM.new 12) :: var bl1 54 [.slice a0 (DM.new 12).secs.length c0, .slice a1 (DM.new 12).pend.length c1, .bool (DM.new 12).off, .int .i64 lf, .slice a2 n2 c2] :: ([] ++ E)) := H
      (refine X.call (Open20_s (f := 2) (c := cntM n) H (hR.mono hs1) (by have := cntM_le n; omega) (by omega)) ?_; (try clear H); rintro _ w ⟨s2, cs, rfl, hs2, H, hG⟩; refine ⟨_, rfl, ?_⟩)
      repeat' (first | refine Z H ?_ | (refine Zc ?_ ?_ <;> intro hc <;> first | (exfalso; omega) | skip) | (refine Y ?_; try change C _ _ _ _ _ _) | (refine Zs H ?_; clear H; (try clear w); intro w H) | (refine Zn H ?_; clear H; (try clear w); (first | ((fail_if_success (have := bl1)); intro bl1 w H) | ((fail_if_success (have := bl2)); intro bl2 w H) | ((fail_if_success (have := bl3)); intro bl3 w H) | intro _ w H)) | (refine Ze H ?_; clear H; (try clear w); intro gv w H))
      exact ⟨rfl, by (repeat (first | exact Agr.refl | exact Agr.hav | refine Agr.upd rfl ?_ | refine Agr.in rfl ?_)), s2, hs2, ⟨cs, rfl, hG⟩, H⟩
    · intro s1 h w E hs1; (conv => whnf); rintro _ ⟨cs, rfl, hG⟩; (conv => whnf); intro H; replace H : Holds s1 w (var bL 112 [.pointer (some ⟨bp, 0, none⟩), .slice aa ([] : List En).length cc, .bool false] :: row 34 4 (.slice aa ([] : List En).length cc) ([] : List En).length (([] : List En).flatMap En.cells) :: dsk b (DM.new 12) :: var bl1 54 [.slice a0 (DM.new 12).secs.length c0, .slice a1 (DM.new 12).pend.length c1, .bool (DM.new 12).off, .int .i64 lf, .slice a2 n2 c2] :: ([] ++ E)) := H
      repeat' (first | refine Z H ?_ | (refine Zc ?_ ?_ <;> intro hc <;> first | (exfalso; omega) | skip) | (refine Y ?_; try change C _ _ _ _ _ _) | (refine Zs H ?_; clear H; (try clear w); intro w H) | (refine Zn H ?_; clear H; (try clear w); (first | ((fail_if_success (have := bl1)); intro bl1 w H) | ((fail_if_success (have := bl2)); intro bl2 w H) | ((fail_if_success (have := bl3)); intro bl3 w H) | intro _ w H)) | (refine Ze H ?_; clear H; (try clear w); intro gv w H))
      exact ⟨rfl, by (repeat (first | exact Agr.refl | exact Agr.hav | refine Agr.upd rfl ?_ | refine Agr.in rfl ?_)), s1, Ro.Le.refl _, ⟨cs, rfl, hG⟩, H⟩
    · intro s1 h w E hs1; (conv => whnf); rintro _ ⟨cs, rfl, hG⟩; (conv => whnf); intro H; replace H : Holds s1 w (var bL 112 [.pointer (some ⟨bp, 0, none⟩), .slice aa ([] : List En).length cc, .bool false] :: row 34 4 (.slice aa ([] : List En).length cc) ([] : List En).length (([] : List En).flatMap En.cells) :: dsk b (DM.new 12) :: var bl1 54 [.slice a0 (DM.new 12).secs.length c0, .slice a1 (DM.new 12).pend.length c1, .bool (DM.new 12).off, .int .i64 lf, .slice a2 n2 c2] :: ([] ++ E)) := H
      repeat' (first | refine Z H ?_ | (refine Zc ?_ ?_ <;> intro hc <;> first | (exfalso; omega) | skip) | (refine Y ?_; try change C _ _ _ _ _ _) | (refine Zs H ?_; clear H; (try clear w); intro w H) | (refine Zn H ?_; clear H; (try clear w); (first | ((fail_if_success (have := bl1)); intro bl1 w H) | ((fail_if_success (have := bl2)); intro bl2 w H) | ((fail_if_success (have := bl3)); intro bl3 w H) | intro _ w H)) | (refine Ze H ?_; clear H; (try clear w); intro gv w H))
      exact ⟨rfl, by (repeat (first | exact Agr.refl | exact Agr.hav | refine Agr.upd rfl ?_ | refine Agr.in rfl ?_)), s1, Ro.Le.refl _, ⟨cs, rfl, hG⟩, H⟩
    · intro s1 h w E hs1; (conv => whnf); rintro _ ⟨cs, rfl, hG⟩; (conv => whnf); intro H; replace H : Holds s1 w (var bL 112 [.pointer (some ⟨bp, 0, none⟩), .slice aa ([] : List En).length cc, .bool false] :: row 34 4 (.slice aa ([] : List En).length cc) ([] : List En).length (([] : List En).flatMap En.cells) :: dsk b (DM.new 12) :: var bl1 54 [.slice a0 (DM.new 12).secs.length c0, .slice a1 (DM.new 12).pend.length c1, .bool (DM.new 12).off, .int .i64 lf, .slice a2 n2 c2] :: ([] ++ E)) := H
      repeat' (first | refine Z H ?_ | (refine Zc ?_ ?_ <;> intro hc <;> first | (exfalso; omega) | skip) | (refine Y ?_; try change C _ _ _ _ _ _) | (refine Zs H ?_; clear H; (try clear w); intro w H) | (refine Zn H ?_; clear H; (try clear w); (first | ((fail_if_success (have := bl1)); intro bl1 w H) | ((fail_if_success (have := bl2)); intro bl2 w H) | ((fail_if_success (have := bl3)); intro bl3 w H) | intro _ w H)) | (refine Ze H ?_; clear H; (try clear w); intro gv w H))
      exact ⟨rfl, by (repeat (first | exact Agr.refl | exact Agr.hav | refine Agr.upd rfl ?_ | refine Agr.in rfl ?_)), s1, Ro.Le.refl _, rfl, H⟩
    · intro s1 h w E hs1; (conv => whnf); intro H; replace H : Holds s1 w (var bL 112 [.pointer (some ⟨bp, 0, none⟩), .slice aa ([] : List En).length cc, .bool false] :: row 34 4 (.slice aa ([] : List En).length cc) ([] : List En).length (([] : List En).flatMap En.cells) :: dsk b (DM.new 12) :: var bl1 54 [.slice a0 (DM.new 12).secs.length c0, .slice a1 (DM.new 12).pend.length c1, .bool (DM.new 12).off, .int .i64 lf, .slice a2 n2 c2] :: ([] ++ E)) := H
      repeat' (first | refine Z H ?_ | (refine Zc ?_ ?_ <;> intro hc <;> first | (exfalso; omega) | skip) | (refine Y ?_; try change C _ _ _ _ _ _) | (refine Zs H ?_; clear H; (try clear w); intro w H) | (refine Zn H ?_; clear H; (try clear w); (first | ((fail_if_success (have := bl1)); intro bl1 w H) | ((fail_if_success (have := bl2)); intro bl2 w H) | ((fail_if_success (have := bl3)); intro bl3 w H) | intro _ w H)) | (refine Ze H ?_; clear H; (try clear w); intro gv w H))
      exact ⟨rfl, by (repeat (first | exact Agr.refl | exact Agr.hav | refine Agr.upd rfl ?_ | refine Agr.in rfl ?_)), s1, Ro.Le.refl _, ⟨bl2, rfl⟩, H⟩
    · intro s1 h w E hs1; (conv => whnf)
      rintro _ ⟨b4, rfl⟩; (conv => whnf)
      rintro v1 ⟨cs, rfl, hG⟩; (conv => whnf)
      obtain ⟨x0, m0, y0, x1, m1, y1, bo, li, x2, m2, y2, gf, gc, x3, m3, y3, de, rfl⟩ := hG.cells
      intro H
      replace H : Holds s1 w (var b4 58 zlog :: var bL 112 [.pointer (some ⟨bp, 0, none⟩), .slice aa ([] : List En).length cc, .bool false] :: row 34 4 (.slice aa ([] : List En).length cc) ([] : List En).length (([] : List En).flatMap En.cells) :: dsk b (DM.new 12) :: var bl1 54 [.slice a0 (DM.new 12).secs.length c0, .slice a1 (DM.new 12).pend.length c1, .bool (DM.new 12).off, .int .i64 lf, .slice a2 n2 c2] :: ([] ++ E)) := H
      repeat' (first | refine Z H ?_ | (refine Zc ?_ ?_ <;> intro hc <;> first | (exfalso; omega) | skip) | (refine Y ?_; try change C _ _ _ _ _ _) | (refine Zs H ?_; clear H; (try clear w); intro w H) | (refine Zn H ?_; clear H; (try clear w); (first | ((fail_if_success (have := bl1)); intro bl1 w H) | ((fail_if_success (have := bl2)); intro bl2 w H) | ((fail_if_success (have := bl3)); intro bl3 w H) | intro _ w H)) | (refine Ze H ?_; clear H; (try clear w); intro gv w H))
      exact ⟨rfl, by (repeat (first | exact Agr.refl | exact Agr.hav | refine Agr.upd rfl ?_ | refine Agr.in rfl ?_)), s1, Ro.Le.refl _, ⟨b4, rfl⟩, H⟩
  · intro s4 h w hs4; (conv => whnf)
    rintro v1 ⟨cs, rfl, hG⟩; (conv => whnf)
    obtain ⟨x0, m0, y0, x1, m1, y1, bo, li, x2, m2, y2, gf, gc, x3, m3, y3, de, hcs⟩ := hG.cells
    rintro _ rfl; (conv => whnf)
    rintro _ ⟨br, rfl⟩; (conv => whnf)
    intro H
    replace H : Holds s4 w (var br 58 cs :: var bL 112 [.pointer (some ⟨bp, 0, none⟩), .slice aa ([] : List En).length cc, .bool false] :: row 34 4 (.slice aa ([] : List En).length cc) ([] : List En).length (([] : List En).flatMap En.cells) :: dsk b (DM.new 12) :: var bl1 54 [.slice a0 (DM.new 12).secs.length c0, .slice a1 (DM.new 12).pend.length c1, .bool (DM.new 12).off, .int .i64 lf, .slice a2 n2 c2] :: []) := H
    change L _ _ _ _ [_] _ _
    repeat' (first | refine Z H ?_ | (refine Zc ?_ ?_ <;> intro hc <;> first | (exfalso; omega) | skip) | (refine Y ?_; try change C _ _ _ _ _ _) | (refine Zs H ?_; clear H; (try clear w); intro w H) | (refine Zn H ?_; clear H; (try clear w); (first | ((fail_if_success (have := bl1)); intro bl1 w H) | ((fail_if_success (have := bl2)); intro bl2 w H) | ((fail_if_success (have := bl3)); intro bl3 w H) | intro _ w H)) | (refine Ze H ?_; clear H; (try clear w); intro gv w H))
    refine ⟨rfl, ?_⟩
    change C _ _ _ _ _ _
    have hA : RefA s4 cs (DM.new 12) 2 (cntM n) ⟨[], false⟩ := by
      rcases hG with ⟨_, h⟩ | ⟨h, _⟩
      · rw [hs0] at h; exact h
      · rw [hs0] at h; exact absurd rfl h
    clear hG hcs
    have hk0 : (scanA (DM.new 12) (((2 : Nat) : Int), (cntM n : Int)) (cntM n) 0).2 = 0 := by rw [hs0]
    rw [hk0]
    have hp4 := hp.mono ((hle2.trans hle3).trans hs4)
    have hle4 := ((hle1.trans hle2).trans hle3).trans hs4
    have hp := hp4
    clear hp4 hle1 hle2 hle3 hs4 hR hs0 hk0
    repeat' (first | refine Z H ?_ | (refine Zc ?_ ?_ <;> intro hc <;> first | (exfalso; omega) | skip) | (refine Y ?_; try change C _ _ _ _ _ _) | (refine Zs H ?_; clear H; (try clear w); intro w H) | (refine Zn H ?_; clear H; (try clear w); (first | ((fail_if_success (have := bl1)); intro bl1 w H) | ((fail_if_success (have := bl2)); intro bl2 w H) | ((fail_if_success (have := bl3)); intro bl3 w H) | intro _ w H)) | (refine Ze H ?_; clear H; (try clear w); intro gv w H))
    dsimp only [DM.new] at hpn
    refine C.loopS [4, 10, 14, 15, 16, 17, 18, 19, 20, 21, 53, 54, 55, 56, 57, 58, 59, 60, 61, 62, 63, 64, 65, 66, 67, 68, 69, 70, 71, 72, 73, 74, 75, 76, 77, 78, 79, 80, 81, 82, 83, 84, 85, 86, 87, 88, 89, 90, 91, 92, 93, 94, 95, 96, 97, 98, 99, 100, 101, 102, 103, 104, 105, 106, 107, 108, 109, 110, 111, 112, 113, 114, 115, 116, 117, 118, 119, 120, 121, 122, 123, 124, 125, 126, 127, 128, 129, 130, 131, 132, 133, 134, 135, 136, 137, 138, 139, 140, 141, 142, 143, 144, 145, 146, 147, 148, 149, 150, 151, 152, 153, 154, 155, 156, 157, 158, 159, 160, 161, 162, 163, 164, 165, 166, 167, 168, 169] [10, 14] rfl (fun k vs w => ∃ i : Nat, ∃ s' d m bL aa cc rcs, k = acts.length - i ∧ i ≤ acts.length ∧ i ≤ 30 ∧ vs = [.pointer (some ⟨bL, 0, none⟩), .int .i64 (i : Int)] ∧ s4.Le s' ∧ RefA s' rcs d 2 (cntM n) m ∧ m.ents.length ≤ cntM n ∧ d.pend.length ≤ i ∧ Holds s' w (logP bL bp aa cc m (dsk b d :: var br 58 rcs :: []))) acts.length ⟨0, s4, _, _, bL, aa, cc, cs, rfl, Nat.zero_le _, Nat.zero_le _, rfl, Ro.Le.refl _, hA, by simp, by simp [DM.new], logP_of (ents := []) H⟩ ?_
    clear H hA hpn
    rintro k vs hv w ⟨i, s5, d, m, bL, aa, cc, rcs, rfl, hi, hi30, rfl, hle5, hA, hml, hpl, H⟩
    by_cases hlt : i < acts.length ∧ i < 30
    rotate_left
    · repeat' (first | refine Z H ?_ | (refine Zc ?_ ?_ <;> intro hc <;> first | (exfalso; omega) | skip) | (refine Y ?_; try change C _ _ _ _ _ _) | (refine Zs H ?_; clear H; (try clear w); intro w H) | (refine Zn H ?_; clear H; (try clear w); (first | ((fail_if_success (have := bl1)); intro bl1 w H) | ((fail_if_success (have := bl2)); intro bl2 w H) | ((fail_if_success (have := bl3)); intro bl3 w H) | intro _ w H)) | (refine Ze H ?_; clear H; (try clear w); intro gv w H))
      all_goals
        (refine X.call (awake20 (hN.mono (hle4.trans hle5)) H) ?_; (try clear H); rintro _ w ⟨s6, rfl, hle6, H⟩; refine ⟨_, rfl, ?_⟩)
        repeat' (first | refine Z H ?_ | (refine Zc ?_ ?_ <;> intro hc <;> first | (exfalso; omega) | skip) | (refine Y ?_; try change C _ _ _ _ _ _) | (refine Zs H ?_; clear H; (try clear w); intro w H) | (refine Zn H ?_; clear H; (try clear w); (first | ((fail_if_success (have := bl1)); intro bl1 w H) | ((fail_if_success (have := bl2)); intro bl2 w H) | ((fail_if_success (have := bl3)); intro bl3 w H) | intro _ w H)) | (refine Ze H ?_; clear H; (try clear w); intro gv w H))
        exact ⟨_, resT rfl, rfl, H.done ((hle4.trans hle5).trans hle6)⟩
    obtain ⟨hlt, hlt30⟩ := hlt
    obtain ⟨g1, o1, c1, e1, _, _, hp1⟩ := elemS (hl.mono (hle4.trans hle5)) (fun _ _ => rfl) (by decide) (by omega)
    cases e1
    have q1 : ∀ j v, ([.int .i64 acts[i].do_, .int .i64 acts[i].n, .int .i64 acts[i].e.kind, .int .i64 acts[i].e.part, .int .u32 (acts[i].e.ver : Int), .int .i64 acts[i].e.code, acts[i].keepv] : List Value)[j]? = some v → Pin s5 g1 (o1 + i * 7 + j) v := hp1 i hlt
    obtain ⟨hkeep, hkl, hdo, han, hye⟩ := (hok acts[i] (List.getElem_mem _)).mono (hle4.trans hle5)
    generalize acts[i] = a at *
    obtain ⟨ka, kc, hkv, _⟩ := formS hkeep
    rw [hkv] at q1 hkeep
    obtain ⟨ado, an1, y, kv, keep⟩ := a
    simp only at q1 hdo han hye hkeep hkl hkv
    subst hkv
    replace hp := hp.mono hle5
    have hN5 := hN.mono (hle4.trans hle5)
    dsimp only [logP] at H
    repeat' (first | ((fail_if_success (with_reducible show C _ _ _ (Code.seq (Code.seq (Code.region 13 _ _) _) _) _ _)); refine Z H ?_) | (refine Zc ?_ ?_ <;> intro hc <;> first | (exfalso; omega) | skip) | (refine Y ?_; try change C _ _ _ _ _ _) | (refine Zs H ?_; clear H; (try clear w); intro w H) | (refine Zn H ?_; clear H; (try clear w); (first | ((fail_if_success (have := bl1)); intro bl1 w H) | ((fail_if_success (have := bl2)); intro bl2 w H) | ((fail_if_success (have := bl3)); intro bl3 w H) | intro _ w H)) | (refine Ze H ?_; clear H; (try clear w); intro gv w H))
    refine C.cut [4, 10, 16, 17, 18, 19, 20, 21, 67, 68, 69, 70, 71, 72, 73, 74, 75, 76, 77, 78, 79, 80, 81, 82, 83, 84, 85, 86, 87, 88, 89, 90, 91, 92, 93, 94, 95, 96, 97, 98, 99, 100, 101, 102, 103, 104, 105, 106, 107, 108, 109, 110, 111, 112, 113, 114, 115, 116, 117, 118, 119, 120, 121, 122, 123, 124, 125, 126, 127, 128, 129, 130, 131, 132, 133, 134, 135, 136, 137, 138, 139, 140, 141, 142, 143, 144, 145, 146, 147] [10] rfl (fun vs w => ∃ s' d m bL aa cc rcs, vs = [.pointer (some ⟨bL, 0, none⟩)] ∧ s5.Le s' ∧ RefA s' rcs d 2 (cntM n) m ∧ m.ents.length ≤ cntM n ∧ d.pend.length ≤ i + 1 ∧ Holds s' w (logP bL bp aa cc m (dsk b d :: var br 58 rcs :: []))) ?_ ?_
    · -- the act
      have hA0 := hA
      obtain ⟨a0, c0, a1, c1, lf, a2, n2, c2, aL, cL, rfl, hR, hL⟩ := hA
      repeat' (first | ((fail_if_success (with_reducible show C _ _ _ (Code.seq (Code.seq (Code.region 24 _ _) _) _) _ _)); refine Z H ?_) | (refine Zc ?_ ?_ <;> intro hc <;> first | (exfalso; omega) | skip) | (refine Y ?_; try change C _ _ _ _ _ _) | (refine Zs H ?_; clear H; (try clear w); intro w H) | (refine Zn H ?_; clear H; (try clear w); (first | ((fail_if_success (have := bl1)); intro bl1 w H) | ((fail_if_success (have := bl2)); intro bl2 w H) | ((fail_if_success (have := bl3)); intro bl3 w H) | intro _ w H)) | (refine Ze H ?_; clear H; (try clear w); intro gv w H))
      refine C.cut [112, 113, 114, 115, 116, 117] [112] rfl (fun vs w => vs = [.bool (decide (0 ≤ ado ∧ ado ≤ 4))] ∧ Holds s5 w (var bl2 46 [.int .i64 ado, .int .i64 an1, .int .i64 y.kind, .int .i64 y.part, .int .u32 (y.ver : Int), .int .i64 y.code, .slice ka keep.length kc] :: var bL 112 [.pointer (some ⟨bp, 0, none⟩), .slice aa m.ents.length cc, .bool m.dead] :: row 34 4 (.slice aa m.ents.length cc) m.ents.length (m.ents.flatMap En.cells) :: dsk b d :: var br 58 [.slice a0 d.secs.length c0, .slice a1 d.pend.length c1, .bool d.off, .int .i64 lf, .slice a2 n2 c2, .int .i64 ((2 : Nat) : Int), .int .i64 (cntM n : Int), .slice aL m.ents.length cL, .bool m.dead] :: [])) ?_ ?_
      · by_cases e0 : ado = 0 ∨ ado = 1 ∨ ado = 2 ∨ ado = 3 ∨ ado = 4
        · rw [decide_eq_true (by omega)]
          rcases e0 with rfl | rfl | rfl | rfl | rfl
          all_goals
            repeat' (first | refine Z H ?_ | (refine Zc ?_ ?_ <;> intro hc <;> first | (exfalso; omega) | skip) | (refine Y ?_; try change C _ _ _ _ _ _) | (refine Zs H ?_; clear H; (try clear w); intro w H) | (refine Zn H ?_; clear H; (try clear w); (first | ((fail_if_success (have := bl1)); intro bl1 w H) | ((fail_if_success (have := bl2)); intro bl2 w H) | ((fail_if_success (have := bl3)); intro bl3 w H) | intro _ w H)) | (refine Ze H ?_; clear H; (try clear w); intro gv w H))
            exact ⟨by (repeat (first | exact Agr.refl | exact Agr.hav | refine Agr.upd rfl ?_ | refine Agr.in rfl ?_)), rfl, H.arr⟩
        · rw [decide_eq_false (by omega)]
          repeat' (first | refine Z H ?_ | (refine Zc ?_ ?_ <;> intro hc <;> first | (exfalso; omega) | skip) | (refine Y ?_; try change C _ _ _ _ _ _) | (refine Zs H ?_; clear H; (try clear w); intro w H) | (refine Zn H ?_; clear H; (try clear w); (first | ((fail_if_success (have := bl1)); intro bl1 w H) | ((fail_if_success (have := bl2)); intro bl2 w H) | ((fail_if_success (have := bl3)); intro bl3 w H) | intro _ w H)) | (refine Ze H ?_; clear H; (try clear w); intro gv w H))
          exact ⟨by (repeat (first | exact Agr.refl | exact Agr.hav | refine Agr.upd rfl ?_ | refine Agr.in rfl ?_)), rfl, H.arr⟩
      clear H
      rintro vs hv w ⟨rfl, H⟩
      by_cases h04 : 0 ≤ ado ∧ ado ≤ 4
      · rw [decide_eq_true h04]
        have hAd2 := fun (w : World) (R : List Asn) (H : Holds s5 w R) => Add20_s H hA0 hye (by omega) hml (by omega)
        have hq1 := addA_pend d (((2 : Nat) : Int), (cntM n : Int)) m y
        have hq2 := addA_len (d := d) (x := (((2 : Nat) : Int), (cntM n : Int))) (y := y) rfl hml
        have hAd1 := fun (s' : Ro) (hs' : s5.Le s') (w : World) (R : List Asn) (H : Holds s' w (logP bL bp aa cc m (dsk b d :: R))) => Add_a (y := y) (m := m) (hN5.mono hs') H (hp.mono hs') hye (by omega) (by omega)
        generalize addA d (((2 : Nat) : Int), (cntM n : Int)) m y = r at *
        obtain ⟨d7, m7, k7⟩ := r
        dsimp only at hAd1 hAd2 hq1 hq2
        repeat' (first | (refine X.ldp [.int .i64 y.kind, .int .i64 y.part, .int .u32 (y.ver : Int), .int .i64 y.code] H ?_) | refine Z H ?_ | (refine Zc ?_ ?_ <;> intro hc <;> first | (exfalso; omega) | skip) | (refine Y ?_; try change C _ _ _ _ _ _) | (refine Zs H ?_; clear H; (try clear w); intro w H) | (refine Zn H ?_; clear H; (try clear w); (first | ((fail_if_success (have := bl1)); intro bl1 w H) | ((fail_if_success (have := bl2)); intro bl2 w H) | ((fail_if_success (have := bl3)); intro bl3 w H) | intro _ w H)) | (refine Ze H ?_; clear H; (try clear w); intro gv w H))
        (refine X.call (hAd2 _ _ H) ?_; (try clear H); rintro _ w ⟨s6, cs, rfl, hs6, H, hA7⟩; refine ⟨_, rfl, ?_⟩)
        clear hAd2
        obtain ⟨e0, q0, e1, q1x, lf2, e2, n3, q2, eL, qL, rfl, hR7, hL7⟩ := hA7
        have hA7 : RefA s6 [.slice e0 d7.secs.length q0, .slice e1 d7.pend.length q1x, .bool d7.off, .int .i64 lf2, .slice e2 n3 q2, .int .i64 ((2 : Nat) : Int), .int .i64 (cntM n : Int), .slice eL m7.ents.length qL, .bool m7.dead] d7 2 (cntM n) m7 := ⟨e0, q0, e1, q1x, lf2, e2, n3, q2, eL, qL, rfl, hR7, hL7⟩
        repeat' (first | (refine X.ldp [.int .i64 y.kind, .int .i64 y.part, .int .u32 (y.ver : Int), .int .i64 y.code] H ?_) | refine Z H ?_ | (refine Zc ?_ ?_ <;> intro hc <;> first | (exfalso; omega) | skip) | (refine Y ?_; try change C _ _ _ _ _ _) | (refine Zs H ?_; clear H; (try clear w); intro w H) | (refine Zn H ?_; clear H; (try clear w); (first | ((fail_if_success (have := bl1)); intro bl1 w H) | ((fail_if_success (have := bl2)); intro bl2 w H) | ((fail_if_success (have := bl3)); intro bl3 w H) | intro _ w H)) | (refine Ze H ?_; clear H; (try clear w); intro gv w H))
        have H1 : Holds s6 w (logP bL bp aa cc m (dsk b d :: var br 58 [.slice e0 d7.secs.length q0, .slice e1 d7.pend.length q1x, .bool d7.off, .int .i64 lf2, .slice e2 n3 q2, .int .i64 ((2 : Nat) : Int), .int .i64 (cntM n : Int), .slice eL m7.ents.length qL, .bool m7.dead] :: [])) := by
          dsimp only [logP]
          exact H.arr
        (refine X.call (hAd1 s6 hs6 _ _ H1) ?_; (try clear H); rintro _ w ⟨a7, c7, rfl, H⟩; refine ⟨_, rfl, ?_⟩)
        clear hAd1 H1
        repeat' (first | refine Z H ?_ | (refine Zc ?_ ?_ <;> intro hc <;> first | (exfalso; omega) | skip) | (refine Y ?_; try change C _ _ _ _ _ _) | (refine Zs H ?_; clear H; (try clear w); intro w H) | (refine Zn H ?_; clear H; (try clear w); (first | ((fail_if_success (have := bl1)); intro bl1 w H) | ((fail_if_success (have := bl2)); intro bl2 w H) | ((fail_if_success (have := bl3)); intro bl3 w H) | intro _ w H)) | (refine Ze H ?_; clear H; (try clear w); intro gv w H))
        exact ⟨by (repeat (first | exact Agr.refl | exact Agr.hav | refine Agr.upd rfl ?_ | refine Agr.in rfl ?_)), s6, d7, m7, bL, a7, c7, _, rfl, hs6, hA7, hq2, by omega, H⟩
      rw [decide_eq_false h04]
      by_cases h5 : ado = 5
      · subst h5
        repeat' (first | refine Z H ?_ | (refine Zc ?_ ?_ <;> intro hc <;> first | (exfalso; omega) | skip) | (refine Y ?_; try change C _ _ _ _ _ _) | (refine Zs H ?_; clear H; (try clear w); intro w H) | (refine Zn H ?_; clear H; (try clear w); (first | ((fail_if_success (have := bl1)); intro bl1 w H) | ((fail_if_success (have := bl2)); intro bl2 w H) | ((fail_if_success (have := bl3)); intro bl3 w H) | intro _ w H)) | (refine Ze H ?_; clear H; (try clear w); intro gv w H))
        first | (have hT : Holds _ _ (dsk b _ :: _) := H; clear hT) | (replace H := H.up 1 rfl; (try simp only [List.set_cons_zero, List.set_cons_succ, List.eraseIdx_cons_zero, List.eraseIdx_cons_succ] at H); have hT : Holds _ _ (dsk b _ :: _) := H; clear hT) | (replace H := H.up 2 rfl; (try simp only [List.set_cons_zero, List.set_cons_succ, List.eraseIdx_cons_zero, List.eraseIdx_cons_succ] at H); have hT : Holds _ _ (dsk b _ :: _) := H; clear hT) | (replace H := H.up 3 rfl; (try simp only [List.set_cons_zero, List.set_cons_succ, List.eraseIdx_cons_zero, List.eraseIdx_cons_succ] at H); have hT : Holds _ _ (dsk b _ :: _) := H; clear hT) | (replace H := H.up 4 rfl; (try simp only [List.set_cons_zero, List.set_cons_succ, List.eraseIdx_cons_zero, List.eraseIdx_cons_succ] at H); have hT : Holds _ _ (dsk b _ :: _) := H; clear hT) | (replace H := H.up 5 rfl; (try simp only [List.set_cons_zero, List.set_cons_succ, List.eraseIdx_cons_zero, List.eraseIdx_cons_succ] at H); have hT : Holds _ _ (dsk b _ :: _) := H; clear hT) | (replace H := H.up 6 rfl; (try simp only [List.set_cons_zero, List.set_cons_succ, List.eraseIdx_cons_zero, List.eraseIdx_cons_succ] at H); have hT : Holds _ _ (dsk b _ :: _) := H; clear hT)
        (refine X.call (Arm_s H (.ro hkeep) han.2 (by omega)) ?_; (try clear H); rintro _ w ⟨rfl, H⟩; refine ⟨_, rfl, ?_⟩)
        have hpa := pend_arm d an1 keep
        repeat' (first | (refine X.ldp [.slice a0 d.secs.length c0, .slice a1 d.pend.length c1, .bool d.off, .int .i64 lf, .slice a2 n2 c2] H ?_) | refine Z H ?_ | (refine Zc ?_ ?_ <;> intro hc <;> first | (exfalso; omega) | skip) | (refine Y ?_; try change C _ _ _ _ _ _) | (refine Zs H ?_; clear H; (try clear w); intro w H) | (refine Zn H ?_; clear H; (try clear w); (first | ((fail_if_success (have := bl1)); intro bl1 w H) | ((fail_if_success (have := bl2)); intro bl2 w H) | ((fail_if_success (have := bl3)); intro bl3 w H) | intro _ w H)) | (refine Ze H ?_; clear H; (try clear w); intro gv w H))
        (refine X.call (Arm_r H hR hkeep han.2) ?_; (try clear H); rintro _ w ⟨v7, rfl, hR7, H⟩; refine ⟨_, rfl, ?_⟩)
        generalize d.arm an1 keep = d7 at *
        obtain ⟨e0, q0, e1, q1x, lf2, e2, n3, q2, rfl⟩ := refCells hR7
        repeat' (first | (refine X.stp [.slice e0 d7.secs.length q0, .slice e1 d7.pend.length q1x, .bool d7.off, .int .i64 lf2, .slice e2 n3 q2, .int .i64 ((2 : Nat) : Int), .int .i64 (cntM n : Int), .slice aL m.ents.length cL, .bool m.dead] H ?_; clear H; intro w H) | refine Z H ?_ | (refine Zc ?_ ?_ <;> intro hc <;> first | (exfalso; omega) | skip) | (refine Y ?_; try change C _ _ _ _ _ _) | (refine Zs H ?_; clear H; (try clear w); intro w H) | (refine Zn H ?_; clear H; (try clear w); (first | ((fail_if_success (have := bl1)); intro bl1 w H) | ((fail_if_success (have := bl2)); intro bl2 w H) | ((fail_if_success (have := bl3)); intro bl3 w H) | intro _ w H)) | (refine Ze H ?_; clear H; (try clear w); intro gv w H))
        exact ⟨by (repeat (first | exact Agr.refl | exact Agr.hav | refine Agr.upd rfl ?_ | refine Agr.in rfl ?_)), s5, d7, m, bL, aa, cc, _, rfl, Ro.Le.refl _, ⟨e0, q0, e1, q1x, lf2, e2, n3, q2, aL, cL, rfl, hR7, hL⟩, hml, by rw [hpa]; omega, logP_of H⟩
      · -- it is opened again
        repeat' (first | ((fail_if_success (with_reducible show C _ _ _ (Code.seq (Code.seq (Code.region 14 _ _) _) _) _ _)); refine Z H ?_) | (refine Zc ?_ ?_ <;> intro hc <;> first | (exfalso; omega) | skip) | (refine Y ?_; try change C _ _ _ _ _ _) | (refine Zs H ?_; clear H; (try clear w); intro w H) | (refine Zn H ?_; clear H; (try clear w); (first | ((fail_if_success (have := bl1)); intro bl1 w H) | ((fail_if_success (have := bl2)); intro bl2 w H) | ((fail_if_success (have := bl3)); intro bl3 w H) | intro _ w H)) | (refine Ze H ?_; clear H; (try clear w); intro gv w H))
        refine C.cut [69, 70, 71, 72, 73, 74, 75, 76, 77, 78, 79, 80, 81, 82, 83, 84] [] rfl (fun vs w => ∃ s' d rcs, s5.Le s' ∧ RefA s' rcs d 2 (cntM n) m ∧ d.pend.length ≤ i + 1 ∧ Holds s' w (dsk b d :: var br 58 rcs :: var bL 112 [.pointer (some ⟨bp, 0, none⟩), .slice aa m.ents.length cc, .bool m.dead] :: row 34 4 (.slice aa m.ents.length cc) m.ents.length (m.ents.flatMap En.cells) :: var bl2 46 [.int .i64 ado, .int .i64 an1, .int .i64 y.kind, .int .i64 y.part, .int .u32 (y.ver : Int), .int .i64 y.code, .slice ka keep.length kc] :: [])) ?_ ?_
        · by_cases h6 : ado = 6
          · subst h6
            repeat' (first | refine Z H ?_ | (refine Zc ?_ ?_ <;> intro hc <;> first | (exfalso; omega) | skip) | (refine Y ?_; try change C _ _ _ _ _ _) | (refine Zs H ?_; clear H; (try clear w); intro w H) | (refine Zn H ?_; clear H; (try clear w); (first | ((fail_if_success (have := bl1)); intro bl1 w H) | ((fail_if_success (have := bl2)); intro bl2 w H) | ((fail_if_success (have := bl3)); intro bl3 w H) | intro _ w H)) | (refine Ze H ?_; clear H; (try clear w); intro gv w H))
            first | (have hT : Holds _ _ (dsk b _ :: _) := H; clear hT) | (replace H := H.up 1 rfl; (try simp only [List.set_cons_zero, List.set_cons_succ, List.eraseIdx_cons_zero, List.eraseIdx_cons_succ] at H); have hT : Holds _ _ (dsk b _ :: _) := H; clear hT) | (replace H := H.up 2 rfl; (try simp only [List.set_cons_zero, List.set_cons_succ, List.eraseIdx_cons_zero, List.eraseIdx_cons_succ] at H); have hT : Holds _ _ (dsk b _ :: _) := H; clear hT) | (replace H := H.up 3 rfl; (try simp only [List.set_cons_zero, List.set_cons_succ, List.eraseIdx_cons_zero, List.eraseIdx_cons_succ] at H); have hT : Holds _ _ (dsk b _ :: _) := H; clear hT) | (replace H := H.up 4 rfl; (try simp only [List.set_cons_zero, List.set_cons_succ, List.eraseIdx_cons_zero, List.eraseIdx_cons_succ] at H); have hT : Holds _ _ (dsk b _ :: _) := H; clear hT) | (replace H := H.up 5 rfl; (try simp only [List.set_cons_zero, List.set_cons_succ, List.eraseIdx_cons_zero, List.eraseIdx_cons_succ] at H); have hT : Holds _ _ (dsk b _ :: _) := H; clear hT) | (replace H := H.up 6 rfl; (try simp only [List.set_cons_zero, List.set_cons_succ, List.eraseIdx_cons_zero, List.eraseIdx_cons_succ] at H); have hT : Holds _ _ (dsk b _ :: _) := H; clear hT)
            (refine X.call (Crash_s H (.ro hkeep)) ?_; (try clear H); rintro _ w ⟨rfl, H⟩; refine ⟨_, rfl, ?_⟩)
            repeat' (first | refine Z H ?_ | (refine Zc ?_ ?_ <;> intro hc <;> first | (exfalso; omega) | skip) | (refine Y ?_; try change C _ _ _ _ _ _) | (refine Zs H ?_; clear H; (try clear w); intro w H) | (refine Zn H ?_; clear H; (try clear w); (first | ((fail_if_success (have := bl1)); intro bl1 w H) | ((fail_if_success (have := bl2)); intro bl2 w H) | ((fail_if_success (have := bl3)); intro bl3 w H) | intro _ w H)) | (refine Ze H ?_; clear H; (try clear w); intro gv w H))
            first | (have hT : Holds _ _ (dsk b _ :: _) := H; clear hT) | (replace H := H.up 1 rfl; (try simp only [List.set_cons_zero, List.set_cons_succ, List.eraseIdx_cons_zero, List.eraseIdx_cons_succ] at H); have hT : Holds _ _ (dsk b _ :: _) := H; clear hT) | (replace H := H.up 2 rfl; (try simp only [List.set_cons_zero, List.set_cons_succ, List.eraseIdx_cons_zero, List.eraseIdx_cons_succ] at H); have hT : Holds _ _ (dsk b _ :: _) := H; clear hT) | (replace H := H.up 3 rfl; (try simp only [List.set_cons_zero, List.set_cons_succ, List.eraseIdx_cons_zero, List.eraseIdx_cons_succ] at H); have hT : Holds _ _ (dsk b _ :: _) := H; clear hT) | (replace H := H.up 4 rfl; (try simp only [List.set_cons_zero, List.set_cons_succ, List.eraseIdx_cons_zero, List.eraseIdx_cons_succ] at H); have hT : Holds _ _ (dsk b _ :: _) := H; clear hT) | (replace H := H.up 5 rfl; (try simp only [List.set_cons_zero, List.set_cons_succ, List.eraseIdx_cons_zero, List.eraseIdx_cons_succ] at H); have hT : Holds _ _ (dsk b _ :: _) := H; clear hT) | (replace H := H.up 6 rfl; (try simp only [List.set_cons_zero, List.set_cons_succ, List.eraseIdx_cons_zero, List.eraseIdx_cons_succ] at H); have hT : Holds _ _ (dsk b _ :: _) := H; clear hT)
            (refine X.call (Power_s H) ?_; (try clear H); rintro _ w ⟨rfl, H⟩; refine ⟨_, rfl, ?_⟩)
            repeat' (first | (refine X.ldp [.slice a0 d.secs.length c0, .slice a1 d.pend.length c1, .bool d.off, .int .i64 lf, .slice a2 n2 c2] H ?_) | refine Z H ?_ | (refine Zc ?_ ?_ <;> intro hc <;> first | (exfalso; omega) | skip) | (refine Y ?_; try change C _ _ _ _ _ _) | (refine Zs H ?_; clear H; (try clear w); intro w H) | (refine Zn H ?_; clear H; (try clear w); (first | ((fail_if_success (have := bl1)); intro bl1 w H) | ((fail_if_success (have := bl2)); intro bl2 w H) | ((fail_if_success (have := bl3)); intro bl3 w H) | intro _ w H)) | (refine Ze H ?_; clear H; (try clear w); intro gv w H))
            (refine X.call (Crash_r H hR hkeep (by omega)) ?_; (try clear H); rintro _ w ⟨s6, v7, rfl, hs6, hR7, H⟩; refine ⟨_, rfl, ?_⟩)
            (refine X.call (Power_r H hR7) ?_; (try clear H); rintro _ w ⟨v8, rfl, hR8, H⟩; refine ⟨_, rfl, ?_⟩)
            generalize hd8 : (d.crash keep).power = d8 at *
            have hp8 : d8.pend.length ≤ i + 1 := by rw [← hd8]; simp [DM.power]
            obtain ⟨e0, q0, e1, q1x, lf2, e2, n3, q2, rfl⟩ := refCells hR8
            repeat' (first | (refine X.stp [.slice e0 d8.secs.length q0, .slice e1 d8.pend.length q1x, .bool d8.off, .int .i64 lf2, .slice e2 n3 q2, .int .i64 ((2 : Nat) : Int), .int .i64 (cntM n : Int), .slice aL m.ents.length cL, .bool m.dead] H ?_; clear H; intro w H) | refine Z H ?_ | (refine Zc ?_ ?_ <;> intro hc <;> first | (exfalso; omega) | skip) | (refine Y ?_; try change C _ _ _ _ _ _) | (refine Zs H ?_; clear H; (try clear w); intro w H) | (refine Zn H ?_; clear H; (try clear w); (first | ((fail_if_success (have := bl1)); intro bl1 w H) | ((fail_if_success (have := bl2)); intro bl2 w H) | ((fail_if_success (have := bl3)); intro bl3 w H) | intro _ w H)) | (refine Ze H ?_; clear H; (try clear w); intro gv w H))
            exact ⟨by (repeat (first | exact Agr.refl | exact Agr.hav | refine Agr.upd rfl ?_ | refine Agr.in rfl ?_)), s6, d8, _, hs6, ⟨e0, q0, e1, q1x, lf2, e2, n3, q2, aL, cL, rfl, hR8, hL.mono hs6⟩, hp8, H.arr⟩
          · repeat' (first | refine Z H ?_ | (refine Zc ?_ ?_ <;> intro hc <;> first | (exfalso; omega) | skip) | (refine Y ?_; try change C _ _ _ _ _ _) | (refine Zs H ?_; clear H; (try clear w); intro w H) | (refine Zn H ?_; clear H; (try clear w); (first | ((fail_if_success (have := bl1)); intro bl1 w H) | ((fail_if_success (have := bl2)); intro bl2 w H) | ((fail_if_success (have := bl3)); intro bl3 w H) | intro _ w H)) | (refine Ze H ?_; clear H; (try clear w); intro gv w H))
            exact ⟨by (repeat (first | exact Agr.refl | exact Agr.hav | refine Agr.upd rfl ?_ | refine Agr.in rfl ?_)), s5, d, _, Ro.Le.refl _, hA0, by omega, H.arr⟩
        clear H hA0 hR hL hpl
        rintro vs hv w ⟨s6, d7, rcs, hs6, hA, hpl, H⟩
        have hA0 := hA
        obtain ⟨a0, c0, a1, c1, lf, a2, n2, c2, aL, cL, rfl, hR, hL⟩ := hA
        have hsl := scanA_len d7 (((2 : Nat) : Int), (cntM n : Int)) (cntM n) 0
        have hOp := OpenA_s (cnt := cntM n) (hN5.mono hs6) H (hp.mono hs6) rfl (by omega)
        repeat' (first | refine Z H ?_ | (refine Zc ?_ ?_ <;> intro hc <;> first | (exfalso; omega) | skip) | (refine Y ?_; try change C _ _ _ _ _ _) | (refine Zs H ?_; clear H; (try clear w); intro w H) | (refine Zn H ?_; clear H; (try clear w); (first | ((fail_if_success (have := bl1)); intro bl1 w H) | ((fail_if_success (have := bl2)); intro bl2 w H) | ((fail_if_success (have := bl3)); intro bl3 w H) | intro _ w H)) | (refine Ze H ?_; clear H; (try clear w); intro gv w H))
        refine X.call (OpenA_s (cnt := cntM n) (hN5.mono hs6) H (hp.mono hs6) rfl (by omega)) ?_
        clear H hOp
        rintro _ w ⟨s7, hs7, hO⟩
        have hle7 := hs6.trans hs7
        obtain ⟨v7, NL, rfl, H, hcase⟩ : ∃ v7 NL, (‹Ending› : Ending) = .returned (.tuple #[v7, .int .i64 (scanA d7 (((2 : Nat) : Int), (cntM n : Int)) (cntM n) 0).2]) ∧ Holds s7 w (dsk b d7 :: var br 58 [.slice a0 d7.secs.length c0, .slice a1 d7.pend.length c1, .bool d7.off, .int .i64 lf, .slice a2 n2 c2, .int .i64 ((2 : Nat) : Int), .int .i64 (cntM n : Int), .slice aL m.ents.length cL, .bool m.dead] :: var bL 112 [.pointer (some ⟨bp, 0, none⟩), .slice aa m.ents.length cc, .bool m.dead] :: row 34 4 (.slice aa m.ents.length cc) m.ents.length (m.ents.flatMap En.cells) :: var bl2 46 [.int .i64 ado, .int .i64 an1, .int .i64 y.kind, .int .i64 y.part, .int .u32 (y.ver : Int), .int .i64 y.code, .slice ka keep.length kc] :: NL) ∧ ((scanA d7 (((2 : Nat) : Int), (cntM n : Int)) (cntM n) 0).2 = 0 ∧ (∃ bM aM cM, v7 = .pointer (some ⟨bM, 0, none⟩) ∧ NL = logP bM bp aM cM ⟨(scanA d7 (((2 : Nat) : Int), (cntM n : Int)) (cntM n) 0).1, false⟩ []) ∨ (scanA d7 (((2 : Nat) : Int), (cntM n : Int)) (cntM n) 0).2 ≠ 0 ∧ v7 = .pointer none ∧ NL = []) := by
          rcases hO with ⟨hk, bM, aM, cM, he, H⟩ | ⟨hk, he, H⟩
          · refine ⟨_, _, by rw [he, hk], ?_, .inl ⟨hk, bM, aM, cM, rfl, rfl⟩⟩
            dsimp only [logP] at H ⊢
            exact H.arr
          · exact ⟨_, _, he, H, .inr ⟨hk, rfl, rfl⟩⟩
        refine ⟨_, rfl, ?_⟩
        replace hR := hR.mono hs7
        repeat' (first | refine Z H ?_ | (refine Zc ?_ ?_ <;> intro hc <;> first | (exfalso; omega) | skip) | (refine Y ?_; try change C _ _ _ _ _ _) | (refine Zs H ?_; clear H; (try clear w); intro w H) | (refine Zn H ?_; clear H; (try clear w); (first | ((fail_if_success (have := bl1)); intro bl1 w H) | ((fail_if_success (have := bl2)); intro bl2 w H) | ((fail_if_success (have := bl3)); intro bl3 w H) | intro _ w H)) | (refine Ze H ?_; clear H; (try clear w); intro gv w H))
        refine C.flow (openFS2 br [.slice a0 d7.secs.length c0, .slice a1 d7.pend.length c1, .bool d7.off, .int .i64 lf, .slice a2 n2 c2] n d7) [6, 7, 9] [0, 1, 2, 3, 4, 5, 6, 7, 9] H (by kernel_rfl) rfl rfl ?_ ?_
        · repeat' (first | exact StepsF.nil | refine StepsF.cons ?_ ?_)
          · intro s1 h w E hs1; (conv => whnf); intro H; replace H : Holds s1 w (dsk b d7 :: var br 58 [.slice a0 d7.secs.length c0, .slice a1 d7.pend.length c1, .bool d7.off, .int .i64 lf, .slice a2 n2 c2, .int .i64 ((2 : Nat) : Int), .int .i64 (cntM n : Int), .slice aL m.ents.length cL, .bool m.dead] :: var bL 112 [.pointer (some ⟨bp, 0, none⟩), .slice aa m.ents.length cc, .bool m.dead] :: row 34 4 (.slice aa m.ents.length cc) m.ents.length (m.ents.flatMap En.cells) :: var bl2 46 [.int .i64 ado, .int .i64 an1, .int .i64 y.kind, .int .i64 y.part, .int .u32 (y.ver : Int), .int .i64 y.code, .slice ka keep.length kc] :: (NL ++ E)) := H
            repeat' (first | refine Z H ?_ | (refine Zc ?_ ?_ <;> intro hc <;> first | (exfalso; omega) | skip) | (refine Y ?_; try change C _ _ _ _ _ _) | (refine Zs H ?_; clear H; (try clear w); intro w H) | (refine Zn H ?_; clear H; (try clear w); (first | ((fail_if_success (have := bl1)); intro bl1 w H) | ((fail_if_success (have := bl2)); intro bl2 w H) | ((fail_if_success (have := bl3)); intro bl3 w H) | intro _ w H)) | (refine Ze H ?_; clear H; (try clear w); intro gv w H))
            exact ⟨rfl, by (repeat (first | exact Agr.refl | exact Agr.hav | refine Agr.upd rfl ?_ | refine Agr.in rfl ?_)), s1, Ro.Le.refl _, rfl, H⟩
          · intro s1 h w E hs1; (conv => whnf); rintro _ rfl; (conv => whnf); intro H; replace H : Holds s1 w (dsk b d7 :: var br 58 [.slice a0 d7.secs.length c0, .slice a1 d7.pend.length c1, .bool d7.off, .int .i64 lf, .slice a2 n2 c2, .int .i64 ((2 : Nat) : Int), .int .i64 (cntM n : Int), .slice aL m.ents.length cL, .bool m.dead] :: var bL 112 [.pointer (some ⟨bp, 0, none⟩), .slice aa m.ents.length cc, .bool m.dead] :: row 34 4 (.slice aa m.ents.length cc) m.ents.length (m.ents.flatMap En.cells) :: var bl2 46 [.int .i64 ado, .int .i64 an1, .int .i64 y.kind, .int .i64 y.part, .int .u32 (y.ver : Int), .int .i64 y.code, .slice ka keep.length kc] :: (NL ++ E)) := H
            repeat' (first | (refine X.ldp [.slice a0 d7.secs.length c0, .slice a1 d7.pend.length c1, .bool d7.off, .int .i64 lf, .slice a2 n2 c2] H ?_) | refine Z H ?_ | (refine Zc ?_ ?_ <;> intro hc <;> first | (exfalso; omega) | skip) | (refine Y ?_; try change C _ _ _ _ _ _) | (refine Zs H ?_; clear H; (try clear w); intro w H) | (refine Zn H ?_; clear H; (try clear w); (first | ((fail_if_success (have := bl1)); intro bl1 w H) | ((fail_if_success (have := bl2)); intro bl2 w H) | ((fail_if_success (have := bl3)); intro bl3 w H) | intro _ w H)) | (refine Ze H ?_; clear H; (try clear w); intro gv w H))
            exact ⟨rfl, by (repeat (first | exact Agr.refl | exact Agr.hav | refine Agr.upd rfl ?_ | refine Agr.in rfl ?_)), s1, Ro.Le.refl _, rfl, H⟩
          · intro s1 h w E hs1; (conv => whnf); intro H; replace H : Holds s1 w (dsk b d7 :: var br 58 [.slice a0 d7.secs.length c0, .slice a1 d7.pend.length c1, .bool d7.off, .int .i64 lf, .slice a2 n2 c2, .int .i64 ((2 : Nat) : Int), .int .i64 (cntM n : Int), .slice aL m.ents.length cL, .bool m.dead] :: var bL 112 [.pointer (some ⟨bp, 0, none⟩), .slice aa m.ents.length cc, .bool m.dead] :: row 34 4 (.slice aa m.ents.length cc) m.ents.length (m.ents.flatMap En.cells) :: var bl2 46 [.int .i64 ado, .int .i64 an1, .int .i64 y.kind, .int .i64 y.part, .int .u32 (y.ver : Int), .int .i64 y.code, .slice ka keep.length kc] :: (NL ++ E)) := H
            repeat' (first | refine Z H ?_ | (refine Zc ?_ ?_ <;> intro hc <;> first | (exfalso; omega) | skip) | (refine Y ?_; try change C _ _ _ _ _ _) | (refine Zs H ?_; clear H; (try clear w); intro w H) | (refine Zn H ?_; clear H; (try clear w); (first | ((fail_if_success (have := bl1)); intro bl1 w H) | ((fail_if_success (have := bl2)); intro bl2 w H) | ((fail_if_success (have := bl3)); intro bl3 w H) | intro _ w H)) | (refine Ze H ?_; clear H; (try clear w); intro gv w H))
            exact ⟨rfl, by (repeat (first | exact Agr.refl | exact Agr.hav | refine Agr.upd rfl ?_ | refine Agr.in rfl ?_)), s1, Ro.Le.refl _, rfl, H⟩
          · intro s1 h w E hs1; (conv => whnf); rintro _ rfl; (conv => whnf); intro H; replace H : Holds s1 w (dsk b d7 :: var br 58 [.slice a0 d7.secs.length c0, .slice a1 d7.pend.length c1, .bool d7.off, .int .i64 lf, .slice a2 n2 c2, .int .i64 ((2 : Nat) : Int), .int .i64 (cntM n : Int), .slice aL m.ents.length cL, .bool m.dead] :: var bL 112 [.pointer (some ⟨bp, 0, none⟩), .slice aa m.ents.length cc, .bool m.dead] :: row 34 4 (.slice aa m.ents.length cc) m.ents.length (m.ents.flatMap En.cells) :: var bl2 46 [.int .i64 ado, .int .i64 an1, .int .i64 y.kind, .int .i64 y.part, .int .u32 (y.ver : Int), .int .i64 y.code, .slice ka keep.length kc] :: (NL ++ E)) := H
            (refine X.call (count_s (n := n) H) ?_; (try clear H); rintro _ w ⟨rfl, H⟩; refine ⟨_, rfl, ?_⟩)
            repeat' (first | refine Z H ?_ | (refine Zc ?_ ?_ <;> intro hc <;> first | (exfalso; omega) | skip) | (refine Y ?_; try change C _ _ _ _ _ _) | (refine Zs H ?_; clear H; (try clear w); intro w H) | (refine Zn H ?_; clear H; (try clear w); (first | ((fail_if_success (have := bl1)); intro bl1 w H) | ((fail_if_success (have := bl2)); intro bl2 w H) | ((fail_if_success (have := bl3)); intro bl3 w H) | intro _ w H)) | (refine Ze H ?_; clear H; (try clear w); intro gv w H))
            exact ⟨rfl, by (repeat (first | exact Agr.refl | exact Agr.hav | refine Agr.upd rfl ?_ | refine Agr.in rfl ?_)), s1, Ro.Le.refl _, rfl, H⟩
          · intro s1 h w E hs1; (conv => whnf); rintro _ rfl; (conv => whnf); rintro _ rfl; (conv => whnf); intro H; replace H : Holds s1 w (dsk b d7 :: var br 58 [.slice a0 d7.secs.length c0, .slice a1 d7.pend.length c1, .bool d7.off, .int .i64 lf, .slice a2 n2 c2, .int .i64 ((2 : Nat) : Int), .int .i64 (cntM n : Int), .slice aL m.ents.length cL, .bool m.dead] :: var bL 112 [.pointer (some ⟨bp, 0, none⟩), .slice aa m.ents.length cc, .bool m.dead] :: row 34 4 (.slice aa m.ents.length cc) m.ents.length (m.ents.flatMap En.cells) :: var bl2 46 [.int .i64 ado, .int .i64 an1, .int .i64 y.kind, .int .i64 y.part, .int .u32 (y.ver : Int), .int .i64 y.code, .slice ka keep.length kc] :: (NL ++ E)) := H
            (refine X.call (Open20_s (f := 2) (c := cntM n) H (hR.mono hs1) (by omega) (by omega)) ?_; (try clear H); rintro _ w ⟨s2, cs, rfl, hs2, H, hG⟩; refine ⟨_, rfl, ?_⟩)
            repeat' (first | refine Z H ?_ | (refine Zc ?_ ?_ <;> intro hc <;> first | (exfalso; omega) | skip) | (refine Y ?_; try change C _ _ _ _ _ _) | (refine Zs H ?_; clear H; (try clear w); intro w H) | (refine Zn H ?_; clear H; (try clear w); (first | ((fail_if_success (have := bl1)); intro bl1 w H) | ((fail_if_success (have := bl2)); intro bl2 w H) | ((fail_if_success (have := bl3)); intro bl3 w H) | intro _ w H)) | (refine Ze H ?_; clear H; (try clear w); intro gv w H))
            exact ⟨rfl, by (repeat (first | exact Agr.refl | exact Agr.hav | refine Agr.upd rfl ?_ | refine Agr.in rfl ?_)), s2, hs2, ⟨cs, rfl, hG⟩, H⟩
          · intro s1 h w E hs1; (conv => whnf); rintro _ ⟨cs, rfl, hG⟩; (conv => whnf); intro H; replace H : Holds s1 w (dsk b d7 :: var br 58 [.slice a0 d7.secs.length c0, .slice a1 d7.pend.length c1, .bool d7.off, .int .i64 lf, .slice a2 n2 c2, .int .i64 ((2 : Nat) : Int), .int .i64 (cntM n : Int), .slice aL m.ents.length cL, .bool m.dead] :: var bL 112 [.pointer (some ⟨bp, 0, none⟩), .slice aa m.ents.length cc, .bool m.dead] :: row 34 4 (.slice aa m.ents.length cc) m.ents.length (m.ents.flatMap En.cells) :: var bl2 46 [.int .i64 ado, .int .i64 an1, .int .i64 y.kind, .int .i64 y.part, .int .u32 (y.ver : Int), .int .i64 y.code, .slice ka keep.length kc] :: (NL ++ E)) := H
            repeat' (first | refine Z H ?_ | (refine Zc ?_ ?_ <;> intro hc <;> first | (exfalso; omega) | skip) | (refine Y ?_; try change C _ _ _ _ _ _) | (refine Zs H ?_; clear H; (try clear w); intro w H) | (refine Zn H ?_; clear H; (try clear w); (first | ((fail_if_success (have := bl1)); intro bl1 w H) | ((fail_if_success (have := bl2)); intro bl2 w H) | ((fail_if_success (have := bl3)); intro bl3 w H) | intro _ w H)) | (refine Ze H ?_; clear H; (try clear w); intro gv w H))
            exact ⟨rfl, by (repeat (first | exact Agr.refl | exact Agr.hav | refine Agr.upd rfl ?_ | refine Agr.in rfl ?_)), s1, Ro.Le.refl _, ⟨cs, rfl, hG⟩, H⟩
          · intro s1 h w E hs1; (conv => whnf); rintro _ ⟨cs, rfl, hG⟩; (conv => whnf); intro H; replace H : Holds s1 w (dsk b d7 :: var br 58 [.slice a0 d7.secs.length c0, .slice a1 d7.pend.length c1, .bool d7.off, .int .i64 lf, .slice a2 n2 c2, .int .i64 ((2 : Nat) : Int), .int .i64 (cntM n : Int), .slice aL m.ents.length cL, .bool m.dead] :: var bL 112 [.pointer (some ⟨bp, 0, none⟩), .slice aa m.ents.length cc, .bool m.dead] :: row 34 4 (.slice aa m.ents.length cc) m.ents.length (m.ents.flatMap En.cells) :: var bl2 46 [.int .i64 ado, .int .i64 an1, .int .i64 y.kind, .int .i64 y.part, .int .u32 (y.ver : Int), .int .i64 y.code, .slice ka keep.length kc] :: (NL ++ E)) := H
            repeat' (first | refine Z H ?_ | (refine Zc ?_ ?_ <;> intro hc <;> first | (exfalso; omega) | skip) | (refine Y ?_; try change C _ _ _ _ _ _) | (refine Zs H ?_; clear H; (try clear w); intro w H) | (refine Zn H ?_; clear H; (try clear w); (first | ((fail_if_success (have := bl1)); intro bl1 w H) | ((fail_if_success (have := bl2)); intro bl2 w H) | ((fail_if_success (have := bl3)); intro bl3 w H) | intro _ w H)) | (refine Ze H ?_; clear H; (try clear w); intro gv w H))
            exact ⟨rfl, by (repeat (first | exact Agr.refl | exact Agr.hav | refine Agr.upd rfl ?_ | refine Agr.in rfl ?_)), s1, Ro.Le.refl _, ⟨cs, rfl, hG⟩, H⟩
          · intro s1 h w E hs1; (conv => whnf); rintro _ ⟨cs, rfl, hG⟩; (conv => whnf); intro H; replace H : Holds s1 w (dsk b d7 :: var br 58 [.slice a0 d7.secs.length c0, .slice a1 d7.pend.length c1, .bool d7.off, .int .i64 lf, .slice a2 n2 c2, .int .i64 ((2 : Nat) : Int), .int .i64 (cntM n : Int), .slice aL m.ents.length cL, .bool m.dead] :: var bL 112 [.pointer (some ⟨bp, 0, none⟩), .slice aa m.ents.length cc, .bool m.dead] :: row 34 4 (.slice aa m.ents.length cc) m.ents.length (m.ents.flatMap En.cells) :: var bl2 46 [.int .i64 ado, .int .i64 an1, .int .i64 y.kind, .int .i64 y.part, .int .u32 (y.ver : Int), .int .i64 y.code, .slice ka keep.length kc] :: (NL ++ E)) := H
            repeat' (first | refine Z H ?_ | (refine Zc ?_ ?_ <;> intro hc <;> first | (exfalso; omega) | skip) | (refine Y ?_; try change C _ _ _ _ _ _) | (refine Zs H ?_; clear H; (try clear w); intro w H) | (refine Zn H ?_; clear H; (try clear w); (first | ((fail_if_success (have := bl1)); intro bl1 w H) | ((fail_if_success (have := bl2)); intro bl2 w H) | ((fail_if_success (have := bl3)); intro bl3 w H) | intro _ w H)) | (refine Ze H ?_; clear H; (try clear w); intro gv w H))
            exact ⟨rfl, by (repeat (first | exact Agr.refl | exact Agr.hav | refine Agr.upd rfl ?_ | refine Agr.in rfl ?_)), s1, Ro.Le.refl _, rfl, H⟩
          · intro s1 h w E hs1; (conv => whnf); intro H; replace H : Holds s1 w (dsk b d7 :: var br 58 [.slice a0 d7.secs.length c0, .slice a1 d7.pend.length c1, .bool d7.off, .int .i64 lf, .slice a2 n2 c2, .int .i64 ((2 : Nat) : Int), .int .i64 (cntM n : Int), .slice aL m.ents.length cL, .bool m.dead] :: var bL 112 [.pointer (some ⟨bp, 0, none⟩), .slice aa m.ents.length cc, .bool m.dead] :: row 34 4 (.slice aa m.ents.length cc) m.ents.length (m.ents.flatMap En.cells) :: var bl2 46 [.int .i64 ado, .int .i64 an1, .int .i64 y.kind, .int .i64 y.part, .int .u32 (y.ver : Int), .int .i64 y.code, .slice ka keep.length kc] :: (NL ++ E)) := H
            repeat' (first | refine Z H ?_ | (refine Zc ?_ ?_ <;> intro hc <;> first | (exfalso; omega) | skip) | (refine Y ?_; try change C _ _ _ _ _ _) | (refine Zs H ?_; clear H; (try clear w); intro w H) | (refine Zn H ?_; clear H; (try clear w); (first | ((fail_if_success (have := bl1)); intro bl1 w H) | ((fail_if_success (have := bl2)); intro bl2 w H) | ((fail_if_success (have := bl3)); intro bl3 w H) | intro _ w H)) | (refine Ze H ?_; clear H; (try clear w); intro gv w H))
            exact ⟨rfl, by (repeat (first | exact Agr.refl | exact Agr.hav | refine Agr.upd rfl ?_ | refine Agr.in rfl ?_)), s1, Ro.Le.refl _, ⟨bl3, rfl⟩, H⟩
          · intro s1 h w E hs1; (conv => whnf)
            rintro _ ⟨b4, rfl⟩; (conv => whnf)
            rintro v1 ⟨cs, rfl, hG⟩; (conv => whnf)
            obtain ⟨x0, m0, y0, x1, m1, y1, bo, li, x2, m2, y2, gf, gc, x3, m3, y3, de, rfl⟩ := hG.cells
            intro H
            replace H : Holds s1 w (var b4 58 zlog :: dsk b d7 :: var br 58 [.slice a0 d7.secs.length c0, .slice a1 d7.pend.length c1, .bool d7.off, .int .i64 lf, .slice a2 n2 c2, .int .i64 ((2 : Nat) : Int), .int .i64 (cntM n : Int), .slice aL m.ents.length cL, .bool m.dead] :: var bL 112 [.pointer (some ⟨bp, 0, none⟩), .slice aa m.ents.length cc, .bool m.dead] :: row 34 4 (.slice aa m.ents.length cc) m.ents.length (m.ents.flatMap En.cells) :: var bl2 46 [.int .i64 ado, .int .i64 an1, .int .i64 y.kind, .int .i64 y.part, .int .u32 (y.ver : Int), .int .i64 y.code, .slice ka keep.length kc] :: (NL ++ E)) := H
            repeat' (first | refine Z H ?_ | (refine Zc ?_ ?_ <;> intro hc <;> first | (exfalso; omega) | skip) | (refine Y ?_; try change C _ _ _ _ _ _) | (refine Zs H ?_; clear H; (try clear w); intro w H) | (refine Zn H ?_; clear H; (try clear w); (first | ((fail_if_success (have := bl1)); intro bl1 w H) | ((fail_if_success (have := bl2)); intro bl2 w H) | ((fail_if_success (have := bl3)); intro bl3 w H) | intro _ w H)) | (refine Ze H ?_; clear H; (try clear w); intro gv w H))
            exact ⟨rfl, by (repeat (first | exact Agr.refl | exact Agr.hav | refine Agr.upd rfl ?_ | refine Agr.in rfl ?_)), s1, Ro.Le.refl _, ⟨b4, rfl⟩, H⟩
        · intro s8 h w hs8; (conv => whnf)
          rintro v1 ⟨cs, rfl, hG⟩; (conv => whnf)
          obtain ⟨x0, m0, y0, x1, m1, y1, bo, li, x2, m2, y2, gf, gc, x3, m3, y3, de, hcs⟩ := hG.cells
          rintro _ rfl; (conv => whnf)
          rintro _ ⟨br2, rfl⟩; (conv => whnf)
          intro H
          replace H : Holds s8 w (var br2 58 cs :: dsk b d7 :: var br 58 [.slice a0 d7.secs.length c0, .slice a1 d7.pend.length c1, .bool d7.off, .int .i64 lf, .slice a2 n2 c2, .int .i64 ((2 : Nat) : Int), .int .i64 (cntM n : Int), .slice aL m.ents.length cL, .bool m.dead] :: var bL 112 [.pointer (some ⟨bp, 0, none⟩), .slice aa m.ents.length cc, .bool m.dead] :: row 34 4 (.slice aa m.ents.length cc) m.ents.length (m.ents.flatMap En.cells) :: var bl2 46 [.int .i64 ado, .int .i64 an1, .int .i64 y.kind, .int .i64 y.part, .int .u32 (y.ver : Int), .int .i64 y.code, .slice ka keep.length kc] :: NL) := H
          change L _ _ _ _ [_] _ _
          repeat' (first | refine Z H ?_ | (refine Zc ?_ ?_ <;> intro hc <;> first | (exfalso; omega) | skip) | (refine Y ?_; try change C _ _ _ _ _ _) | (refine Zs H ?_; clear H; (try clear w); intro w H) | (refine Zn H ?_; clear H; (try clear w); (first | ((fail_if_success (have := bl1)); intro bl1 w H) | ((fail_if_success (have := bl2)); intro bl2 w H) | ((fail_if_success (have := bl3)); intro bl3 w H) | intro _ w H)) | (refine Ze H ?_; clear H; (try clear w); intro gv w H))
          refine ⟨rfl, ?_⟩
          change C _ _ _ _ _ _
          have hle8 := hle7.trans hs8
          rcases hcase with ⟨hk, bM, aM, cM, rfl, rfl⟩ | ⟨hk, rfl, rfl⟩
          · have hA8 : RefA s8 cs d7 2 (cntM n) ⟨(scanA d7 (((2 : Nat) : Int), (cntM n : Int)) (cntM n) 0).1, false⟩ := by
              rcases hG with ⟨_, h⟩ | ⟨h, _⟩
              · exact h
              · exact absurd hk h
            generalize scanA d7 (((2 : Nat) : Int), (cntM n : Int)) (cntM n) 0 = sc at *
            obtain ⟨es, k7⟩ := sc
            dsimp only at *
            subst hk
            subst hcs
            repeat' (first | (refine K.cmpB (r := false) rfl rfl rfl rfl rfl ?_) | refine Z H ?_ | (refine Zc ?_ ?_ <;> intro hc <;> first | (exfalso; omega) | skip) | (refine Y ?_; try change C _ _ _ _ _ _) | (refine Zs H ?_; clear H; (try clear w); intro w H) | (refine Zn H ?_; clear H; (try clear w); (first | ((fail_if_success (have := bl1)); intro bl1 w H) | ((fail_if_success (have := bl2)); intro bl2 w H) | ((fail_if_success (have := bl3)); intro bl3 w H) | intro _ w H)) | (refine Ze H ?_; clear H; (try clear w); intro gv w H))
            refine C.drawn1 [0, 1, 0, 3] [0, 0, 1, 7] (by kernel_rfl) ?_; replace H := H.drew
            repeat' (first | refine Z H ?_ | (refine Zc ?_ ?_ <;> intro hc <;> first | (exfalso; omega) | skip) | (refine Y ?_; try change C _ _ _ _ _ _) | (refine Zs H ?_; clear H; (try clear w); intro w H) | (refine Zn H ?_; clear H; (try clear w); (first | ((fail_if_success (have := bl1)); intro bl1 w H) | ((fail_if_success (have := bl2)); intro bl2 w H) | ((fail_if_success (have := bl3)); intro bl3 w H) | intro _ w H)) | (refine Ze H ?_; clear H; (try clear w); intro gv w H))
            dsimp only [logP] at H
            exact ⟨by (repeat (first | exact Agr.refl | exact Agr.hav | refine Agr.upd rfl ?_ | refine Agr.in rfl ?_)), s8, d7, ⟨es, false⟩, bM, aM, cM, _, rfl, hle8, hA8, hsl, hpl, logP_of H⟩
          · clear hG
            generalize scanA d7 (((2 : Nat) : Int), (cntM n : Int)) (cntM n) 0 = sc at *
            obtain ⟨es, k7⟩ := sc
            dsimp only at *
            repeat' (first | (refine K.cmpB (r := false) rfl rfl rfl rfl rfl ?_) | refine Z H ?_ | (refine Zc ?_ ?_ <;> intro hc <;> first | (exfalso; omega) | skip) | (refine Y ?_; try change C _ _ _ _ _ _) | (refine Zs H ?_; clear H; (try clear w); intro w H) | (refine Zn H ?_; clear H; (try clear w); (first | ((fail_if_success (have := bl1)); intro bl1 w H) | ((fail_if_success (have := bl2)); intro bl2 w H) | ((fail_if_success (have := bl3)); intro bl3 w H) | intro _ w H)) | (refine Ze H ?_; clear H; (try clear w); intro gv w H))
            exact ⟨by (repeat (first | exact Agr.refl | exact Agr.hav | refine Agr.upd rfl ?_ | refine Agr.in rfl ?_)), s8, d7, m, bL, aa, cc, _, rfl, hle8, hA0.mono (hs7.trans hs8), hml, hpl, logP_of H⟩
    · clear H hA hml hpl
      rintro vs hv w ⟨s6, d, m, bL, aa, cc, rcs, rfl, hs6, hA, hml, hpl, H⟩
      have hA0 := hA
      obtain ⟨a0, c0, a1, c1, lf, a2, n2, c2, aL, cL, rfl, hR, hL⟩ := hA
      dsimp only [logP] at H
      repeat' (first | refine Z H ?_ | (refine Zc ?_ ?_ <;> intro hc <;> first | (exfalso; omega) | skip) | (refine Y ?_; try change C _ _ _ _ _ _) | (refine Zs H ?_; clear H; (try clear w); intro w H) | (refine Zn H ?_; clear H; (try clear w); (first | ((fail_if_success (have := bl1)); intro bl1 w H) | ((fail_if_success (have := bl2)); intro bl2 w H) | ((fail_if_success (have := bl3)); intro bl3 w H) | intro _ w H)) | (refine Ze H ?_; clear H; (try clear w); intro gv w H))
      refine C.drawn5 [0, 2, 3, 1, 4, 5, 6, 7, 9, 10, 8, 11, 12, 13, 14, 17, 18, 15, 16, 19, 20, 21] [0, 0, 1, 2, 3, 0, 0, 0, 0, 1, 2, 0, 0, 0, 0, 0, 1, 2, 1, 2, 0, 0] [4, 1, 6, 7, 2] [0, 1, 0, 4, 15, 31, 63, 127, 255, 127, 639, 2047, 4095, 8191, 16383, 32767, 65535, 16383, 147455, 458751, 1048575, 2097151] (by kernel_rfl) ?_; replace H := H.drew; simp only [Reg.pick, List.filterMap_cons, List.filterMap_nil, List.getElem?_toArray, List.getElem?_cons_zero, List.getElem?_cons_succ, segN, List.take_succ_cons, List.take_zero, List.drop_succ_cons, List.drop_zero]
      repeat' (first | refine Z H ?_ | (refine Zc ?_ ?_ <;> intro hc <;> first | (exfalso; omega) | skip) | (refine Y ?_; try change C _ _ _ _ _ _) | (refine Zs H ?_; clear H; (try clear w); intro w H) | (refine Zn H ?_; clear H; (try clear w); (first | ((fail_if_success (have := bl1)); intro bl1 w H) | ((fail_if_success (have := bl2)); intro bl2 w H) | ((fail_if_success (have := bl3)); intro bl3 w H) | intro _ w H)) | (refine Ze H ?_; clear H; (try clear w); intro gv w H))
      have hE := Entries_e (m := m) (bp := bp) (R := dsk b d :: var br 58 [.slice a0 d.secs.length c0, .slice a1 d.pend.length c1, .bool d.off, .int .i64 lf, .slice a2 n2 c2, .int .i64 ((2 : Nat) : Int), .int .i64 (cntM n : Int), .slice aL m.ents.length cL, .bool m.dead] :: []) H (by omega)
      (refine X.call (hE) ?_; (try clear H); rintro _ w ⟨a3, c3, rfl, ho, H⟩; refine ⟨_, rfl, ?_⟩); refine L.nil ?_; refine ⟨rfl, rfl, (by first | exact fun h => Bool.noConfusion (show false = true from h) | exact fun _ => ext_same | exact fun _ => ext_only (by assumption)), ?_⟩
      clear ho hE
      repeat' (first | refine Z H ?_ | (refine Zc ?_ ?_ <;> intro hc <;> first | (exfalso; omega) | skip) | (refine Y ?_; try change C _ _ _ _ _ _) | (refine Zs H ?_; clear H; (try clear w); intro w H) | (refine Zn H ?_; clear H; (try clear w); (first | ((fail_if_success (have := bl1)); intro bl1 w H) | ((fail_if_success (have := bl2)); intro bl2 w H) | ((fail_if_success (have := bl3)); intro bl3 w H) | intro _ w H)) | (refine Ze H ?_; clear H; (try clear w); intro gv w H))
      have hS := same_e (l := m.ents) (m := m.ents) (v := .slice a3 m.ents.length c3) (u := .slice aL m.ents.length cL) H (.own 0 _ rfl) (.ro hL) (by omega) (by omega)
      rw [decide_eq_true rfl] at hS
      (refine X.call (hS) ?_; (try clear H); rintro _ w ⟨rfl, ho, H⟩; refine ⟨_, rfl, ?_⟩); refine L.nil ?_; refine ⟨rfl, rfl, (by first | exact fun h => Bool.noConfusion (show false = true from h) | exact fun _ => ext_same | exact fun _ => ext_only (by assumption)), ?_⟩
      clear ho hS
      repeat' (first | refine Z H ?_ | (refine Zc ?_ ?_ <;> intro hc <;> first | (exfalso; omega) | skip) | (refine Y ?_; try change C _ _ _ _ _ _) | (refine Zs H ?_; clear H; (try clear w); intro w H) | (refine Zn H ?_; clear H; (try clear w); (first | ((fail_if_success (have := bl1)); intro bl1 w H) | ((fail_if_success (have := bl2)); intro bl2 w H) | ((fail_if_success (have := bl3)); intro bl3 w H) | intro _ w H)) | (refine Ze H ?_; clear H; (try clear w); intro gv w H))
      have hDd := Dead_e (m := m) (bp := bp) (R := dsk b d :: var br 58 [.slice a0 d.secs.length c0, .slice a1 d.pend.length c1, .bool d.off, .int .i64 lf, .slice a2 n2 c2, .int .i64 ((2 : Nat) : Int), .int .i64 (cntM n : Int), .slice aL m.ents.length cL, .bool m.dead] :: []) H.tail
      (refine X.call (hDd) ?_; (try clear H); rintro _ w ⟨rfl, ho, H⟩; refine ⟨_, rfl, ?_⟩); refine L.nil ?_; refine ⟨rfl, rfl, (by first | exact fun h => Bool.noConfusion (show false = true from h) | exact fun _ => ext_same | exact fun _ => ext_only (by assumption)), ?_⟩
      clear ho hDd
      have hbb : (!(m.dead == m.dead)) = false := by simp
      repeat' (first | (refine K.cmpB rfl rfl rfl rfl rfl ?_; rw [hbb]) | (refine X.ldp [.slice a0 d.secs.length c0, .slice a1 d.pend.length c1, .bool d.off, .int .i64 lf, .slice a2 n2 c2] H ?_) | refine Z H ?_ | (refine Zc ?_ ?_ <;> intro hc <;> first | (exfalso; omega) | skip) | (refine Y ?_; try change C _ _ _ _ _ _) | (refine Zs H ?_; clear H; (try clear w); intro w H) | (refine Zn H ?_; clear H; (try clear w); (first | ((fail_if_success (have := bl1)); intro bl1 w H) | ((fail_if_success (have := bl2)); intro bl2 w H) | ((fail_if_success (have := bl3)); intro bl3 w H) | intro _ w H)) | (refine Ze H ?_; clear H; (try clear w); intro gv w H))
      first | (have hT : Holds _ _ (dsk b _ :: _) := H; clear hT) | (replace H := H.up 1 rfl; (try simp only [List.set_cons_zero, List.set_cons_succ, List.eraseIdx_cons_zero, List.eraseIdx_cons_succ] at H); have hT : Holds _ _ (dsk b _ :: _) := H; clear hT) | (replace H := H.up 2 rfl; (try simp only [List.set_cons_zero, List.set_cons_succ, List.eraseIdx_cons_zero, List.eraseIdx_cons_succ] at H); have hT : Holds _ _ (dsk b _ :: _) := H; clear hT) | (replace H := H.up 3 rfl; (try simp only [List.set_cons_zero, List.set_cons_succ, List.eraseIdx_cons_zero, List.eraseIdx_cons_succ] at H); have hT : Holds _ _ (dsk b _ :: _) := H; clear hT) | (replace H := H.up 4 rfl; (try simp only [List.set_cons_zero, List.set_cons_succ, List.eraseIdx_cons_zero, List.eraseIdx_cons_succ] at H); have hT : Holds _ _ (dsk b _ :: _) := H; clear hT) | (replace H := H.up 5 rfl; (try simp only [List.set_cons_zero, List.set_cons_succ, List.eraseIdx_cons_zero, List.eraseIdx_cons_succ] at H); have hT : Holds _ _ (dsk b _ :: _) := H; clear hT) | (replace H := H.up 6 rfl; (try simp only [List.set_cons_zero, List.set_cons_succ, List.eraseIdx_cons_zero, List.eraseIdx_cons_succ] at H); have hT : Holds _ _ (dsk b _ :: _) := H; clear hT)
      (refine X.call (Image_d H) ?_; (try clear H); rintro _ w ⟨t1, a5, c5, rfl, ho, H⟩; refine ⟨_, rfl, ?_⟩); refine L.nil ?_; refine ⟨rfl, rfl, (by first | exact fun h => Bool.noConfusion (show false = true from h) | exact fun _ => ext_same | exact fun _ => ext_only (by assumption)), ?_⟩
      clear ho
      repeat' (first | refine Z H ?_ | (refine Zc ?_ ?_ <;> intro hc <;> first | (exfalso; omega) | skip) | (refine Y ?_; try change C _ _ _ _ _ _) | (refine Zs H ?_; clear H; (try clear w); intro w H) | (refine Zn H ?_; clear H; (try clear w); (first | ((fail_if_success (have := bl1)); intro bl1 w H) | ((fail_if_success (have := bl2)); intro bl2 w H) | ((fail_if_success (have := bl3)); intro bl3 w H) | intro _ w H)) | (refine Ze H ?_; clear H; (try clear w); intro gv w H))
      (refine X.call (Image_e H hR) ?_; (try clear H); rintro _ w ⟨rfl, ho, H⟩; refine ⟨_, rfl, ?_⟩); refine L.nil ?_; refine ⟨rfl, rfl, (by first | exact fun h => Bool.noConfusion (show false = true from h) | exact fun _ => ext_same | exact fun _ => ext_only (by assumption)), ?_⟩
      clear ho
      repeat' (first | refine Z H ?_ | (refine Zc ?_ ?_ <;> intro hc <;> first | (exfalso; omega) | skip) | (refine Y ?_; try change C _ _ _ _ _ _) | (refine Zs H ?_; clear H; (try clear w); intro w H) | (refine Zn H ?_; clear H; (try clear w); (first | ((fail_if_success (have := bl1)); intro bl1 w H) | ((fail_if_success (have := bl2)); intro bl2 w H) | ((fail_if_success (have := bl3)); intro bl3 w H) | intro _ w H)) | (refine Ze H ?_; clear H; (try clear w); intro gv w H))
      exact ⟨by (repeat (first | exact Agr.refl | exact Agr.hav | refine Agr.upd rfl ?_ | refine Agr.in rfl ?_)), acts.length - (i + 1), by omega, i + 1, s6, d, m, bL, aa, cc, _, rfl, by omega, by omega, rfl, hle5.trans hs6, hA0, hml, hpl, logP_of H⟩
theorem aplays_rdg {w : World} {n : Int} {a : Option Addr} {k c : Nat} (hN : Nib (startRo w)) (g0 : Rdg Tryd.prog w 3 [.int .i64 n]) (g : Rdg Tryd.prog w 43 [.slice a k c]) : Calls Tryd.prog 5 #[.int .i64 n, .slice a k c] w fun e w' => e = .returned (.bool true) ∧ Only [] w w' := by
  obtain ⟨l, h1, h2⟩ := acts20_of g
  obtain ⟨va, vc, hv, _⟩ := formS h1
  cases hv
  obtain ⟨m, e, hw⟩ := rdg_int Tryd.underlying3 g0
  cases e
  exact (aplays_walk hN (Holds.start w) (wf_i64 hw) h1 h2).mono fun e w' h => ⟨h.1, h.2.only⟩
end
end Go.Proofs.YtbknpbihgfphaaaDoor
