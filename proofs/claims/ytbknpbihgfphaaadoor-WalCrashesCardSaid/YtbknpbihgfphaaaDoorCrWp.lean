/- law16: awake, walked. -/
import Derived.Test.YtbknpbihgfphaaaDoorCrWo
set_option linter.unusedSimpArgs false
set_option linter.unusedVariables false
namespace Go.Proofs.YtbknpbihgfphaaaDoor
open Go Go.RowKit Go.Own
def awL : List Ch := chsM 2 0 0 5
def awM : WL := ⟨1, 0, 0, z640, false⟩
theorem commit_aw : (commitM (fmtD 0) ((0 : Nat), 52) awM awL).2.2 = 0 ∧ (commitM (fmtD 0) ((0 : Nat), 52) awM awL).2.1.used = 3 ∧ getP (commitM (fmtD 0) ((0 : Nat), 52) awM awL).2.1.pages 1 = List.replicate 40 6 ∧ (commitM (fmtD 0) ((0 : Nat), 52) awM awL).2.1.pages.length = 640 := by decide +kernel
theorem fmt_pend (n : Nat) : (fmtD n).pend.length ≤ 100 := by
  have h := run_pend ((n : Int), 52) formatSteps (DM.new 60)
  have h2 : formatSteps.length = 37 := by decide
  have h3 : (DM.new 60).pend.length = 0 := rfl
  unfold fmtD
  omega
theorem fmt_on {n : Nat} (hn : n + 52 ≤ 60) : ∀ k : Nat, k < 52 → (pread (fmtD n) ((n : Int), 52) (k : Int)).2 = 0 := by
  intro k hk
  have := (fmt_free hn).2.pread (f := n) (c := 52) hk hn (by decide)
  rw [show ((52 : Nat) : Int) = 52 from rfl] at this
  rw [this]
theorem build_act16 (w : World) : (Instr.build 78 [(1, .int .i64 2), (4, .int .u8 5)].toArray).run Tryd.prog w = .ok (.agg #[.int .i64 0, .int .i64 2, .int .i64 0, .int .i64 0, .int .u8 5, .slice none 0 0]) w := by kernel_rfl
section
variable {s : Ro} {w : World} {R : List Asn}
theorem Epoch_l {bL bp e h u : Nat} {ps : List UInt8} {dd : Bool} (H : Holds s w (logW bL bp e h u ps dd :: R)) : Calls Tryd.prog 51 #[.pointer (some ⟨bL, 0, none⟩)] w fun y w' => y = .returned (.int .u32 (e : Int)) ∧ Holds s w' (logW bL bp e h u ps dd :: R) := by
  unfold logW at *
  refine enter Tryd.func51 rfl Tryd.ntmps51 rfl ?_
  repeat' (first | refine Z H ?_ | (refine Zc ?_ ?_ <;> intro hc <;> first | (exfalso; omega) | skip) | (refine Y ?_; try change C _ _ _ _ _ _) | (refine Zs H ?_; clear H; (try clear w); intro w H) | (refine Zn H ?_; clear H; (try clear w); intro _ w H) | (refine Ze H ?_; clear H; (try clear w); intro gv w H))
  exact ⟨_, resT rfl, rfl, H⟩
theorem Used_l {bL bp e h u : Nat} {ps : List UInt8} {dd : Bool} (H : Holds s w (logW bL bp e h u ps dd :: R)) : Calls Tryd.prog 52 #[.pointer (some ⟨bL, 0, none⟩)] w fun y w' => y = .returned (.int .i64 (u : Int)) ∧ Holds s w' (logW bL bp e h u ps dd :: R) := by
  unfold logW at *
  refine enter Tryd.func52 rfl Tryd.ntmps52 rfl ?_
  repeat' (first | refine Z H ?_ | (refine Zc ?_ ?_ <;> intro hc <;> first | (exfalso; omega) | skip) | (refine Y ?_; try change C _ _ _ _ _ _) | (refine Zs H ?_; clear H; (try clear w); intro w H) | (refine Zn H ?_; clear H; (try clear w); intro _ w H) | (refine Ze H ?_; clear H; (try clear w); intro gv w H))
  exact ⟨_, resT rfl, rfl, H⟩
theorem Page16_l {bL bp e h u : Nat} {ps : List UInt8} {dd : Bool} (H : Holds s w (logW bL bp e h u ps dd :: R)) : Calls Tryd.prog 70 #[.pointer (some ⟨bL, 0, none⟩), .int .i64 16] w fun y w' => y = .returned (.tuple #[.slice none 0 0, .int .i64 4]) ∧ Holds s w' (logW bL bp e h u ps dd :: R) := by
  unfold logW at *
  refine enter Tryd.func70 rfl Tryd.ntmps70 rfl ?_
  repeat' (first | refine Z H ?_ | (refine Zc ?_ ?_ <;> intro hc <;> first | (exfalso; omega) | skip) | (refine Y ?_; try change C _ _ _ _ _ _) | (refine Zs H ?_; clear H; (try clear w); intro w H) | (refine Zn H ?_; clear H; (try clear w); intro _ w H) | (refine Ze H ?_; clear H; (try clear w); intro gv w H))
  exact ⟨_, resTT rfl, rfl, H⟩
set_option maxRecDepth 100000 in
set_option maxHeartbeats 1000000 in
theorem awake16 (hN : Nib s) (H : Holds s w R) : Calls Tryd.prog 34 #[] w fun y w' => ∃ s', y = .returned (.bool true) ∧ s.Le s' ∧ Holds s' w' R := by
  have hpd := fmt_pend 0
  have hon := fmt_on (n := 0) (by decide)
  obtain ⟨hk1, hk2, hk3, hk4⟩ := commit_aw
  have hop := open_aw
  refine enter Tryd.func34 rfl Tryd.ntmps34 rfl ?_
  repeat' (first | refine Z H ?_ | (refine Zc ?_ ?_ <;> intro hc <;> first | (exfalso; omega) | skip) | (refine Y ?_; try change C _ _ _ _ _ _) | (refine Zs H ?_; clear H; (try clear w); intro w H) | (refine Zn H ?_; clear H; (try clear w); intro _ w H) | (refine Ze H ?_; clear H; (try clear w); intro gv w H))
  refine X.call (part16_s (n := 0) hN H (by decide)) ?_
  clear H
  rintro _ w ⟨s1, b, bp, v, rfl, hs1, hp, hR, H⟩
  refine ⟨_, rfl, ?_⟩
  obtain ⟨a0, c0, a1, c1, lf, a2, n2, c2, rfl⟩ := refCellsW hR
  repeat' (first | refine Z H ?_ | (refine Zc ?_ ?_ <;> intro hc <;> first | (exfalso; omega) | skip) | (refine Y ?_; try change C _ _ _ _ _ _) | (refine Zs H ?_; clear H; (try clear w); intro w H) | (refine Zn H ?_; clear H; (try clear w); intro _ w H) | (refine Ze H ?_; clear H; (try clear w); intro gv w H))
  first | (have hT : Holds _ _ (dsk b _ :: _) := H; clear hT) | (replace H := H.up 1 rfl; (try simp only [List.set_cons_zero, List.set_cons_succ, List.eraseIdx_cons_zero, List.eraseIdx_cons_succ] at H); have hT : Holds _ _ (dsk b _ :: _) := H; clear hT) | (replace H := H.up 2 rfl; (try simp only [List.set_cons_zero, List.set_cons_succ, List.eraseIdx_cons_zero, List.eraseIdx_cons_succ] at H); have hT : Holds _ _ (dsk b _ :: _) := H; clear hT) | (replace H := H.up 3 rfl; (try simp only [List.set_cons_zero, List.set_cons_succ, List.eraseIdx_cons_zero, List.eraseIdx_cons_succ] at H); have hT : Holds _ _ (dsk b _ :: _) := H; clear hT) | (replace H := H.up 4 rfl; (try simp only [List.set_cons_zero, List.set_cons_succ, List.eraseIdx_cons_zero, List.eraseIdx_cons_succ] at H); have hT : Holds _ _ (dsk b _ :: _) := H; clear hT) | (replace H := H.up 5 rfl; (try simp only [List.set_cons_zero, List.set_cons_succ, List.eraseIdx_cons_zero, List.eraseIdx_cons_succ] at H); have hT : Holds _ _ (dsk b _ :: _) := H; clear hT) | (replace H := H.up 6 rfl; (try simp only [List.set_cons_zero, List.set_cons_succ, List.eraseIdx_cons_zero, List.eraseIdx_cons_succ] at H); have hT : Holds _ _ (dsk b _ :: _) := H; clear hT)
  refine X.call (Open_l (x := (((0 : Nat) : Int), 52)) (hN.mono hs1) H hp rfl hon) ?_
  clear H
  rintro _ w ⟨s2, hs2, hcase⟩
  obtain ⟨m, bL, ho, rfl, H⟩ := hcase.resolve_right (fun ⟨c, ho, _⟩ => by rw [hop] at ho; cases ho)
  clear hcase
  refine ⟨_, rfl, ?_⟩
  rw [hop] at ho
  cases ho
  dsimp only at H
  repeat' (first | refine Z H ?_ | (refine Zc ?_ ?_ <;> intro hc <;> first | (exfalso; omega) | skip) | (refine Y ?_; try change C _ _ _ _ _ _) | (refine Zs H ?_; clear H; (try clear w); intro w H) | (refine Zn H ?_; clear H; (try clear w); intro _ w H) | (refine Ze H ?_; clear H; (try clear w); intro gv w H))
  (refine X.call (Epoch_l H) ?_; (try clear H); rintro _ w ⟨rfl, H⟩; refine ⟨_, rfl, ?_⟩)
  repeat' (first | refine Z H ?_ | (refine Zc ?_ ?_ <;> intro hc <;> first | (exfalso; omega) | skip) | (refine Y ?_; try change C _ _ _ _ _ _) | (refine Zs H ?_; clear H; (try clear w); intro w H) | (refine Zn H ?_; clear H; (try clear w); intro _ w H) | (refine Ze H ?_; clear H; (try clear w); intro gv w H))
  (refine X.call (Used_l H) ?_; (try clear H); rintro _ w ⟨rfl, H⟩; refine ⟨_, rfl, ?_⟩)
  repeat' (first | (refine K.build [(1, .int .i64 2), (4, .int .u8 5)] (.agg #[.int .i64 0, .int .i64 2, .int .i64 0, .int .i64 0, .int .u8 5, .slice none 0 0]) build_act16 rfl rfl rfl ?_) | refine Z H ?_ | (refine Zc ?_ ?_ <;> intro hc <;> first | (exfalso; omega) | skip) | (refine Y ?_; try change C _ _ _ _ _ _) | (refine Zs H ?_; clear H; (try clear w); intro w H) | (refine Zn H ?_; clear H; (try clear w); intro _ w H) | (refine Ze H ?_; clear H; (try clear w); intro gv w H))
  refine X.call (Changes_s (dx := 0) (N := 2) (At := 0) (off := 0) (fill := 5) (kv := .slice none 0 0) H (by unfold I64; decide) (by unfold I64; decide) rfl) ?_
  clear H
  rintro _ w ⟨s3, v3, cs3, rfl, hs3, hS3, hC3, H⟩
  refine ⟨_, rfl, ?_⟩
  rw [show chsM 2 0 0 5 = awL from rfl] at hS3 hC3
  have hCm := Commit_l (m := awM) (x := (((0 : Nat) : Int), 52)) (hN.mono ((hs1.trans hs2).trans hs3)) H (hp.mono (hs2.trans hs3)) (by decide) (by decide) (by decide) (by decide) hS3 hC3 (by decide) (by omega)
  rw [hk1, hk2] at hCm
  generalize (commitM (fmtD 0) (((0 : Nat) : Int), 52) awM awL).2.1.pages = pgs at *
  generalize (commitM (fmtD 0) (((0 : Nat) : Int), 52) awM awL).2.1.epoch = ep at *
  generalize (commitM (fmtD 0) (((0 : Nat) : Int), 52) awM awL).2.1.home = ho at *
  generalize (commitM (fmtD 0) (((0 : Nat) : Int), 52) awM awL).2.1.dead = de at *
  generalize (commitM (fmtD 0) (((0 : Nat) : Int), 52) awM awL).1 = d1 at *
  repeat' (first | refine Z H ?_ | (refine Zc ?_ ?_ <;> intro hc <;> first | (exfalso; omega) | skip) | (refine Y ?_; try change C _ _ _ _ _ _) | (refine Zs H ?_; clear H; (try clear w); intro w H) | (refine Zn H ?_; clear H; (try clear w); intro _ w H) | (refine Ze H ?_; clear H; (try clear w); intro gv w H))
  (refine X.call (hCm) ?_; (try clear H); rintro _ w ⟨rfl, H⟩; refine ⟨_, rfl, ?_⟩)
  clear hCm
  repeat' (first | refine Z H ?_ | (refine Zc ?_ ?_ <;> intro hc <;> first | (exfalso; omega) | skip) | (refine Y ?_; try change C _ _ _ _ _ _) | (refine Zs H ?_; clear H; (try clear w); intro w H) | (refine Zn H ?_; clear H; (try clear w); intro _ w H) | (refine Ze H ?_; clear H; (try clear w); intro gv w H))
  have hPg := Page_l (n := 1) H hk4 (by decide)
  (refine X.call (hPg) ?_; (try clear H); rintro _ w ⟨g, rfl, H⟩; refine ⟨_, rfl, ?_⟩)
  clear hPg
  have hgl : (getP pgs 1).length = 40 := by rw [hk3]; rfl
  have e0 : (u8s (getP pgs 1))[0 + 0 * 1]? = some (.int .u8 6) := by rw [hk3]; rfl
  repeat' (first | refine Z H ?_ | (refine Zc ?_ ?_ <;> intro hc <;> first | (exfalso; omega) | skip) | (refine Y ?_; try change C _ _ _ _ _ _) | (refine Zs H ?_; clear H; (try clear w); intro w H) | (refine Zn H ?_; clear H; (try clear w); intro _ w H) | (refine Ze H ?_; clear H; (try clear w); intro gv w H))
  have H' := H.arr (rs' := logW bL bp ep ho 3 pgs de :: row 5 1 (.slice (some ⟨g, 0, none⟩) (getP pgs 1).length 40) (getP pgs 1).length (u8s (getP pgs 1)) :: R)
  clear H
  have H := H'
  clear H'
  (refine X.call (Page16_l H) ?_; (try clear H); rintro _ w ⟨rfl, H⟩; refine ⟨_, rfl, ?_⟩)
  repeat' (first | refine Z H ?_ | (refine Zc ?_ ?_ <;> intro hc <;> first | (exfalso; omega) | skip) | (refine Y ?_; try change C _ _ _ _ _ _) | (refine Zs H ?_; clear H; (try clear w); intro w H) | (refine Zn H ?_; clear H; (try clear w); intro _ w H) | (refine Ze H ?_; clear H; (try clear w); intro gv w H))
  (refine X.call (Used_l H) ?_; (try clear H); rintro _ w ⟨rfl, H⟩; refine ⟨_, rfl, ?_⟩)
  repeat' (first | (refine K.ia (i := 0) rfl rfl rfl rfl rfl (by omega) ?_) | refine Z H ?_ | (refine Zc ?_ ?_ <;> intro hc <;> first | (exfalso; omega) | skip) | (refine Y ?_; try change C _ _ _ _ _ _) | (refine Zs H ?_; clear H; (try clear w); intro w H) | (refine Zn H ?_; clear H; (try clear w); intro _ w H) | (refine Ze H ?_; clear H; (try clear w); intro gv w H))
  exact ⟨_, resT rfl, s3, rfl, (hs1.trans hs2).trans hs3, H.arr⟩
end
end Go.Proofs.YtbknpbihgfphaaaDoor
