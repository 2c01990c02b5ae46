/- WalConfined, walked. -/
import Derived.Test.YtbknpbihgfphaaaDoorWr
set_option linter.unusedSimpArgs false
set_option linter.unusedVariables false
namespace Go.Proofs.YtbknpbihgfphaaaDoor
open Go Go.RowKit Go.Own

theorem open_aw4 : openM (fmtD 4) ((4 : Nat), 52) = (some ⟨1, 0, 0, z640, false⟩, 0) := by decide +kernel
theorem good4 : GoodW 4 (fmtD 4) awM := by
  obtain ⟨_, h2, h3⟩ := run_free (f := 4) (by decide) formatSteps Fr0.new fmt_ok
  exact ⟨h2, fun k hk ho => by unfold fmtD; rw [h3 k hk, effS_out 4 ho _ _ fmt_ok]; exact new_cur hk, by decide, by decide, by decide, List.length_replicate, rfl⟩
theorem recSteps_len (e : Nat) : ∀ (l : List Ch) (k : Nat), (recSteps e k l).length = l.length + 3
  | [], _ => rfl
  | c :: r, k => by rw [recSteps, List.length_cons, recSteps_len e r, List.length_cons]
theorem recM_pend (d : DM) (x : Ext) (m : WL) (l : List Ch) : (recM d x m l).1.pend.length ≤ d.pend.length + (l.length + 3) := by
  have h := run_pend x (recSteps m.epoch m.used l) d
  rw [recSteps_len] at h
  unfold recM
  split <;> exact h
theorem commit_pend (d : DM) (x : Ext) (m : WL) (l : List Ch) : (commitM d x m l).1.pend.length ≤ d.pend.length + 40 := by
  unfold commitM
  by_cases hv : validM l = true
  · have hl := (validM_ok hv).1
    have h1 := run_pend x (homeSteps (m.epoch + 1) (1 - m.home) m.pages) d
    rw [homeSteps_len] at h1
    have h2 := recM_pend (run x (homeSteps (m.epoch + 1) (1 - m.home) m.pages) d).1 x ⟨m.epoch + 1, 1 - m.home, 0, m.pages, false⟩ l
    have h3 := recM_pend d x m l
    repeat' split
    all_goals first | omega | (simp only; omega) | (dsimp only; omega)
  · have hv' : validM l = false := by cases hq : validM l with | true => exact absurd hq hv | false => rfl
    rw [hv']
    split
    · simp
    · rw [if_pos rfl]; simp
theorem noughtW_eq : (⟨(List.replicate 64 (0 : UInt8)).toArray⟩ : ByteArray) = zs 64 := by decide
set_option maxRecDepth 100000 in
set_option maxHeartbeats 1000000 in
theorem wconf_walk {w : World} {acts : List Act16} {va : Option Addr} {vc : Nat} {s : Ro} (hN : Nib s) (H : Holds s w []) (hl : SlS s (.slice va acts.length vc) 6 acts.length (acts.flatMap Act16.cells)) (hok : ∀ a ∈ acts, a.Ok s) : Calls Tryd.prog 7 #[.slice va acts.length vc] w fun e w' => e = .returned (.bool true) ∧ Fin s w' := by
  have hpd := fmt_pend 4
  have hon := fmt_on (n := 4) (by decide)
  have hop := open_aw4
  have hg4 := good4
  refine enter Tryd.func7 rfl Tryd.ntmps7 rfl ?_
  repeat' (first | refine Z H ?_ | (refine Zc ?_ ?_ <;> intro hc <;> first | (exfalso; omega) | skip) | (refine Y ?_; try change C _ _ _ _ _ _) | (refine Zs H ?_; clear H; (try clear w); intro w H) | (refine Zn H ?_; clear H; (try clear w); intro _ w H) | (refine Ze H ?_; clear H; (try clear w); intro gv w H))
  refine X.call (part16_s (n := 4) hN H (by decide)) ?_
  clear H
  rintro _ w ⟨s1, b, bp, v, rfl, hs1, hp, hR, H⟩
  refine ⟨_, rfl, ?_⟩
  obtain ⟨a0, c0, a1, c1, lf, a2, n2, c2, rfl⟩ := refCellsW hR
  repeat' (first | refine Z H ?_ | (refine Zc ?_ ?_ <;> intro hc <;> first | (exfalso; omega) | skip) | (refine Y ?_; try change C _ _ _ _ _ _) | (refine Zs H ?_; clear H; (try clear w); intro w H) | (refine Zn H ?_; clear H; (try clear w); intro _ w H) | (refine Ze H ?_; clear H; (try clear w); intro gv w H))
  first | (have hT : Holds _ _ (dsk b _ :: _) := H; clear hT) | (replace H := H.up 1 rfl; (try simp only [List.set_cons_zero, List.set_cons_succ, List.eraseIdx_cons_zero, List.eraseIdx_cons_succ] at H); have hT : Holds _ _ (dsk b _ :: _) := H; clear hT) | (replace H := H.up 2 rfl; (try simp only [List.set_cons_zero, List.set_cons_succ, List.eraseIdx_cons_zero, List.eraseIdx_cons_succ] at H); have hT : Holds _ _ (dsk b _ :: _) := H; clear hT) | (replace H := H.up 3 rfl; (try simp only [List.set_cons_zero, List.set_cons_succ, List.eraseIdx_cons_zero, List.eraseIdx_cons_succ] at H); have hT : Holds _ _ (dsk b _ :: _) := H; clear hT) | (replace H := H.up 4 rfl; (try simp only [List.set_cons_zero, List.set_cons_succ, List.eraseIdx_cons_zero, List.eraseIdx_cons_succ] at H); have hT : Holds _ _ (dsk b _ :: _) := H; clear hT) | (replace H := H.up 5 rfl; (try simp only [List.set_cons_zero, List.set_cons_succ, List.eraseIdx_cons_zero, List.eraseIdx_cons_succ] at H); have hT : Holds _ _ (dsk b _ :: _) := H; clear hT) | (replace H := H.up 6 rfl; (try simp only [List.set_cons_zero, List.set_cons_succ, List.eraseIdx_cons_zero, List.eraseIdx_cons_succ] at H); have hT : Holds _ _ (dsk b _ :: _) := H; clear hT)
  refine X.call (Open_l (x := (((4 : Nat) : Int), 52)) (hN.mono hs1) H hp rfl hon) ?_
  clear H
  rintro _ w ⟨s2, hs2, hcase⟩
  obtain ⟨m, bL, ho, rfl, H⟩ := hcase.resolve_right (fun ⟨c, ho, _⟩ => by rw [hop] at ho; cases ho)
  clear hcase
  refine ⟨_, rfl, ?_⟩
  rw [hop] at ho
  cases ho
  dsimp only at H
  repeat' (first | refine Z H ?_ | (refine Zc ?_ ?_ <;> intro hc <;> first | (exfalso; omega) | skip) | (refine Y ?_; try change C _ _ _ _ _ _) | (refine Zs H ?_; clear H; (try clear w); intro w H) | (refine Zn H ?_; clear H; (try clear w); intro _ w H) | (refine Ze H ?_; clear H; (try clear w); intro gv w H))
  have H' : Holds s2 w (logW bL bp 1 0 0 z640 false :: dsk b (fmtD 4) :: []) := H.arr
  clear H
  have hle2 := hs1.trans hs2
  refine C.loopS [9, 28, 29, 30, 31, 32, 33, 34, 35, 36, 37, 38, 39, 40, 41, 42, 43, 44] [9] rfl (fun k vs w => ∃ i : Nat, ∃ s' d m, k = acts.length - i ∧ i ≤ acts.length ∧ i ≤ 20 ∧ vs = [.int .i64 (i : Int)] ∧ s2.Le s' ∧ GoodW 4 d m ∧ d.pend.length ≤ 100 + 40 * i ∧ Holds s' w (logW bL bp m.epoch m.home m.used m.pages m.dead :: dsk b d :: [])) acts.length ⟨0, s2, fmtD 4, awM, rfl, Nat.zero_le _, Nat.zero_le _, rfl, Ro.Le.refl _, hg4, hpd, H'⟩ ?_
  clear H'
  rintro k vs hv w ⟨i, s3, d, m, rfl, hi, hi20, rfl, hle3, hG, hdp, H⟩
  have hle23 := hle2.trans hle3
  by_cases hlt : i < acts.length ∧ i < 20
  · obtain ⟨hlt, hlt20⟩ := hlt
    obtain ⟨g1, o1, c3, e1, _, _, hp1⟩ := elemS (hl.mono hle23) (fun _ _ => rfl) (by decide) (by omega)
    cases e1
    have q1 : ∀ j v, ([.int .i64 acts[i].do_, .int .i64 acts[i].n, .int .i64 acts[i].at_, .int .i64 acts[i].off, .int .u8 (acts[i].fill.toNat : Int), acts[i].keepv] : List Value)[j]? = some v → Pin s3 g1 (o1 + i * 6 + j) v := hp1 i hlt
    obtain ⟨hkeep, hkl, hn, ha⟩ := (hok acts[i] (List.getElem_mem _)).mono hle23
    generalize acts[i] = a at *
    obtain ⟨ka, kc, hkv, _⟩ := formS hkeep
    rw [hkv] at q1
    repeat' (first | refine Z H ?_ | (refine Zc ?_ ?_ <;> intro hc <;> first | (exfalso; omega) | skip) | (refine Y ?_; try change C _ _ _ _ _ _) | (refine Zs H ?_; clear H; (try clear w); intro w H) | (refine Zn H ?_; clear H; (try clear w); intro _ w H) | (refine Ze H ?_; clear H; (try clear w); intro gv w H))
    refine X.call (Changes_s (dx := a.do_) (N := a.n) (At := a.at_) (off := a.off) (fill := a.fill) (kv := .slice ka a.keep.length kc) H hn ha rfl) ?_
    clear H
    rintro _ w ⟨s4, v4, cs4, rfl, hs4, hS4, hC4, H⟩
    refine ⟨_, rfl, ?_⟩
    have hcl : (chsM a.n a.at_ a.off a.fill).length ≤ 18 := by unfold chsM; rw [List.length_map, List.length_range]; exact Nat.min_le_right _ _
    generalize chsM a.n a.at_ a.off a.fill = chs at *
    repeat' (first | refine Z H ?_ | (refine Zc ?_ ?_ <;> intro hc <;> first | (exfalso; omega) | skip) | (refine Y ?_; try change C _ _ _ _ _ _) | (refine Zs H ?_; clear H; (try clear w); intro w H) | (refine Zn H ?_; clear H; (try clear w); intro _ w H) | (refine Ze H ?_; clear H; (try clear w); intro gv w H))
    have hCm := Commit_l (m := m) (x := (((4 : Nat) : Int), 52)) (hN.mono (hle23.trans hs4)) H (hp.mono (hs2.trans (hle3.trans hs4))) hG.ep hG.home hG.used hG.pages hS4 hC4 (by omega) (by omega)
    have hG2 := hG.commit chs (by decide)
    have hP2 := commit_pend d (((4 : Nat) : Int), 52) m chs
    generalize commitM d (((4 : Nat) : Int), 52) m chs = cm at *
    obtain ⟨d2, m2, code⟩ := cm
    dsimp only at hCm hG2 hP2
    (refine X.call (hCm) ?_; (try clear H); rintro _ w ⟨rfl, H⟩; refine ⟨_, rfl, ?_⟩)
    clear hCm
    repeat' (first | refine Z H ?_ | (refine Zc ?_ ?_ <;> intro hc <;> first | (exfalso; omega) | skip) | (refine Y ?_; try change C _ _ _ _ _ _) | (refine Zs H ?_; clear H; (try clear w); intro w H) | (refine Zn H ?_; clear H; (try clear w); intro _ w H) | (refine Ze H ?_; clear H; (try clear w); intro gv w H))
    exact ⟨by (repeat (first | exact Agr.refl | exact Agr.hav | refine Agr.upd rfl ?_ | refine Agr.in rfl ?_)), acts.length - (i + 1), by omega, i + 1, s4, d2, m2, rfl, by omega, by omega, rfl, hle3.trans hs4, hG2, by omega, H⟩
  · repeat' (first | refine Z H ?_ | (refine Zc ?_ ?_ <;> intro hc <;> first | (exfalso; omega) | skip) | (refine Y ?_; try change C _ _ _ _ _ _) | (refine Zs H ?_; clear H; (try clear w); intro w H) | (refine Zn H ?_; clear H; (try clear w); intro _ w H) | (refine Ze H ?_; clear H; (try clear w); intro gv w H))
    all_goals
      first | (have hT : Holds _ _ (dsk b _ :: _) := H; clear hT) | (replace H := H.up 1 rfl; (try simp only [List.set_cons_zero, List.set_cons_succ, List.eraseIdx_cons_zero, List.eraseIdx_cons_succ] at H); have hT : Holds _ _ (dsk b _ :: _) := H; clear hT) | (replace H := H.up 2 rfl; (try simp only [List.set_cons_zero, List.set_cons_succ, List.eraseIdx_cons_zero, List.eraseIdx_cons_succ] at H); have hT : Holds _ _ (dsk b _ :: _) := H; clear hT) | (replace H := H.up 3 rfl; (try simp only [List.set_cons_zero, List.set_cons_succ, List.eraseIdx_cons_zero, List.eraseIdx_cons_succ] at H); have hT : Holds _ _ (dsk b _ :: _) := H; clear hT) | (replace H := H.up 4 rfl; (try simp only [List.set_cons_zero, List.set_cons_succ, List.eraseIdx_cons_zero, List.eraseIdx_cons_succ] at H); have hT : Holds _ _ (dsk b _ :: _) := H; clear hT) | (replace H := H.up 5 rfl; (try simp only [List.set_cons_zero, List.set_cons_succ, List.eraseIdx_cons_zero, List.eraseIdx_cons_succ] at H); have hT : Holds _ _ (dsk b _ :: _) := H; clear hT) | (replace H := H.up 6 rfl; (try simp only [List.set_cons_zero, List.set_cons_succ, List.eraseIdx_cons_zero, List.eraseIdx_cons_succ] at H); have hT : Holds _ _ (dsk b _ :: _) := H; clear hT)
      have H' : Holds s3 w (dsk b d :: []) := H.arr
      clear H
      refine C.loopS [2, 10, 11, 12, 45, 46, 47, 48, 49, 50, 51, 52, 53, 54, 55, 56, 57, 58, 59, 60, 61, 62, 63, 64, 65, 66, 67, 68, 69, 70] [10] rfl (fun k vs w => ∃ i : Nat, ∃ s', k = 60 - i ∧ i ≤ 60 ∧ vs = [.int .i64 (i : Int)] ∧ s3.Le s' ∧ Holds s' w (dsk b d :: [])) 60 ⟨0, s3, rfl, Nat.zero_le _, rfl, Ro.Le.refl _, H'⟩ ?_
      clear H'
      rintro k vs hv w ⟨j, s5, rfl, hj, rfl, hle5, H⟩
      by_cases hj60 : j < 60
      · have hrd : d.read (j : Int) = (d.cur j, 0) := read_free hG.fr.off (by rw [hG.fr.len]; exact hj60)
        have hcl : (d.cur j).length = 64 := by rw [cur_curTo]; exact curTo_len (Holds.wf H) (by rw [hG.fr.len]; exact hj60) _
        repeat' (first | refine Z H ?_ | (refine Zc ?_ ?_ <;> intro hc <;> first | (exfalso; omega) | skip) | (refine Y ?_; try change C _ _ _ _ _ _) | (refine Zs H ?_; clear H; (try clear w); intro w H) | (refine Zn H ?_; clear H; (try clear w); intro _ w H) | (refine Ze H ?_; clear H; (try clear w); intro gv w H))
        have hR := Read_s (n := (j : Int)) H
        rw [hrd] at hR
        dsimp only at hR
        (refine X.call (hR) ?_; (try clear H); rintro _ w ⟨t1, a1, c1, rfl, H⟩; refine ⟨_, rfl, ?_⟩)
        clear hR
        obtain ⟨s4, gb, rfl, hle4, H1, hsl, y, hpy⟩ := H.fixB (by omega)
        clear H
        have H := H1
        clear H1
        by_cases hj2 : j < 4
        · have hz := hG.out j hj60 (.inl hj2)
          rw [hz] at hsl ⊢
          repeat' (first | refine Z H ?_ | (refine Zc ?_ ?_ <;> intro hc <;> first | (exfalso; omega) | skip) | (refine Y ?_; try change C _ _ _ _ _ _) | (refine Zs H ?_; clear H; (try clear w); intro w H) | (refine Zn H ?_; clear H; (try clear w); intro _ w H) | (refine Ze H ?_; clear H; (try clear w); intro gv w H))
          refine C.drawn2 [gb] [0, 0, 0, 0, 0, 0, 0, 0, 0, 0, 0, 1, 2, 0, 0, 0] [13] [0, 1, 3, 7, 15, 31, 63, 127, 255, 511, 1023, 2047, 1023, 8191, 16383, 32767] (by kernel_rfl) ?_; replace H := H.drew; simp only [segL, List.take_succ_cons, List.take_zero, List.drop_succ_cons, List.drop_zero]; have H0 := H
          repeat' (first | refine Z H ?_ | (refine Zc ?_ ?_ <;> intro hc <;> first | (exfalso; omega) | skip) | (refine Y ?_; try change C _ _ _ _ _ _) | (refine Zs H ?_; clear H; (try clear w); intro w H) | (refine Zn H ?_; clear H; (try clear w); intro _ w H) | (refine Ze H ?_; clear H; (try clear w); intro gv w H))
          (refine X.call (Noughts_s H) ?_; (try clear H); rintro _ w ⟨rfl, H⟩; refine ⟨_, rfl, ?_⟩); refine L.nil ?_; refine ⟨rfl, rfl, (by repeat (first | exact subN_nil | refine subN_cons (by simp) ?_)), (by first | exact keep_same | (repeat (first | exact keepV H0 H | exact keepP H0 H | exact keep_nil | refine keep_cons ?_ ?_))), ?_⟩; clear H0; have H0 := H
          repeat' (first | (refine J.neS (fun hc => absurd noughtW_eq hc) (fun _ => ?_)) | refine Z H ?_ | (refine Zc ?_ ?_ <;> intro hc <;> first | (exfalso; omega) | skip) | (refine Y ?_; try change C _ _ _ _ _ _) | (refine Zs H ?_; clear H; (try clear w); intro w H) | (refine Zn H ?_; clear H; (try clear w); intro _ w H) | (refine Ze H ?_; clear H; (try clear w); intro gv w H))
          refine ⟨rfl, rfl, (by repeat (first | exact subN_nil | refine subN_cons (by simp) ?_)), (by first | exact keep_same | (repeat (first | exact keepV H0 H | exact keepP H0 H | exact keep_nil | refine keep_cons ?_ ?_))), ?_⟩; clear H0; have H0 := H
          repeat' (first | refine Z H ?_ | (refine Zc ?_ ?_ <;> intro hc <;> first | (exfalso; omega) | skip) | (refine Y ?_; try change C _ _ _ _ _ _) | (refine Zs H ?_; clear H; (try clear w); intro w H) | (refine Zn H ?_; clear H; (try clear w); intro _ w H) | (refine Ze H ?_; clear H; (try clear w); intro gv w H))
          exact ⟨by (repeat (first | exact Agr.refl | exact Agr.hav | refine Agr.upd rfl ?_ | refine Agr.in rfl ?_)), 60 - (j + 1), by omega, j + 1, s4, rfl, by omega, rfl, hle5.trans hle4, H.arr⟩
        · by_cases hj3 : 4 + 52 ≤ j
          · have hz := hG.out j hj60 (.inr hj3)
            rw [hz] at hsl ⊢
            repeat' (first | refine Z H ?_ | (refine Zc ?_ ?_ <;> intro hc <;> first | (exfalso; omega) | skip) | (refine Y ?_; try change C _ _ _ _ _ _) | (refine Zs H ?_; clear H; (try clear w); intro w H) | (refine Zn H ?_; clear H; (try clear w); intro _ w H) | (refine Ze H ?_; clear H; (try clear w); intro gv w H))
            refine C.drawn2 [gb] [0, 0, 0, 0, 0, 0, 0, 0, 0, 0, 0, 1, 2, 0, 0, 0] [13] [0, 1, 3, 7, 15, 31, 63, 127, 255, 511, 1023, 2047, 1023, 8191, 16383, 32767] (by kernel_rfl) ?_; replace H := H.drew; simp only [segL, List.take_succ_cons, List.take_zero, List.drop_succ_cons, List.drop_zero]; have H0 := H
            repeat' (first | refine Z H ?_ | (refine Zc ?_ ?_ <;> intro hc <;> first | (exfalso; omega) | skip) | (refine Y ?_; try change C _ _ _ _ _ _) | (refine Zs H ?_; clear H; (try clear w); intro w H) | (refine Zn H ?_; clear H; (try clear w); intro _ w H) | (refine Ze H ?_; clear H; (try clear w); intro gv w H))
            (refine X.call (Noughts_s H) ?_; (try clear H); rintro _ w ⟨rfl, H⟩; refine ⟨_, rfl, ?_⟩); refine L.nil ?_; refine ⟨rfl, rfl, (by repeat (first | exact subN_nil | refine subN_cons (by simp) ?_)), (by first | exact keep_same | (repeat (first | exact keepV H0 H | exact keepP H0 H | exact keep_nil | refine keep_cons ?_ ?_))), ?_⟩; clear H0; have H0 := H
            repeat' (first | (refine J.neS (fun hc => absurd noughtW_eq hc) (fun _ => ?_)) | refine Z H ?_ | (refine Zc ?_ ?_ <;> intro hc <;> first | (exfalso; omega) | skip) | (refine Y ?_; try change C _ _ _ _ _ _) | (refine Zs H ?_; clear H; (try clear w); intro w H) | (refine Zn H ?_; clear H; (try clear w); intro _ w H) | (refine Ze H ?_; clear H; (try clear w); intro gv w H))
            refine ⟨rfl, rfl, (by repeat (first | exact subN_nil | refine subN_cons (by simp) ?_)), (by first | exact keep_same | (repeat (first | exact keepV H0 H | exact keepP H0 H | exact keep_nil | refine keep_cons ?_ ?_))), ?_⟩; clear H0; have H0 := H
            repeat' (first | refine Z H ?_ | (refine Zc ?_ ?_ <;> intro hc <;> first | (exfalso; omega) | skip) | (refine Y ?_; try change C _ _ _ _ _ _) | (refine Zs H ?_; clear H; (try clear w); intro w H) | (refine Zn H ?_; clear H; (try clear w); intro _ w H) | (refine Ze H ?_; clear H; (try clear w); intro gv w H))
            exact ⟨by (repeat (first | exact Agr.refl | exact Agr.hav | refine Agr.upd rfl ?_ | refine Agr.in rfl ?_)), 60 - (j + 1), by omega, j + 1, s4, rfl, by omega, rfl, hle5.trans hle4, H.arr⟩
          · repeat' (first | refine Z H ?_ | (refine Zc ?_ ?_ <;> intro hc <;> first | (exfalso; omega) | skip) | (refine Y ?_; try change C _ _ _ _ _ _) | (refine Zs H ?_; clear H; (try clear w); intro w H) | (refine Zn H ?_; clear H; (try clear w); intro _ w H) | (refine Ze H ?_; clear H; (try clear w); intro gv w H))
            refine C.drawn2 [gb] [0, 0, 0, 0, 0, 0, 0, 0, 0, 0, 0, 1, 2, 0, 0, 0] [13] [0, 1, 3, 7, 15, 31, 63, 127, 255, 511, 1023, 2047, 1023, 8191, 16383, 32767] (by kernel_rfl) ?_; replace H := H.drew; simp only [segL, List.take_succ_cons, List.take_zero, List.drop_succ_cons, List.drop_zero]; have H0 := H
            repeat' (first | refine Z H ?_ | (refine Zc ?_ ?_ <;> intro hc <;> first | (exfalso; omega) | skip) | (refine Y ?_; try change C _ _ _ _ _ _) | (refine Zs H ?_; clear H; (try clear w); intro w H) | (refine Zn H ?_; clear H; (try clear w); intro _ w H) | (refine Ze H ?_; clear H; (try clear w); intro gv w H))
            refine ⟨rfl, rfl, (by repeat (first | exact subN_nil | refine subN_cons (by simp) ?_)), (by first | exact keep_same | (repeat (first | exact keepV H0 H | exact keepP H0 H | exact keep_nil | refine keep_cons ?_ ?_))), ?_⟩; clear H0; have H0 := H
            repeat' (first | refine Z H ?_ | (refine Zc ?_ ?_ <;> intro hc <;> first | (exfalso; omega) | skip) | (refine Y ?_; try change C _ _ _ _ _ _) | (refine Zs H ?_; clear H; (try clear w); intro w H) | (refine Zn H ?_; clear H; (try clear w); intro _ w H) | (refine Ze H ?_; clear H; (try clear w); intro gv w H))
            refine ⟨rfl, rfl, (by repeat (first | exact subN_nil | refine subN_cons (by simp) ?_)), (by first | exact keep_same | (repeat (first | exact keepV H0 H | exact keepP H0 H | exact keep_nil | refine keep_cons ?_ ?_))), ?_⟩; clear H0; have H0 := H
            repeat' (first | refine Z H ?_ | (refine Zc ?_ ?_ <;> intro hc <;> first | (exfalso; omega) | skip) | (refine Y ?_; try change C _ _ _ _ _ _) | (refine Zs H ?_; clear H; (try clear w); intro w H) | (refine Zn H ?_; clear H; (try clear w); intro _ w H) | (refine Ze H ?_; clear H; (try clear w); intro gv w H))
            exact ⟨by (repeat (first | exact Agr.refl | exact Agr.hav | refine Agr.upd rfl ?_ | refine Agr.in rfl ?_)), 60 - (j + 1), by omega, j + 1, s4, rfl, by omega, rfl, hle5.trans hle4, H.arr⟩
      · repeat' (first | refine Z H ?_ | (refine Zc ?_ ?_ <;> intro hc <;> first | (exfalso; omega) | skip) | (refine Y ?_; try change C _ _ _ _ _ _) | (refine Zs H ?_; clear H; (try clear w); intro w H) | (refine Zn H ?_; clear H; (try clear w); intro _ w H) | (refine Ze H ?_; clear H; (try clear w); intro gv w H))
        (refine X.call (awake16 (hN.mono (hle23.trans hle5)) H) ?_; (try clear H); rintro _ w ⟨s6, rfl, hle6, H⟩; refine ⟨_, rfl, ?_⟩)
        repeat' (first | refine Z H ?_ | (refine Zc ?_ ?_ <;> intro hc <;> first | (exfalso; omega) | skip) | (refine Y ?_; try change C _ _ _ _ _ _) | (refine Zs H ?_; clear H; (try clear w); intro w H) | (refine Zn H ?_; clear H; (try clear w); intro _ w H) | (refine Ze H ?_; clear H; (try clear w); intro gv w H))
        exact ⟨_, resT rfl, rfl, H.done ((hle23.trans hle5).trans hle6)⟩
theorem wconf_rdg {w : World} {a : Option Addr} {n c : Nat} (hN : Nib (startRo w)) (g : Rdg Tryd.prog w 68 [.slice a n c]) : Calls Tryd.prog 7 #[.slice a n c] w fun e w' => e = .returned (.bool true) ∧ Only [] w w' := by
  obtain ⟨l, h1, h2⟩ := acts16_of g
  obtain ⟨va, vc, hv, _⟩ := formS h1
  cases hv
  exact (wconf_walk hN (Holds.start w) h1 h2).mono fun e w' h => ⟨h.1, h.2.only⟩
end Go.Proofs.YtbknpbihgfphaaaDoor
