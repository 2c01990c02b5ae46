/- law16: part, awake, walked. -/
import Derived.Test.YtbknpbihgfphaaaDoorCrWn
import Derived.Test.YtbknpbihgfphaaaDoorCrWl
set_option linter.unusedSimpArgs false
set_option linter.unusedVariables false
namespace Go.Proofs.YtbknpbihgfphaaaDoor
open Go Go.RowKit Go.Own
section
variable {P : Program} {e : Env} {w : World} {s : Ro} {rs : List Asn}
theorem resTTVT {fn : Func} {r ty k t u v : Nat} [T : RowC P ty k] {b t' : Nat} {cs : List Value} {f : List Value → List Asn} (H : Holds s w rs) (h : fn.results = #[.tmp t, .tmp u, .cell r ty, .tmp v]) (hr : e r = .pointer (some ⟨b, 0, none⟩) := by rfl) (V : PutV rs b t' cs f := by infer_instance) (hn : cs.length = k := by rfl) : ResE P fn e w (.tuple #[e t, e u, .agg cs.toArray, e v]) := fun a ha => by
  obtain ⟨i, hi, _⟩ := V.ix
  have hr' : a.tmps.getD r undef = .pointer (some ⟨b, 0, none⟩) := by rw [← hr, ← ha]; rfl
  rw [Array.getD_eq_getD_getElem?] at hr'
  have := run_cell (P := P) (ty := ty) (off := 0) H hi hn
  subst ha
  simp [results, h, hr', asAddr, this, envOf]
end
section
variable {s : Ro} {w : World} {R : List Asn}
set_option maxRecDepth 100000 in
set_option maxHeartbeats 1000000 in
theorem part16_s {n : Nat} (hN : Nib s) (H : Holds s w R) (hn : n ≤ 8) : Calls Tryd.prog 35 #[.int .i64 (n : Int)] w fun y w' => ∃ s' b bp v, y = .returned (.tuple #[.pointer (some ⟨b, 0, none⟩), .pointer (some ⟨bp, 0, none⟩), v, .bool true]) ∧ s.Le s' ∧ PartS s' bp b ((n : Int), 52) ∧ RefS s' v (fmtD n) ∧ Holds s' w' (dsk b (fmtD n) :: R) := by
  obtain ⟨hf0, hfr⟩ := fmt_free (f := n) (by omega)
  refine enter Tryd.func35 rfl Tryd.ntmps35 rfl ?_
  repeat' (first | refine Z H ?_ | (refine Zc ?_ ?_ <;> intro hc <;> first | (exfalso; omega) | skip) | (refine Y ?_; try change C _ _ _ _ _ _) | (refine Zs H ?_; clear H; (try clear w); intro w H) | (refine Zn H ?_; clear H; (try clear w); intro _ w H) | (refine Ze H ?_; clear H; (try clear w); intro gv w H))
  (refine X.call (New_s (n := 60) H (by decide) (by decide)) ?_; (try clear H); rintro _ w ⟨b, rfl, H⟩; refine ⟨_, rfl, ?_⟩)
  repeat' (first | refine Z H ?_ | (refine Zc ?_ ?_ <;> intro hc <;> first | (exfalso; omega) | skip) | (refine Y ?_; try change C _ _ _ _ _ _) | (refine Zs H ?_; clear H; (try clear w); intro w H) | (refine Zn H ?_; clear H; (try clear w); intro _ w H) | (refine Ze H ?_; clear H; (try clear w); intro gv w H))
  refine X.call (New_r (n := 60) H (by decide) (by decide)) ?_
  clear H
  rintro _ w ⟨s1, v1, rfl, hs1, hR, H⟩
  refine ⟨_, rfl, ?_⟩
  have hRc := hR
  obtain ⟨a0, c0, a1, c1, lf, a2, n2, c2, rfl⟩ := refCellsW hRc
  repeat' (first | (refine K.build [(0, .int .i64 (n : Int)), (1, .int .i64 52)] (.agg #[.int .i64 (n : Int), .int .i64 52]) (build_ext' _ _) rfl rfl rfl ?_) | refine Z H ?_ | (refine Zc ?_ ?_ <;> intro hc <;> first | (exfalso; omega) | skip) | (refine Y ?_; try change C _ _ _ _ _ _) | (refine Zs H ?_; clear H; (try clear w); intro w H) | (refine Zn H ?_; clear H; (try clear w); intro _ w H) | (refine Ze H ?_; clear H; (try clear w); intro gv w H))
  first | (have hT : Holds _ _ (dsk b _ :: _) := H; clear hT) | (replace H := H.up 1 rfl; (try simp only [List.set_cons_zero, List.set_cons_succ, List.eraseIdx_cons_zero, List.eraseIdx_cons_succ] at H); have hT : Holds _ _ (dsk b _ :: _) := H; clear hT) | (replace H := H.up 2 rfl; (try simp only [List.set_cons_zero, List.set_cons_succ, List.eraseIdx_cons_zero, List.eraseIdx_cons_succ] at H); have hT : Holds _ _ (dsk b _ :: _) := H; clear hT) | (replace H := H.up 3 rfl; (try simp only [List.set_cons_zero, List.set_cons_succ, List.eraseIdx_cons_zero, List.eraseIdx_cons_succ] at H); have hT : Holds _ _ (dsk b _ :: _) := H; clear hT) | (replace H := H.up 4 rfl; (try simp only [List.set_cons_zero, List.set_cons_succ, List.eraseIdx_cons_zero, List.eraseIdx_cons_succ] at H); have hT : Holds _ _ (dsk b _ :: _) := H; clear hT) | (replace H := H.up 5 rfl; (try simp only [List.set_cons_zero, List.set_cons_succ, List.eraseIdx_cons_zero, List.eraseIdx_cons_succ] at H); have hT : Holds _ _ (dsk b _ :: _) := H; clear hT) | (replace H := H.up 6 rfl; (try simp only [List.set_cons_zero, List.set_cons_succ, List.eraseIdx_cons_zero, List.eraseIdx_cons_succ] at H); have hT : Holds _ _ (dsk b _ :: _) := H; clear hT)
  have hNw := New_p1 (x := ((n : Int), 52)) H (by unfold I64; simp only; omega) (by unfold liesM; simp [DM.new]; omega)
  (refine X.call (hNw) ?_; (try clear H); rintro _ w ⟨s2, bp, rfl, hs2, hp, H⟩; refine ⟨_, rfl, ?_⟩)
  clear hNw
  repeat' (first | refine Z H ?_ | (refine Zc ?_ ?_ <;> intro hc <;> first | (exfalso; omega) | skip) | (refine Y ?_; try change C _ _ _ _ _ _) | (refine Zs H ?_; clear H; (try clear w); intro w H) | (refine Zn H ?_; clear H; (try clear w); intro _ w H) | (refine Ze H ?_; clear H; (try clear w); intro gv w H))
  first | (have hT : Holds _ _ (dsk b _ :: _) := H; clear hT) | (replace H := H.up 1 rfl; (try simp only [List.set_cons_zero, List.set_cons_succ, List.eraseIdx_cons_zero, List.eraseIdx_cons_succ] at H); have hT : Holds _ _ (dsk b _ :: _) := H; clear hT) | (replace H := H.up 2 rfl; (try simp only [List.set_cons_zero, List.set_cons_succ, List.eraseIdx_cons_zero, List.eraseIdx_cons_succ] at H); have hT : Holds _ _ (dsk b _ :: _) := H; clear hT) | (replace H := H.up 3 rfl; (try simp only [List.set_cons_zero, List.set_cons_succ, List.eraseIdx_cons_zero, List.eraseIdx_cons_succ] at H); have hT : Holds _ _ (dsk b _ :: _) := H; clear hT) | (replace H := H.up 4 rfl; (try simp only [List.set_cons_zero, List.set_cons_succ, List.eraseIdx_cons_zero, List.eraseIdx_cons_succ] at H); have hT : Holds _ _ (dsk b _ :: _) := H; clear hT) | (replace H := H.up 5 rfl; (try simp only [List.set_cons_zero, List.set_cons_succ, List.eraseIdx_cons_zero, List.eraseIdx_cons_succ] at H); have hT : Holds _ _ (dsk b _ :: _) := H; clear hT) | (replace H := H.up 6 rfl; (try simp only [List.set_cons_zero, List.set_cons_succ, List.eraseIdx_cons_zero, List.eraseIdx_cons_succ] at H); have hT : Holds _ _ (dsk b _ :: _) := H; clear hT)
  have hFm := Format_w (hN.mono (hs1.trans hs2)) H hp rfl (by simp [DM.new])
  rw [hf0, show (run ((n : Int), 52) formatSteps (DM.new 60)).1 = fmtD n from rfl] at hFm
  (refine X.call (hFm) ?_; (try clear H); rintro _ w ⟨rfl, H⟩; refine ⟨_, rfl, ?_⟩)
  clear hFm
  repeat' (first | refine Z H ?_ | (refine Zc ?_ ?_ <;> intro hc <;> first | (exfalso; omega) | skip) | (refine Y ?_; try change C _ _ _ _ _ _) | (refine Zs H ?_; clear H; (try clear w); intro w H) | (refine Zn H ?_; clear H; (try clear w); intro _ w H) | (refine Ze H ?_; clear H; (try clear w); intro gv w H))
  have hFs := Format_s (f := n) H (hR.mono hs2) (by omega) (by simp [DM.new])
  rw [hf0, show (run ((n : Int), 52) formatSteps (DM.new 60)).1 = fmtD n from rfl] at hFs
  refine X.call hFs ?_
  clear H hFs
  rintro _ w ⟨s3, v3, rfl, hs3, hR3, H⟩
  refine ⟨_, rfl, ?_⟩
  have hRc := hR3
  obtain ⟨b0, k0, b1, k1, lf2, b2, n3, k2, rfl⟩ := refCellsW hRc
  repeat' (first | refine Z H ?_ | (refine Zc ?_ ?_ <;> intro hc <;> first | (exfalso; omega) | skip) | (refine Y ?_; try change C _ _ _ _ _ _) | (refine Zs H ?_; clear H; (try clear w); intro w H) | (refine Zn H ?_; clear H; (try clear w); intro _ w H) | (refine Ze H ?_; clear H; (try clear w); intro gv w H))
  refine C.drawn1 [0, 0, 1, 0, 0, 0, 0, 3, 0] [0, 0, 0, 0, 8, 1, 35, 103, 255] (by kernel_rfl) ?_; replace H := H.drew
  repeat' (first | refine Z H ?_ | (refine Zc ?_ ?_ <;> intro hc <;> first | (exfalso; omega) | skip) | (refine Y ?_; try change C _ _ _ _ _ _) | (refine Zs H ?_; clear H; (try clear w); intro w H) | (refine Zn H ?_; clear H; (try clear w); intro _ w H) | (refine Ze H ?_; clear H; (try clear w); intro gv w H))
  exact ⟨_, resTTVT H rfl, s3, b, bp, _, rfl, (hs1.trans hs2).trans hs3, hp.mono hs3, hR3, H.arr⟩
end
end Go.Proofs.YtbknpbihgfphaaaDoor
