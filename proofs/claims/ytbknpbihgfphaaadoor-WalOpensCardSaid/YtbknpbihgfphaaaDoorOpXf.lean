/- WalOpens, walked. (printed by gen_xf.py) -/
import Derived.Test.YtbknpbihgfphaaaDoorOpXc
set_option linter.unusedSimpArgs false
set_option linter.unusedVariables false
namespace Go.Proofs.YtbknpbihgfphaaaDoor
open Go Go.RowKit Go.Own
def comF3 (a z : Nat) (cs act : List Value) (l : List Ch) (f : Nat) (r : DM × WL × Int) (lst : Value) (i : Nat) (p : Addr) : List FS := [
/-  0 -/ FS.v a [] (.agg cs.toArray),
/-  1 -/ FS.v (a + 1) [] lst,
/-  2 -/ FS.v (a + 2) [] (.int .i64 (i : Int)),
/-  3 -/ FS.v (a + 3) [1, 2] (.pointer (some p)),
/-  4 -/ FS.v (a + 4) [3] (.agg act.toArray),
/-  5 -/ FS.f (a + 5) [4] (ChV l) ChV.mono,
/-  6 -/ FS.f (a + 6) [0, 5] (TupC f r) TupC.mono,
/-  7 -/ FS.f (a - 1) [6] (TupC f r) TupC.mono,
/-  8 -/ FS.f (a + 7) [7] (AggC f r) AggC.mono,
/-  9 -/ FS.v (a + 8) [7] (.int .i64 r.2.2),
/- 10 -/ FS.new z 86 zlog16,
/- 11 -/ FS.put2 z (a + 7) 10 [10, 8] 86]
theorem RefW.of {s : Ro} {x0 x1 x2 x3 x4 : Value} {r : List Value} {d : DM} {f pn pc e h u : Nat} {pa : Option Addr} {dd : Bool} (k : RefW s (x0 :: x1 :: x2 :: x3 :: x4 :: r) d f pa pn pc e h u dd) : RefS s (.agg [x0, x1, x2, x3, x4].toArray) d := by
  obtain ⟨a0, c0, a1, c1, lf, a2, n2, c2, hcs, hD⟩ := k
  cases hcs
  exact hD
section
variable {s : Ro} {w : World} {R : List Asn}
set_option maxRecDepth 100000 in
set_option maxHeartbeats 1000000 in
theorem wopens_walk {acts more : List Act16} {sct : List UInt8} {at_ : Int} {va vm sa : Option Addr} {vc mc sc : Nat} (hN : Nib s) (H : Holds s w []) (hl : SlS s (.slice va acts.length vc) 6 acts.length (acts.flatMap Act16.cells)) (hok : ∀ a ∈ acts, a.Ok s) (hlm : SlS s (.slice vm more.length mc) 6 more.length (more.flatMap Act16.cells)) (hokm : ∀ a ∈ more, a.Ok s) (hls : SlS s (.slice sa sct.length sc) 1 sct.length (u8s sct)) (hat : I64 at_) : Calls Tryd.prog 9 #[.agg #[.slice va acts.length vc, .int .i64 at_, .slice sa sct.length sc, .slice vm more.length mc]] w fun e w' => e = .returned (.bool true) ∧ Fin s w' := by
  have hi3 := fmt_inv (f := 3) (by decide)
  obtain ⟨hop, hon⟩ := hi3.opens (by decide) (by decide)
  have hgd := goodf (f := 3) (by decide)
  have hpd := fmt_pend 3
  have hwf3 := hi3.len
  clear hi3
  refine enter Tryd.func9 rfl Tryd.ntmps9 rfl ?_
  repeat' (first | refine Z H ?_ | (refine Zc ?_ ?_ <;> intro hc <;> first | (exfalso; omega) | skip) | (refine Y ?_; try change C _ _ _ _ _ _) | (refine Zs H ?_; clear H; (try clear w); intro w H) | (refine Zn H ?_; clear H; (try clear w); (first | ((fail_if_success (have := bl1)); intro bl1 w H) | ((fail_if_success (have := bl2)); intro bl2 w H) | ((fail_if_success (have := bl3)); intro bl3 w H) | ((fail_if_success (have := bl4)); intro bl4 w H) | intro _ w H)) | (refine Ze H ?_; clear H; (try clear w); intro gv w H))
  refine C.drawn1 [0, 1, 0, 1, 0, 1, 0, 1, 0, 0, 0, 0] [0, 1, 0, 4, 0, 16, 0, 64, 3, 271, 831, 2047] (by kernel_rfl) ?_; replace H := H.drew
  repeat' (first | refine Z H ?_ | (refine Zc ?_ ?_ <;> intro hc <;> first | (exfalso; omega) | skip) | (refine Y ?_; try change C _ _ _ _ _ _) | (refine Zs H ?_; clear H; (try clear w); intro w H) | (refine Zn H ?_; clear H; (try clear w); (first | ((fail_if_success (have := bl1)); intro bl1 w H) | ((fail_if_success (have := bl2)); intro bl2 w H) | ((fail_if_success (have := bl3)); intro bl3 w H) | ((fail_if_success (have := bl4)); intro bl4 w H) | intro _ w H)) | (refine Ze H ?_; clear H; (try clear w); intro gv w H))
  refine X.call (part16_s (n := 3) hN H (by decide)) ?_
  clear H
  rintro _ w ⟨s1, b, bp, v, rfl, hs1, hp, hR, H⟩
  refine ⟨_, rfl, ?_⟩
  have hRc := hR
  obtain ⟨a0, c0, a1, c1, lf, a2, n2, c2, rfl⟩ := refCellsW hRc
  repeat' (first | refine Z H ?_ | (refine Zc ?_ ?_ <;> intro hc <;> first | (exfalso; omega) | skip) | (refine Y ?_; try change C _ _ _ _ _ _) | (refine Zs H ?_; clear H; (try clear w); intro w H) | (refine Zn H ?_; clear H; (try clear w); (first | ((fail_if_success (have := bl1)); intro bl1 w H) | ((fail_if_success (have := bl2)); intro bl2 w H) | ((fail_if_success (have := bl3)); intro bl3 w H) | ((fail_if_success (have := bl4)); intro bl4 w H) | intro _ w H)) | (refine Ze H ?_; clear H; (try clear w); intro gv w H))
  first | (have hT : Holds _ _ (dsk b _ :: _) := H; clear hT) | (replace H := H.up 1 rfl; (try simp only [List.set_cons_zero, List.set_cons_succ, List.eraseIdx_cons_zero, List.eraseIdx_cons_succ] at H); have hT : Holds _ _ (dsk b _ :: _) := H; clear hT) | (replace H := H.up 2 rfl; (try simp only [List.set_cons_zero, List.set_cons_succ, List.eraseIdx_cons_zero, List.eraseIdx_cons_succ] at H); have hT : Holds _ _ (dsk b _ :: _) := H; clear hT) | (replace H := H.up 3 rfl; (try simp only [List.set_cons_zero, List.set_cons_succ, List.eraseIdx_cons_zero, List.eraseIdx_cons_succ] at H); have hT : Holds _ _ (dsk b _ :: _) := H; clear hT) | (replace H := H.up 4 rfl; (try simp only [List.set_cons_zero, List.set_cons_succ, List.eraseIdx_cons_zero, List.eraseIdx_cons_succ] at H); have hT : Holds _ _ (dsk b _ :: _) := H; clear hT) | (replace H := H.up 5 rfl; (try simp only [List.set_cons_zero, List.set_cons_succ, List.eraseIdx_cons_zero, List.eraseIdx_cons_succ] at H); have hT : Holds _ _ (dsk b _ :: _) := H; clear hT) | (replace H := H.up 6 rfl; (try simp only [List.set_cons_zero, List.set_cons_succ, List.eraseIdx_cons_zero, List.eraseIdx_cons_succ] at H); have hT : Holds _ _ (dsk b _ :: _) := H; clear hT)
  refine X.call (Open_l (x := (((3 : Nat) : Int), 52)) (hN.mono hs1) H hp rfl hon) ?_
  clear H
  rintro _ w ⟨s2, hs2, hcase⟩
  obtain ⟨m, bL, ho, rfl, H⟩ := hcase.resolve_right (fun ⟨c, ho, _⟩ => by rw [hop] at ho; cases ho)
  clear hcase
  refine ⟨_, rfl, ?_⟩
  rw [hop] at ho
  cases ho
  have hwf : (fmtD 3).Wf := Holds.wf H.tail
  repeat' (first | refine Z H ?_ | (refine Zc ?_ ?_ <;> intro hc <;> first | (exfalso; omega) | skip) | (refine Y ?_; try change C _ _ _ _ _ _) | (refine Zs H ?_; clear H; (try clear w); intro w H) | (refine Zn H ?_; clear H; (try clear w); (first | ((fail_if_success (have := bl1)); intro bl1 w H) | ((fail_if_success (have := bl2)); intro bl2 w H) | ((fail_if_success (have := bl3)); intro bl3 w H) | ((fail_if_success (have := bl4)); intro bl4 w H) | intro _ w H)) | (refine Ze H ?_; clear H; (try clear w); intro gv w H))
  have hO := Open16_s (d := fmtD 3) (f := 3) H (hR.mono hs2) hgd.fr.off (by omega) (by omega) hwf (by omega)
  refine X.call hO ?_
  clear H hO
  rintro _ w ⟨s3, cs, code, rfl, hs3, H, hres⟩
  refine ⟨_, rfl, ?_⟩
  obtain ⟨m', pa, pc, ho', rfl, hRW, hmd, hSp⟩ := hres.resolve_left (fun ⟨h1, _, _⟩ => by rw [hop] at h1; cases h1)
  clear hres
  rw [hop] at ho'
  cases ho'
  generalize awM = m0 at *
  rw [hmd] at H
  have hRW0 := hRW
  obtain ⟨g0, q0, g1, q1, lfg, g2, ng2, q2, rfl, hD⟩ := hRW0
  repeat' (first | refine Z H ?_ | (refine Zc ?_ ?_ <;> intro hc <;> first | (exfalso; omega) | skip) | (refine Y ?_; try change C _ _ _ _ _ _) | (refine Zs H ?_; clear H; (try clear w); intro w H) | (refine Zn H ?_; clear H; (try clear w); (first | ((fail_if_success (have := bl1)); intro bl1 w H) | ((fail_if_success (have := bl2)); intro bl2 w H) | ((fail_if_success (have := bl3)); intro bl3 w H) | ((fail_if_success (have := bl4)); intro bl4 w H) | intro _ w H)) | (refine Ze H ?_; clear H; (try clear w); intro gv w H))
  generalize fmtD 3 = d0 at *
  clear hop hon hD hmd hwf hwf3 hRc hR
  have hle3 := hs1.trans (hs2.trans hs3)
  have H' : Holds s3 w (logW bL bp m0.epoch m0.home m0.used m0.pages false :: dsk b d0 :: var bl3 86 [.slice g0 d0.secs.length q0, .slice g1 d0.pend.length q1, .bool d0.off, .int .i64 lfg, .slice g2 ng2 q2, .int .i64 ((3 : Nat) : Int), .slice pa 16 pc, .int .u32 (m0.epoch : Int), .int .i64 (m0.home : Int), .int .i64 (m0.used : Int), .bool false] :: []) := H.arr
  clear H
  refine C.loopS [15, 16, 17, 56, 57, 58, 59, 60, 61, 62, 63, 64, 65, 66, 67, 68, 69, 70, 71, 72, 73, 74, 75, 76, 77, 78, 79, 80, 81, 82, 83] [15] rfl (fun k vs w => ∃ i : Nat, ∃ s' d m pa pc g0 q0 g1 q1 lfg g2 ng2 q2, k = acts.length - i ∧ i ≤ acts.length ∧ i ≤ 12 ∧ vs = [.int .i64 (i : Int)] ∧ s3.Le s' ∧ GoodW 3 d m ∧ d.pend.length ≤ 100 + 40 * i ∧ RefW s' [.slice g0 d.secs.length q0, .slice g1 d.pend.length q1, .bool d.off, .int .i64 lfg, .slice g2 ng2 q2, .int .i64 ((3 : Nat) : Int), .slice pa 16 pc, .int .u32 (m.epoch : Int), .int .i64 (m.home : Int), .int .i64 (m.used : Int), .bool false] d 3 pa 16 pc m.epoch m.home m.used false ∧ SlS s' (.slice pa 16 pc) 1 16 (strs (pgsOf m.pages)) ∧ Holds s' w (logW bL bp m.epoch m.home m.used m.pages false :: dsk b d :: var bl3 86 [.slice g0 d.secs.length q0, .slice g1 d.pend.length q1, .bool d.off, .int .i64 lfg, .slice g2 ng2 q2, .int .i64 ((3 : Nat) : Int), .slice pa 16 pc, .int .u32 (m.epoch : Int), .int .i64 (m.home : Int), .int .i64 (m.used : Int), .bool false] :: [])) acts.length ⟨0, s3, d0, m0, pa, pc, g0, q0, g1, q1, lfg, g2, ng2, q2, rfl, Nat.zero_le _, Nat.zero_le _, rfl, Ro.Le.refl _, hgd, by omega, hRW, hSp, H'⟩ ?_
  clear H' hgd hRW hSp hpd
  rintro k vs hv w ⟨i, s4, d, m, pa, pc, g0, q0, g1, q1, lfg, g2, ng2, q2, rfl, hi, hi12, rfl, hs4, hG, hdp, hRW, hSp, H⟩
  have hle4 := hle3.trans hs4
  have hlp4 := hs2.trans (hs3.trans hs4)
  by_cases hlt : i < acts.length ∧ i < 12
  · obtain ⟨hlt, hlt12⟩ := hlt
    obtain ⟨gb, ob, c3, e1, hm1, hm2, hp1⟩ := elemS (hl.mono hle4) (fun _ _ => rfl) (by decide) (by omega)
    cases e1
    have qp : ∀ j v, ([.int .i64 acts[i].do_, .int .i64 acts[i].n, .int .i64 acts[i].at_, .int .i64 acts[i].off, .int .u8 (acts[i].fill.toNat : Int), acts[i].keepv] : List Value)[j]? = some v → Pin s4 gb (ob + i * 6 + j) v := hp1 i hlt
    obtain ⟨hkeep, hkl, hn, ha⟩ := (hok acts[i] (List.getElem_mem _)).mono hle4
    generalize acts[i] = a at *
    obtain ⟨do_, an, at', off, fill, keepv, keep⟩ := a
    dsimp only at qp hkeep hkl hn ha
    obtain ⟨ka, kc, hkv, _⟩ := formS hkeep
    subst hkv
    obtain ⟨chs, hchs⟩ : ∃ chs, chsM an at' off fill = chs := ⟨_, rfl⟩
    have hcl : chs.length ≤ 18 := by rw [← hchs]; unfold chsM; rw [List.length_map, List.length_range]; exact Nat.min_le_right _ _
    have hG2 := hG.commit chs (by decide)
    have hP2 := commit_pend d (((3 : Nat) : Int), 52) m chs
    obtain ⟨r, hcm⟩ : ∃ r, commitM d (((3 : Nat) : Int), 52) m chs = r := ⟨_, rfl⟩
    rw [hcm] at hG2 hP2
    repeat' (first | refine Z H ?_ | (refine Zc ?_ ?_ <;> intro hc <;> first | (exfalso; omega) | skip) | (refine Y ?_; try change C _ _ _ _ _ _) | (refine Zs H ?_; clear H; (try clear w); intro w H) | (refine Zn H ?_; clear H; (try clear w); (first | ((fail_if_success (have := bl1)); intro bl1 w H) | ((fail_if_success (have := bl2)); intro bl2 w H) | ((fail_if_success (have := bl3)); intro bl3 w H) | ((fail_if_success (have := bl4)); intro bl4 w H) | intro _ w H)) | (refine Ze H ?_; clear H; (try clear w); intro gv w H))
    refine X.call (Changes_s (dx := do_) (N := an) (At := at') (off := off) (fill := fill) (kv := .slice ka keep.length kc) H hn ha rfl) ?_
    clear H
    rintro _ w ⟨s10, v10, cs10, rfl, hs10, hS10, hC10, H⟩
    refine ⟨_, rfl, ?_⟩
    rw [hchs] at hS10 hC10
    repeat' (first | refine Z H ?_ | (refine Zc ?_ ?_ <;> intro hc <;> first | (exfalso; omega) | skip) | (refine Y ?_; try change C _ _ _ _ _ _) | (refine Zs H ?_; clear H; (try clear w); intro w H) | (refine Zn H ?_; clear H; (try clear w); (first | ((fail_if_success (have := bl1)); intro bl1 w H) | ((fail_if_success (have := bl2)); intro bl2 w H) | ((fail_if_success (have := bl3)); intro bl3 w H) | ((fail_if_success (have := bl4)); intro bl4 w H) | intro _ w H)) | (refine Ze H ?_; clear H; (try clear w); intro gv w H))
    first | (have hT : Holds _ _ (dsk b _ :: _) := H; clear hT) | (replace H := H.up 1 rfl; (try simp only [List.set_cons_zero, List.set_cons_succ, List.eraseIdx_cons_zero, List.eraseIdx_cons_succ] at H); have hT : Holds _ _ (dsk b _ :: _) := H; clear hT) | (replace H := H.up 2 rfl; (try simp only [List.set_cons_zero, List.set_cons_succ, List.eraseIdx_cons_zero, List.eraseIdx_cons_succ] at H); have hT : Holds _ _ (dsk b _ :: _) := H; clear hT) | (replace H := H.up 3 rfl; (try simp only [List.set_cons_zero, List.set_cons_succ, List.eraseIdx_cons_zero, List.eraseIdx_cons_succ] at H); have hT : Holds _ _ (dsk b _ :: _) := H; clear hT) | (replace H := H.up 4 rfl; (try simp only [List.set_cons_zero, List.set_cons_succ, List.eraseIdx_cons_zero, List.eraseIdx_cons_succ] at H); have hT : Holds _ _ (dsk b _ :: _) := H; clear hT) | (replace H := H.up 5 rfl; (try simp only [List.set_cons_zero, List.set_cons_succ, List.eraseIdx_cons_zero, List.eraseIdx_cons_succ] at H); have hT : Holds _ _ (dsk b _ :: _) := H; clear hT) | (replace H := H.up 6 rfl; (try simp only [List.set_cons_zero, List.set_cons_succ, List.eraseIdx_cons_zero, List.eraseIdx_cons_succ] at H); have hT : Holds _ _ (dsk b _ :: _) := H; clear hT)
    first | (have hT : Holds _ _ (logW bL _ _ _ _ _ _ :: _) := H; clear hT) | (replace H := H.up 1 rfl; (try simp only [List.set_cons_zero, List.set_cons_succ, List.eraseIdx_cons_zero, List.eraseIdx_cons_succ] at H); have hT : Holds _ _ (logW bL _ _ _ _ _ _ :: _) := H; clear hT) | (replace H := H.up 2 rfl; (try simp only [List.set_cons_zero, List.set_cons_succ, List.eraseIdx_cons_zero, List.eraseIdx_cons_succ] at H); have hT : Holds _ _ (logW bL _ _ _ _ _ _ :: _) := H; clear hT) | (replace H := H.up 3 rfl; (try simp only [List.set_cons_zero, List.set_cons_succ, List.eraseIdx_cons_zero, List.eraseIdx_cons_succ] at H); have hT : Holds _ _ (logW bL _ _ _ _ _ _ :: _) := H; clear hT) | (replace H := H.up 4 rfl; (try simp only [List.set_cons_zero, List.set_cons_succ, List.eraseIdx_cons_zero, List.eraseIdx_cons_succ] at H); have hT : Holds _ _ (logW bL _ _ _ _ _ _ :: _) := H; clear hT) | (replace H := H.up 5 rfl; (try simp only [List.set_cons_zero, List.set_cons_succ, List.eraseIdx_cons_zero, List.eraseIdx_cons_succ] at H); have hT : Holds _ _ (logW bL _ _ _ _ _ _ :: _) := H; clear hT) | (replace H := H.up 6 rfl; (try simp only [List.set_cons_zero, List.set_cons_succ, List.eraseIdx_cons_zero, List.eraseIdx_cons_succ] at H); have hT : Holds _ _ (logW bL _ _ _ _ _ _ :: _) := H; clear hT)
    have hCm := Commit_l (m := m) (x := (((3 : Nat) : Int), 52)) (hN.mono (hle4.trans hs10)) (by rw [hG.dead]; exact H) (hp.mono (hlp4.trans hs10)) hG.ep hG.home hG.used hG.pages hS10 hC10 (by omega) (by omega)
    rw [hcm] at hCm
    (refine X.call (hCm) ?_; (try clear H); rintro _ w ⟨rfl, H⟩; refine ⟨_, rfl, ?_⟩)
    clear hCm
    replace hRW := hRW.mono hs10
    replace hSp := hSp.mono hs10
    replace qp := fun j v h => (qp j v h).mono hs10
    repeat' (first | refine Z H ?_ | (refine Zc ?_ ?_ <;> intro hc <;> first | (exfalso; omega) | skip) | (refine Y ?_; try change C _ _ _ _ _ _) | (refine Zs H ?_; clear H; (try clear w); intro w H) | (refine Zn H ?_; clear H; (try clear w); (first | ((fail_if_success (have := bl1)); intro bl1 w H) | ((fail_if_success (have := bl2)); intro bl2 w H) | ((fail_if_success (have := bl3)); intro bl3 w H) | ((fail_if_success (have := bl4)); intro bl4 w H) | intro _ w H)) | (refine Ze H ?_; clear H; (try clear w); intro gv w H))
    have H' : Holds s10 w (logW bL bp r.2.1.epoch r.2.1.home r.2.1.used r.2.1.pages r.2.1.dead :: dsk b r.1 :: var bl3 86 [.slice g0 d.secs.length q0, .slice g1 d.pend.length q1, .bool d.off, .int .i64 lfg, .slice g2 ng2 q2, .int .i64 ((3 : Nat) : Int), .slice pa 16 pc, .int .u32 (m.epoch : Int), .int .i64 (m.home : Int), .int .i64 (m.used : Int), .bool false] :: []) := H.arr
    clear H
    refine C.flow (comF3 74 16 [.slice g0 d.secs.length q0, .slice g1 d.pend.length q1, .bool d.off, .int .i64 lfg, .slice g2 ng2 q2, .int .i64 ((3 : Nat) : Int), .slice pa 16 pc, .int .u32 (m.epoch : Int), .int .i64 (m.home : Int), .int .i64 (m.used : Int), .bool false] [.int .i64 do_, .int .i64 an, .int .i64 at', .int .i64 off, .int .u8 (fill.toNat : Int), .slice ka keep.length kc] chs 3 r (.slice (some ⟨gb, ob, none⟩) acts.length vc) i ⟨gb, ob + i * 6, none⟩) [8, 9, 11] [0, 1, 2, 3, 4, 5, 6, 7, 8, 9, 11] H' (by kernel_rfl) rfl rfl ?_ ?_
    clear H'
    · repeat' (first | exact StepsF.nil | refine StepsF.cons ?_ ?_)
      · intro s1 h w E hs1; (conv => whnf); intro H; replace H : Holds s1 w (logW bL bp r.2.1.epoch r.2.1.home r.2.1.used r.2.1.pages r.2.1.dead :: dsk b r.1 :: var bl3 86 [.slice g0 d.secs.length q0, .slice g1 d.pend.length q1, .bool d.off, .int .i64 lfg, .slice g2 ng2 q2, .int .i64 ((3 : Nat) : Int), .slice pa 16 pc, .int .u32 (m.epoch : Int), .int .i64 (m.home : Int), .int .i64 (m.used : Int), .bool false] :: ([] ++ E)) := H
        repeat' (first | refine Z H ?_ | (refine Zc ?_ ?_ <;> intro hc <;> first | (exfalso; omega) | skip) | (refine Y ?_; try change C _ _ _ _ _ _) | (refine Zs H ?_; clear H; (try clear w); intro w H) | (refine Zn H ?_; clear H; (try clear w); (first | ((fail_if_success (have := bl1)); intro bl1 w H) | ((fail_if_success (have := bl2)); intro bl2 w H) | ((fail_if_success (have := bl3)); intro bl3 w H) | ((fail_if_success (have := bl4)); intro bl4 w H) | intro _ w H)) | (refine Ze H ?_; clear H; (try clear w); intro gv w H))
        exact ⟨rfl, by (repeat (first | exact Agr.refl | exact Agr.hav | refine Agr.upd rfl ?_ | refine Agr.in rfl ?_)), s1, Ro.Le.refl _, rfl, H⟩
      · intro s1 h w E hs1; (conv => whnf); intro H; replace H : Holds s1 w (logW bL bp r.2.1.epoch r.2.1.home r.2.1.used r.2.1.pages r.2.1.dead :: dsk b r.1 :: var bl3 86 [.slice g0 d.secs.length q0, .slice g1 d.pend.length q1, .bool d.off, .int .i64 lfg, .slice g2 ng2 q2, .int .i64 ((3 : Nat) : Int), .slice pa 16 pc, .int .u32 (m.epoch : Int), .int .i64 (m.home : Int), .int .i64 (m.used : Int), .bool false] :: ([] ++ E)) := H
        repeat' (first | refine Z H ?_ | (refine Zc ?_ ?_ <;> intro hc <;> first | (exfalso; omega) | skip) | (refine Y ?_; try change C _ _ _ _ _ _) | (refine Zs H ?_; clear H; (try clear w); intro w H) | (refine Zn H ?_; clear H; (try clear w); (first | ((fail_if_success (have := bl1)); intro bl1 w H) | ((fail_if_success (have := bl2)); intro bl2 w H) | ((fail_if_success (have := bl3)); intro bl3 w H) | ((fail_if_success (have := bl4)); intro bl4 w H) | intro _ w H)) | (refine Ze H ?_; clear H; (try clear w); intro gv w H))
        exact ⟨rfl, by (repeat (first | exact Agr.refl | exact Agr.hav | refine Agr.upd rfl ?_ | refine Agr.in rfl ?_)), s1, Ro.Le.refl _, rfl, H⟩
      · intro s1 h w E hs1; (conv => whnf); intro H; replace H : Holds s1 w (logW bL bp r.2.1.epoch r.2.1.home r.2.1.used r.2.1.pages r.2.1.dead :: dsk b r.1 :: var bl3 86 [.slice g0 d.secs.length q0, .slice g1 d.pend.length q1, .bool d.off, .int .i64 lfg, .slice g2 ng2 q2, .int .i64 ((3 : Nat) : Int), .slice pa 16 pc, .int .u32 (m.epoch : Int), .int .i64 (m.home : Int), .int .i64 (m.used : Int), .bool false] :: ([] ++ E)) := H
        repeat' (first | refine Z H ?_ | (refine Zc ?_ ?_ <;> intro hc <;> first | (exfalso; omega) | skip) | (refine Y ?_; try change C _ _ _ _ _ _) | (refine Zs H ?_; clear H; (try clear w); intro w H) | (refine Zn H ?_; clear H; (try clear w); (first | ((fail_if_success (have := bl1)); intro bl1 w H) | ((fail_if_success (have := bl2)); intro bl2 w H) | ((fail_if_success (have := bl3)); intro bl3 w H) | ((fail_if_success (have := bl4)); intro bl4 w H) | intro _ w H)) | (refine Ze H ?_; clear H; (try clear w); intro gv w H))
        exact ⟨rfl, by (repeat (first | exact Agr.refl | exact Agr.hav | refine Agr.upd rfl ?_ | refine Agr.in rfl ?_)), s1, Ro.Le.refl _, rfl, H⟩
      · intro s1 h w E hs1; (conv => whnf); rintro _ rfl; (conv => whnf); rintro _ rfl; (conv => whnf); intro H; replace H : Holds s1 w (logW bL bp r.2.1.epoch r.2.1.home r.2.1.used r.2.1.pages r.2.1.dead :: dsk b r.1 :: var bl3 86 [.slice g0 d.secs.length q0, .slice g1 d.pend.length q1, .bool d.off, .int .i64 lfg, .slice g2 ng2 q2, .int .i64 ((3 : Nat) : Int), .slice pa 16 pc, .int .u32 (m.epoch : Int), .int .i64 (m.home : Int), .int .i64 (m.used : Int), .bool false] :: ([] ++ E)) := H
        repeat' (first | (refine K.ia (i := i) rfl rfl rfl rfl rfl (by omega) ?_) | refine Z H ?_ | (refine Zc ?_ ?_ <;> intro hc <;> first | (exfalso; omega) | skip) | (refine Y ?_; try change C _ _ _ _ _ _) | (refine Zs H ?_; clear H; (try clear w); intro w H) | (refine Zn H ?_; clear H; (try clear w); (first | ((fail_if_success (have := bl1)); intro bl1 w H) | ((fail_if_success (have := bl2)); intro bl2 w H) | ((fail_if_success (have := bl3)); intro bl3 w H) | ((fail_if_success (have := bl4)); intro bl4 w H) | intro _ w H)) | (refine Ze H ?_; clear H; (try clear w); intro gv w H))
        exact ⟨rfl, by (repeat (first | exact Agr.refl | exact Agr.hav | refine Agr.upd rfl ?_ | refine Agr.in rfl ?_)), s1, Ro.Le.refl _, rfl, H⟩
      · intro s1 h w E hs1; (conv => whnf); rintro _ rfl; (conv => whnf); intro H; replace H : Holds s1 w (logW bL bp r.2.1.epoch r.2.1.home r.2.1.used r.2.1.pages r.2.1.dead :: dsk b r.1 :: var bl3 86 [.slice g0 d.secs.length q0, .slice g1 d.pend.length q1, .bool d.off, .int .i64 lfg, .slice g2 ng2 q2, .int .i64 ((3 : Nat) : Int), .slice pa 16 pc, .int .u32 (m.epoch : Int), .int .i64 (m.home : Int), .int .i64 (m.used : Int), .bool false] :: ([] ++ E)) := H
        have qr := fun j v h => (qp j v h).mono hs1
        repeat' (first | refine Z H ?_ | (refine Zc ?_ ?_ <;> intro hc <;> first | (exfalso; omega) | skip) | (refine Y ?_; try change C _ _ _ _ _ _) | (refine Zs H ?_; clear H; (try clear w); intro w H) | (refine Zn H ?_; clear H; (try clear w); (first | ((fail_if_success (have := bl1)); intro bl1 w H) | ((fail_if_success (have := bl2)); intro bl2 w H) | ((fail_if_success (have := bl3)); intro bl3 w H) | ((fail_if_success (have := bl4)); intro bl4 w H) | intro _ w H)) | (refine Ze H ?_; clear H; (try clear w); intro gv w H))
        exact ⟨rfl, by (repeat (first | exact Agr.refl | exact Agr.hav | refine Agr.upd rfl ?_ | refine Agr.in rfl ?_)), s1, Ro.Le.refl _, rfl, H⟩
      · intro s1 h w E hs1; (conv => whnf); rintro _ rfl; (conv => whnf); intro H; replace H : Holds s1 w (logW bL bp r.2.1.epoch r.2.1.home r.2.1.used r.2.1.pages r.2.1.dead :: dsk b r.1 :: var bl3 86 [.slice g0 d.secs.length q0, .slice g1 d.pend.length q1, .bool d.off, .int .i64 lfg, .slice g2 ng2 q2, .int .i64 ((3 : Nat) : Int), .slice pa 16 pc, .int .u32 (m.epoch : Int), .int .i64 (m.home : Int), .int .i64 (m.used : Int), .bool false] :: ([] ++ E)) := H
        refine X.call (Changes_s (dx := do_) (N := an) (At := at') (off := off) (fill := fill) (kv := .slice ka keep.length kc) H hn ha rfl) ?_
        clear H
        rintro _ w ⟨s9, v9, cs9, rfl, hs9, hS9, hC9, H⟩
        refine ⟨_, rfl, ?_⟩
        rw [hchs] at hS9 hC9
        repeat' (first | refine Z H ?_ | (refine Zc ?_ ?_ <;> intro hc <;> first | (exfalso; omega) | skip) | (refine Y ?_; try change C _ _ _ _ _ _) | (refine Zs H ?_; clear H; (try clear w); intro w H) | (refine Zn H ?_; clear H; (try clear w); (first | ((fail_if_success (have := bl1)); intro bl1 w H) | ((fail_if_success (have := bl2)); intro bl2 w H) | ((fail_if_success (have := bl3)); intro bl3 w H) | ((fail_if_success (have := bl4)); intro bl4 w H) | intro _ w H)) | (refine Ze H ?_; clear H; (try clear w); intro gv w H))
        exact ⟨rfl, by (repeat (first | exact Agr.refl | exact Agr.hav | refine Agr.upd rfl ?_ | refine Agr.in rfl ?_)), s9, hs9, ⟨cs9, hS9, hC9⟩, H⟩
      · intro s1 h w E hs1; (conv => whnf); rintro _ rfl; (conv => whnf); rintro v9 ⟨cs9, hS9, hC9⟩; (conv => whnf); intro H; replace H : Holds s1 w (logW bL bp r.2.1.epoch r.2.1.home r.2.1.used r.2.1.pages r.2.1.dead :: dsk b r.1 :: var bl3 86 [.slice g0 d.secs.length q0, .slice g1 d.pend.length q1, .bool d.off, .int .i64 lfg, .slice g2 ng2 q2, .int .i64 ((3 : Nat) : Int), .slice pa 16 pc, .int .u32 (m.epoch : Int), .int .i64 (m.home : Int), .int .i64 (m.used : Int), .bool false] :: ([] ++ E)) := H
        have hCm := Commit16_s (m := m) (f := 3) (l := chs) H (by rw [hG.dead]; exact hRW.mono hs1) (hSp.mono hs1) hG.ep hG.home hG.used hG.pages hS9 hC9 (by omega) (by decide) (by omega)
        rw [hcm] at hCm
        refine X.call hCm ?_
        clear H hCm
        rintro _ w ⟨s9, cs', pa', pc', rfl, hs9, hR9, hS9', H⟩
        refine ⟨_, rfl, ?_⟩
        repeat' (first | refine Z H ?_ | (refine Zc ?_ ?_ <;> intro hc <;> first | (exfalso; omega) | skip) | (refine Y ?_; try change C _ _ _ _ _ _) | (refine Zs H ?_; clear H; (try clear w); intro w H) | (refine Zn H ?_; clear H; (try clear w); (first | ((fail_if_success (have := bl1)); intro bl1 w H) | ((fail_if_success (have := bl2)); intro bl2 w H) | ((fail_if_success (have := bl3)); intro bl3 w H) | ((fail_if_success (have := bl4)); intro bl4 w H) | intro _ w H)) | (refine Ze H ?_; clear H; (try clear w); intro gv w H))
        exact ⟨rfl, by (repeat (first | exact Agr.refl | exact Agr.hav | refine Agr.upd rfl ?_ | refine Agr.in rfl ?_)), s9, hs9, ⟨cs', rfl, pa', pc', hR9, hS9'⟩, H⟩
      · intro s1 h w E hs1; (conv => whnf); rintro _ ⟨cs9, rfl, hG9⟩; (conv => whnf); intro H; replace H : Holds s1 w (logW bL bp r.2.1.epoch r.2.1.home r.2.1.used r.2.1.pages r.2.1.dead :: dsk b r.1 :: var bl3 86 [.slice g0 d.secs.length q0, .slice g1 d.pend.length q1, .bool d.off, .int .i64 lfg, .slice g2 ng2 q2, .int .i64 ((3 : Nat) : Int), .slice pa 16 pc, .int .u32 (m.epoch : Int), .int .i64 (m.home : Int), .int .i64 (m.used : Int), .bool false] :: ([] ++ E)) := H
        repeat' (first | refine Z H ?_ | (refine Zc ?_ ?_ <;> intro hc <;> first | (exfalso; omega) | skip) | (refine Y ?_; try change C _ _ _ _ _ _) | (refine Zs H ?_; clear H; (try clear w); intro w H) | (refine Zn H ?_; clear H; (try clear w); (first | ((fail_if_success (have := bl1)); intro bl1 w H) | ((fail_if_success (have := bl2)); intro bl2 w H) | ((fail_if_success (have := bl3)); intro bl3 w H) | ((fail_if_success (have := bl4)); intro bl4 w H) | intro _ w H)) | (refine Ze H ?_; clear H; (try clear w); intro gv w H))
        exact ⟨rfl, by (repeat (first | exact Agr.refl | exact Agr.hav | refine Agr.upd rfl ?_ | refine Agr.in rfl ?_)), s1, Ro.Le.refl _, ⟨cs9, rfl, hG9⟩, H⟩
      · intro s1 h w E hs1; (conv => whnf); rintro _ ⟨cs9, rfl, hG9⟩; (conv => whnf); intro H; replace H : Holds s1 w (logW bL bp r.2.1.epoch r.2.1.home r.2.1.used r.2.1.pages r.2.1.dead :: dsk b r.1 :: var bl3 86 [.slice g0 d.secs.length q0, .slice g1 d.pend.length q1, .bool d.off, .int .i64 lfg, .slice g2 ng2 q2, .int .i64 ((3 : Nat) : Int), .slice pa 16 pc, .int .u32 (m.epoch : Int), .int .i64 (m.home : Int), .int .i64 (m.used : Int), .bool false] :: ([] ++ E)) := H
        repeat' (first | refine Z H ?_ | (refine Zc ?_ ?_ <;> intro hc <;> first | (exfalso; omega) | skip) | (refine Y ?_; try change C _ _ _ _ _ _) | (refine Zs H ?_; clear H; (try clear w); intro w H) | (refine Zn H ?_; clear H; (try clear w); (first | ((fail_if_success (have := bl1)); intro bl1 w H) | ((fail_if_success (have := bl2)); intro bl2 w H) | ((fail_if_success (have := bl3)); intro bl3 w H) | ((fail_if_success (have := bl4)); intro bl4 w H) | intro _ w H)) | (refine Ze H ?_; clear H; (try clear w); intro gv w H))
        exact ⟨rfl, by (repeat (first | exact Agr.refl | exact Agr.hav | refine Agr.upd rfl ?_ | refine Agr.in rfl ?_)), s1, Ro.Le.refl _, ⟨cs9, rfl, hG9⟩, H⟩
      · intro s1 h w E hs1; (conv => whnf); rintro _ ⟨cs9, rfl, hG9⟩; (conv => whnf); intro H; replace H : Holds s1 w (logW bL bp r.2.1.epoch r.2.1.home r.2.1.used r.2.1.pages r.2.1.dead :: dsk b r.1 :: var bl3 86 [.slice g0 d.secs.length q0, .slice g1 d.pend.length q1, .bool d.off, .int .i64 lfg, .slice g2 ng2 q2, .int .i64 ((3 : Nat) : Int), .slice pa 16 pc, .int .u32 (m.epoch : Int), .int .i64 (m.home : Int), .int .i64 (m.used : Int), .bool false] :: ([] ++ E)) := H
        repeat' (first | refine Z H ?_ | (refine Zc ?_ ?_ <;> intro hc <;> first | (exfalso; omega) | skip) | (refine Y ?_; try change C _ _ _ _ _ _) | (refine Zs H ?_; clear H; (try clear w); intro w H) | (refine Zn H ?_; clear H; (try clear w); (first | ((fail_if_success (have := bl1)); intro bl1 w H) | ((fail_if_success (have := bl2)); intro bl2 w H) | ((fail_if_success (have := bl3)); intro bl3 w H) | ((fail_if_success (have := bl4)); intro bl4 w H) | intro _ w H)) | (refine Ze H ?_; clear H; (try clear w); intro gv w H))
        exact ⟨rfl, by (repeat (first | exact Agr.refl | exact Agr.hav | refine Agr.upd rfl ?_ | refine Agr.in rfl ?_)), s1, Ro.Le.refl _, rfl, H⟩
      · intro s1 h w E hs1; (conv => whnf); intro H; replace H : Holds s1 w (logW bL bp r.2.1.epoch r.2.1.home r.2.1.used r.2.1.pages r.2.1.dead :: dsk b r.1 :: var bl3 86 [.slice g0 d.secs.length q0, .slice g1 d.pend.length q1, .bool d.off, .int .i64 lfg, .slice g2 ng2 q2, .int .i64 ((3 : Nat) : Int), .slice pa 16 pc, .int .u32 (m.epoch : Int), .int .i64 (m.home : Int), .int .i64 (m.used : Int), .bool false] :: ([] ++ E)) := H
        repeat' (first | refine Z H ?_ | (refine Zc ?_ ?_ <;> intro hc <;> first | (exfalso; omega) | skip) | (refine Y ?_; try change C _ _ _ _ _ _) | (refine Zs H ?_; clear H; (try clear w); intro w H) | (refine Zn H ?_; clear H; (try clear w); (first | ((fail_if_success (have := bl1)); intro bl1 w H) | ((fail_if_success (have := bl2)); intro bl2 w H) | ((fail_if_success (have := bl3)); intro bl3 w H) | ((fail_if_success (have := bl4)); intro bl4 w H) | intro _ w H)) | (refine Ze H ?_; clear H; (try clear w); intro gv w H))
        exact ⟨rfl, by (repeat (first | exact Agr.refl | exact Agr.hav | refine Agr.upd rfl ?_ | refine Agr.in rfl ?_)), s1, Ro.Le.refl _, ⟨_, rfl⟩, H⟩
      · intro s1 h w E hs1; (conv => whnf)
        rintro _ ⟨b4, rfl⟩; (conv => whnf)
        rintro v1 ⟨cs9, rfl, hG9⟩; (conv => whnf)
        obtain ⟨x0, m0, y0, x1, m1, y1, bo, li, x2, m2, y2, gf, xa, xn, xc, xe, xh, xu, xd, rfl⟩ := hG9.cells
        intro H
        replace H : Holds s1 w (var b4 86 zlog16 :: logW bL bp r.2.1.epoch r.2.1.home r.2.1.used r.2.1.pages r.2.1.dead :: dsk b r.1 :: var bl3 86 [.slice g0 d.secs.length q0, .slice g1 d.pend.length q1, .bool d.off, .int .i64 lfg, .slice g2 ng2 q2, .int .i64 ((3 : Nat) : Int), .slice pa 16 pc, .int .u32 (m.epoch : Int), .int .i64 (m.home : Int), .int .i64 (m.used : Int), .bool false] :: ([] ++ E)) := H
        repeat' (first | refine Z H ?_ | (refine Zc ?_ ?_ <;> intro hc <;> first | (exfalso; omega) | skip) | (refine Y ?_; try change C _ _ _ _ _ _) | (refine Zs H ?_; clear H; (try clear w); intro w H) | (refine Zn H ?_; clear H; (try clear w); (first | ((fail_if_success (have := bl1)); intro bl1 w H) | ((fail_if_success (have := bl2)); intro bl2 w H) | ((fail_if_success (have := bl3)); intro bl3 w H) | ((fail_if_success (have := bl4)); intro bl4 w H) | intro _ w H)) | (refine Ze H ?_; clear H; (try clear w); intro gv w H))
        exact ⟨rfl, by (repeat (first | exact Agr.refl | exact Agr.hav | refine Agr.upd rfl ?_ | refine Agr.in rfl ?_)), s1, Ro.Le.refl _, ⟨b4, rfl⟩, H⟩
    · intro s9 h w hs9; (conv => whnf)
      rintro v1 ⟨cs9, rfl, hG9⟩; (conv => whnf)
      rintro _ rfl; (conv => whnf)
      rintro _ ⟨br, rfl⟩; (conv => whnf)
      intro H
      replace H : Holds s9 w (var br 86 cs9 :: logW bL bp r.2.1.epoch r.2.1.home r.2.1.used r.2.1.pages r.2.1.dead :: dsk b r.1 :: var bl3 86 [.slice g0 d.secs.length q0, .slice g1 d.pend.length q1, .bool d.off, .int .i64 lfg, .slice g2 ng2 q2, .int .i64 ((3 : Nat) : Int), .slice pa 16 pc, .int .u32 (m.epoch : Int), .int .i64 (m.home : Int), .int .i64 (m.used : Int), .bool false] :: []) := H
      change L _ _ _ _ [_] _ _
      repeat' (first | refine Z H ?_ | (refine Zc ?_ ?_ <;> intro hc <;> first | (exfalso; omega) | skip) | (refine Y ?_; try change C _ _ _ _ _ _) | (refine Zs H ?_; clear H; (try clear w); intro w H) | (refine Zn H ?_; clear H; (try clear w); (first | ((fail_if_success (have := bl1)); intro bl1 w H) | ((fail_if_success (have := bl2)); intro bl2 w H) | ((fail_if_success (have := bl3)); intro bl3 w H) | ((fail_if_success (have := bl4)); intro bl4 w H) | intro _ w H)) | (refine Ze H ?_; clear H; (try clear w); intro gv w H))
      refine ⟨rfl, ?_⟩
      change C _ _ _ _ _ _
      obtain ⟨pa2, pc2, hR2, hS2⟩ := hG9
      obtain ⟨r0, r1, r2⟩ := r
      dsimp only at hG2 hP2 hR2 hS2 H ⊢
      rw [hG2.dead] at hR2
      have hRc := hR2
      obtain ⟨h0, k0, h1, k1, lfh, h2, nh2, k2, rfl, hD2⟩ := hRc
      repeat' (first | refine Z H ?_ | (refine Zc ?_ ?_ <;> intro hc <;> first | (exfalso; omega) | skip) | (refine Y ?_; try change C _ _ _ _ _ _) | (refine Zs H ?_; clear H; (try clear w); intro w H) | (refine Zn H ?_; clear H; (try clear w); (first | ((fail_if_success (have := bl1)); intro bl1 w H) | ((fail_if_success (have := bl2)); intro bl2 w H) | ((fail_if_success (have := bl3)); intro bl3 w H) | ((fail_if_success (have := bl4)); intro bl4 w H) | intro _ w H)) | (refine Ze H ?_; clear H; (try clear w); intro gv w H))
      exact ⟨by (repeat (first | exact Agr.refl | exact Agr.hav | refine Agr.upd rfl ?_ | refine Agr.in rfl ?_)), acts.length - (i + 1), by omega, i + 1, s9, r0, r1, pa2, pc2, h0, k0, h1, k1, lfh, h2, nh2, k2, rfl, by omega, by omega, rfl, hs4.trans (hs10.trans hs9), hG2, by omega, hR2, hS2, by rw [hG2.dead] at H; exact H.arr⟩
  · have hls4 := hls.mono hle4
    have hfl := forgeB_len sct
    repeat' (first | refine Z H ?_ | (refine Zc ?_ ?_ <;> intro hc <;> first | (exfalso; omega) | skip) | (refine Y ?_; try change C _ _ _ _ _ _) | (refine Zs H ?_; clear H; (try clear w); intro w H) | (refine Zn H ?_; clear H; (try clear w); (first | ((fail_if_success (have := bl1)); intro bl1 w H) | ((fail_if_success (have := bl2)); intro bl2 w H) | ((fail_if_success (have := bl3)); intro bl3 w H) | ((fail_if_success (have := bl4)); intro bl4 w H) | intro _ w H)) | (refine Ze H ?_; clear H; (try clear w); intro gv w H))
    all_goals
      refine K.make (k := 64) (m := 64) H rfl rfl rfl rfl rfl (by decide) (by decide) (by decide) ?_
      clear H
      intro g5 w H
      rw [rep_flat] at H
      repeat' (first | refine Z H ?_ | (refine Zc ?_ ?_ <;> intro hc <;> first | (exfalso; omega) | skip) | (refine Y ?_; try change C _ _ _ _ _ _) | (refine Zs H ?_; clear H; (try clear w); intro w H) | (refine Zn H ?_; clear H; (try clear w); (first | ((fail_if_success (have := bl1)); intro bl1 w H) | ((fail_if_success (have := bl2)); intro bl2 w H) | ((fail_if_success (have := bl3)); intro bl3 w H) | ((fail_if_success (have := bl4)); intro bl4 w H) | intro _ w H)) | (refine Ze H ?_; clear H; (try clear w); intro gv w H))
      refine K.copyR (off := 0) (dl := 64) (q := Nat.min sct.length 64) 0 H rfl (.ro hls4) (u8s_one _) rfl (by omega) rfl rfl rfl ?_
      clear H
      intro w H
      rw [List.set_cons_zero] at H
      have hfb : (List.replicate 64 (Value.int .u8 0)).take 0 ++ ((u8s sct).take 64 ++ (List.replicate 64 (Value.int .u8 0)).drop (0 + Nat.min sct.length 64)) = u8s (forgeB sct) := by
        have hm : 64 - Nat.min sct.length 64 = 64 - sct.length := by
          have : Nat.min sct.length 64 = min sct.length 64 := rfl
          rw [this]; omega
        unfold forgeB
        rw [List.take_zero, List.nil_append, List.drop_replicate, u8s_app, u8s_zero, Nat.zero_add, hm]
        unfold u8s
        rw [List.map_take]
      rw [hfb] at H
      repeat' (first | ((fail_if_success (with_reducible show C _ _ _ (Code.seq (Code.seq (Code.region 17 _ _) _) _) _ _)); refine Z H ?_) | (refine Zc ?_ ?_ <;> intro hc <;> first | (exfalso; omega) | skip) | (refine Y ?_; try change C _ _ _ _ _ _) | (refine Zs H ?_; clear H; (try clear w); intro w H) | (refine Zn H ?_; clear H; (try clear w); (first | ((fail_if_success (have := bl1)); intro bl1 w H) | ((fail_if_success (have := bl2)); intro bl2 w H) | ((fail_if_success (have := bl3)); intro bl3 w H) | ((fail_if_success (have := bl4)); intro bl4 w H) | intro _ w H)) | (refine Ze H ?_; clear H; (try clear w); intro gv w H))
      refine C.cut [19, 20, 88, 89, 90, 91, 92, 93, 94, 95, 96, 97, 98, 99, 100, 101, 102, 103, 104] [] rfl (fun vs w => ∃ s5 d1 g0 q0 g1 q1 lfg g2 ng2 q2, s4.Le s5 ∧ GoodW 3 d1 m ∧ d1.pend.length ≤ 700 ∧ RefW s5 [.slice g0 d1.secs.length q0, .slice g1 d1.pend.length q1, .bool d1.off, .int .i64 lfg, .slice g2 ng2 q2, .int .i64 ((3 : Nat) : Int), .slice pa 16 pc, .int .u32 (m.epoch : Int), .int .i64 (m.home : Int), .int .i64 (m.used : Int), .bool false] d1 3 pa 16 pc m.epoch m.home m.used false ∧ Holds s5 w (logW bL bp m.epoch m.home m.used m.pages false :: dsk b d1 :: var bl3 86 [.slice g0 d1.secs.length q0, .slice g1 d1.pend.length q1, .bool d1.off, .int .i64 lfg, .slice g2 ng2 q2, .int .i64 ((3 : Nat) : Int), .slice pa 16 pc, .int .u32 (m.epoch : Int), .int .i64 (m.home : Int), .int .i64 (m.used : Int), .bool false] :: [])) ?_ ?_
      · repeat' (first | refine Z H ?_ | (refine Zc ?_ ?_ <;> intro hc <;> first | (exfalso; omega) | skip) | (refine Y ?_; try change C _ _ _ _ _ _) | (refine Zs H ?_; clear H; (try clear w); intro w H) | (refine Zn H ?_; clear H; (try clear w); (first | ((fail_if_success (have := bl1)); intro bl1 w H) | ((fail_if_success (have := bl2)); intro bl2 w H) | ((fail_if_success (have := bl3)); intro bl3 w H) | ((fail_if_success (have := bl4)); intro bl4 w H) | intro _ w H)) | (refine Ze H ?_; clear H; (try clear w); intro gv w H))
        first | (have hT : Holds _ _ (dsk b _ :: _) := H; clear hT) | (replace H := H.up 1 rfl; (try simp only [List.set_cons_zero, List.set_cons_succ, List.eraseIdx_cons_zero, List.eraseIdx_cons_succ] at H); have hT : Holds _ _ (dsk b _ :: _) := H; clear hT) | (replace H := H.up 2 rfl; (try simp only [List.set_cons_zero, List.set_cons_succ, List.eraseIdx_cons_zero, List.eraseIdx_cons_succ] at H); have hT : Holds _ _ (dsk b _ :: _) := H; clear hT) | (replace H := H.up 3 rfl; (try simp only [List.set_cons_zero, List.set_cons_succ, List.eraseIdx_cons_zero, List.eraseIdx_cons_succ] at H); have hT : Holds _ _ (dsk b _ :: _) := H; clear hT) | (replace H := H.up 4 rfl; (try simp only [List.set_cons_zero, List.set_cons_succ, List.eraseIdx_cons_zero, List.eraseIdx_cons_succ] at H); have hT : Holds _ _ (dsk b _ :: _) := H; clear hT) | (replace H := H.up 5 rfl; (try simp only [List.set_cons_zero, List.set_cons_succ, List.eraseIdx_cons_zero, List.eraseIdx_cons_succ] at H); have hT : Holds _ _ (dsk b _ :: _) := H; clear hT) | (replace H := H.up 6 rfl; (try simp only [List.set_cons_zero, List.set_cons_succ, List.eraseIdx_cons_zero, List.eraseIdx_cons_succ] at H); have hT : Holds _ _ (dsk b _ :: _) := H; clear hT)
        have hWp := Write_p (a := at_) (v := .slice (some ⟨g5, 0, none⟩) 64 64) (l := forgeB sct) H (hp.mono hlp4) hat (by rw [hfl]; exact .own 0 _ rfl) (by omega)
        have hD := hRW.of
        by_cases hin : 0 ≤ at_ ∧ at_ < 52
        · obtain ⟨a, rfl⟩ := Int.eq_ofNat_of_zero_le hin.1
          have hpi : pwrite d (((3 : Nat) : Int), 52) (a : Int) (forgeB sct) = (wr1 d (3 + a) (forgeB sct), 0) := hG.fr.pwrite (f := 3) (c := 52) (n := a) (by omega) (by decide) (by decide) hfl
          have hw : d.write ((3 + a : Nat) : Int) (forgeB sct) = (wr1 d (3 + a) (forgeB sct), 0) := by
            have := pwrite_inW (d := d) (f := 3) (n := a) (l := forgeB sct) (by omega) (by decide)
            rw [hpi] at this
            exact this.symm
          have hG1 := hG.wr (a := a) (by omega) (forgeB sct)
          have hp1 : (wr1 d (3 + a) (forgeB sct)).pend.length ≤ 700 := by
            rw [wr1]
            simp only [List.length_append, List.length_cons, List.length_nil]; omega
          rw [hpi] at hWp
          generalize wr1 d (3 + a) (forgeB sct) = d1 at *
          (refine X.call (hWp) ?_; (try clear H); rintro _ w ⟨rfl, H⟩; refine ⟨_, rfl, ?_⟩)
          clear hWp
          have e3 : (3 : Int) + (a : Int) = ((3 + a : Nat) : Int) := by omega
          repeat' (first | (refine X.ldp [.slice g0 d.secs.length q0, .slice g1 d.pend.length q1, .bool d.off, .int .i64 lfg, .slice g2 ng2 q2] H ?_) | (refine X.stro (l := forgeB sct) H ?_ (h2 := hfl.symm)) | refine Z H ?_ | (refine Zc ?_ ?_ <;> intro hc <;> first | (exfalso; omega) | skip) | (refine Y ?_; try change C _ _ _ _ _ _) | (refine Zs H ?_; clear H; (try clear w); intro w H) | (refine Zn H ?_; clear H; (try clear w); (first | ((fail_if_success (have := bl1)); intro bl1 w H) | ((fail_if_success (have := bl2)); intro bl2 w H) | ((fail_if_success (have := bl3)); intro bl3 w H) | ((fail_if_success (have := bl4)); intro bl4 w H) | intro _ w H)) | (refine Ze H ?_; clear H; (try clear w); intro gv w H))
          rw [e3]
          have hWr := Write_r (n := ((3 + a : Nat) : Int)) (b := forgeB sct) H hD (by omega) (by omega)
          rw [hw] at hWr
          refine X.call hWr ?_
          clear H hWr
          rintro _ w ⟨s5, v', rfl, hs5, hR', H⟩
          refine ⟨_, rfl, ?_⟩
          have hRc := hR'
          obtain ⟨b0, k0, b1, k1, lf', b2, m2, k2, rfl⟩ := refCellsW hRc
          repeat' (first | (refine X.stp [.slice b0 d1.secs.length k0, .slice b1 d1.pend.length k1, .bool d1.off, .int .i64 lf', .slice b2 m2 k2, .int .i64 ((3 : Nat) : Int), .slice pa 16 pc, .int .u32 (m.epoch : Int), .int .i64 (m.home : Int), .int .i64 (m.used : Int), .bool false] H ?_; clear H; (try clear w); intro w H) | refine Z H ?_ | (refine Zc ?_ ?_ <;> intro hc <;> first | (exfalso; omega) | skip) | (refine Y ?_; try change C _ _ _ _ _ _) | (refine Zs H ?_; clear H; (try clear w); intro w H) | (refine Zn H ?_; clear H; (try clear w); (first | ((fail_if_success (have := bl1)); intro bl1 w H) | ((fail_if_success (have := bl2)); intro bl2 w H) | ((fail_if_success (have := bl3)); intro bl3 w H) | ((fail_if_success (have := bl4)); intro bl4 w H) | intro _ w H)) | (refine Ze H ?_; clear H; (try clear w); intro gv w H))
          exact ⟨by (repeat (first | exact Agr.refl | exact Agr.hav | refine Agr.upd rfl ?_ | refine Agr.in rfl ?_)), s5, d1, b0, k0, b1, k1, lf', b2, m2, k2, hs5, hG1, hp1, ⟨b0, k0, b1, k1, lf', b2, m2, k2, rfl, hR'⟩, H.arr⟩
        · have hpo : pwrite d (((3 : Nat) : Int), 52) at_ (forgeB sct) = (d, 4) := pwrite_out (by dsimp only; omega)
          rw [hpo] at hWp
          (refine X.call (hWp) ?_; (try clear H); rintro _ w ⟨rfl, H⟩; refine ⟨_, rfl, ?_⟩)
          clear hWp
          repeat' (first | refine Z H ?_ | (refine Zc ?_ ?_ <;> intro hc <;> first | (exfalso; omega) | skip) | (refine Y ?_; try change C _ _ _ _ _ _) | (refine Zs H ?_; clear H; (try clear w); intro w H) | (refine Zn H ?_; clear H; (try clear w); (first | ((fail_if_success (have := bl1)); intro bl1 w H) | ((fail_if_success (have := bl2)); intro bl2 w H) | ((fail_if_success (have := bl3)); intro bl3 w H) | ((fail_if_success (have := bl4)); intro bl4 w H) | intro _ w H)) | (refine Ze H ?_; clear H; (try clear w); intro gv w H))
          exact ⟨by (repeat (first | exact Agr.refl | exact Agr.hav | refine Agr.upd rfl ?_ | refine Agr.in rfl ?_)), s4, d, g0, q0, g1, q1, lfg, g2, ng2, q2, Ro.Le.refl _, hG, by omega, hRW, H.arr⟩
      · clear H
        rintro vs hv5 w ⟨s5, d1, g0, q0, g1, q1, lfg, g2, ng2, q2, hs5, hG1, hdp1, hRW1, H⟩
        have hle5 := hle4.trans hs5
        have hlp5 := hlp4.trans hs5
        have hD1 := hRW1.of
        have hwf : d1.Wf := Holds.wf H.tail
        have hfl1 := hG1.fr.len
        have hoff := hG1.fr.off
        have hon : ∀ k : Nat, k < 52 → (pread d1 (((3 : Nat) : Int), 52) (k : Int)).2 = 0 := fun k hk => by
          have := hG1.fr.pread (f := 3) (c := 52) hk (by decide) (by decide)
          rw [show ((52 : Nat) : Int) = 52 from rfl] at this
          rw [this]
        clear hRW hSp hG hls4
        repeat' (first | refine Z H ?_ | (refine Zc ?_ ?_ <;> intro hc <;> first | (exfalso; omega) | skip) | (refine Y ?_; try change C _ _ _ _ _ _) | (refine Zs H ?_; clear H; (try clear w); intro w H) | (refine Zn H ?_; clear H; (try clear w); (first | ((fail_if_success (have := bl1)); intro bl1 w H) | ((fail_if_success (have := bl2)); intro bl2 w H) | ((fail_if_success (have := bl3)); intro bl3 w H) | ((fail_if_success (have := bl4)); intro bl4 w H) | intro _ w H)) | (refine Ze H ?_; clear H; (try clear w); intro gv w H))
        first | (have hT : Holds _ _ (dsk b _ :: _) := H; clear hT) | (replace H := H.up 1 rfl; (try simp only [List.set_cons_zero, List.set_cons_succ, List.eraseIdx_cons_zero, List.eraseIdx_cons_succ] at H); have hT : Holds _ _ (dsk b _ :: _) := H; clear hT) | (replace H := H.up 2 rfl; (try simp only [List.set_cons_zero, List.set_cons_succ, List.eraseIdx_cons_zero, List.eraseIdx_cons_succ] at H); have hT : Holds _ _ (dsk b _ :: _) := H; clear hT) | (replace H := H.up 3 rfl; (try simp only [List.set_cons_zero, List.set_cons_succ, List.eraseIdx_cons_zero, List.eraseIdx_cons_succ] at H); have hT : Holds _ _ (dsk b _ :: _) := H; clear hT) | (replace H := H.up 4 rfl; (try simp only [List.set_cons_zero, List.set_cons_succ, List.eraseIdx_cons_zero, List.eraseIdx_cons_succ] at H); have hT : Holds _ _ (dsk b _ :: _) := H; clear hT) | (replace H := H.up 5 rfl; (try simp only [List.set_cons_zero, List.set_cons_succ, List.eraseIdx_cons_zero, List.eraseIdx_cons_succ] at H); have hT : Holds _ _ (dsk b _ :: _) := H; clear hT) | (replace H := H.up 6 rfl; (try simp only [List.set_cons_zero, List.set_cons_succ, List.eraseIdx_cons_zero, List.eraseIdx_cons_succ] at H); have hT : Holds _ _ (dsk b _ :: _) := H; clear hT)
        refine X.call (Open_l (x := (((3 : Nat) : Int), 52)) (hN.mono hle5) H (hp.mono hlp5) rfl hon) ?_
        clear H
        rintro _ w ⟨s6, hs6, hcase⟩
        rcases hcase with ⟨m2, bL2, ho, rfl, H⟩ | ⟨c, ho, hc0, rfl, H⟩
        · refine ⟨_, rfl, ?_⟩
          obtain ⟨ok1, ok2, ok3, ok4, ok5⟩ := openM_ok ho
          have hG2 := hG1.opened ho
          repeat' (first | (refine X.ldp [.slice g0 d1.secs.length q0, .slice g1 d1.pend.length q1, .bool d1.off, .int .i64 lfg, .slice g2 ng2 q2] H ?_) | refine Z H ?_ | (refine Zc ?_ ?_ <;> intro hc <;> first | (exfalso; omega) | skip) | (refine Y ?_; try change C _ _ _ _ _ _) | (refine Zs H ?_; clear H; (try clear w); intro w H) | (refine Zn H ?_; clear H; (try clear w); (first | ((fail_if_success (have := bl1)); intro bl1 w H) | ((fail_if_success (have := bl2)); intro bl2 w H) | ((fail_if_success (have := bl3)); intro bl3 w H) | ((fail_if_success (have := bl4)); intro bl4 w H) | intro _ w H)) | (refine Ze H ?_; clear H; (try clear w); intro gv w H))
          have hO := Open16_s (d := d1) (f := 3) H (hD1.mono hs6) hoff (by omega) (by omega) hwf (by omega)
          refine X.call hO ?_
          clear H hO
          rintro _ w ⟨s7, cs, code, rfl, hs7, H, hres⟩
          refine ⟨_, rfl, ?_⟩
          obtain ⟨m', pa3, pc3, ho', rfl, hRW, hmd, hSp⟩ := hres.resolve_left (fun ⟨h1, _, _⟩ => by rw [ho] at h1; cases h1)
          clear hres
          rw [ho] at ho'
          cases ho'
          have hRW0 := hRW
          obtain ⟨h0, k0, h1, k1, lfh, h2, nh2, k2, rfl, _⟩ := hRW0
          rw [hmd] at H
          repeat' (first | refine Z H ?_ | (refine Zc ?_ ?_ <;> intro hc <;> first | (exfalso; omega) | skip) | (refine Y ?_; try change C _ _ _ _ _ _) | (refine Zs H ?_; clear H; (try clear w); intro w H) | (refine Zn H ?_; clear H; (try clear w); (first | ((fail_if_success (have := bl1)); intro bl1 w H) | ((fail_if_success (have := bl2)); intro bl2 w H) | ((fail_if_success (have := bl3)); intro bl3 w H) | ((fail_if_success (have := bl4)); intro bl4 w H) | intro _ w H)) | (refine Ze H ?_; clear H; (try clear w); intro gv w H))
          first | (have hT : Holds _ _ (dsk b _ :: _) := H; clear hT) | (replace H := H.up 1 rfl; (try simp only [List.set_cons_zero, List.set_cons_succ, List.eraseIdx_cons_zero, List.eraseIdx_cons_succ] at H); have hT : Holds _ _ (dsk b _ :: _) := H; clear hT) | (replace H := H.up 2 rfl; (try simp only [List.set_cons_zero, List.set_cons_succ, List.eraseIdx_cons_zero, List.eraseIdx_cons_succ] at H); have hT : Holds _ _ (dsk b _ :: _) := H; clear hT) | (replace H := H.up 3 rfl; (try simp only [List.set_cons_zero, List.set_cons_succ, List.eraseIdx_cons_zero, List.eraseIdx_cons_succ] at H); have hT : Holds _ _ (dsk b _ :: _) := H; clear hT) | (replace H := H.up 4 rfl; (try simp only [List.set_cons_zero, List.set_cons_succ, List.eraseIdx_cons_zero, List.eraseIdx_cons_succ] at H); have hT : Holds _ _ (dsk b _ :: _) := H; clear hT) | (replace H := H.up 5 rfl; (try simp only [List.set_cons_zero, List.set_cons_succ, List.eraseIdx_cons_zero, List.eraseIdx_cons_succ] at H); have hT : Holds _ _ (dsk b _ :: _) := H; clear hT) | (replace H := H.up 6 rfl; (try simp only [List.set_cons_zero, List.set_cons_succ, List.eraseIdx_cons_zero, List.eraseIdx_cons_succ] at H); have hT : Holds _ _ (dsk b _ :: _) := H; clear hT)
          refine C.drawn5 [0, 1, 2, 3, 4, 5, 6, 7, 8, 9, 10, 11, 14, 15, 12, 13, 16, 17, 18] [0, 0, 0, 0, 0, 0, 0, 0, 0, 0, 0, 0, 0, 1, 2, 1, 2, 0, 0] [15, 2] [0, 0, 3, 7, 15, 31, 15, 79, 255, 511, 1023, 2047, 4095, 8191, 2047, 18431, 57343, 131071, 262143] (by kernel_rfl) ?_; replace H := H.drew; simp only [Reg.pick, List.filterMap_cons, List.filterMap_nil, List.getElem?_toArray, List.getElem?_cons_zero, List.getElem?_cons_succ, segN, List.take_succ_cons, List.take_zero, List.drop_succ_cons, List.drop_zero]
          repeat' (first | (refine X.ldp [.slice g0 d1.secs.length q0, .slice g1 d1.pend.length q1, .bool d1.off, .int .i64 lfg, .slice g2 ng2 q2] H ?_) | (refine K.cmpB rfl rfl rfl rfl rfl ?_) | refine Z H ?_ | (refine Zc ?_ ?_ <;> intro hc <;> first | (exfalso; omega) | skip) | (refine Y ?_; try change C _ _ _ _ _ _) | (refine Zs H ?_; clear H; (try clear w); intro w H) | (refine Zn H ?_; clear H; (try clear w); (first | ((fail_if_success (have := bl1)); intro bl1 w H) | ((fail_if_success (have := bl2)); intro bl2 w H) | ((fail_if_success (have := bl3)); intro bl3 w H) | ((fail_if_success (have := bl4)); intro bl4 w H) | intro _ w H)) | (refine Ze H ?_; clear H; (try clear w); intro gv w H))
          (refine X.call (Image_d H) ?_; (try clear H); rintro _ w ⟨t1, a3, c3, rfl, ho4, H⟩; refine ⟨_, rfl, ?_⟩); refine L.nil ?_; refine ⟨rfl, rfl, (by first | exact fun h => Bool.noConfusion (show false = true from h) | exact fun _ => ext_same | exact fun _ => ext_only (by assumption)), ?_⟩
          clear ho4
          repeat' (first | (refine X.stro H ?_) | refine Z H ?_ | (refine Zc ?_ ?_ <;> intro hc <;> first | (exfalso; omega) | skip) | (refine Y ?_; try change C _ _ _ _ _ _) | (refine Zs H ?_; clear H; (try clear w); intro w H) | (refine Zn H ?_; clear H; (try clear w); (first | ((fail_if_success (have := bl1)); intro bl1 w H) | ((fail_if_success (have := bl2)); intro bl2 w H) | ((fail_if_success (have := bl3)); intro bl3 w H) | ((fail_if_success (have := bl4)); intro bl4 w H) | intro _ w H)) | (refine Ze H ?_; clear H; (try clear w); intro gv w H))
          (refine X.call (Image_e H (hD1.mono (hs6.trans hs7))) ?_; (try clear H); rintro _ w ⟨rfl, ho5, H⟩; refine ⟨_, rfl, ?_⟩); refine L.nil ?_; refine ⟨rfl, rfl, (by first | exact fun h => Bool.noConfusion (show false = true from h) | exact fun _ => ext_same | exact fun _ => ext_only (by assumption)), ?_⟩
          clear ho5
          repeat' (first | refine Z H ?_ | (refine Zc ?_ ?_ <;> intro hc <;> first | (exfalso; omega) | skip) | (refine Y ?_; try change C _ _ _ _ _ _) | (refine Zs H ?_; clear H; (try clear w); intro w H) | (refine Zn H ?_; clear H; (try clear w); (first | ((fail_if_success (have := bl1)); intro bl1 w H) | ((fail_if_success (have := bl2)); intro bl2 w H) | ((fail_if_success (have := bl3)); intro bl3 w H) | ((fail_if_success (have := bl4)); intro bl4 w H) | intro _ w H)) | (refine Ze H ?_; clear H; (try clear w); intro gv w H))
          first | (have hT : Holds _ _ (logW bL2 _ _ _ _ _ _ :: _) := H; clear hT) | (replace H := H.up 1 rfl; (try simp only [List.set_cons_zero, List.set_cons_succ, List.eraseIdx_cons_zero, List.eraseIdx_cons_succ] at H); have hT : Holds _ _ (logW bL2 _ _ _ _ _ _ :: _) := H; clear hT) | (replace H := H.up 2 rfl; (try simp only [List.set_cons_zero, List.set_cons_succ, List.eraseIdx_cons_zero, List.eraseIdx_cons_succ] at H); have hT : Holds _ _ (logW bL2 _ _ _ _ _ _ :: _) := H; clear hT) | (replace H := H.up 3 rfl; (try simp only [List.set_cons_zero, List.set_cons_succ, List.eraseIdx_cons_zero, List.eraseIdx_cons_succ] at H); have hT : Holds _ _ (logW bL2 _ _ _ _ _ _ :: _) := H; clear hT) | (replace H := H.up 4 rfl; (try simp only [List.set_cons_zero, List.set_cons_succ, List.eraseIdx_cons_zero, List.eraseIdx_cons_succ] at H); have hT : Holds _ _ (logW bL2 _ _ _ _ _ _ :: _) := H; clear hT) | (replace H := H.up 5 rfl; (try simp only [List.set_cons_zero, List.set_cons_succ, List.eraseIdx_cons_zero, List.eraseIdx_cons_succ] at H); have hT : Holds _ _ (logW bL2 _ _ _ _ _ _ :: _) := H; clear hT) | (replace H := H.up 6 rfl; (try simp only [List.set_cons_zero, List.set_cons_succ, List.eraseIdx_cons_zero, List.eraseIdx_cons_succ] at H); have hT : Holds _ _ (logW bL2 _ _ _ _ _ _ :: _) := H; clear hT)
          (refine X.call (is16_s H ok4 hRW hSp) ?_; (try clear H); rintro _ w ⟨rfl, H⟩; refine ⟨_, rfl, ?_⟩)
          have hs17 := hs6.trans hs7
          have hle7 := hle5.trans hs17
          have hlp7 := hlp5.trans hs17
          clear hmd ho hD1 hwf hfl1 hoff hon hRW1 hG1
          repeat' (first | refine Z H ?_ | (refine Zc ?_ ?_ <;> intro hc <;> first | (exfalso; omega) | skip) | (refine Y ?_; try change C _ _ _ _ _ _) | (refine Zs H ?_; clear H; (try clear w); intro w H) | (refine Zn H ?_; clear H; (try clear w); (first | ((fail_if_success (have := bl1)); intro bl1 w H) | ((fail_if_success (have := bl2)); intro bl2 w H) | ((fail_if_success (have := bl3)); intro bl3 w H) | ((fail_if_success (have := bl4)); intro bl4 w H) | intro _ w H)) | (refine Ze H ?_; clear H; (try clear w); intro gv w H))
          have H' : Holds s7 w (logW bL2 bp m2.epoch m2.home m2.used m2.pages false :: dsk b d1 :: var bl4 86 [.slice h0 d1.secs.length k0, .slice h1 d1.pend.length k1, .bool d1.off, .int .i64 lfh, .slice h2 nh2 k2, .int .i64 ((3 : Nat) : Int), .slice pa3 16 pc3, .int .u32 (m2.epoch : Int), .int .i64 (m2.home : Int), .int .i64 (m2.used : Int), .bool false] :: []) := H.arr
          clear H
          refine C.loopS [2, 25, 26, 27, 142, 143, 144, 145, 146, 147, 148, 149, 150, 151, 152, 153, 154, 155, 156, 157, 158, 159, 160, 161, 162, 163, 164, 165, 166, 167, 168, 169, 170, 171, 172, 173, 174, 175, 176, 177] [25] rfl (fun k vs w => ∃ i : Nat, ∃ s' d m pa pc g0 q0 g1 q1 lfg g2 ng2 q2, k = more.length - i ∧ i ≤ more.length ∧ i ≤ 4 ∧ vs = [.int .i64 (i : Int)] ∧ s7.Le s' ∧ GoodW 3 d m ∧ d.pend.length ≤ 700 + 40 * i ∧ RefW s' [.slice g0 d.secs.length q0, .slice g1 d.pend.length q1, .bool d.off, .int .i64 lfg, .slice g2 ng2 q2, .int .i64 ((3 : Nat) : Int), .slice pa 16 pc, .int .u32 (m.epoch : Int), .int .i64 (m.home : Int), .int .i64 (m.used : Int), .bool false] d 3 pa 16 pc m.epoch m.home m.used false ∧ SlS s' (.slice pa 16 pc) 1 16 (strs (pgsOf m.pages)) ∧ Holds s' w (logW bL2 bp m.epoch m.home m.used m.pages false :: dsk b d :: var bl4 86 [.slice g0 d.secs.length q0, .slice g1 d.pend.length q1, .bool d.off, .int .i64 lfg, .slice g2 ng2 q2, .int .i64 ((3 : Nat) : Int), .slice pa 16 pc, .int .u32 (m.epoch : Int), .int .i64 (m.home : Int), .int .i64 (m.used : Int), .bool false] :: [])) more.length ⟨0, s7, d1, m2, pa3, pc3, h0, k0, h1, k1, lfh, h2, nh2, k2, rfl, Nat.zero_le _, Nat.zero_le _, rfl, Ro.Le.refl _, hG2, by omega, hRW, hSp, H'⟩ ?_
          clear H' hG2 hRW hSp ok1 ok2 ok3 ok4 ok5
          rintro k vs hv w ⟨i, s8, d, m, pa, pc, g0, q0, g1, q1, lfg, g2, ng2, q2, rfl, hi, hi4, rfl, hs8, hG, hdp, hRW, hSp, H⟩
          have hle8 := hle7.trans hs8
          have hlp8 := hlp7.trans hs8
          by_cases hlt : i < more.length ∧ i < 4
          · obtain ⟨hlt, hlt4⟩ := hlt
            obtain ⟨gb, ob, c3, e1, hm1, hm2, hp1⟩ := elemS (hlm.mono hle8) (fun _ _ => rfl) (by decide) (by omega)
            cases e1
            have qp : ∀ j v, ([.int .i64 more[i].do_, .int .i64 more[i].n, .int .i64 more[i].at_, .int .i64 more[i].off, .int .u8 (more[i].fill.toNat : Int), more[i].keepv] : List Value)[j]? = some v → Pin s8 gb (ob + i * 6 + j) v := hp1 i hlt
            obtain ⟨hkeep, hkl, hn, ha⟩ := (hokm more[i] (List.getElem_mem _)).mono hle8
            generalize more[i] = a at *
            obtain ⟨do_, an, at', off, fill, keepv, keep⟩ := a
            dsimp only at qp hkeep hkl hn ha
            obtain ⟨ka, kc, hkv, _⟩ := formS hkeep
            subst hkv
            obtain ⟨chs, hchs⟩ : ∃ chs, chsM an at' off fill = chs := ⟨_, rfl⟩
            have hcl : chs.length ≤ 18 := by rw [← hchs]; unfold chsM; rw [List.length_map, List.length_range]; exact Nat.min_le_right _ _
            have hG2 := hG.commit chs (by decide)
            have hP2 := commit_pend d (((3 : Nat) : Int), 52) m chs
            obtain ⟨r, hcm⟩ : ∃ r, commitM d (((3 : Nat) : Int), 52) m chs = r := ⟨_, rfl⟩
            rw [hcm] at hG2 hP2
            repeat' (first | refine Z H ?_ | (refine Zc ?_ ?_ <;> intro hc <;> first | (exfalso; omega) | skip) | (refine Y ?_; try change C _ _ _ _ _ _) | (refine Zs H ?_; clear H; (try clear w); intro w H) | (refine Zn H ?_; clear H; (try clear w); (first | ((fail_if_success (have := bl1)); intro bl1 w H) | ((fail_if_success (have := bl2)); intro bl2 w H) | ((fail_if_success (have := bl3)); intro bl3 w H) | ((fail_if_success (have := bl4)); intro bl4 w H) | intro _ w H)) | (refine Ze H ?_; clear H; (try clear w); intro gv w H))
            have H' := H
            clear H
            refine C.flow (comF3 153 26 [.slice g0 d.secs.length q0, .slice g1 d.pend.length q1, .bool d.off, .int .i64 lfg, .slice g2 ng2 q2, .int .i64 ((3 : Nat) : Int), .slice pa 16 pc, .int .u32 (m.epoch : Int), .int .i64 (m.home : Int), .int .i64 (m.used : Int), .bool false] [.int .i64 do_, .int .i64 an, .int .i64 at', .int .i64 off, .int .u8 (fill.toNat : Int), .slice ka keep.length kc] chs 3 r (.slice (some ⟨gb, ob, none⟩) more.length mc) i ⟨gb, ob + i * 6, none⟩) [8, 9, 11] [0, 1, 2, 3, 4, 5, 6, 7, 8, 9, 11] H' (by kernel_rfl) rfl rfl ?_ ?_
            clear H'
            · repeat' (first | exact StepsF.nil | refine StepsF.cons ?_ ?_)
              · intro s1 h w E hs1; (conv => whnf); intro H; replace H : Holds s1 w (logW bL2 bp m.epoch m.home m.used m.pages false :: dsk b d :: var bl4 86 [.slice g0 d.secs.length q0, .slice g1 d.pend.length q1, .bool d.off, .int .i64 lfg, .slice g2 ng2 q2, .int .i64 ((3 : Nat) : Int), .slice pa 16 pc, .int .u32 (m.epoch : Int), .int .i64 (m.home : Int), .int .i64 (m.used : Int), .bool false] :: ([] ++ E)) := H
                repeat' (first | refine Z H ?_ | (refine Zc ?_ ?_ <;> intro hc <;> first | (exfalso; omega) | skip) | (refine Y ?_; try change C _ _ _ _ _ _) | (refine Zs H ?_; clear H; (try clear w); intro w H) | (refine Zn H ?_; clear H; (try clear w); (first | ((fail_if_success (have := bl1)); intro bl1 w H) | ((fail_if_success (have := bl2)); intro bl2 w H) | ((fail_if_success (have := bl3)); intro bl3 w H) | ((fail_if_success (have := bl4)); intro bl4 w H) | intro _ w H)) | (refine Ze H ?_; clear H; (try clear w); intro gv w H))
                exact ⟨rfl, by (repeat (first | exact Agr.refl | exact Agr.hav | refine Agr.upd rfl ?_ | refine Agr.in rfl ?_)), s1, Ro.Le.refl _, rfl, H⟩
              · intro s1 h w E hs1; (conv => whnf); intro H; replace H : Holds s1 w (logW bL2 bp m.epoch m.home m.used m.pages false :: dsk b d :: var bl4 86 [.slice g0 d.secs.length q0, .slice g1 d.pend.length q1, .bool d.off, .int .i64 lfg, .slice g2 ng2 q2, .int .i64 ((3 : Nat) : Int), .slice pa 16 pc, .int .u32 (m.epoch : Int), .int .i64 (m.home : Int), .int .i64 (m.used : Int), .bool false] :: ([] ++ E)) := H
                repeat' (first | refine Z H ?_ | (refine Zc ?_ ?_ <;> intro hc <;> first | (exfalso; omega) | skip) | (refine Y ?_; try change C _ _ _ _ _ _) | (refine Zs H ?_; clear H; (try clear w); intro w H) | (refine Zn H ?_; clear H; (try clear w); (first | ((fail_if_success (have := bl1)); intro bl1 w H) | ((fail_if_success (have := bl2)); intro bl2 w H) | ((fail_if_success (have := bl3)); intro bl3 w H) | ((fail_if_success (have := bl4)); intro bl4 w H) | intro _ w H)) | (refine Ze H ?_; clear H; (try clear w); intro gv w H))
                exact ⟨rfl, by (repeat (first | exact Agr.refl | exact Agr.hav | refine Agr.upd rfl ?_ | refine Agr.in rfl ?_)), s1, Ro.Le.refl _, rfl, H⟩
              · intro s1 h w E hs1; (conv => whnf); intro H; replace H : Holds s1 w (logW bL2 bp m.epoch m.home m.used m.pages false :: dsk b d :: var bl4 86 [.slice g0 d.secs.length q0, .slice g1 d.pend.length q1, .bool d.off, .int .i64 lfg, .slice g2 ng2 q2, .int .i64 ((3 : Nat) : Int), .slice pa 16 pc, .int .u32 (m.epoch : Int), .int .i64 (m.home : Int), .int .i64 (m.used : Int), .bool false] :: ([] ++ E)) := H
                repeat' (first | refine Z H ?_ | (refine Zc ?_ ?_ <;> intro hc <;> first | (exfalso; omega) | skip) | (refine Y ?_; try change C _ _ _ _ _ _) | (refine Zs H ?_; clear H; (try clear w); intro w H) | (refine Zn H ?_; clear H; (try clear w); (first | ((fail_if_success (have := bl1)); intro bl1 w H) | ((fail_if_success (have := bl2)); intro bl2 w H) | ((fail_if_success (have := bl3)); intro bl3 w H) | ((fail_if_success (have := bl4)); intro bl4 w H) | intro _ w H)) | (refine Ze H ?_; clear H; (try clear w); intro gv w H))
                exact ⟨rfl, by (repeat (first | exact Agr.refl | exact Agr.hav | refine Agr.upd rfl ?_ | refine Agr.in rfl ?_)), s1, Ro.Le.refl _, rfl, H⟩
              · intro s1 h w E hs1; (conv => whnf); rintro _ rfl; (conv => whnf); rintro _ rfl; (conv => whnf); intro H; replace H : Holds s1 w (logW bL2 bp m.epoch m.home m.used m.pages false :: dsk b d :: var bl4 86 [.slice g0 d.secs.length q0, .slice g1 d.pend.length q1, .bool d.off, .int .i64 lfg, .slice g2 ng2 q2, .int .i64 ((3 : Nat) : Int), .slice pa 16 pc, .int .u32 (m.epoch : Int), .int .i64 (m.home : Int), .int .i64 (m.used : Int), .bool false] :: ([] ++ E)) := H
                repeat' (first | (refine K.ia (i := i) rfl rfl rfl rfl rfl (by omega) ?_) | refine Z H ?_ | (refine Zc ?_ ?_ <;> intro hc <;> first | (exfalso; omega) | skip) | (refine Y ?_; try change C _ _ _ _ _ _) | (refine Zs H ?_; clear H; (try clear w); intro w H) | (refine Zn H ?_; clear H; (try clear w); (first | ((fail_if_success (have := bl1)); intro bl1 w H) | ((fail_if_success (have := bl2)); intro bl2 w H) | ((fail_if_success (have := bl3)); intro bl3 w H) | ((fail_if_success (have := bl4)); intro bl4 w H) | intro _ w H)) | (refine Ze H ?_; clear H; (try clear w); intro gv w H))
                exact ⟨rfl, by (repeat (first | exact Agr.refl | exact Agr.hav | refine Agr.upd rfl ?_ | refine Agr.in rfl ?_)), s1, Ro.Le.refl _, rfl, H⟩
              · intro s1 h w E hs1; (conv => whnf); rintro _ rfl; (conv => whnf); intro H; replace H : Holds s1 w (logW bL2 bp m.epoch m.home m.used m.pages false :: dsk b d :: var bl4 86 [.slice g0 d.secs.length q0, .slice g1 d.pend.length q1, .bool d.off, .int .i64 lfg, .slice g2 ng2 q2, .int .i64 ((3 : Nat) : Int), .slice pa 16 pc, .int .u32 (m.epoch : Int), .int .i64 (m.home : Int), .int .i64 (m.used : Int), .bool false] :: ([] ++ E)) := H
                have qr := fun j v h => (qp j v h).mono hs1
                repeat' (first | refine Z H ?_ | (refine Zc ?_ ?_ <;> intro hc <;> first | (exfalso; omega) | skip) | (refine Y ?_; try change C _ _ _ _ _ _) | (refine Zs H ?_; clear H; (try clear w); intro w H) | (refine Zn H ?_; clear H; (try clear w); (first | ((fail_if_success (have := bl1)); intro bl1 w H) | ((fail_if_success (have := bl2)); intro bl2 w H) | ((fail_if_success (have := bl3)); intro bl3 w H) | ((fail_if_success (have := bl4)); intro bl4 w H) | intro _ w H)) | (refine Ze H ?_; clear H; (try clear w); intro gv w H))
                exact ⟨rfl, by (repeat (first | exact Agr.refl | exact Agr.hav | refine Agr.upd rfl ?_ | refine Agr.in rfl ?_)), s1, Ro.Le.refl _, rfl, H⟩
              · intro s1 h w E hs1; (conv => whnf); rintro _ rfl; (conv => whnf); intro H; replace H : Holds s1 w (logW bL2 bp m.epoch m.home m.used m.pages false :: dsk b d :: var bl4 86 [.slice g0 d.secs.length q0, .slice g1 d.pend.length q1, .bool d.off, .int .i64 lfg, .slice g2 ng2 q2, .int .i64 ((3 : Nat) : Int), .slice pa 16 pc, .int .u32 (m.epoch : Int), .int .i64 (m.home : Int), .int .i64 (m.used : Int), .bool false] :: ([] ++ E)) := H
                refine X.call (Changes_s (dx := do_) (N := an) (At := at') (off := off) (fill := fill) (kv := .slice ka keep.length kc) H hn ha rfl) ?_
                clear H
                rintro _ w ⟨s9, v9, cs9, rfl, hs9, hS9, hC9, H⟩
                refine ⟨_, rfl, ?_⟩
                rw [hchs] at hS9 hC9
                repeat' (first | refine Z H ?_ | (refine Zc ?_ ?_ <;> intro hc <;> first | (exfalso; omega) | skip) | (refine Y ?_; try change C _ _ _ _ _ _) | (refine Zs H ?_; clear H; (try clear w); intro w H) | (refine Zn H ?_; clear H; (try clear w); (first | ((fail_if_success (have := bl1)); intro bl1 w H) | ((fail_if_success (have := bl2)); intro bl2 w H) | ((fail_if_success (have := bl3)); intro bl3 w H) | ((fail_if_success (have := bl4)); intro bl4 w H) | intro _ w H)) | (refine Ze H ?_; clear H; (try clear w); intro gv w H))
                exact ⟨rfl, by (repeat (first | exact Agr.refl | exact Agr.hav | refine Agr.upd rfl ?_ | refine Agr.in rfl ?_)), s9, hs9, ⟨cs9, hS9, hC9⟩, H⟩
              · intro s1 h w E hs1; (conv => whnf); rintro _ rfl; (conv => whnf); rintro v9 ⟨cs9, hS9, hC9⟩; (conv => whnf); intro H; replace H : Holds s1 w (logW bL2 bp m.epoch m.home m.used m.pages false :: dsk b d :: var bl4 86 [.slice g0 d.secs.length q0, .slice g1 d.pend.length q1, .bool d.off, .int .i64 lfg, .slice g2 ng2 q2, .int .i64 ((3 : Nat) : Int), .slice pa 16 pc, .int .u32 (m.epoch : Int), .int .i64 (m.home : Int), .int .i64 (m.used : Int), .bool false] :: ([] ++ E)) := H
                have hCm := Commit16_s (m := m) (f := 3) (l := chs) H (by rw [hG.dead]; exact hRW.mono hs1) (hSp.mono hs1) hG.ep hG.home hG.used hG.pages hS9 hC9 (by omega) (by decide) (by omega)
                rw [hcm] at hCm
                refine X.call hCm ?_
                clear H hCm
                rintro _ w ⟨s9, cs', pa', pc', rfl, hs9, hR9, hS9', H⟩
                refine ⟨_, rfl, ?_⟩
                repeat' (first | refine Z H ?_ | (refine Zc ?_ ?_ <;> intro hc <;> first | (exfalso; omega) | skip) | (refine Y ?_; try change C _ _ _ _ _ _) | (refine Zs H ?_; clear H; (try clear w); intro w H) | (refine Zn H ?_; clear H; (try clear w); (first | ((fail_if_success (have := bl1)); intro bl1 w H) | ((fail_if_success (have := bl2)); intro bl2 w H) | ((fail_if_success (have := bl3)); intro bl3 w H) | ((fail_if_success (have := bl4)); intro bl4 w H) | intro _ w H)) | (refine Ze H ?_; clear H; (try clear w); intro gv w H))
                exact ⟨rfl, by (repeat (first | exact Agr.refl | exact Agr.hav | refine Agr.upd rfl ?_ | refine Agr.in rfl ?_)), s9, hs9, ⟨cs', rfl, pa', pc', hR9, hS9'⟩, H⟩
              · intro s1 h w E hs1; (conv => whnf); rintro _ ⟨cs9, rfl, hG9⟩; (conv => whnf); intro H; replace H : Holds s1 w (logW bL2 bp m.epoch m.home m.used m.pages false :: dsk b d :: var bl4 86 [.slice g0 d.secs.length q0, .slice g1 d.pend.length q1, .bool d.off, .int .i64 lfg, .slice g2 ng2 q2, .int .i64 ((3 : Nat) : Int), .slice pa 16 pc, .int .u32 (m.epoch : Int), .int .i64 (m.home : Int), .int .i64 (m.used : Int), .bool false] :: ([] ++ E)) := H
                repeat' (first | refine Z H ?_ | (refine Zc ?_ ?_ <;> intro hc <;> first | (exfalso; omega) | skip) | (refine Y ?_; try change C _ _ _ _ _ _) | (refine Zs H ?_; clear H; (try clear w); intro w H) | (refine Zn H ?_; clear H; (try clear w); (first | ((fail_if_success (have := bl1)); intro bl1 w H) | ((fail_if_success (have := bl2)); intro bl2 w H) | ((fail_if_success (have := bl3)); intro bl3 w H) | ((fail_if_success (have := bl4)); intro bl4 w H) | intro _ w H)) | (refine Ze H ?_; clear H; (try clear w); intro gv w H))
                exact ⟨rfl, by (repeat (first | exact Agr.refl | exact Agr.hav | refine Agr.upd rfl ?_ | refine Agr.in rfl ?_)), s1, Ro.Le.refl _, ⟨cs9, rfl, hG9⟩, H⟩
              · intro s1 h w E hs1; (conv => whnf); rintro _ ⟨cs9, rfl, hG9⟩; (conv => whnf); intro H; replace H : Holds s1 w (logW bL2 bp m.epoch m.home m.used m.pages false :: dsk b d :: var bl4 86 [.slice g0 d.secs.length q0, .slice g1 d.pend.length q1, .bool d.off, .int .i64 lfg, .slice g2 ng2 q2, .int .i64 ((3 : Nat) : Int), .slice pa 16 pc, .int .u32 (m.epoch : Int), .int .i64 (m.home : Int), .int .i64 (m.used : Int), .bool false] :: ([] ++ E)) := H
                repeat' (first | refine Z H ?_ | (refine Zc ?_ ?_ <;> intro hc <;> first | (exfalso; omega) | skip) | (refine Y ?_; try change C _ _ _ _ _ _) | (refine Zs H ?_; clear H; (try clear w); intro w H) | (refine Zn H ?_; clear H; (try clear w); (first | ((fail_if_success (have := bl1)); intro bl1 w H) | ((fail_if_success (have := bl2)); intro bl2 w H) | ((fail_if_success (have := bl3)); intro bl3 w H) | ((fail_if_success (have := bl4)); intro bl4 w H) | intro _ w H)) | (refine Ze H ?_; clear H; (try clear w); intro gv w H))
                exact ⟨rfl, by (repeat (first | exact Agr.refl | exact Agr.hav | refine Agr.upd rfl ?_ | refine Agr.in rfl ?_)), s1, Ro.Le.refl _, ⟨cs9, rfl, hG9⟩, H⟩
              · intro s1 h w E hs1; (conv => whnf); rintro _ ⟨cs9, rfl, hG9⟩; (conv => whnf); intro H; replace H : Holds s1 w (logW bL2 bp m.epoch m.home m.used m.pages false :: dsk b d :: var bl4 86 [.slice g0 d.secs.length q0, .slice g1 d.pend.length q1, .bool d.off, .int .i64 lfg, .slice g2 ng2 q2, .int .i64 ((3 : Nat) : Int), .slice pa 16 pc, .int .u32 (m.epoch : Int), .int .i64 (m.home : Int), .int .i64 (m.used : Int), .bool false] :: ([] ++ E)) := H
                repeat' (first | refine Z H ?_ | (refine Zc ?_ ?_ <;> intro hc <;> first | (exfalso; omega) | skip) | (refine Y ?_; try change C _ _ _ _ _ _) | (refine Zs H ?_; clear H; (try clear w); intro w H) | (refine Zn H ?_; clear H; (try clear w); (first | ((fail_if_success (have := bl1)); intro bl1 w H) | ((fail_if_success (have := bl2)); intro bl2 w H) | ((fail_if_success (have := bl3)); intro bl3 w H) | ((fail_if_success (have := bl4)); intro bl4 w H) | intro _ w H)) | (refine Ze H ?_; clear H; (try clear w); intro gv w H))
                exact ⟨rfl, by (repeat (first | exact Agr.refl | exact Agr.hav | refine Agr.upd rfl ?_ | refine Agr.in rfl ?_)), s1, Ro.Le.refl _, rfl, H⟩
              · intro s1 h w E hs1; (conv => whnf); intro H; replace H : Holds s1 w (logW bL2 bp m.epoch m.home m.used m.pages false :: dsk b d :: var bl4 86 [.slice g0 d.secs.length q0, .slice g1 d.pend.length q1, .bool d.off, .int .i64 lfg, .slice g2 ng2 q2, .int .i64 ((3 : Nat) : Int), .slice pa 16 pc, .int .u32 (m.epoch : Int), .int .i64 (m.home : Int), .int .i64 (m.used : Int), .bool false] :: ([] ++ E)) := H
                repeat' (first | refine Z H ?_ | (refine Zc ?_ ?_ <;> intro hc <;> first | (exfalso; omega) | skip) | (refine Y ?_; try change C _ _ _ _ _ _) | (refine Zs H ?_; clear H; (try clear w); intro w H) | (refine Zn H ?_; clear H; (try clear w); (first | ((fail_if_success (have := bl1)); intro bl1 w H) | ((fail_if_success (have := bl2)); intro bl2 w H) | ((fail_if_success (have := bl3)); intro bl3 w H) | ((fail_if_success (have := bl4)); intro bl4 w H) | intro _ w H)) | (refine Ze H ?_; clear H; (try clear w); intro gv w H))
                exact ⟨rfl, by (repeat (first | exact Agr.refl | exact Agr.hav | refine Agr.upd rfl ?_ | refine Agr.in rfl ?_)), s1, Ro.Le.refl _, ⟨_, rfl⟩, H⟩
              · intro s1 h w E hs1; (conv => whnf)
                rintro _ ⟨b4, rfl⟩; (conv => whnf)
                rintro v1 ⟨cs9, rfl, hG9⟩; (conv => whnf)
                obtain ⟨x0, m0, y0, x1, m1, y1, bo, li, x2, m2, y2, gf, xa, xn, xc, xe, xh, xu, xd, rfl⟩ := hG9.cells
                intro H
                replace H : Holds s1 w (var b4 86 zlog16 :: logW bL2 bp m.epoch m.home m.used m.pages false :: dsk b d :: var bl4 86 [.slice g0 d.secs.length q0, .slice g1 d.pend.length q1, .bool d.off, .int .i64 lfg, .slice g2 ng2 q2, .int .i64 ((3 : Nat) : Int), .slice pa 16 pc, .int .u32 (m.epoch : Int), .int .i64 (m.home : Int), .int .i64 (m.used : Int), .bool false] :: ([] ++ E)) := H
                repeat' (first | refine Z H ?_ | (refine Zc ?_ ?_ <;> intro hc <;> first | (exfalso; omega) | skip) | (refine Y ?_; try change C _ _ _ _ _ _) | (refine Zs H ?_; clear H; (try clear w); intro w H) | (refine Zn H ?_; clear H; (try clear w); (first | ((fail_if_success (have := bl1)); intro bl1 w H) | ((fail_if_success (have := bl2)); intro bl2 w H) | ((fail_if_success (have := bl3)); intro bl3 w H) | ((fail_if_success (have := bl4)); intro bl4 w H) | intro _ w H)) | (refine Ze H ?_; clear H; (try clear w); intro gv w H))
                exact ⟨rfl, by (repeat (first | exact Agr.refl | exact Agr.hav | refine Agr.upd rfl ?_ | refine Agr.in rfl ?_)), s1, Ro.Le.refl _, ⟨b4, rfl⟩, H⟩
            · intro s9 h w hs9; (conv => whnf)
              rintro v1 ⟨cs9, rfl, hG9⟩; (conv => whnf)
              rintro _ rfl; (conv => whnf)
              rintro _ ⟨br, rfl⟩; (conv => whnf)
              intro H
              replace H : Holds s9 w (var br 86 cs9 :: logW bL2 bp m.epoch m.home m.used m.pages false :: dsk b d :: var bl4 86 [.slice g0 d.secs.length q0, .slice g1 d.pend.length q1, .bool d.off, .int .i64 lfg, .slice g2 ng2 q2, .int .i64 ((3 : Nat) : Int), .slice pa 16 pc, .int .u32 (m.epoch : Int), .int .i64 (m.home : Int), .int .i64 (m.used : Int), .bool false] :: []) := H
              change L _ _ _ _ [_] _ _
              repeat' (first | refine Z H ?_ | (refine Zc ?_ ?_ <;> intro hc <;> first | (exfalso; omega) | skip) | (refine Y ?_; try change C _ _ _ _ _ _) | (refine Zs H ?_; clear H; (try clear w); intro w H) | (refine Zn H ?_; clear H; (try clear w); (first | ((fail_if_success (have := bl1)); intro bl1 w H) | ((fail_if_success (have := bl2)); intro bl2 w H) | ((fail_if_success (have := bl3)); intro bl3 w H) | ((fail_if_success (have := bl4)); intro bl4 w H) | intro _ w H)) | (refine Ze H ?_; clear H; (try clear w); intro gv w H))
              refine ⟨rfl, ?_⟩
              change C _ _ _ _ _ _
              obtain ⟨pa2, pc2, hR2, hS2⟩ := hG9
              obtain ⟨r0, r1, r2⟩ := r
              dsimp only at hG2 hP2 hR2 hS2 H ⊢
              rw [hG2.dead] at hR2
              have hRc := hR2
              obtain ⟨h0, k0, h1, k1, lfh, h2, nh2, k2, rfl, hD2⟩ := hRc
              repeat' (first | refine Z H ?_ | (refine Zc ?_ ?_ <;> intro hc <;> first | (exfalso; omega) | skip) | (refine Y ?_; try change C _ _ _ _ _ _) | (refine Zs H ?_; clear H; (try clear w); intro w H) | (refine Zn H ?_; clear H; (try clear w); (first | ((fail_if_success (have := bl1)); intro bl1 w H) | ((fail_if_success (have := bl2)); intro bl2 w H) | ((fail_if_success (have := bl3)); intro bl3 w H) | ((fail_if_success (have := bl4)); intro bl4 w H) | intro _ w H)) | (refine Ze H ?_; clear H; (try clear w); intro gv w H))
              have qr := fun j v h => (qp j v h).mono hs9
              repeat' (first | (refine K.ia (i := i) rfl rfl rfl rfl rfl (by omega) ?_) | refine Z H ?_ | (refine Zc ?_ ?_ <;> intro hc <;> first | (exfalso; omega) | skip) | (refine Y ?_; try change C _ _ _ _ _ _) | (refine Zs H ?_; clear H; (try clear w); intro w H) | (refine Zn H ?_; clear H; (try clear w); (first | ((fail_if_success (have := bl1)); intro bl1 w H) | ((fail_if_success (have := bl2)); intro bl2 w H) | ((fail_if_success (have := bl3)); intro bl3 w H) | ((fail_if_success (have := bl4)); intro bl4 w H) | intro _ w H)) | (refine Ze H ?_; clear H; (try clear w); intro gv w H))
              refine X.call (Changes_s (dx := do_) (N := an) (At := at') (off := off) (fill := fill) (kv := .slice ka keep.length kc) H hn ha rfl) ?_
              clear H
              rintro _ w ⟨s10, v10, cs10, rfl, hs10, hS10, hC10, H⟩
              refine ⟨_, rfl, ?_⟩
              rw [hchs] at hS10 hC10
              repeat' (first | refine Z H ?_ | (refine Zc ?_ ?_ <;> intro hc <;> first | (exfalso; omega) | skip) | (refine Y ?_; try change C _ _ _ _ _ _) | (refine Zs H ?_; clear H; (try clear w); intro w H) | (refine Zn H ?_; clear H; (try clear w); (first | ((fail_if_success (have := bl1)); intro bl1 w H) | ((fail_if_success (have := bl2)); intro bl2 w H) | ((fail_if_success (have := bl3)); intro bl3 w H) | ((fail_if_success (have := bl4)); intro bl4 w H) | intro _ w H)) | (refine Ze H ?_; clear H; (try clear w); intro gv w H))
              first | (have hT : Holds _ _ (dsk b _ :: _) := H; clear hT) | (replace H := H.up 1 rfl; (try simp only [List.set_cons_zero, List.set_cons_succ, List.eraseIdx_cons_zero, List.eraseIdx_cons_succ] at H); have hT : Holds _ _ (dsk b _ :: _) := H; clear hT) | (replace H := H.up 2 rfl; (try simp only [List.set_cons_zero, List.set_cons_succ, List.eraseIdx_cons_zero, List.eraseIdx_cons_succ] at H); have hT : Holds _ _ (dsk b _ :: _) := H; clear hT) | (replace H := H.up 3 rfl; (try simp only [List.set_cons_zero, List.set_cons_succ, List.eraseIdx_cons_zero, List.eraseIdx_cons_succ] at H); have hT : Holds _ _ (dsk b _ :: _) := H; clear hT) | (replace H := H.up 4 rfl; (try simp only [List.set_cons_zero, List.set_cons_succ, List.eraseIdx_cons_zero, List.eraseIdx_cons_succ] at H); have hT : Holds _ _ (dsk b _ :: _) := H; clear hT) | (replace H := H.up 5 rfl; (try simp only [List.set_cons_zero, List.set_cons_succ, List.eraseIdx_cons_zero, List.eraseIdx_cons_succ] at H); have hT : Holds _ _ (dsk b _ :: _) := H; clear hT) | (replace H := H.up 6 rfl; (try simp only [List.set_cons_zero, List.set_cons_succ, List.eraseIdx_cons_zero, List.eraseIdx_cons_succ] at H); have hT : Holds _ _ (dsk b _ :: _) := H; clear hT)
              first | (have hT : Holds _ _ (logW bL2 _ _ _ _ _ _ :: _) := H; clear hT) | (replace H := H.up 1 rfl; (try simp only [List.set_cons_zero, List.set_cons_succ, List.eraseIdx_cons_zero, List.eraseIdx_cons_succ] at H); have hT : Holds _ _ (logW bL2 _ _ _ _ _ _ :: _) := H; clear hT) | (replace H := H.up 2 rfl; (try simp only [List.set_cons_zero, List.set_cons_succ, List.eraseIdx_cons_zero, List.eraseIdx_cons_succ] at H); have hT : Holds _ _ (logW bL2 _ _ _ _ _ _ :: _) := H; clear hT) | (replace H := H.up 3 rfl; (try simp only [List.set_cons_zero, List.set_cons_succ, List.eraseIdx_cons_zero, List.eraseIdx_cons_succ] at H); have hT : Holds _ _ (logW bL2 _ _ _ _ _ _ :: _) := H; clear hT) | (replace H := H.up 4 rfl; (try simp only [List.set_cons_zero, List.set_cons_succ, List.eraseIdx_cons_zero, List.eraseIdx_cons_succ] at H); have hT : Holds _ _ (logW bL2 _ _ _ _ _ _ :: _) := H; clear hT) | (replace H := H.up 5 rfl; (try simp only [List.set_cons_zero, List.set_cons_succ, List.eraseIdx_cons_zero, List.eraseIdx_cons_succ] at H); have hT : Holds _ _ (logW bL2 _ _ _ _ _ _ :: _) := H; clear hT) | (replace H := H.up 6 rfl; (try simp only [List.set_cons_zero, List.set_cons_succ, List.eraseIdx_cons_zero, List.eraseIdx_cons_succ] at H); have hT : Holds _ _ (logW bL2 _ _ _ _ _ _ :: _) := H; clear hT)
              have hCm := Commit_l (m := m) (x := (((3 : Nat) : Int), 52)) (hN.mono ((hle8.trans hs9).trans hs10)) (by rw [hG.dead]; exact H) (hp.mono ((hlp8.trans hs9).trans hs10)) hG.ep hG.home hG.used hG.pages hS10 hC10 (by omega) (by omega)
              rw [hcm] at hCm
              dsimp only at hCm
              rw [hG2.dead] at hCm
              (refine X.call (hCm) ?_; (try clear H); rintro _ w ⟨rfl, H⟩; refine ⟨_, rfl, ?_⟩)
              clear hCm
              repeat' (first | refine Z H ?_ | (refine Zc ?_ ?_ <;> intro hc <;> first | (exfalso; omega) | skip) | (refine Y ?_; try change C _ _ _ _ _ _) | (refine Zs H ?_; clear H; (try clear w); intro w H) | (refine Zn H ?_; clear H; (try clear w); (first | ((fail_if_success (have := bl1)); intro bl1 w H) | ((fail_if_success (have := bl2)); intro bl2 w H) | ((fail_if_success (have := bl3)); intro bl3 w H) | ((fail_if_success (have := bl4)); intro bl4 w H) | intro _ w H)) | (refine Ze H ?_; clear H; (try clear w); intro gv w H))
              (refine X.call (is16_s H hG2.pages (hR2.mono hs10) (hS2.mono hs10)) ?_; (try clear H); rintro _ w ⟨rfl, H⟩; refine ⟨_, rfl, ?_⟩)
              repeat' (first | refine Z H ?_ | (refine Zc ?_ ?_ <;> intro hc <;> first | (exfalso; omega) | skip) | (refine Y ?_; try change C _ _ _ _ _ _) | (refine Zs H ?_; clear H; (try clear w); intro w H) | (refine Zn H ?_; clear H; (try clear w); (first | ((fail_if_success (have := bl1)); intro bl1 w H) | ((fail_if_success (have := bl2)); intro bl2 w H) | ((fail_if_success (have := bl3)); intro bl3 w H) | ((fail_if_success (have := bl4)); intro bl4 w H) | intro _ w H)) | (refine Ze H ?_; clear H; (try clear w); intro gv w H))
              exact ⟨by (repeat (first | exact Agr.refl | exact Agr.hav | refine Agr.upd rfl ?_ | refine Agr.in rfl ?_)), more.length - (i + 1), by omega, i + 1, s10, r0, r1, pa2, pc2, h0, k0, h1, k1, lfh, h2, nh2, k2, rfl, by omega, by omega, rfl, hs8.trans (hs9.trans hs10), hG2, by omega, hR2.mono hs10, hS2.mono hs10, H.arr⟩
          · repeat' (first | refine Z H ?_ | (refine Zc ?_ ?_ <;> intro hc <;> first | (exfalso; omega) | skip) | (refine Y ?_; try change C _ _ _ _ _ _) | (refine Zs H ?_; clear H; (try clear w); intro w H) | (refine Zn H ?_; clear H; (try clear w); (first | ((fail_if_success (have := bl1)); intro bl1 w H) | ((fail_if_success (have := bl2)); intro bl2 w H) | ((fail_if_success (have := bl3)); intro bl3 w H) | ((fail_if_success (have := bl4)); intro bl4 w H) | intro _ w H)) | (refine Ze H ?_; clear H; (try clear w); intro gv w H))
            all_goals
              (refine X.call (awake16 (hN.mono hle8) H) ?_; (try clear H); rintro _ w ⟨s12, rfl, hs12, H⟩; refine ⟨_, rfl, ?_⟩)
              repeat' (first | refine Z H ?_ | (refine Zc ?_ ?_ <;> intro hc <;> first | (exfalso; omega) | skip) | (refine Y ?_; try change C _ _ _ _ _ _) | (refine Zs H ?_; clear H; (try clear w); intro w H) | (refine Zn H ?_; clear H; (try clear w); (first | ((fail_if_success (have := bl1)); intro bl1 w H) | ((fail_if_success (have := bl2)); intro bl2 w H) | ((fail_if_success (have := bl3)); intro bl3 w H) | ((fail_if_success (have := bl4)); intro bl4 w H) | intro _ w H)) | (refine Ze H ?_; clear H; (try clear w); intro gv w H))
              exact ⟨_, resT rfl, rfl, H.done (hle8.trans hs12)⟩
        · refine ⟨_, rfl, ?_⟩
          repeat' (first | (refine X.ldp [.slice g0 d1.secs.length q0, .slice g1 d1.pend.length q1, .bool d1.off, .int .i64 lfg, .slice g2 ng2 q2] H ?_) | refine Z H ?_ | (refine Zc ?_ ?_ <;> intro hc <;> first | (exfalso; omega) | skip) | (refine Y ?_; try change C _ _ _ _ _ _) | (refine Zs H ?_; clear H; (try clear w); intro w H) | (refine Zn H ?_; clear H; (try clear w); (first | ((fail_if_success (have := bl1)); intro bl1 w H) | ((fail_if_success (have := bl2)); intro bl2 w H) | ((fail_if_success (have := bl3)); intro bl3 w H) | ((fail_if_success (have := bl4)); intro bl4 w H) | intro _ w H)) | (refine Ze H ?_; clear H; (try clear w); intro gv w H))
          have hO := Open16_s (d := d1) (f := 3) H (hD1.mono hs6) hoff (by omega) (by omega) hwf (by omega)
          refine X.call hO ?_
          clear H hO
          rintro _ w ⟨s7, cs, code, rfl, hs7, H, hres⟩
          refine ⟨_, rfl, ?_⟩
          obtain ⟨hn1, hn2, hRW⟩ := hres.resolve_right (fun ⟨_, _, _, h1, _⟩ => by rw [ho] at h1; cases h1)
          clear hres
          have hcc : code = c := by rw [ho] at hn1; exact (Prod.mk.inj hn1).2.symm
          subst hcc
          obtain ⟨h0, k0, h1, k1, lfh, h2, nh2, k2, rfl, _⟩ := hRW
          repeat' (first | refine Z H ?_ | (refine Zc ?_ ?_ <;> intro hc <;> first | (exfalso; omega) | skip) | (refine Y ?_; try change C _ _ _ _ _ _) | (refine Zs H ?_; clear H; (try clear w); intro w H) | (refine Zn H ?_; clear H; (try clear w); (first | ((fail_if_success (have := bl1)); intro bl1 w H) | ((fail_if_success (have := bl2)); intro bl2 w H) | ((fail_if_success (have := bl3)); intro bl3 w H) | ((fail_if_success (have := bl4)); intro bl4 w H) | intro _ w H)) | (refine Ze H ?_; clear H; (try clear w); intro gv w H))
          first | (have hT : Holds _ _ (dsk b _ :: _) := H; clear hT) | (replace H := H.up 1 rfl; (try simp only [List.set_cons_zero, List.set_cons_succ, List.eraseIdx_cons_zero, List.eraseIdx_cons_succ] at H); have hT : Holds _ _ (dsk b _ :: _) := H; clear hT) | (replace H := H.up 2 rfl; (try simp only [List.set_cons_zero, List.set_cons_succ, List.eraseIdx_cons_zero, List.eraseIdx_cons_succ] at H); have hT : Holds _ _ (dsk b _ :: _) := H; clear hT) | (replace H := H.up 3 rfl; (try simp only [List.set_cons_zero, List.set_cons_succ, List.eraseIdx_cons_zero, List.eraseIdx_cons_succ] at H); have hT : Holds _ _ (dsk b _ :: _) := H; clear hT) | (replace H := H.up 4 rfl; (try simp only [List.set_cons_zero, List.set_cons_succ, List.eraseIdx_cons_zero, List.eraseIdx_cons_succ] at H); have hT : Holds _ _ (dsk b _ :: _) := H; clear hT) | (replace H := H.up 5 rfl; (try simp only [List.set_cons_zero, List.set_cons_succ, List.eraseIdx_cons_zero, List.eraseIdx_cons_succ] at H); have hT : Holds _ _ (dsk b _ :: _) := H; clear hT) | (replace H := H.up 6 rfl; (try simp only [List.set_cons_zero, List.set_cons_succ, List.eraseIdx_cons_zero, List.eraseIdx_cons_succ] at H); have hT : Holds _ _ (dsk b _ :: _) := H; clear hT)
          refine C.drawn5 [0, 1, 2, 3, 4, 5, 6, 7, 8, 9, 10, 11, 14, 15, 12, 13, 16, 17, 18] [0, 0, 0, 0, 0, 0, 0, 0, 0, 0, 0, 0, 0, 1, 2, 1, 2, 0, 0] [15, 2] [0, 0, 3, 7, 15, 31, 15, 79, 255, 511, 1023, 2047, 4095, 8191, 2047, 18431, 57343, 131071, 262143] (by kernel_rfl) ?_; replace H := H.drew; simp only [Reg.pick, List.filterMap_cons, List.filterMap_nil, List.getElem?_toArray, List.getElem?_cons_zero, List.getElem?_cons_succ, segN, List.take_succ_cons, List.take_zero, List.drop_succ_cons, List.drop_zero]
          repeat' (first | (refine X.ldp [.slice g0 d1.secs.length q0, .slice g1 d1.pend.length q1, .bool d1.off, .int .i64 lfg, .slice g2 ng2 q2] H ?_) | (refine K.cmpB rfl rfl rfl rfl rfl ?_) | refine Z H ?_ | (refine Zc ?_ ?_ <;> intro hc <;> first | (exfalso; omega) | skip) | (refine Y ?_; try change C _ _ _ _ _ _) | (refine Zs H ?_; clear H; (try clear w); intro w H) | (refine Zn H ?_; clear H; (try clear w); (first | ((fail_if_success (have := bl1)); intro bl1 w H) | ((fail_if_success (have := bl2)); intro bl2 w H) | ((fail_if_success (have := bl3)); intro bl3 w H) | ((fail_if_success (have := bl4)); intro bl4 w H) | intro _ w H)) | (refine Ze H ?_; clear H; (try clear w); intro gv w H))
          (refine X.call (Image_d H) ?_; (try clear H); rintro _ w ⟨t1, a3, c3, rfl, ho4, H⟩; refine ⟨_, rfl, ?_⟩); refine L.nil ?_; refine ⟨rfl, rfl, (by first | exact fun h => Bool.noConfusion (show false = true from h) | exact fun _ => ext_same | exact fun _ => ext_only (by assumption)), ?_⟩
          clear ho4
          repeat' (first | (refine X.stro H ?_) | refine Z H ?_ | (refine Zc ?_ ?_ <;> intro hc <;> first | (exfalso; omega) | skip) | (refine Y ?_; try change C _ _ _ _ _ _) | (refine Zs H ?_; clear H; (try clear w); intro w H) | (refine Zn H ?_; clear H; (try clear w); (first | ((fail_if_success (have := bl1)); intro bl1 w H) | ((fail_if_success (have := bl2)); intro bl2 w H) | ((fail_if_success (have := bl3)); intro bl3 w H) | ((fail_if_success (have := bl4)); intro bl4 w H) | intro _ w H)) | (refine Ze H ?_; clear H; (try clear w); intro gv w H))
          (refine X.call (Image_e H (hD1.mono (hs6.trans hs7))) ?_; (try clear H); rintro _ w ⟨rfl, ho5, H⟩; refine ⟨_, rfl, ?_⟩); refine L.nil ?_; refine ⟨rfl, rfl, (by first | exact fun h => Bool.noConfusion (show false = true from h) | exact fun _ => ext_same | exact fun _ => ext_only (by assumption)), ?_⟩
          clear ho5
          repeat' (first | refine Z H ?_ | (refine Zc ?_ ?_ <;> intro hc <;> first | (exfalso; omega) | skip) | (refine Y ?_; try change C _ _ _ _ _ _) | (refine Zs H ?_; clear H; (try clear w); intro w H) | (refine Zn H ?_; clear H; (try clear w); (first | ((fail_if_success (have := bl1)); intro bl1 w H) | ((fail_if_success (have := bl2)); intro bl2 w H) | ((fail_if_success (have := bl3)); intro bl3 w H) | ((fail_if_success (have := bl4)); intro bl4 w H) | intro _ w H)) | (refine Ze H ?_; clear H; (try clear w); intro gv w H))
          (refine X.call (awake16 (hN.mono (hle5.trans (hs6.trans hs7))) H) ?_; (try clear H); rintro _ w ⟨s12, rfl, hs12, H⟩; refine ⟨_, rfl, ?_⟩)
          repeat' (first | refine Z H ?_ | (refine Zc ?_ ?_ <;> intro hc <;> first | (exfalso; omega) | skip) | (refine Y ?_; try change C _ _ _ _ _ _) | (refine Zs H ?_; clear H; (try clear w); intro w H) | (refine Zn H ?_; clear H; (try clear w); (first | ((fail_if_success (have := bl1)); intro bl1 w H) | ((fail_if_success (have := bl2)); intro bl2 w H) | ((fail_if_success (have := bl3)); intro bl3 w H) | ((fail_if_success (have := bl4)); intro bl4 w H) | intro _ w H)) | (refine Ze H ?_; clear H; (try clear w); intro gv w H))
          exact ⟨_, resT rfl, rfl, H.done ((hle5.trans (hs6.trans hs7)).trans hs12)⟩
open Go.ChangeShapes Go.WideShapes Go.ChangeAt in
theorem wopens_rdg {w : World} {cs : List Value} (hN : Nib (startRo w)) (hl : cs.length = Tryd.prog.cellsOf 93) (h : Rdg Tryd.prog w 93 cs) : Calls Tryd.prog 9 #[.agg cs.toArray] w fun e w' => e = .returned (.bool true) ∧ Only [] w w' := by
  have hl4 : cs.length = 4 := hl.trans (by kernel_rfl)
  match cs, hl4 with
  | [c0, c1, c2, c3], _ =>
    have f0 : Rdg Tryd.prog w 68 [c0] := rdg_field Tryd.underlying93 h 0 68 0 1 rfl (by kernel_rfl)
    have f1 : Rdg Tryd.prog w 3 [c1] := rdg_field Tryd.underlying93 h 1 3 1 1 rfl (by kernel_rfl)
    have f2 : Rdg Tryd.prog w 37 [c2] := rdg_field Tryd.underlying93 h 2 37 2 1 rfl (by kernel_rfl)
    have f3 : Rdg Tryd.prog w 68 [c3] := rdg_field Tryd.underlying93 h 3 68 3 1 rfl (by kernel_rfl)
    obtain ⟨l, h1, h2⟩ := acts16_of f0
    obtain ⟨n1, e1, w1⟩ := rdg_int Tryd.underlying3 f1
    cases e1
    obtain ⟨b, b1, _⟩ := rdg_bytes8 Tryd.underlying37 Tryd.underlying5 (by kernel_rfl) f2
    obtain ⟨l3, h3, h4⟩ := acts16_of f3
    have b2 := SlS.start b1
    obtain ⟨va, vc, rfl, _⟩ := formS h1
    obtain ⟨vm, mc, rfl, _⟩ := formS h3
    obtain ⟨sa, sc, rfl, _⟩ := formS b2
    exact (wopens_walk hN (Holds.start w) h1 h2 h3 h4 b2 (wf_i64 w1)).mono fun e w' h => ⟨h.1, h.2.only⟩
end
end Go.Proofs.YtbknpbihgfphaaaDoor
