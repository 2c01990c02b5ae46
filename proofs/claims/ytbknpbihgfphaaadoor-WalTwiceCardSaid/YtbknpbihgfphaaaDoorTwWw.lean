/- law16: what a formatted part is, plain; where a part begins; WalTwice, walked. -/
import Derived.Test.YtbknpbihgfphaaaDoorTwWv
import Derived.Test.YtbknpbihgfphaaaDoorTwWs
set_option linter.unusedSimpArgs false
set_option linter.unusedVariables false
namespace Go.Proofs.YtbknpbihgfphaaaDoor
open Go Go.RowKit Go.Own
def frN (n : Int) : Nat := if n < 0 ∨ 8 < n then 3 else n.toNat
theorem frN_le (n : Int) : frN n ≤ 8 := by unfold frN; split <;> omega
def fmtQ : List (Nat × List UInt8) := (List.range' 0 18).map (fun i => (34 + i, z64)) ++ hW 1 0 z640 16 0
theorem formatSteps_eq : formatSteps = wS fmtQ ++ .f :: (wS [(1, headB 1 0)] ++ .f :: []) := by
  have h1 : formatSteps = wS ((List.range' 0 18).map (fun i => (34 + i, z64))) ++ homeSteps 1 0 z640 := rfl
  rw [h1, homeSteps, homeFrom_eq, ← List.append_assoc]
  have h2 : ∀ a b, wS (a ++ b) = wS a ++ wS b := fun a b => List.map_append
  rw [fmtQ, h2]
theorem fmtQ_mem {p : Nat × List UInt8} (hp : p ∈ fmtQ) : (∃ i, i < 18 ∧ p = (34 + i, z64)) ∨ ∃ i, i < 16 ∧ p = (2 + i, pageB 1 i z640) := by
  rcases List.mem_append.1 hp with h | h
  · obtain ⟨i, hi, rfl⟩ := List.mem_map.1 h
    have := List.mem_range'_1.1 hi
    exact .inl ⟨i, by omega, rfl⟩
  · obtain ⟨i, _, hi, rfl⟩ := hW_mem h
    exact .inr ⟨i, by omega, by simp⟩
theorem rec_z64 (e k : Nat) : recStep z64 e k = none := by
  have h1 : decW 82 42 z64 = none := by decide +kernel
  have h2 : decW 67 1 z64 = none := by decide +kernel
  unfold recStep
  rw [h1, h2]
theorem cand_z64 : candW z64 0 = none := by decide +kernel
/-- a formatted part is a log -/
theorem fmt_inv {f : Nat} (hf : f ≤ 8) : WInv 60 f (fmtD f) awM := by
  have hfree := (fmt_free (f := f) (by omega)).1
  have hD : fmtD f = (run ((f : Int), 52) formatSteps (DM.new 60)).1 := rfl
  rw [formatSteps_eq] at hfree hD
  have hnl : (DM.new 60).secs.length = 60 := by simp [DM.new]
  have hok : ∀ p ∈ fmtQ, p.1 < 52 ∧ p.2.length = 64 := fun p hp => by
    rcases fmtQ_mem hp with ⟨i, hi, rfl⟩ | ⟨i, hi, rfl⟩
    · exact ⟨by dsimp only; omega, rfl⟩
    · exact ⟨by dsimp only; omega, secW_len (by rw [List.length_append, getP_len (ps := z640) List.length_replicate (by omega)]; simp)⟩
  have hok2 : ∀ p ∈ [(1, headB 1 0)], p.1 < 52 ∧ p.2.length = 64 := fun p hp => by
    rw [List.mem_singleton] at hp
    subst hp
    exact ⟨by decide, secW_len (by simp)⟩
  rcases run_phase (N := 60) (f := f) (by omega) (by decide) (wS [(1, headB 1 0)] ++ .f :: []) fmtQ (DM.new 60) rfl hnl hok with ⟨d1, a1, a2, a3, a4⟩ | ⟨d1, _, a4⟩
  rotate_left
  · rw [a4] at hfree; exact absurd hfree (by dsimp only; decide)
  rw [a4] at hfree hD
  have a3' : d1.secs = layAll (DM.new 60).secs ([] ++ wP f fmtQ) := a3
  have hl1 : d1.secs.length = 60 := by rw [a3', layAll_len]; exact hnl
  rcases run_phase (N := 60) (f := f) (by omega) (by decide) [] [(1, headB 1 0)] d1 a1 hl1 hok2 with ⟨d2, b1, b2, b3, b4⟩ | ⟨d2, _, b4⟩
  rotate_left
  · rw [b4] at hfree; exact absurd hfree (by dsimp only; decide)
  rw [b4] at hD
  rw [a2] at b3
  have hl2 : d2.secs.length = 60 := by rw [b3, layAll_len]; exact hl1
  have hD2 : fmtD f = d2 := hD
  rw [hD2]
  have h34 : ∀ j, j < 18 → secF f d2 (34 + j) = z64 := fun j hj => by
    refine lay_in b3 hl1 (by omega) (fun p hp e => ?_) (.inr ?_)
    · rw [List.mem_singleton] at hp; subst hp; dsimp only at e; omega
    refine lay_in a3' hnl (by omega) (fun p hp e => ?_) (.inl ⟨(34 + j, z64), List.mem_append_left _ (List.mem_map.2 ⟨j, List.mem_range'_1.2 ⟨Nat.zero_le _, by omega⟩, rfl⟩), rfl⟩)
    rcases fmtQ_mem hp with ⟨i, hi, rfl⟩ | ⟨i, hi, rfl⟩
    · rfl
    · dsimp only at e; omega
  have hpg : ∀ i, i < 16 → secF f d2 (2 + i) = pageB 1 i z640 := fun i hi => by
    refine lay_in b3 hl1 (by omega) (fun p hp e => ?_) (.inr ?_)
    · rw [List.mem_singleton] at hp; subst hp; dsimp only at e; omega
    refine lay_in a3' hnl (by omega) (fun p hp e => ?_) (.inl ⟨(2 + 16 * 0 + i, pageB 1 i z640), List.mem_append_right _ (hW_has (Nat.zero_le _) (by omega)), by simp⟩)
    rcases fmtQ_mem hp with ⟨j, hj, rfl⟩ | ⟨j, hj, rfl⟩
    · dsimp only at e; omega
    · dsimp only at e
      have : j = i := by omega
      subst this; rfl
  have h0 : secF f d2 0 = z64 := by
    refine lay_in b3 hl1 (by omega) (fun p hp e => ?_) (.inr ?_)
    · rw [List.mem_singleton] at hp; subst hp; dsimp only at e; omega
    refine lay_in a3' hnl (by omega) (fun p hp e => ?_) (.inr ?_)
    · rcases fmtQ_mem hp with ⟨j, hj, rfl⟩ | ⟨j, hj, rfl⟩ <;> (dsimp only at e; omega)
    · unfold secF DM.new
      simp only [List.getElem?_replicate]
      rw [if_pos (by omega)]; rfl
  refine ⟨b1, b2, hl2, ⟨by decide, by decide, by decide, List.length_replicate, rfl, ?_, fun e' h' hc => ?_, ⟨z640, List.length_replicate, fun i hi => ?_, ?_⟩, fun k e' hk _ => ?_, fun k _ hk => ?_⟩⟩
  · exact lay_in b3 hl1 (by show f + 1 < 60; omega) (fun p hp e => by rw [List.mem_singleton] at hp; subst hp; rfl) (.inl ⟨_, List.mem_singleton.2 rfl, rfl⟩)
  · have hc' : candW (secF f d2 0) 0 = some (e', h') := hc
    rw [h0, cand_z64] at hc'
    cases hc'
  · exact hpg i hi
  · exact recsC_end 18 0 z640 0 [] (fun j _ hj => by rw [h34 j (by omega), rec_z64]; simp)
  · rw [h34 k hk, rec_z64]; simp
  · rw [h34 k hk, rec_z64]; simp
theorem goodf {f : Nat} (hf : f + 52 ≤ 60) : GoodW f (fmtD f) awM := by
  obtain ⟨_, h2, h3⟩ := run_free hf formatSteps Fr0.new fmt_ok
  exact ⟨h2, fun k hk ho => by unfold fmtD; rw [h3 k hk, effS_out f ho _ _ fmt_ok]; exact new_cur hk, by decide, by decide, by decide, List.length_replicate, rfl⟩
theorem arm_off {d : DM} (n : Int) (sv : List Bool) : (d.arm n sv).off = d.off ∧ (d.arm n sv).secs = d.secs ∧ (d.arm n sv).pend = d.pend := by
  unfold DM.arm DM.disarm
  split
  · exact ⟨rfl, rfl, rfl⟩
  · split <;> exact ⟨rfl, rfl, rfl⟩
theorem secF_congr {f : Nat} {d d' : DM} (h : d'.secs = d.secs) : secF f d' = secF f d := by funext k; unfold secF; rw [h]
theorem WInv.arm {N f : Nat} {d : DM} {m : WL} (h : WInv N f d m) (n : Int) (sv : List Bool) : WInv N f (d.arm n sv) m := by
  obtain ⟨h1, h2, h3⟩ := arm_off (d := d) n sv
  exact ⟨h1.trans h.off, h3.trans h.pend, by rw [h2]; exact h.len, by rw [secF_congr h2]; exact h.log⟩
theorem WInv.powered {N f : Nat} {d : DM} {m : WL} (h : LgC (secF f d) m) (hl : d.secs.length = N) : WInv N f d.power m := ⟨rfl, rfl, hl, h⟩
theorem power_crash (d : DM) (sv : List Bool) : (d.power.crash sv).power = d.power := by
  unfold DM.crash DM.power
  simp [layS]
section
variable {s : Ro} {w : World} {R : List Asn}
theorem from_s {n : Int} (H : Holds s w R) : Calls Tryd.prog 47 #[.int .i64 n] w fun y w' => y = .returned (.int .i64 (frN n : Int)) ∧ Holds s w' R := by
  refine enter Tryd.func47 rfl Tryd.ntmps47 rfl ?_
  repeat' (first | refine Z H ?_ | (refine Zc ?_ ?_ <;> intro hc <;> first | (exfalso; omega) | skip) | (refine Y ?_; try change C _ _ _ _ _ _) | (refine Zs H ?_; clear H; (try clear w); intro w H) | (refine Zn H ?_; clear H; (try clear w); intro _ w H) | (refine Ze H ?_; clear H; (try clear w); intro gv w H))
  all_goals
    refine ⟨_, resT rfl, ?_, H⟩
    unfold frN
    first
      | rw [if_pos (by omega)]; rfl
      | (rw [if_neg (by omega)]; show _ = Ending.returned (.int .i64 ((n.toNat : Nat) : Int)); rw [Int.toNat_of_nonneg (by omega)]; rfl)
set_option maxRecDepth 100000 in
set_option maxHeartbeats 1000000 in
theorem wtwice_walk {n : Int} {acts : List Act16} {va : Option Addr} {vc : Nat} {keep : List Bool} {ka : Option Addr} {kc : Nat} (hN : Nib s) (H : Holds s w []) (hl : SlS s (.slice va acts.length vc) 6 acts.length (acts.flatMap Act16.cells)) (hok : ∀ a ∈ acts, a.Ok s) (hkp : SlS s (.slice ka keep.length kc) 1 keep.length (keep.map Value.bool)) : Calls Tryd.prog 11 #[.int .i64 n, .slice va acts.length vc, .slice ka keep.length kc] w fun e w' => e = .returned (.bool true) ∧ Fin s w' := by
  have hf8 := frN_le n
  have hpd := fmt_pend (frN n)
  have hg4 := goodf (f := frN n) (by omega)
  have hi4 := fmt_inv hf8
  obtain ⟨hop, hon⟩ := hi4.opens (by omega) (by decide)
  refine enter Tryd.func11 rfl Tryd.ntmps11 rfl ?_
  repeat' (first | refine Z H ?_ | (refine Zc ?_ ?_ <;> intro hc <;> first | (exfalso; omega) | skip) | (refine Y ?_; try change C _ _ _ _ _ _) | (refine Zs H ?_; clear H; (try clear w); intro w H) | (refine Zn H ?_; clear H; (try clear w); intro _ w H) | (refine Ze H ?_; clear H; (try clear w); intro gv w H))
  (refine X.call (from_s (n := n) H) ?_; (try clear H); rintro _ w ⟨rfl, H⟩; refine ⟨_, rfl, ?_⟩)
  generalize frN n = f at *
  repeat' (first | refine Z H ?_ | (refine Zc ?_ ?_ <;> intro hc <;> first | (exfalso; omega) | skip) | (refine Y ?_; try change C _ _ _ _ _ _) | (refine Zs H ?_; clear H; (try clear w); intro w H) | (refine Zn H ?_; clear H; (try clear w); intro _ w H) | (refine Ze H ?_; clear H; (try clear w); intro gv w H))
  refine X.call (part16_s (n := f) hN H hf8) ?_
  clear H
  rintro _ w ⟨s1, b, bp, v, rfl, hs1, hp, hR, H⟩
  refine ⟨_, rfl, ?_⟩
  obtain ⟨a0, c0, a1, c1, lf, a2, n2, c2, rfl⟩ := refCellsW hR
  repeat' (first | refine Z H ?_ | (refine Zc ?_ ?_ <;> intro hc <;> first | (exfalso; omega) | skip) | (refine Y ?_; try change C _ _ _ _ _ _) | (refine Zs H ?_; clear H; (try clear w); intro w H) | (refine Zn H ?_; clear H; (try clear w); intro _ w H) | (refine Ze H ?_; clear H; (try clear w); intro gv w H))
  first | (have hT : Holds _ _ (dsk b _ :: _) := H; clear hT) | (replace H := H.up 1 rfl; (try simp only [List.set_cons_zero, List.set_cons_succ, List.eraseIdx_cons_zero, List.eraseIdx_cons_succ] at H); have hT : Holds _ _ (dsk b _ :: _) := H; clear hT) | (replace H := H.up 2 rfl; (try simp only [List.set_cons_zero, List.set_cons_succ, List.eraseIdx_cons_zero, List.eraseIdx_cons_succ] at H); have hT : Holds _ _ (dsk b _ :: _) := H; clear hT) | (replace H := H.up 3 rfl; (try simp only [List.set_cons_zero, List.set_cons_succ, List.eraseIdx_cons_zero, List.eraseIdx_cons_succ] at H); have hT : Holds _ _ (dsk b _ :: _) := H; clear hT) | (replace H := H.up 4 rfl; (try simp only [List.set_cons_zero, List.set_cons_succ, List.eraseIdx_cons_zero, List.eraseIdx_cons_succ] at H); have hT : Holds _ _ (dsk b _ :: _) := H; clear hT) | (replace H := H.up 5 rfl; (try simp only [List.set_cons_zero, List.set_cons_succ, List.eraseIdx_cons_zero, List.eraseIdx_cons_succ] at H); have hT : Holds _ _ (dsk b _ :: _) := H; clear hT) | (replace H := H.up 6 rfl; (try simp only [List.set_cons_zero, List.set_cons_succ, List.eraseIdx_cons_zero, List.eraseIdx_cons_succ] at H); have hT : Holds _ _ (dsk b _ :: _) := H; clear hT)
  refine X.call (Open_l (x := ((f : Int), 52)) (hN.mono hs1) H hp rfl hon) ?_
  clear H
  rintro _ w ⟨s2, hs2, hcase⟩
  obtain ⟨m, bL, ho, rfl, H⟩ := hcase.resolve_right (fun ⟨c, ho, _⟩ => by rw [hop] at ho; cases ho)
  clear hcase
  refine ⟨_, rfl, ?_⟩
  rw [hop] at ho
  cases ho
  clear hop hon
  repeat' (first | refine Z H ?_ | (refine Zc ?_ ?_ <;> intro hc <;> first | (exfalso; omega) | skip) | (refine Y ?_; try change C _ _ _ _ _ _) | (refine Zs H ?_; clear H; (try clear w); intro w H) | (refine Zn H ?_; clear H; (try clear w); intro _ w H) | (refine Ze H ?_; clear H; (try clear w); intro gv w H))
  have H' : Holds s2 w (logW bL bp awM.epoch awM.home awM.used awM.pages awM.dead :: dsk b (fmtD f) :: []) := H.arr
  clear H
  have hle2 := hs1.trans hs2
  generalize fmtD f = d0 at *
  generalize awM = m0 at *
  refine C.loopS [13, 36, 37, 38, 39, 40, 41, 42, 43, 44, 45, 46, 47, 48, 49, 50, 51, 52, 53, 54, 55, 56, 57, 58, 59, 60, 61, 62, 63, 64, 65, 66, 67, 68, 69] [13] rfl (fun k vs w => ∃ i : Nat, ∃ s' d m, k = acts.length - i ∧ i ≤ acts.length ∧ i ≤ 12 ∧ vs = [.int .i64 (i : Int)] ∧ s2.Le s' ∧ (i < acts.length → GoodW f d m ∧ WInv 60 f d m) ∧ (∃ m2, LgC (secF f d) m2) ∧ d.secs.length = 60 ∧ d.pend.length ≤ 100 + 40 * i ∧ Holds s' w (logW bL bp m.epoch m.home m.used m.pages m.dead :: dsk b d :: [])) acts.length ⟨0, s2, d0, m0, rfl, Nat.zero_le _, Nat.zero_le _, rfl, Ro.Le.refl _, fun _ => ⟨hg4, hi4⟩, ⟨m0, hi4.log⟩, hi4.len, hpd, H'⟩ ?_
  clear H' hg4 hi4 hpd
  clear hR
  rintro k vs hv w ⟨i, s3, d, m, rfl, hi, hi12, rfl, hle3, hGI, hlg, hd60, hdp, H⟩
  have hle23 := hle2.trans hle3
  by_cases hlt : i < acts.length ∧ i < 12
  · obtain ⟨hlt, hlt12⟩ := hlt
    obtain ⟨hG, hI⟩ := hGI hlt
    obtain ⟨g1, o1, c3, e1, hm1, hm2, hp1⟩ := elemS (hl.mono hle23) (fun _ _ => rfl) (by decide) (by omega)
    cases e1
    have hmx : acts.length ≤ 9223372036854775807 := Nat.le_trans hm1 (Nat.le_trans hm2 (by unfold maxLen; decide))
    have q1 : ∀ j v, ([.int .i64 acts[i].do_, .int .i64 acts[i].n, .int .i64 acts[i].at_, .int .i64 acts[i].off, .int .u8 (acts[i].fill.toNat : Int), acts[i].keepv] : List Value)[j]? = some v → Pin s3 g1 (o1 + i * 6 + j) v := hp1 i hlt
    obtain ⟨hkeep, hkl, hn, ha⟩ := (hok acts[i] (List.getElem_mem _)).mono hle23
    generalize acts[i] = a at *
    obtain ⟨ka, kc, hkv, _⟩ := formS hkeep
    rw [hkv] at q1 hkeep
    have p2 := q1 2 _ rfl
    have p5 := q1 5 _ rfl
    by_cases hlast : (i : Int) = (acts.length : Int) - 1
    · repeat' (first | refine Z H ?_ | (refine Zc ?_ ?_ <;> intro hc <;> first | (exfalso; omega) | skip) | (refine Y ?_; try change C _ _ _ _ _ _) | (refine Zs H ?_; clear H; (try clear w); intro w H) | (refine Zn H ?_; clear H; (try clear w); intro _ w H) | (refine Ze H ?_; clear H; (try clear w); intro gv w H))
      first | (have hT : Holds _ _ (dsk b _ :: _) := H; clear hT) | (replace H := H.up 1 rfl; (try simp only [List.set_cons_zero, List.set_cons_succ, List.eraseIdx_cons_zero, List.eraseIdx_cons_succ] at H); have hT : Holds _ _ (dsk b _ :: _) := H; clear hT) | (replace H := H.up 2 rfl; (try simp only [List.set_cons_zero, List.set_cons_succ, List.eraseIdx_cons_zero, List.eraseIdx_cons_succ] at H); have hT : Holds _ _ (dsk b _ :: _) := H; clear hT) | (replace H := H.up 3 rfl; (try simp only [List.set_cons_zero, List.set_cons_succ, List.eraseIdx_cons_zero, List.eraseIdx_cons_succ] at H); have hT : Holds _ _ (dsk b _ :: _) := H; clear hT) | (replace H := H.up 4 rfl; (try simp only [List.set_cons_zero, List.set_cons_succ, List.eraseIdx_cons_zero, List.eraseIdx_cons_succ] at H); have hT : Holds _ _ (dsk b _ :: _) := H; clear hT) | (replace H := H.up 5 rfl; (try simp only [List.set_cons_zero, List.set_cons_succ, List.eraseIdx_cons_zero, List.eraseIdx_cons_succ] at H); have hT : Holds _ _ (dsk b _ :: _) := H; clear hT) | (replace H := H.up 6 rfl; (try simp only [List.set_cons_zero, List.set_cons_succ, List.eraseIdx_cons_zero, List.eraseIdx_cons_succ] at H); have hT : Holds _ _ (dsk b _ :: _) := H; clear hT)
      refine C.drawn2 [g1] [0, 0, 0, 0, 0, 4, 0, 0, 0, 0, 4, 2] [12] [0, 0, 0, 6, 14, 30, 0, 0, 192, 448, 960, 2047] (by kernel_rfl) ?_; replace H := H.drew; simp only [segL, List.take_succ_cons, List.take_zero, List.drop_succ_cons, List.drop_zero]; have H0 := H
      repeat' (first | refine Z H ?_ | (refine Zc ?_ ?_ <;> intro hc <;> first | (exfalso; omega) | skip) | (refine Y ?_; try change C _ _ _ _ _ _) | (refine Zs H ?_; clear H; (try clear w); intro w H) | (refine Zn H ?_; clear H; (try clear w); intro _ w H) | (refine Ze H ?_; clear H; (try clear w); intro gv w H))
      (refine X.call (Arm_s H (.ro hkeep) ha.2 (by omega)) ?_; (try clear H); rintro _ w ⟨rfl, H⟩; refine ⟨_, rfl, ?_⟩); refine L.nil ?_; refine ⟨rfl, rfl, (by repeat (first | exact subN_nil | refine subN_cons (by simp) ?_)), (by first | exact keep_same | (repeat (first | exact keepV H0 H | exact keepP H0 H | exact keep_nil | refine keep_cons ?_ ?_))), ?_⟩; clear H0; have H0 := H
      repeat' (first | refine Z H ?_ | (refine Zc ?_ ?_ <;> intro hc <;> first | (exfalso; omega) | skip) | (refine Y ?_; try change C _ _ _ _ _ _) | (refine Zs H ?_; clear H; (try clear w); intro w H) | (refine Zn H ?_; clear H; (try clear w); intro _ w H) | (refine Ze H ?_; clear H; (try clear w); intro gv w H))
      refine ⟨rfl, rfl, (by repeat (first | exact subN_nil | refine subN_cons (by simp) ?_)), (by first | exact keep_same | (repeat (first | exact keepV H0 H | exact keepP H0 H | exact keep_nil | refine keep_cons ?_ ?_))), ?_⟩; clear H0; have H0 := H
      repeat' (first | refine Z H ?_ | (refine Zc ?_ ?_ <;> intro hc <;> first | (exfalso; omega) | skip) | (refine Y ?_; try change C _ _ _ _ _ _) | (refine Zs H ?_; clear H; (try clear w); intro w H) | (refine Zn H ?_; clear H; (try clear w); intro _ w H) | (refine Ze H ?_; clear H; (try clear w); intro gv w H))
      have hI2 := hI.arm a.at_ a.keep
      have hd2 : (d.arm a.at_ a.keep).pend.length ≤ 100 + 40 * i := by rw [(arm_off a.at_ a.keep).2.2]; exact hdp
      generalize d.arm a.at_ a.keep = d1 at *
      refine X.call (Changes_s (dx := a.do_) (N := a.n) (At := a.at_) (off := a.off) (fill := a.fill) (kv := .slice ka a.keep.length kc) H hn ha rfl) ?_
      clear H
      rintro _ w ⟨s4, v4, cs4, rfl, hs4, hS4, hC4, H⟩
      refine ⟨_, rfl, ?_⟩
      have hcl : (chsM a.n a.at_ a.off a.fill).length ≤ 18 := by unfold chsM; rw [List.length_map, List.length_range]; exact Nat.min_le_right _ _
      generalize chsM a.n a.at_ a.off a.fill = chs at *
      repeat' (first | refine Z H ?_ | (refine Zc ?_ ?_ <;> intro hc <;> first | (exfalso; omega) | skip) | (refine Y ?_; try change C _ _ _ _ _ _) | (refine Zs H ?_; clear H; (try clear w); intro w H) | (refine Zn H ?_; clear H; (try clear w); intro _ w H) | (refine Ze H ?_; clear H; (try clear w); intro gv w H))
      first | (have hT : Holds _ _ (logW bL _ _ _ _ _ _ :: _) := H; clear hT) | (replace H := H.up 1 rfl; (try simp only [List.set_cons_zero, List.set_cons_succ, List.eraseIdx_cons_zero, List.eraseIdx_cons_succ] at H); have hT : Holds _ _ (logW bL _ _ _ _ _ _ :: _) := H; clear hT) | (replace H := H.up 2 rfl; (try simp only [List.set_cons_zero, List.set_cons_succ, List.eraseIdx_cons_zero, List.eraseIdx_cons_succ] at H); have hT : Holds _ _ (logW bL _ _ _ _ _ _ :: _) := H; clear hT) | (replace H := H.up 3 rfl; (try simp only [List.set_cons_zero, List.set_cons_succ, List.eraseIdx_cons_zero, List.eraseIdx_cons_succ] at H); have hT : Holds _ _ (logW bL _ _ _ _ _ _ :: _) := H; clear hT) | (replace H := H.up 4 rfl; (try simp only [List.set_cons_zero, List.set_cons_succ, List.eraseIdx_cons_zero, List.eraseIdx_cons_succ] at H); have hT : Holds _ _ (logW bL _ _ _ _ _ _ :: _) := H; clear hT) | (replace H := H.up 5 rfl; (try simp only [List.set_cons_zero, List.set_cons_succ, List.eraseIdx_cons_zero, List.eraseIdx_cons_succ] at H); have hT : Holds _ _ (logW bL _ _ _ _ _ _ :: _) := H; clear hT) | (replace H := H.up 6 rfl; (try simp only [List.set_cons_zero, List.set_cons_succ, List.eraseIdx_cons_zero, List.eraseIdx_cons_succ] at H); have hT : Holds _ _ (logW bL _ _ _ _ _ _ :: _) := H; clear hT)
      have hCm := Commit_l (m := m) (x := ((f : Int), 52)) (hN.mono (hle23.trans hs4)) H (hp.mono (hs2.trans (hle3.trans hs4))) hG.ep hG.home hG.used hG.pages hS4 hC4 (by omega) (by omega)
      have hE2 := hI2.commit chs (by omega) (by decide)
      have hP2 := commit_pend d1 ((f : Int), 52) m chs
      generalize commitM d1 ((f : Int), 52) m chs = cm at *
      obtain ⟨d2, m2, code⟩ := cm
      dsimp only at hCm hE2 hP2
      (refine X.call (hCm) ?_; (try clear H); rintro _ w ⟨rfl, H⟩; refine ⟨_, rfl, ?_⟩)
      clear hCm
      repeat' (first | refine Z H ?_ | (refine Zc ?_ ?_ <;> intro hc <;> first | (exfalso; omega) | skip) | (refine Y ?_; try change C _ _ _ _ _ _) | (refine Zs H ?_; clear H; (try clear w); intro w H) | (refine Zn H ?_; clear H; (try clear w); intro _ w H) | (refine Ze H ?_; clear H; (try clear w); intro gv w H))
      have hend : (∃ m2, LgC (secF f d2) m2) ∧ d2.secs.length = 60 := by
        rcases hE2 with ⟨_, h1, _⟩ | ⟨_, h1, _⟩ | ⟨_, h1, _, _, m3, _, h2⟩
        · exact ⟨⟨_, h1.log⟩, h1.len⟩
        · cases h1; exact ⟨⟨_, hI2.log⟩, hI2.len⟩
        · exact ⟨⟨_, h2⟩, h1.len⟩
      exact ⟨by (repeat (first | exact Agr.refl | exact Agr.hav | refine Agr.upd rfl ?_ | refine Agr.in rfl ?_)), acts.length - (i + 1), by omega, i + 1, s4, d2, m2, rfl, by omega, by omega, rfl, hle3.trans hs4, fun hh => absurd hh (by omega), hend.1, hend.2, by omega, H⟩
    · repeat' (first | refine Z H ?_ | (refine Zc ?_ ?_ <;> intro hc <;> first | (exfalso; omega) | skip) | (refine Y ?_; try change C _ _ _ _ _ _) | (refine Zs H ?_; clear H; (try clear w); intro w H) | (refine Zn H ?_; clear H; (try clear w); intro _ w H) | (refine Ze H ?_; clear H; (try clear w); intro gv w H))
      refine X.call (Changes_s (dx := a.do_) (N := a.n) (At := a.at_) (off := a.off) (fill := a.fill) (kv := .slice ka a.keep.length kc) H hn ha rfl) ?_
      clear H
      rintro _ w ⟨s4, v4, cs4, rfl, hs4, hS4, hC4, H⟩
      refine ⟨_, rfl, ?_⟩
      have hcl : (chsM a.n a.at_ a.off a.fill).length ≤ 18 := by unfold chsM; rw [List.length_map, List.length_range]; exact Nat.min_le_right _ _
      generalize chsM a.n a.at_ a.off a.fill = chs at *
      repeat' (first | refine Z H ?_ | (refine Zc ?_ ?_ <;> intro hc <;> first | (exfalso; omega) | skip) | (refine Y ?_; try change C _ _ _ _ _ _) | (refine Zs H ?_; clear H; (try clear w); intro w H) | (refine Zn H ?_; clear H; (try clear w); intro _ w H) | (refine Ze H ?_; clear H; (try clear w); intro gv w H))
      first | (have hT : Holds _ _ (logW bL _ _ _ _ _ _ :: _) := H; clear hT) | (replace H := H.up 1 rfl; (try simp only [List.set_cons_zero, List.set_cons_succ, List.eraseIdx_cons_zero, List.eraseIdx_cons_succ] at H); have hT : Holds _ _ (logW bL _ _ _ _ _ _ :: _) := H; clear hT) | (replace H := H.up 2 rfl; (try simp only [List.set_cons_zero, List.set_cons_succ, List.eraseIdx_cons_zero, List.eraseIdx_cons_succ] at H); have hT : Holds _ _ (logW bL _ _ _ _ _ _ :: _) := H; clear hT) | (replace H := H.up 3 rfl; (try simp only [List.set_cons_zero, List.set_cons_succ, List.eraseIdx_cons_zero, List.eraseIdx_cons_succ] at H); have hT : Holds _ _ (logW bL _ _ _ _ _ _ :: _) := H; clear hT) | (replace H := H.up 4 rfl; (try simp only [List.set_cons_zero, List.set_cons_succ, List.eraseIdx_cons_zero, List.eraseIdx_cons_succ] at H); have hT : Holds _ _ (logW bL _ _ _ _ _ _ :: _) := H; clear hT) | (replace H := H.up 5 rfl; (try simp only [List.set_cons_zero, List.set_cons_succ, List.eraseIdx_cons_zero, List.eraseIdx_cons_succ] at H); have hT : Holds _ _ (logW bL _ _ _ _ _ _ :: _) := H; clear hT) | (replace H := H.up 6 rfl; (try simp only [List.set_cons_zero, List.set_cons_succ, List.eraseIdx_cons_zero, List.eraseIdx_cons_succ] at H); have hT : Holds _ _ (logW bL _ _ _ _ _ _ :: _) := H; clear hT)
      have hCm := Commit_l (m := m) (x := ((f : Int), 52)) (hN.mono (hle23.trans hs4)) H (hp.mono (hs2.trans (hle3.trans hs4))) hG.ep hG.home hG.used hG.pages hS4 hC4 (by omega) (by omega)
      have hE2 := hI.commit chs (by omega) (by decide)
      have hG2 := hG.commit chs (by omega)
      have hP2 := commit_pend d ((f : Int), 52) m chs
      generalize commitM d ((f : Int), 52) m chs = cm at *
      obtain ⟨d2, m2, code⟩ := cm
      dsimp only at hCm hE2 hP2 hG2
      (refine X.call (hCm) ?_; (try clear H); rintro _ w ⟨rfl, H⟩; refine ⟨_, rfl, ?_⟩)
      clear hCm
      repeat' (first | refine Z H ?_ | (refine Zc ?_ ?_ <;> intro hc <;> first | (exfalso; omega) | skip) | (refine Y ?_; try change C _ _ _ _ _ _) | (refine Zs H ?_; clear H; (try clear w); intro w H) | (refine Zn H ?_; clear H; (try clear w); intro _ w H) | (refine Ze H ?_; clear H; (try clear w); intro gv w H))
      have hI2 : WInv 60 f d2 m2 := by
        rcases hE2 with ⟨_, h1, _⟩ | ⟨_, h1, h2⟩ | ⟨_, h1, _⟩
        · exact h1
        · cases h1; cases h2; exact hI
        · have := h1.off; rw [hG2.fr.off] at this; cases this
      exact ⟨by (repeat (first | exact Agr.refl | exact Agr.hav | refine Agr.upd rfl ?_ | refine Agr.in rfl ?_)), acts.length - (i + 1), by omega, i + 1, s4, d2, m2, rfl, by omega, by omega, rfl, hle3.trans hs4, fun _ => ⟨hG2, hI2⟩, ⟨_, hI2.log⟩, hI2.len, by omega, H⟩
  · obtain ⟨m2, hlg⟩ := hlg
    have hI := WInv.powered hlg hd60
    have hpc := power_crash d keep
    clear hlg hd60 hGI
    obtain ⟨hop, hon⟩ := hI.opens (by omega) (by decide)
    repeat' (first | refine Z H ?_ | (refine Zc ?_ ?_ <;> intro hc <;> first | (exfalso; omega) | skip) | (refine Y ?_; try change C _ _ _ _ _ _) | (refine Zs H ?_; clear H; (try clear w); intro w H) | (refine Zn H ?_; clear H; (try clear w); intro _ w H) | (refine Ze H ?_; clear H; (try clear w); intro gv w H))
    all_goals
      first | (have hT : Holds _ _ (dsk b _ :: _) := H; clear hT) | (replace H := H.up 1 rfl; (try simp only [List.set_cons_zero, List.set_cons_succ, List.eraseIdx_cons_zero, List.eraseIdx_cons_succ] at H); have hT : Holds _ _ (dsk b _ :: _) := H; clear hT) | (replace H := H.up 2 rfl; (try simp only [List.set_cons_zero, List.set_cons_succ, List.eraseIdx_cons_zero, List.eraseIdx_cons_succ] at H); have hT : Holds _ _ (dsk b _ :: _) := H; clear hT) | (replace H := H.up 3 rfl; (try simp only [List.set_cons_zero, List.set_cons_succ, List.eraseIdx_cons_zero, List.eraseIdx_cons_succ] at H); have hT : Holds _ _ (dsk b _ :: _) := H; clear hT) | (replace H := H.up 4 rfl; (try simp only [List.set_cons_zero, List.set_cons_succ, List.eraseIdx_cons_zero, List.eraseIdx_cons_succ] at H); have hT : Holds _ _ (dsk b _ :: _) := H; clear hT) | (replace H := H.up 5 rfl; (try simp only [List.set_cons_zero, List.set_cons_succ, List.eraseIdx_cons_zero, List.eraseIdx_cons_succ] at H); have hT : Holds _ _ (dsk b _ :: _) := H; clear hT) | (replace H := H.up 6 rfl; (try simp only [List.set_cons_zero, List.set_cons_succ, List.eraseIdx_cons_zero, List.eraseIdx_cons_succ] at H); have hT : Holds _ _ (dsk b _ :: _) := H; clear hT)
      (refine X.call (Power_s H) ?_; (try clear H); rintro _ w ⟨rfl, H⟩; refine ⟨_, rfl, ?_⟩)
      repeat' (first | refine Z H ?_ | (refine Zc ?_ ?_ <;> intro hc <;> first | (exfalso; omega) | skip) | (refine Y ?_; try change C _ _ _ _ _ _) | (refine Zs H ?_; clear H; (try clear w); intro w H) | (refine Zn H ?_; clear H; (try clear w); intro _ w H) | (refine Ze H ?_; clear H; (try clear w); intro gv w H))
      generalize d.power = d1 at *
      (refine X.call (Image_s H) ?_; (try clear H); rintro _ w ⟨t1, a1, c1, rfl, H⟩; refine ⟨_, rfl, ?_⟩)
      repeat' (first | refine Z H ?_ | (refine Zc ?_ ?_ <;> intro hc <;> first | (exfalso; omega) | skip) | (refine Y ?_; try change C _ _ _ _ _ _) | (refine Zs H ?_; clear H; (try clear w); intro w H) | (refine Zn H ?_; clear H; (try clear w); intro _ w H) | (refine Ze H ?_; clear H; (try clear w); intro gv w H))
      replace H := H.up 1 rfl
      have H' : Holds s3 w (dsk b d1 :: []) := H.arr
      clear H
      have H := H'
      clear H'
      refine X.call (Open_l (x := ((f : Int), 52)) (hN.mono hle23) H (hp.mono (hs2.trans hle3)) rfl hon) ?_
      clear H
      rintro _ w ⟨s4, hs4, hcase⟩
      obtain ⟨m3, bL2, ho, rfl, H⟩ := hcase.resolve_right (fun ⟨c, ho, _⟩ => by rw [hop] at ho; cases ho)
      clear hcase
      refine ⟨_, rfl, ?_⟩
      rw [hop] at ho
      cases ho
      have hpl0 : d1.pend.length = 0 := by rw [hI.pend]; rfl
      repeat' (first | refine Z H ?_ | (refine Zc ?_ ?_ <;> intro hc <;> first | (exfalso; omega) | skip) | (refine Y ?_; try change C _ _ _ _ _ _) | (refine Zs H ?_; clear H; (try clear w); intro w H) | (refine Zn H ?_; clear H; (try clear w); intro _ w H) | (refine Ze H ?_; clear H; (try clear w); intro gv w H))
      first | (have hT : Holds _ _ (dsk b _ :: _) := H; clear hT) | (replace H := H.up 1 rfl; (try simp only [List.set_cons_zero, List.set_cons_succ, List.eraseIdx_cons_zero, List.eraseIdx_cons_succ] at H); have hT : Holds _ _ (dsk b _ :: _) := H; clear hT) | (replace H := H.up 2 rfl; (try simp only [List.set_cons_zero, List.set_cons_succ, List.eraseIdx_cons_zero, List.eraseIdx_cons_succ] at H); have hT : Holds _ _ (dsk b _ :: _) := H; clear hT) | (replace H := H.up 3 rfl; (try simp only [List.set_cons_zero, List.set_cons_succ, List.eraseIdx_cons_zero, List.eraseIdx_cons_succ] at H); have hT : Holds _ _ (dsk b _ :: _) := H; clear hT) | (replace H := H.up 4 rfl; (try simp only [List.set_cons_zero, List.set_cons_succ, List.eraseIdx_cons_zero, List.eraseIdx_cons_succ] at H); have hT : Holds _ _ (dsk b _ :: _) := H; clear hT) | (replace H := H.up 5 rfl; (try simp only [List.set_cons_zero, List.set_cons_succ, List.eraseIdx_cons_zero, List.eraseIdx_cons_succ] at H); have hT : Holds _ _ (dsk b _ :: _) := H; clear hT) | (replace H := H.up 6 rfl; (try simp only [List.set_cons_zero, List.set_cons_succ, List.eraseIdx_cons_zero, List.eraseIdx_cons_succ] at H); have hT : Holds _ _ (dsk b _ :: _) := H; clear hT)
      (refine X.call (Waiting_s H (by omega)) ?_; (try clear H); rintro _ w ⟨a3, c3, rfl, H⟩; refine ⟨_, rfl, ?_⟩)
      repeat' (first | refine Z H ?_ | (refine Zc ?_ ?_ <;> intro hc <;> first | (exfalso; omega) | skip) | (refine Y ?_; try change C _ _ _ _ _ _) | (refine Zs H ?_; clear H; (try clear w); intro w H) | (refine Zn H ?_; clear H; (try clear w); intro _ w H) | (refine Ze H ?_; clear H; (try clear w); intro gv w H))
      first | (have hT : Holds _ _ (dsk b _ :: _) := H; clear hT) | (replace H := H.up 1 rfl; (try simp only [List.set_cons_zero, List.set_cons_succ, List.eraseIdx_cons_zero, List.eraseIdx_cons_succ] at H); have hT : Holds _ _ (dsk b _ :: _) := H; clear hT) | (replace H := H.up 2 rfl; (try simp only [List.set_cons_zero, List.set_cons_succ, List.eraseIdx_cons_zero, List.eraseIdx_cons_succ] at H); have hT : Holds _ _ (dsk b _ :: _) := H; clear hT) | (replace H := H.up 3 rfl; (try simp only [List.set_cons_zero, List.set_cons_succ, List.eraseIdx_cons_zero, List.eraseIdx_cons_succ] at H); have hT : Holds _ _ (dsk b _ :: _) := H; clear hT) | (replace H := H.up 4 rfl; (try simp only [List.set_cons_zero, List.set_cons_succ, List.eraseIdx_cons_zero, List.eraseIdx_cons_succ] at H); have hT : Holds _ _ (dsk b _ :: _) := H; clear hT) | (replace H := H.up 5 rfl; (try simp only [List.set_cons_zero, List.set_cons_succ, List.eraseIdx_cons_zero, List.eraseIdx_cons_succ] at H); have hT : Holds _ _ (dsk b _ :: _) := H; clear hT) | (replace H := H.up 6 rfl; (try simp only [List.set_cons_zero, List.set_cons_succ, List.eraseIdx_cons_zero, List.eraseIdx_cons_succ] at H); have hT : Holds _ _ (dsk b _ :: _) := H; clear hT)
      (refine X.call (Crash_s H (.ro (hkp.mono (hle23.trans hs4)))) ?_; (try clear H); rintro _ w ⟨rfl, H⟩; refine ⟨_, rfl, ?_⟩)
      repeat' (first | refine Z H ?_ | (refine Zc ?_ ?_ <;> intro hc <;> first | (exfalso; omega) | skip) | (refine Y ?_; try change C _ _ _ _ _ _) | (refine Zs H ?_; clear H; (try clear w); intro w H) | (refine Zn H ?_; clear H; (try clear w); intro _ w H) | (refine Ze H ?_; clear H; (try clear w); intro gv w H))
      (refine X.call (Power_s H) ?_; (try clear H); rintro _ w ⟨rfl, H⟩; refine ⟨_, rfl, ?_⟩)
      rw [hpc] at H
      repeat' (first | refine Z H ?_ | (refine Zc ?_ ?_ <;> intro hc <;> first | (exfalso; omega) | skip) | (refine Y ?_; try change C _ _ _ _ _ _) | (refine Zs H ?_; clear H; (try clear w); intro w H) | (refine Zn H ?_; clear H; (try clear w); intro _ w H) | (refine Ze H ?_; clear H; (try clear w); intro gv w H))
      have H' : Holds s4 w (dsk b d1 :: logW bL2 bp m2.epoch m2.home m2.used m2.pages m2.dead :: []) := H.arr
      clear H
      have H := H'
      clear H'
      refine X.call (Open_l (x := ((f : Int), 52)) (hN.mono (hle23.trans hs4)) H (hp.mono ((hs2.trans hle3).trans hs4)) rfl hon) ?_
      clear H
      rintro _ w ⟨s5, hs5, hcase⟩
      obtain ⟨m3, bL3, ho, rfl, H⟩ := hcase.resolve_right (fun ⟨c, ho, _⟩ => by rw [hop] at ho; cases ho)
      clear hcase
      refine ⟨_, rfl, ?_⟩
      rw [hop] at ho
      cases ho
      have hps := hI.log.plen
      repeat' (first | refine Z H ?_ | (refine Zc ?_ ?_ <;> intro hc <;> first | (exfalso; omega) | skip) | (refine Y ?_; try change C _ _ _ _ _ _) | (refine Zs H ?_; clear H; (try clear w); intro w H) | (refine Zn H ?_; clear H; (try clear w); intro _ w H) | (refine Ze H ?_; clear H; (try clear w); intro gv w H))
      first | (have hT : Holds _ _ (logW bL2 _ _ _ _ _ _ :: _) := H; clear hT) | (replace H := H.up 1 rfl; (try simp only [List.set_cons_zero, List.set_cons_succ, List.eraseIdx_cons_zero, List.eraseIdx_cons_succ] at H); have hT : Holds _ _ (logW bL2 _ _ _ _ _ _ :: _) := H; clear hT) | (replace H := H.up 2 rfl; (try simp only [List.set_cons_zero, List.set_cons_succ, List.eraseIdx_cons_zero, List.eraseIdx_cons_succ] at H); have hT : Holds _ _ (logW bL2 _ _ _ _ _ _ :: _) := H; clear hT) | (replace H := H.up 3 rfl; (try simp only [List.set_cons_zero, List.set_cons_succ, List.eraseIdx_cons_zero, List.eraseIdx_cons_succ] at H); have hT : Holds _ _ (logW bL2 _ _ _ _ _ _ :: _) := H; clear hT) | (replace H := H.up 4 rfl; (try simp only [List.set_cons_zero, List.set_cons_succ, List.eraseIdx_cons_zero, List.eraseIdx_cons_succ] at H); have hT : Holds _ _ (logW bL2 _ _ _ _ _ _ :: _) := H; clear hT) | (replace H := H.up 5 rfl; (try simp only [List.set_cons_zero, List.set_cons_succ, List.eraseIdx_cons_zero, List.eraseIdx_cons_succ] at H); have hT : Holds _ _ (logW bL2 _ _ _ _ _ _ :: _) := H; clear hT) | (replace H := H.up 6 rfl; (try simp only [List.set_cons_zero, List.set_cons_succ, List.eraseIdx_cons_zero, List.eraseIdx_cons_succ] at H); have hT : Holds _ _ (logW bL2 _ _ _ _ _ _ :: _) := H; clear hT)
      (refine X.call (pages_s H hps) ?_; (try clear H); rintro _ w ⟨rfl, H⟩; refine ⟨_, rfl, ?_⟩)
      repeat' (first | refine Z H ?_ | (refine Zc ?_ ?_ <;> intro hc <;> first | (exfalso; omega) | skip) | (refine Y ?_; try change C _ _ _ _ _ _) | (refine Zs H ?_; clear H; (try clear w); intro w H) | (refine Zn H ?_; clear H; (try clear w); intro _ w H) | (refine Ze H ?_; clear H; (try clear w); intro gv w H))
      first | (have hT : Holds _ _ (logW bL3 _ _ _ _ _ _ :: _) := H; clear hT) | (replace H := H.up 1 rfl; (try simp only [List.set_cons_zero, List.set_cons_succ, List.eraseIdx_cons_zero, List.eraseIdx_cons_succ] at H); have hT : Holds _ _ (logW bL3 _ _ _ _ _ _ :: _) := H; clear hT) | (replace H := H.up 2 rfl; (try simp only [List.set_cons_zero, List.set_cons_succ, List.eraseIdx_cons_zero, List.eraseIdx_cons_succ] at H); have hT : Holds _ _ (logW bL3 _ _ _ _ _ _ :: _) := H; clear hT) | (replace H := H.up 3 rfl; (try simp only [List.set_cons_zero, List.set_cons_succ, List.eraseIdx_cons_zero, List.eraseIdx_cons_succ] at H); have hT : Holds _ _ (logW bL3 _ _ _ _ _ _ :: _) := H; clear hT) | (replace H := H.up 4 rfl; (try simp only [List.set_cons_zero, List.set_cons_succ, List.eraseIdx_cons_zero, List.eraseIdx_cons_succ] at H); have hT : Holds _ _ (logW bL3 _ _ _ _ _ _ :: _) := H; clear hT) | (replace H := H.up 5 rfl; (try simp only [List.set_cons_zero, List.set_cons_succ, List.eraseIdx_cons_zero, List.eraseIdx_cons_succ] at H); have hT : Holds _ _ (logW bL3 _ _ _ _ _ _ :: _) := H; clear hT) | (replace H := H.up 6 rfl; (try simp only [List.set_cons_zero, List.set_cons_succ, List.eraseIdx_cons_zero, List.eraseIdx_cons_succ] at H); have hT : Holds _ _ (logW bL3 _ _ _ _ _ _ :: _) := H; clear hT)
      (refine X.call (pages_s H hps) ?_; (try clear H); rintro _ w ⟨rfl, H⟩; refine ⟨_, rfl, ?_⟩)
      repeat' (first | refine Z H ?_ | (refine Zc ?_ ?_ <;> intro hc <;> first | (exfalso; omega) | skip) | (refine Y ?_; try change C _ _ _ _ _ _) | (refine Zs H ?_; clear H; (try clear w); intro w H) | (refine Zn H ?_; clear H; (try clear w); intro _ w H) | (refine Ze H ?_; clear H; (try clear w); intro gv w H))
      first | (have hT : Holds _ _ (logW bL2 _ _ _ _ _ _ :: _) := H; clear hT) | (replace H := H.up 1 rfl; (try simp only [List.set_cons_zero, List.set_cons_succ, List.eraseIdx_cons_zero, List.eraseIdx_cons_succ] at H); have hT : Holds _ _ (logW bL2 _ _ _ _ _ _ :: _) := H; clear hT) | (replace H := H.up 2 rfl; (try simp only [List.set_cons_zero, List.set_cons_succ, List.eraseIdx_cons_zero, List.eraseIdx_cons_succ] at H); have hT : Holds _ _ (logW bL2 _ _ _ _ _ _ :: _) := H; clear hT) | (replace H := H.up 3 rfl; (try simp only [List.set_cons_zero, List.set_cons_succ, List.eraseIdx_cons_zero, List.eraseIdx_cons_succ] at H); have hT : Holds _ _ (logW bL2 _ _ _ _ _ _ :: _) := H; clear hT) | (replace H := H.up 4 rfl; (try simp only [List.set_cons_zero, List.set_cons_succ, List.eraseIdx_cons_zero, List.eraseIdx_cons_succ] at H); have hT : Holds _ _ (logW bL2 _ _ _ _ _ _ :: _) := H; clear hT) | (replace H := H.up 5 rfl; (try simp only [List.set_cons_zero, List.set_cons_succ, List.eraseIdx_cons_zero, List.eraseIdx_cons_succ] at H); have hT : Holds _ _ (logW bL2 _ _ _ _ _ _ :: _) := H; clear hT) | (replace H := H.up 6 rfl; (try simp only [List.set_cons_zero, List.set_cons_succ, List.eraseIdx_cons_zero, List.eraseIdx_cons_succ] at H); have hT : Holds _ _ (logW bL2 _ _ _ _ _ _ :: _) := H; clear hT)
      (refine X.call (Epoch_l H) ?_; (try clear H); rintro _ w ⟨rfl, H⟩; refine ⟨_, rfl, ?_⟩)
      repeat' (first | refine Z H ?_ | (refine Zc ?_ ?_ <;> intro hc <;> first | (exfalso; omega) | skip) | (refine Y ?_; try change C _ _ _ _ _ _) | (refine Zs H ?_; clear H; (try clear w); intro w H) | (refine Zn H ?_; clear H; (try clear w); intro _ w H) | (refine Ze H ?_; clear H; (try clear w); intro gv w H))
      first | (have hT : Holds _ _ (logW bL3 _ _ _ _ _ _ :: _) := H; clear hT) | (replace H := H.up 1 rfl; (try simp only [List.set_cons_zero, List.set_cons_succ, List.eraseIdx_cons_zero, List.eraseIdx_cons_succ] at H); have hT : Holds _ _ (logW bL3 _ _ _ _ _ _ :: _) := H; clear hT) | (replace H := H.up 2 rfl; (try simp only [List.set_cons_zero, List.set_cons_succ, List.eraseIdx_cons_zero, List.eraseIdx_cons_succ] at H); have hT : Holds _ _ (logW bL3 _ _ _ _ _ _ :: _) := H; clear hT) | (replace H := H.up 3 rfl; (try simp only [List.set_cons_zero, List.set_cons_succ, List.eraseIdx_cons_zero, List.eraseIdx_cons_succ] at H); have hT : Holds _ _ (logW bL3 _ _ _ _ _ _ :: _) := H; clear hT) | (replace H := H.up 4 rfl; (try simp only [List.set_cons_zero, List.set_cons_succ, List.eraseIdx_cons_zero, List.eraseIdx_cons_succ] at H); have hT : Holds _ _ (logW bL3 _ _ _ _ _ _ :: _) := H; clear hT) | (replace H := H.up 5 rfl; (try simp only [List.set_cons_zero, List.set_cons_succ, List.eraseIdx_cons_zero, List.eraseIdx_cons_succ] at H); have hT : Holds _ _ (logW bL3 _ _ _ _ _ _ :: _) := H; clear hT) | (replace H := H.up 6 rfl; (try simp only [List.set_cons_zero, List.set_cons_succ, List.eraseIdx_cons_zero, List.eraseIdx_cons_succ] at H); have hT : Holds _ _ (logW bL3 _ _ _ _ _ _ :: _) := H; clear hT)
      (refine X.call (Epoch_l H) ?_; (try clear H); rintro _ w ⟨rfl, H⟩; refine ⟨_, rfl, ?_⟩)
      repeat' (first | refine Z H ?_ | (refine Zc ?_ ?_ <;> intro hc <;> first | (exfalso; omega) | skip) | (refine Y ?_; try change C _ _ _ _ _ _) | (refine Zs H ?_; clear H; (try clear w); intro w H) | (refine Zn H ?_; clear H; (try clear w); intro _ w H) | (refine Ze H ?_; clear H; (try clear w); intro gv w H))
      first | (have hT : Holds _ _ (logW bL2 _ _ _ _ _ _ :: _) := H; clear hT) | (replace H := H.up 1 rfl; (try simp only [List.set_cons_zero, List.set_cons_succ, List.eraseIdx_cons_zero, List.eraseIdx_cons_succ] at H); have hT : Holds _ _ (logW bL2 _ _ _ _ _ _ :: _) := H; clear hT) | (replace H := H.up 2 rfl; (try simp only [List.set_cons_zero, List.set_cons_succ, List.eraseIdx_cons_zero, List.eraseIdx_cons_succ] at H); have hT : Holds _ _ (logW bL2 _ _ _ _ _ _ :: _) := H; clear hT) | (replace H := H.up 3 rfl; (try simp only [List.set_cons_zero, List.set_cons_succ, List.eraseIdx_cons_zero, List.eraseIdx_cons_succ] at H); have hT : Holds _ _ (logW bL2 _ _ _ _ _ _ :: _) := H; clear hT) | (replace H := H.up 4 rfl; (try simp only [List.set_cons_zero, List.set_cons_succ, List.eraseIdx_cons_zero, List.eraseIdx_cons_succ] at H); have hT : Holds _ _ (logW bL2 _ _ _ _ _ _ :: _) := H; clear hT) | (replace H := H.up 5 rfl; (try simp only [List.set_cons_zero, List.set_cons_succ, List.eraseIdx_cons_zero, List.eraseIdx_cons_succ] at H); have hT : Holds _ _ (logW bL2 _ _ _ _ _ _ :: _) := H; clear hT) | (replace H := H.up 6 rfl; (try simp only [List.set_cons_zero, List.set_cons_succ, List.eraseIdx_cons_zero, List.eraseIdx_cons_succ] at H); have hT : Holds _ _ (logW bL2 _ _ _ _ _ _ :: _) := H; clear hT)
      (refine X.call (Used_l H) ?_; (try clear H); rintro _ w ⟨rfl, H⟩; refine ⟨_, rfl, ?_⟩)
      repeat' (first | refine Z H ?_ | (refine Zc ?_ ?_ <;> intro hc <;> first | (exfalso; omega) | skip) | (refine Y ?_; try change C _ _ _ _ _ _) | (refine Zs H ?_; clear H; (try clear w); intro w H) | (refine Zn H ?_; clear H; (try clear w); intro _ w H) | (refine Ze H ?_; clear H; (try clear w); intro gv w H))
      first | (have hT : Holds _ _ (logW bL3 _ _ _ _ _ _ :: _) := H; clear hT) | (replace H := H.up 1 rfl; (try simp only [List.set_cons_zero, List.set_cons_succ, List.eraseIdx_cons_zero, List.eraseIdx_cons_succ] at H); have hT : Holds _ _ (logW bL3 _ _ _ _ _ _ :: _) := H; clear hT) | (replace H := H.up 2 rfl; (try simp only [List.set_cons_zero, List.set_cons_succ, List.eraseIdx_cons_zero, List.eraseIdx_cons_succ] at H); have hT : Holds _ _ (logW bL3 _ _ _ _ _ _ :: _) := H; clear hT) | (replace H := H.up 3 rfl; (try simp only [List.set_cons_zero, List.set_cons_succ, List.eraseIdx_cons_zero, List.eraseIdx_cons_succ] at H); have hT : Holds _ _ (logW bL3 _ _ _ _ _ _ :: _) := H; clear hT) | (replace H := H.up 4 rfl; (try simp only [List.set_cons_zero, List.set_cons_succ, List.eraseIdx_cons_zero, List.eraseIdx_cons_succ] at H); have hT : Holds _ _ (logW bL3 _ _ _ _ _ _ :: _) := H; clear hT) | (replace H := H.up 5 rfl; (try simp only [List.set_cons_zero, List.set_cons_succ, List.eraseIdx_cons_zero, List.eraseIdx_cons_succ] at H); have hT : Holds _ _ (logW bL3 _ _ _ _ _ _ :: _) := H; clear hT) | (replace H := H.up 6 rfl; (try simp only [List.set_cons_zero, List.set_cons_succ, List.eraseIdx_cons_zero, List.eraseIdx_cons_succ] at H); have hT : Holds _ _ (logW bL3 _ _ _ _ _ _ :: _) := H; clear hT)
      (refine X.call (Used_l H) ?_; (try clear H); rintro _ w ⟨rfl, H⟩; refine ⟨_, rfl, ?_⟩)
      repeat' (first | refine Z H ?_ | (refine Zc ?_ ?_ <;> intro hc <;> first | (exfalso; omega) | skip) | (refine Y ?_; try change C _ _ _ _ _ _) | (refine Zs H ?_; clear H; (try clear w); intro w H) | (refine Zn H ?_; clear H; (try clear w); intro _ w H) | (refine Ze H ?_; clear H; (try clear w); intro gv w H))
      first | (have hT : Holds _ _ (dsk b _ :: _) := H; clear hT) | (replace H := H.up 1 rfl; (try simp only [List.set_cons_zero, List.set_cons_succ, List.eraseIdx_cons_zero, List.eraseIdx_cons_succ] at H); have hT : Holds _ _ (dsk b _ :: _) := H; clear hT) | (replace H := H.up 2 rfl; (try simp only [List.set_cons_zero, List.set_cons_succ, List.eraseIdx_cons_zero, List.eraseIdx_cons_succ] at H); have hT : Holds _ _ (dsk b _ :: _) := H; clear hT) | (replace H := H.up 3 rfl; (try simp only [List.set_cons_zero, List.set_cons_succ, List.eraseIdx_cons_zero, List.eraseIdx_cons_succ] at H); have hT : Holds _ _ (dsk b _ :: _) := H; clear hT) | (replace H := H.up 4 rfl; (try simp only [List.set_cons_zero, List.set_cons_succ, List.eraseIdx_cons_zero, List.eraseIdx_cons_succ] at H); have hT : Holds _ _ (dsk b _ :: _) := H; clear hT) | (replace H := H.up 5 rfl; (try simp only [List.set_cons_zero, List.set_cons_succ, List.eraseIdx_cons_zero, List.eraseIdx_cons_succ] at H); have hT : Holds _ _ (dsk b _ :: _) := H; clear hT) | (replace H := H.up 6 rfl; (try simp only [List.set_cons_zero, List.set_cons_succ, List.eraseIdx_cons_zero, List.eraseIdx_cons_succ] at H); have hT : Holds _ _ (dsk b _ :: _) := H; clear hT)
      (refine X.call (Image_s H) ?_; (try clear H); rintro _ w ⟨t5, a5, c5, rfl, H⟩; refine ⟨_, rfl, ?_⟩)
      repeat' (first | refine Z H ?_ | (refine Zc ?_ ?_ <;> intro hc <;> first | (exfalso; omega) | skip) | (refine Y ?_; try change C _ _ _ _ _ _) | (refine Zs H ?_; clear H; (try clear w); intro w H) | (refine Zn H ?_; clear H; (try clear w); intro _ w H) | (refine Ze H ?_; clear H; (try clear w); intro gv w H))
      (refine X.call (awake16 (hN.mono ((hle23.trans hs4).trans hs5)) H) ?_; (try clear H); rintro _ w ⟨s6, rfl, hle6, H⟩; refine ⟨_, rfl, ?_⟩)
      repeat' (first | refine Z H ?_ | (refine Zc ?_ ?_ <;> intro hc <;> first | (exfalso; omega) | skip) | (refine Y ?_; try change C _ _ _ _ _ _) | (refine Zs H ?_; clear H; (try clear w); intro w H) | (refine Zn H ?_; clear H; (try clear w); intro _ w H) | (refine Ze H ?_; clear H; (try clear w); intro gv w H))
      exact ⟨_, resT rfl, rfl, H.done (((hle23.trans hs4).trans hs5).trans hle6)⟩
theorem wtwice_rdg {w : World} {a b : Option Addr} {n n' c c' : Nat} {z : Int} (hN : Nib (startRo w)) (_ : Rdg Tryd.prog w 3 [.int .i64 z]) (g : Rdg Tryd.prog w 68 [.slice a n c]) (g' : Rdg Tryd.prog w 44 [.slice b n' c']) : Calls Tryd.prog 11 #[.int .i64 z, .slice a n c, .slice b n' c'] w fun e w' => e = .returned (.bool true) ∧ Only [] w w' := by
  obtain ⟨l, h1, h2⟩ := acts16_of g
  obtain ⟨va, vc, hv, _⟩ := formS h1
  cases hv
  obtain ⟨kp, k1, k2⟩ := rdg_bools Tryd.underlying44 Tryd.underlying4 (by kernel_rfl) (by kernel_rfl) g'
  have k3 := SlS.start k1
  obtain ⟨va', vc', hv', _⟩ := formS k3
  cases hv'
  exact (wtwice_walk hN (Holds.start w) h1 h2 k3).mono fun e w' h => ⟨h.1, h.2.only⟩
end
end Go.Proofs.YtbknpbihgfphaaaDoor
