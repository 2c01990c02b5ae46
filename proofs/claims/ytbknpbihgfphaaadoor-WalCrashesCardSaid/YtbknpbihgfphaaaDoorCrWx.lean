/- ref16: May, walked; WalCrashes, walked. -/
import Derived.Test.YtbknpbihgfphaaaDoorCrWw
import Derived.Test.YtbknpbihgfphaaaDoorCrKb
set_option linter.unusedSimpArgs false
set_option linter.unusedVariables false
namespace Go.Proofs.YtbknpbihgfphaaaDoor
open Go Go.RowKit Go.Own
section
variable {s : Ro} {w : World} {R : List Asn}
set_option maxRecDepth 100000 in
set_option maxHeartbeats 1000000 in
theorem May16_s {v : Value} {cs : List Value} {l : List Ch} (H : Holds s w R) (hcS : SlS s v 2 l.length cs) (hch : ChS s cs l) (hn : l.length ≤ 1000) : Calls Tryd.prog 49 #[v] w fun y w' => y = .returned (.bool (validM l)) ∧ Holds s w' R := by
  have hc' := hcS
  obtain ⟨va, vc, rfl, _⟩ := hc'
  refine enter Tryd.func49 rfl Tryd.ntmps49 rfl ?_
  repeat' (first | refine Z H ?_ | (refine Zc ?_ ?_ <;> intro hc <;> first | (exfalso; omega) | skip) | (refine Y ?_; try change C _ _ _ _ _ _) | (refine Zs H ?_; clear H; (try clear w); intro w H) | (refine Zn H ?_; clear H; (try clear w); intro _ w H) | (refine Ze H ?_; clear H; (try clear w); intro gv w H))
  refine C.loopH H [2, 3, 4, 5, 6, 7, 8, 9, 10, 11, 12, 13, 14, 15, 16, 17, 18, 19, 20, 21, 22, 23, 24, 25, 26, 27, 28, 29, 30, 31, 32] [3] rfl (fun k vs => ∃ i : Nat, k = l.length - i ∧ i ≤ l.length ∧ vs = [.int .i64 (i : Int)] ∧ (l.take i).all (fun c => decide (0 ≤ c.page ∧ c.page < 16 ∧ c.data.length = 40)) = true) l.length ⟨0, rfl, Nat.zero_le _, rfl, rfl⟩ ?_
  clear H
  rintro k vs hv' w ⟨i, rfl, hi, rfl, hall⟩ H
  by_cases hlt : i < l.length
  · obtain ⟨g, o, c', hsv, _, _, hpin⟩ := posS hcS (by omega) (by decide)
    cases hsv
    obtain ⟨h0, dv, h1, hdS⟩ := hch.at' i hlt
    have hsu : (l.take (i + 1)).all (fun c => decide (0 ≤ c.page ∧ c.page < 16 ∧ c.data.length = 40)) = decide (0 ≤ l[i].page ∧ l[i].page < 16 ∧ l[i].data.length = 40) := by rw [List.take_succ_eq_append_getElem hlt, List.all_append, hall]; simp
    have hbad : decide (0 ≤ l[i].page ∧ l[i].page < 16 ∧ l[i].data.length = 40) = false → validM l = false := fun hb => by
      unfold validM
      have : l.all (fun c => decide (0 ≤ c.page ∧ c.page < 16 ∧ c.data.length = 40)) = false := by
        cases hq : l.all (fun c => decide (0 ≤ c.page ∧ c.page < 16 ∧ c.data.length = 40)) with
        | false => rfl
        | true => rw [List.all_eq_true] at hq; have := hq l[i] (List.getElem_mem hlt); rw [hb] at this; cases this
      rw [this, Bool.and_false]
    generalize l[i] = ch at *
    obtain ⟨pg, dat⟩ := ch
    dsimp only at h0 hdS hsu hbad
    have hdS' := hdS
    obtain ⟨da, dc, rfl, _⟩ := hdS'
    have p0 : Pin s g (o + i * 2 + 0) (.int .i64 pg) := hpin _ _ h0
    have p1 : Pin s g (o + i * 2 + 1) (.slice da dat.length dc) := hpin _ _ h1
    by_cases hb : 0 ≤ pg ∧ pg < 16 ∧ dat.length = 40
    · rw [decide_eq_true hb] at hsu
      obtain ⟨hb1, hb2, hb3⟩ := hb
      repeat' (first | refine Z H ?_ | (refine Zc ?_ ?_ <;> intro hc <;> first | (exfalso; omega) | skip) | (refine Y ?_; try change C _ _ _ _ _ _) | (refine Zs H ?_; clear H; (try clear w); intro w H) | (refine Zn H ?_; clear H; (try clear w); intro _ w H) | (refine Ze H ?_; clear H; (try clear w); intro gv w H))
      exact ⟨by (repeat (first | exact Agr.refl | exact Agr.hav | refine Agr.upd rfl ?_ | refine Agr.in rfl ?_)), l.length - (i + 1), by omega, ⟨i + 1, rfl, by omega, rfl, hsu⟩, H⟩
    · have hbad := hbad (decide_eq_false hb)
      repeat' (first | refine Z H ?_ | (refine Zc ?_ ?_ <;> intro hc <;> first | (exfalso; omega) | skip) | (refine Y ?_; try change C _ _ _ _ _ _) | (refine Zs H ?_; clear H; (try clear w); intro w H) | (refine Zn H ?_; clear H; (try clear w); intro _ w H) | (refine Ze H ?_; clear H; (try clear w); intro gv w H))
      all_goals exact ⟨_, resT rfl, by rw [hbad]; rfl, H⟩
  · have hie : i = l.length := by omega
    subst hie
    rw [List.take_length] at hall
    have hv : validM l = decide (l.length ≤ 16) := by unfold validM; rw [hall, Bool.and_true]
    repeat' (first | refine Z H ?_ | (refine Zc ?_ ?_ <;> intro hc <;> first | (exfalso; omega) | skip) | (refine Y ?_; try change C _ _ _ _ _ _) | (refine Zs H ?_; clear H; (try clear w); intro w H) | (refine Zn H ?_; clear H; (try clear w); intro _ w H) | (refine Ze H ?_; clear H; (try clear w); intro gv w H))
    · exact ⟨_, resT rfl, by rw [hv, decide_eq_true (by omega)]; rfl, H⟩
    · exact ⟨_, resT rfl, by rw [hv, decide_eq_false (by omega)]; rfl, H⟩
theorem putB_set {ps b : List UInt8} {p : Nat} (h : b.length = 40) : ps.take (40 * p) ++ (b ++ ps.drop (40 * p + b.length)) = setP ps p b := by
  unfold setP
  rw [h, Nat.mul_comm]
theorem applyL_take {ps : List UInt8} {l : List Ch} {i : Nat} (hlt : i < l.length) : applyL ps (l.take (i + 1)) = setP (applyL ps (l.take i)) l[i].page.toNat l[i].data := by
  rw [List.take_succ_eq_append_getElem hlt]; unfold applyL; rw [List.foldl_append]; rfl
theorem nextL_len {ps : List UInt8} {l : List Ch} (h : ps.length = 640) : (nextL ps l).length = 640 := by
  unfold nextL
  by_cases hv : validM l = true
  · rw [if_pos hv]; exact applyL_len (validM_ok hv).2 h
  · rw [if_neg hv]; exact h
theorem calm_inv {N f : Nat} {d : DM} {m : WL} (h : LgC (secF f d) m) (hl : d.secs.length = N) : WInv N f (d.arm (-1) []).power m := by
  obtain ⟨c1, c2, c3, c4⟩ := calm_facts d
  exact ⟨c1, c3, by rw [show (d.arm (-1) []).power = calmD d from rfl, c4]; exact hl, by rw [secF_congr (d := d) (d' := (d.arm (-1) []).power) c4]; exact h⟩
set_option maxRecDepth 100000 in
set_option maxHeartbeats 1000000 in
theorem wcrash_walk {n : Int} {acts : List Act16} {va : Option Addr} {vc : Nat} (hN : Nib s) (H : Holds s w []) (hl : SlS s (.slice va acts.length vc) 6 acts.length (acts.flatMap Act16.cells)) (hok : ∀ a ∈ acts, a.Ok s) : Calls Tryd.prog 10 #[.int .i64 n, .slice va acts.length vc] w fun e w' => e = .returned (.bool true) ∧ Fin s w' := by
  have hf8 := frN_le n
  have hi4 := fmt_inv hf8
  obtain ⟨hop, hon⟩ := hi4.opens (by omega) (by decide)
  refine enter Tryd.func10 rfl Tryd.ntmps10 rfl ?_
  repeat' (first | refine Z H ?_ | (refine Zc ?_ ?_ <;> intro hc <;> first | (exfalso; omega) | skip) | (refine Y ?_; try change C _ _ _ _ _ _) | (refine Zs H ?_; clear H; (try clear w); intro w H) | (refine Zn H ?_; clear H; (try clear w); (first | ((fail_if_success (have := bl1)); intro bl1 w H) | ((fail_if_success (have := bl2)); intro bl2 w H) | intro _ w H)) | (refine Ze H ?_; clear H; (try clear w); intro gv w H))
  (refine X.call (from_s (n := n) H) ?_; (try clear H); rintro _ w ⟨rfl, H⟩; refine ⟨_, rfl, ?_⟩)
  generalize frN n = f at *
  repeat' (first | refine Z H ?_ | (refine Zc ?_ ?_ <;> intro hc <;> first | (exfalso; omega) | skip) | (refine Y ?_; try change C _ _ _ _ _ _) | (refine Zs H ?_; clear H; (try clear w); intro w H) | (refine Zn H ?_; clear H; (try clear w); (first | ((fail_if_success (have := bl1)); intro bl1 w H) | ((fail_if_success (have := bl2)); intro bl2 w H) | intro _ w H)) | (refine Ze H ?_; clear H; (try clear w); intro gv w H))
  refine X.call (part16_s (n := f) hN H hf8) ?_
  clear H
  rintro _ w ⟨s1, b, bp, v, rfl, hs1, hp, hR, H⟩
  refine ⟨_, rfl, ?_⟩
  obtain ⟨a0, c0, a1, c1, lf, a2, n2, c2, rfl⟩ := refCellsW hR
  repeat' (first | refine Z H ?_ | (refine Zc ?_ ?_ <;> intro hc <;> first | (exfalso; omega) | skip) | (refine Y ?_; try change C _ _ _ _ _ _) | (refine Zs H ?_; clear H; (try clear w); intro w H) | (refine Zn H ?_; clear H; (try clear w); (first | ((fail_if_success (have := bl1)); intro bl1 w H) | ((fail_if_success (have := bl2)); intro bl2 w H) | intro _ w H)) | (refine Ze H ?_; clear H; (try clear w); intro gv w H))
  first | (have hT : Holds _ _ (dsk b _ :: _) := H; clear hT) | (replace H := H.up 1 rfl; (try simp only [List.set_cons_zero, List.set_cons_succ, List.eraseIdx_cons_zero, List.eraseIdx_cons_succ] at H); have hT : Holds _ _ (dsk b _ :: _) := H; clear hT) | (replace H := H.up 2 rfl; (try simp only [List.set_cons_zero, List.set_cons_succ, List.eraseIdx_cons_zero, List.eraseIdx_cons_succ] at H); have hT : Holds _ _ (dsk b _ :: _) := H; clear hT) | (replace H := H.up 3 rfl; (try simp only [List.set_cons_zero, List.set_cons_succ, List.eraseIdx_cons_zero, List.eraseIdx_cons_succ] at H); have hT : Holds _ _ (dsk b _ :: _) := H; clear hT) | (replace H := H.up 4 rfl; (try simp only [List.set_cons_zero, List.set_cons_succ, List.eraseIdx_cons_zero, List.eraseIdx_cons_succ] at H); have hT : Holds _ _ (dsk b _ :: _) := H; clear hT) | (replace H := H.up 5 rfl; (try simp only [List.set_cons_zero, List.set_cons_succ, List.eraseIdx_cons_zero, List.eraseIdx_cons_succ] at H); have hT : Holds _ _ (dsk b _ :: _) := H; clear hT) | (replace H := H.up 6 rfl; (try simp only [List.set_cons_zero, List.set_cons_succ, List.eraseIdx_cons_zero, List.eraseIdx_cons_succ] at H); have hT : Holds _ _ (dsk b _ :: _) := H; clear hT)
  refine X.call (Open_l (x := ((f : Int), 52)) (hN.mono hs1) H hp rfl hon) ?_
  clear H
  rintro _ w ⟨s2, hs2, hcase⟩
  obtain ⟨m, bL, ho, rfl, H⟩ := hcase.resolve_right (fun ⟨c, ho, _⟩ => by rw [hop] at ho; cases ho)
  clear hcase
  refine ⟨_, rfl, ?_⟩
  rw [hop] at ho
  cases ho
  clear hop hon
  repeat' (first | refine Z H ?_ | (refine Zc ?_ ?_ <;> intro hc <;> first | (exfalso; omega) | skip) | (refine Y ?_; try change C _ _ _ _ _ _) | (refine Zs H ?_; clear H; (try clear w); intro w H) | (refine Zn H ?_; clear H; (try clear w); (first | ((fail_if_success (have := bl1)); intro bl1 w H) | ((fail_if_success (have := bl2)); intro bl2 w H) | intro _ w H)) | (refine Ze H ?_; clear H; (try clear w); intro gv w H))
  have H' : Holds s2 w (logW bL bp awM.epoch awM.home awM.used awM.pages awM.dead :: dsk b (fmtD f) :: []) := H.arr
  clear H hR
  have hle2 := hs1.trans hs2
  generalize fmtD f = d0 at *
  generalize awM = m0 at *
  refine C.loopS [4, 9, 11, 12, 13, 14, 15, 16, 17, 18, 19, 20, 38, 39, 40, 41, 42, 43, 44, 45, 46, 47, 48, 49, 50, 51, 52, 53, 54, 55, 56, 57, 58, 59, 60, 61, 62, 63, 64, 65, 66, 67, 68, 69, 70, 71, 72, 73, 74, 75, 76, 77, 78, 79, 80, 81, 82, 83, 84, 85, 86, 87, 88, 89, 90, 91, 92, 93, 94, 95, 96, 97, 98, 99, 100, 101, 102, 103, 104, 105, 106, 107, 108, 109, 110, 111, 112, 113, 114, 115, 116, 117, 118, 119, 120, 121, 122, 123, 124, 125, 126, 127, 128, 129, 130, 131, 132, 133, 134, 135, 136, 137, 138, 139, 140, 141, 142, 143, 144, 145, 146, 147] [9, 11] rfl (fun k vs w => ∃ i : Nat, ∃ s' d m bL, k = acts.length - i ∧ i ≤ acts.length ∧ i ≤ 24 ∧ vs = [.pointer (some ⟨bL, 0, none⟩), .int .i64 (i : Int)] ∧ s2.Le s' ∧ WInv 60 f d m ∧ Holds s' w (logW bL bp m.epoch m.home m.used m.pages m.dead :: dsk b d :: [])) acts.length ⟨0, s2, d0, m0, bL, rfl, Nat.zero_le _, Nat.zero_le _, rfl, Ro.Le.refl _, hi4, H'⟩ ?_
  clear H' hi4
  rintro k vs hv w ⟨i, s3, d, m, bL, rfl, hi, hi24, rfl, hle3, hI, H⟩
  have hle23 := hle2.trans hle3
  by_cases hlt : i < acts.length ∧ i < 24
  · obtain ⟨hlt, hlt24⟩ := hlt
    obtain ⟨g1, o1, c3, e1, _, _, hp1⟩ := elemS (hl.mono hle23) (fun _ _ => rfl) (by decide) (by omega)
    cases e1
    have q1 : ∀ j v, ([.int .i64 acts[i].do_, .int .i64 acts[i].n, .int .i64 acts[i].at_, .int .i64 acts[i].off, .int .u8 (acts[i].fill.toNat : Int), acts[i].keepv] : List Value)[j]? = some v → Pin s3 g1 (o1 + i * 6 + j) v := hp1 i hlt
    obtain ⟨hkeep, hkl, hn, ha⟩ := (hok acts[i] (List.getElem_mem _)).mono hle23
    generalize acts[i] = a at *
    obtain ⟨do_, an, at_, off, fill, keepv, keep⟩ := a
    dsimp only at q1 hkeep hkl hn ha
    obtain ⟨ka, kc, hkv, _⟩ := formS hkeep
    subst hkv
    have hps := hI.log.plen
    have hpn : d.pend.length = 0 := by rw [hI.pend]; rfl
    repeat' (first | refine Z H ?_ | (refine Zc ?_ ?_ <;> intro hc <;> first | (exfalso; omega) | skip) | (refine Y ?_; try change C _ _ _ _ _ _) | (refine Zs H ?_; clear H; (try clear w); intro w H) | (refine Zn H ?_; clear H; (try clear w); (first | ((fail_if_success (have := bl1)); intro bl1 w H) | ((fail_if_success (have := bl2)); intro bl2 w H) | intro _ w H)) | (refine Ze H ?_; clear H; (try clear w); intro gv w H))
    first | (have hT : Holds _ _ (logW bL _ _ _ _ _ _ :: _) := H; clear hT) | (replace H := H.up 1 rfl; (try simp only [List.set_cons_zero, List.set_cons_succ, List.eraseIdx_cons_zero, List.eraseIdx_cons_succ] at H); have hT : Holds _ _ (logW bL _ _ _ _ _ _ :: _) := H; clear hT) | (replace H := H.up 2 rfl; (try simp only [List.set_cons_zero, List.set_cons_succ, List.eraseIdx_cons_zero, List.eraseIdx_cons_succ] at H); have hT : Holds _ _ (logW bL _ _ _ _ _ _ :: _) := H; clear hT) | (replace H := H.up 3 rfl; (try simp only [List.set_cons_zero, List.set_cons_succ, List.eraseIdx_cons_zero, List.eraseIdx_cons_succ] at H); have hT : Holds _ _ (logW bL _ _ _ _ _ _ :: _) := H; clear hT) | (replace H := H.up 4 rfl; (try simp only [List.set_cons_zero, List.set_cons_succ, List.eraseIdx_cons_zero, List.eraseIdx_cons_succ] at H); have hT : Holds _ _ (logW bL _ _ _ _ _ _ :: _) := H; clear hT) | (replace H := H.up 5 rfl; (try simp only [List.set_cons_zero, List.set_cons_succ, List.eraseIdx_cons_zero, List.eraseIdx_cons_succ] at H); have hT : Holds _ _ (logW bL _ _ _ _ _ _ :: _) := H; clear hT) | (replace H := H.up 6 rfl; (try simp only [List.set_cons_zero, List.set_cons_succ, List.eraseIdx_cons_zero, List.eraseIdx_cons_succ] at H); have hT : Holds _ _ (logW bL _ _ _ _ _ _ :: _) := H; clear hT)
    (refine X.call (pages_s H hps) ?_; (try clear H); rintro _ w ⟨rfl, H⟩; refine ⟨_, rfl, ?_⟩)
    repeat' (first | refine Z H ?_ | (refine Zc ?_ ?_ <;> intro hc <;> first | (exfalso; omega) | skip) | (refine Y ?_; try change C _ _ _ _ _ _) | (refine Zs H ?_; clear H; (try clear w); intro w H) | (refine Zn H ?_; clear H; (try clear w); (first | ((fail_if_success (have := bl1)); intro bl1 w H) | ((fail_if_success (have := bl2)); intro bl2 w H) | intro _ w H)) | (refine Ze H ?_; clear H; (try clear w); intro gv w H))
    refine X.call (Changes_s (dx := do_) (N := an) (At := at_) (off := off) (fill := fill) (kv := .slice ka keep.length kc) H hn ha rfl) ?_
    clear H
    rintro _ w ⟨s4, v4, cs4, rfl, hs4, hS4, hC4, H⟩
    refine ⟨_, rfl, ?_⟩
    have hcl : (chsM an at_ off fill).length ≤ 18 := by unfold chsM; rw [List.length_map, List.length_range]; exact Nat.min_le_right _ _
    generalize chsM an at_ off fill = chs at *
    obtain ⟨a4, c4, rfl, _⟩ := formS hS4
    repeat' (first | refine Z H ?_ | (refine Zc ?_ ?_ <;> intro hc <;> first | (exfalso; omega) | skip) | (refine Y ?_; try change C _ _ _ _ _ _) | (refine Zs H ?_; clear H; (try clear w); intro w H) | (refine Zn H ?_; clear H; (try clear w); (first | ((fail_if_success (have := bl1)); intro bl1 w H) | ((fail_if_success (have := bl2)); intro bl2 w H) | intro _ w H)) | (refine Ze H ?_; clear H; (try clear w); intro gv w H))
    refine K.bts (l := m.pages) H (by kernel_rfl) (by rw [hps]; decide) rfl rfl rfl ?_
    clear H
    intro gb cb w H
    have hcb : m.pages.length ≤ cb := by obtain ⟨_, _, _, _, _, h, _⟩ := H.get (i := 0) rfl; exact h
    repeat' (first | refine Z H ?_ | (refine Zc ?_ ?_ <;> intro hc <;> first | (exfalso; omega) | skip) | (refine Y ?_; try change C _ _ _ _ _ _) | (refine Zs H ?_; clear H; (try clear w); intro w H) | (refine Zn H ?_; clear H; (try clear w); (first | ((fail_if_success (have := bl1)); intro bl1 w H) | ((fail_if_success (have := bl2)); intro bl2 w H) | intro _ w H)) | (refine Ze H ?_; clear H; (try clear w); intro gv w H))
    have hle4 := hle23.trans hs4
    refine C.loopS [16, 61, 62, 63, 64, 65, 66, 67, 68, 69, 70, 71, 72, 73, 74, 75, 76, 77, 78, 79, 80, 81, 82] [16] rfl (fun k vs w => ∃ j : Nat, k = chs.length - j ∧ j ≤ chs.length ∧ vs = [.int .i64 (j : Int)] ∧ Holds s4 w (brow gb 5 m.pages.length cb (nextL m.pages (if validM chs then chs.take j else [])) :: logW bL bp m.epoch m.home m.used m.pages m.dead :: dsk b d :: var bl2 78 [.int .i64 do_, .int .i64 an, .int .i64 at_, .int .i64 off, .int .u8 (fill.toNat : Int), .slice ka keep.length kc] :: [])) chs.length ⟨0, rfl, Nat.zero_le _, rfl, ?_⟩ ?_
    · have : nextL m.pages (if validM chs then chs.take 0 else []) = m.pages := by
        have : nextL m.pages [] = m.pages := rfl
        split <;> exact this
      rw [this]; exact H.arr
    clear H
    rintro k vs hv2 w ⟨j, rfl, hj, rfl, H⟩
    by_cases hjl : j < chs.length
    · obtain ⟨g, o, c', hsv, _, _, hpin⟩ := posS hS4 (by omega) (by decide)
      cases hsv
      obtain ⟨h0, dv, h1, hdS⟩ := hC4.at' j hjl
      have hMay := May16_s H hS4 hC4 (by omega)
      by_cases hv : validM chs = true
      · have hok4 := (validM_ok hv).2
        have hok := hok4 chs[j] (List.getElem_mem hjl)
        have hsub : validM (chs.take j) = true := by
          unfold validM
          rw [Bool.and_eq_true, decide_eq_true_eq, List.all_eq_true]
          exact ⟨by rw [List.length_take]; have := (validM_ok hv).1; omega, fun c hc => decide_eq_true (hok4 c (List.mem_of_mem_take hc))⟩
        have hsub1 : validM (chs.take (j + 1)) = true := by
          unfold validM
          rw [Bool.and_eq_true, decide_eq_true_eq, List.all_eq_true]
          exact ⟨by rw [List.length_take]; have := (validM_ok hv).1; omega, fun c hc => decide_eq_true (hok4 c (List.mem_of_mem_take hc))⟩
        have e1 : nextL m.pages (if validM chs then chs.take j else []) = applyL m.pages (chs.take j) := by rw [if_pos hv]; exact if_pos hsub
        have e2 : nextL m.pages (if validM chs then chs.take (j + 1) else []) = setP (applyL m.pages (chs.take j)) chs[j].page.toNat chs[j].data := by rw [if_pos hv, ← applyL_take hjl]; exact if_pos hsub1
        have hal : (applyL m.pages (chs.take j)).length = 640 := applyL_len (fun c hc => hok4 c (List.mem_of_mem_take hc)) hps
        rw [e1] at H hMay
        rw [hv] at hMay
        clear e1
        generalize chs[j] = ch at *
        obtain ⟨pg, dat⟩ := ch
        obtain ⟨ok1, ok2, ok3⟩ := hok
        dsimp only at h0 hdS ok1 ok2 ok3 e2
        obtain ⟨p, rfl⟩ := Int.eq_ofNat_of_zero_le ok1
        have hdS' := hdS
        obtain ⟨da, dc, rfl, _⟩ := hdS'
        have r0 : Pin s4 g (o + j * 2 + 0) (.int .i64 (p : Int)) := hpin _ _ h0
        have r1 : Pin s4 g (o + j * 2 + 1) (.slice da dat.length dc) := hpin _ _ h1
        generalize applyL m.pages (chs.take j) = q at *
        repeat' (first | refine Z H ?_ | (refine Zc ?_ ?_ <;> intro hc <;> first | (exfalso; omega) | skip) | (refine Y ?_; try change C _ _ _ _ _ _) | (refine Zs H ?_; clear H; (try clear w); intro w H) | (refine Zn H ?_; clear H; (try clear w); (first | ((fail_if_success (have := bl1)); intro bl1 w H) | ((fail_if_success (have := bl2)); intro bl2 w H) | intro _ w H)) | (refine Ze H ?_; clear H; (try clear w); intro gv w H))
        (refine X.call (hMay) ?_; (try clear H); rintro _ w ⟨rfl, H⟩; refine ⟨_, rfl, ?_⟩)
        clear hMay
        repeat' (first | refine Z H ?_ | (refine Zc ?_ ?_ <;> intro hc <;> first | (exfalso; omega) | skip) | (refine Y ?_; try change C _ _ _ _ _ _) | (refine Zs H ?_; clear H; (try clear w); intro w H) | (refine Zn H ?_; clear H; (try clear w); (first | ((fail_if_success (have := bl1)); intro bl1 w H) | ((fail_if_success (have := bl2)); intro bl2 w H) | intro _ w H)) | (refine Ze H ?_; clear H; (try clear w); intro gv w H))
        refine C.drawn1 [0, 0, 0, 0, 0, 1, 0, 0, 0, 0, 0, 0, 1, 3] [0, 0, 0, 6, 14, 30, 62, 127, 0, 0, 768, 1792, 3840, 8191] (by kernel_rfl) ?_; replace H := H.drew
        have hsa : subAddr (some ⟨gb, 0, none⟩) cb (40 * p) 1 = some ⟨gb, 40 * p, none⟩ := by unfold subAddr; rw [if_neg (by omega)]; simp [Addr.add]; omega
        repeat' (first | (refine K.mul rfl rfl rfl rfl (by omega) (by omega) ?_) | (refine K.from (l := 40 * p) rfl rfl rfl rfl (by omega) (by omega) ?_; rw [hsa]) | refine Z H ?_ | (refine Zc ?_ ?_ <;> intro hc <;> first | (exfalso; omega) | skip) | (refine Y ?_; try change C _ _ _ _ _ _) | (refine Zs H ?_; clear H; (try clear w); intro w H) | (refine Zn H ?_; clear H; (try clear w); (first | ((fail_if_success (have := bl1)); intro bl1 w H) | ((fail_if_success (have := bl2)); intro bl2 w H) | intro _ w H)) | (refine Ze H ?_; clear H; (try clear w); intro gv w H))
        refine K.copyB (off := 40 * p) (dl := m.pages.length - 40 * p) (dc := cb - 40 * p) 0 H rfl (.ro hdS) (by omega) (by omega) (by omega) rfl rfl rfl ?_
        clear H
        intro w H
        rw [List.set_cons_zero, putB_set ok3] at H
        repeat' (first | refine Z H ?_ | (refine Zc ?_ ?_ <;> intro hc <;> first | (exfalso; omega) | skip) | (refine Y ?_; try change C _ _ _ _ _ _) | (refine Zs H ?_; clear H; (try clear w); intro w H) | (refine Zn H ?_; clear H; (try clear w); (first | ((fail_if_success (have := bl1)); intro bl1 w H) | ((fail_if_success (have := bl2)); intro bl2 w H) | intro _ w H)) | (refine Ze H ?_; clear H; (try clear w); intro gv w H))
        exact ⟨by (repeat (first | exact Agr.refl | exact Agr.hav | refine Agr.upd rfl ?_ | refine Agr.in rfl ?_)), chs.length - (j + 1), by omega, j + 1, rfl, by omega, rfl, by rw [e2, Int.toNat_natCast]; exact H⟩
      · have hv' : validM chs = false := by cases hq : validM chs with | true => exact absurd hq hv | false => rfl
        have e1 : ∀ l : List Ch, nextL m.pages (if validM chs then l else []) = m.pages := fun l => by rw [if_neg hv]; rfl
        rw [e1] at hMay H
        rw [hv'] at hMay
        repeat' (first | refine Z H ?_ | (refine Zc ?_ ?_ <;> intro hc <;> first | (exfalso; omega) | skip) | (refine Y ?_; try change C _ _ _ _ _ _) | (refine Zs H ?_; clear H; (try clear w); intro w H) | (refine Zn H ?_; clear H; (try clear w); (first | ((fail_if_success (have := bl1)); intro bl1 w H) | ((fail_if_success (have := bl2)); intro bl2 w H) | intro _ w H)) | (refine Ze H ?_; clear H; (try clear w); intro gv w H))
        (refine X.call (hMay) ?_; (try clear H); rintro _ w ⟨rfl, H⟩; refine ⟨_, rfl, ?_⟩)
        clear hMay
        repeat' (first | refine Z H ?_ | (refine Zc ?_ ?_ <;> intro hc <;> first | (exfalso; omega) | skip) | (refine Y ?_; try change C _ _ _ _ _ _) | (refine Zs H ?_; clear H; (try clear w); intro w H) | (refine Zn H ?_; clear H; (try clear w); (first | ((fail_if_success (have := bl1)); intro bl1 w H) | ((fail_if_success (have := bl2)); intro bl2 w H) | intro _ w H)) | (refine Ze H ?_; clear H; (try clear w); intro gv w H))
        exact ⟨by (repeat (first | exact Agr.refl | exact Agr.hav | refine Agr.upd rfl ?_ | refine Agr.in rfl ?_)), chs.length - (j + 1), by omega, j + 1, rfl, by omega, rfl, by rw [e1]; exact H⟩
    · have hje : j = chs.length := by omega
      subst hje
      have hnx : nextL m.pages (if validM chs then chs.take chs.length else []) = nextL m.pages chs := by
        rw [List.take_length]
        by_cases hv : validM chs = true
        · rw [if_pos hv]
        · rw [if_neg hv]; exact (if_neg hv).symm
      have hnl : (nextL m.pages chs).length = m.pages.length := by rw [nextL_len hps, hps]
      rw [hnx, show m.pages.length = (nextL m.pages chs).length from hnl.symm] at H
      obtain ⟨s5, hs5, H', hnS, hpn5⟩ := H.fixBrowP (by rw [hnl]; omega)
      clear H
      have H := H'
      clear H'
      replace hnS : SlS s5 (.slice (some ⟨gb, 0, none⟩) m.pages.length cb) 1 (nextL m.pages chs).length (u8s (nextL m.pages chs)) := by rw [hnl] at hnS ⊢; exact hnS
      have hle5 := hle4.trans hs5
      replace hkeep := hkeep.mono (hs4.trans hs5)
      repeat' (first | ((fail_if_success (with_reducible show C _ _ _ (Code.seq (Code.seq (Code.region 21 _ _) _) _) _ _)); refine Z H ?_) | (refine Zc ?_ ?_ <;> intro hc <;> first | (exfalso; omega) | skip) | (refine Y ?_; try change C _ _ _ _ _ _) | (refine Zs H ?_; clear H; (try clear w); intro w H) | (refine Zn H ?_; clear H; (try clear w); (first | ((fail_if_success (have := bl1)); intro bl1 w H) | ((fail_if_success (have := bl2)); intro bl2 w H) | intro _ w H)) | (refine Ze H ?_; clear H; (try clear w); intro gv w H))
      refine C.cut [83, 84, 85, 86, 87, 88, 89, 90, 91] [] rfl (fun vs w => ∃ d1, WInv 60 f d1 m ∧ Holds s5 w (logW bL bp m.epoch m.home m.used m.pages m.dead :: dsk b d1 :: [])) ?_ ?_
      · by_cases hd3 : 3 ≤ do_
        · repeat' (first | refine Z H ?_ | (refine Zc ?_ ?_ <;> intro hc <;> first | (exfalso; omega) | skip) | (refine Y ?_; try change C _ _ _ _ _ _) | (refine Zs H ?_; clear H; (try clear w); intro w H) | (refine Zn H ?_; clear H; (try clear w); (first | ((fail_if_success (have := bl1)); intro bl1 w H) | ((fail_if_success (have := bl2)); intro bl2 w H) | intro _ w H)) | (refine Ze H ?_; clear H; (try clear w); intro gv w H))
          first | (have hT : Holds _ _ (dsk b _ :: _) := H; clear hT) | (replace H := H.up 1 rfl; (try simp only [List.set_cons_zero, List.set_cons_succ, List.eraseIdx_cons_zero, List.eraseIdx_cons_succ] at H); have hT : Holds _ _ (dsk b _ :: _) := H; clear hT) | (replace H := H.up 2 rfl; (try simp only [List.set_cons_zero, List.set_cons_succ, List.eraseIdx_cons_zero, List.eraseIdx_cons_succ] at H); have hT : Holds _ _ (dsk b _ :: _) := H; clear hT) | (replace H := H.up 3 rfl; (try simp only [List.set_cons_zero, List.set_cons_succ, List.eraseIdx_cons_zero, List.eraseIdx_cons_succ] at H); have hT : Holds _ _ (dsk b _ :: _) := H; clear hT) | (replace H := H.up 4 rfl; (try simp only [List.set_cons_zero, List.set_cons_succ, List.eraseIdx_cons_zero, List.eraseIdx_cons_succ] at H); have hT : Holds _ _ (dsk b _ :: _) := H; clear hT) | (replace H := H.up 5 rfl; (try simp only [List.set_cons_zero, List.set_cons_succ, List.eraseIdx_cons_zero, List.eraseIdx_cons_succ] at H); have hT : Holds _ _ (dsk b _ :: _) := H; clear hT) | (replace H := H.up 6 rfl; (try simp only [List.set_cons_zero, List.set_cons_succ, List.eraseIdx_cons_zero, List.eraseIdx_cons_succ] at H); have hT : Holds _ _ (dsk b _ :: _) := H; clear hT)
          (refine X.call (Arm_s H (.ro hkeep) ha.2 (by omega)) ?_; (try clear H); rintro _ w ⟨rfl, H⟩; refine ⟨_, rfl, ?_⟩)
          repeat' (first | refine Z H ?_ | (refine Zc ?_ ?_ <;> intro hc <;> first | (exfalso; omega) | skip) | (refine Y ?_; try change C _ _ _ _ _ _) | (refine Zs H ?_; clear H; (try clear w); intro w H) | (refine Zn H ?_; clear H; (try clear w); (first | ((fail_if_success (have := bl1)); intro bl1 w H) | ((fail_if_success (have := bl2)); intro bl2 w H) | intro _ w H)) | (refine Ze H ?_; clear H; (try clear w); intro gv w H))
          exact ⟨by (repeat (first | exact Agr.refl | exact Agr.hav | refine Agr.upd rfl ?_ | refine Agr.in rfl ?_)), _, hI.arm at_ keep, H.arr⟩
        · repeat' (first | refine Z H ?_ | (refine Zc ?_ ?_ <;> intro hc <;> first | (exfalso; omega) | skip) | (refine Y ?_; try change C _ _ _ _ _ _) | (refine Zs H ?_; clear H; (try clear w); intro w H) | (refine Zn H ?_; clear H; (try clear w); (first | ((fail_if_success (have := bl1)); intro bl1 w H) | ((fail_if_success (have := bl2)); intro bl2 w H) | intro _ w H)) | (refine Ze H ?_; clear H; (try clear w); intro gv w H))
          exact ⟨by (repeat (first | exact Agr.refl | exact Agr.hav | refine Agr.upd rfl ?_ | refine Agr.in rfl ?_)), d, hI, H.arr⟩
      · clear H
        rintro vs hv3 w ⟨d1, hI1, H⟩
        have hpn1 : d1.pend.length = 0 := by rw [hI1.pend]; rfl
        have hCm := Commit_l (m := m) (x := ((f : Int), 52)) (hN.mono hle5) H (hp.mono ((hs2.trans hle3).trans (hs4.trans hs5))) hI.log.ep hI.log.home hI.log.used hps (hS4.mono hs5) (hC4.mono hs5) (by omega) (by omega)
        have hE := hI1.commit chs (by omega) (by decide)
        generalize commitM d1 ((f : Int), 52) m chs = cm at *
        obtain ⟨d2, m2, code⟩ := cm
        dsimp only at hCm
        repeat' (first | refine Z H ?_ | (refine Zc ?_ ?_ <;> intro hc <;> first | (exfalso; omega) | skip) | (refine Y ?_; try change C _ _ _ _ _ _) | (refine Zs H ?_; clear H; (try clear w); intro w H) | (refine Zn H ?_; clear H; (try clear w); (first | ((fail_if_success (have := bl1)); intro bl1 w H) | ((fail_if_success (have := bl2)); intro bl2 w H) | intro _ w H)) | (refine Ze H ?_; clear H; (try clear w); intro gv w H))
        (refine X.call (hCm) ?_; (try clear H); rintro _ w ⟨rfl, H⟩; refine ⟨_, rfl, ?_⟩)
        clear hCm
        have hfin : (∃ m3, LgC (secF f d2) m3 ∧ (m3.pages = nextL m.pages chs ∨ code ≠ 0 ∧ m3.pages = m.pages)) ∧ d2.secs.length = 60 := by
          rcases hE with ⟨h0, h1, h2⟩ | ⟨h0, h1, h2⟩ | ⟨h0, h1, h2, _, m3, h3, h4⟩
          · exact ⟨⟨m2, h1.log, .inl h2⟩, h1.len⟩
          · have e1 : d2 = d1 := h1
            rw [e1]
            exact ⟨⟨m, hI1.log, .inr ⟨by rcases h0 with h0 | h0 <;> (dsimp only at h0; omega), rfl⟩⟩, hI1.len⟩
          · exact ⟨⟨m3, h4, h3.symm.imp id (fun h => ⟨by dsimp only at h0; omega, h⟩)⟩, h1.len⟩
        have hpg : m2.pages.length = 640 ∧ ((code = 0 ∧ m2.pages = nextL m.pages chs ∧ d2.off = false) ∨ (code ≠ 0 ∧ code ≠ 9 ∧ m2.pages = m.pages ∧ d2.off = false) ∨ (code = 9 ∧ m2.pages = m.pages ∧ d2.off = true)) := by
          rcases hE with ⟨h0, h1, h2⟩ | ⟨h0, h1, h2⟩ | ⟨h0, h1, h2, h3, _⟩
          · exact ⟨h1.log.plen, .inl ⟨h0, h2, h1.off⟩⟩
          · have e1 : d2 = d1 := h1
            have e2 : m2 = m := h2
            rw [e1, e2]
            exact ⟨hps, .inr (.inl ⟨by rcases h0 with h0 | h0 <;> (dsimp only at h0; omega), by rcases h0 with h0 | h0 <;> (dsimp only at h0; omega), rfl, hI1.off⟩)⟩
          · exact ⟨h3, .inr (.inr ⟨h0, h2, h1.off⟩)⟩
        clear hE
        obtain ⟨hp2, hpg⟩ := hpg
        obtain ⟨⟨m3, hlg3, hm3⟩, hlen2⟩ := hfin
        have hI3 := calm_inv hlg3 hlen2
        obtain ⟨hop, hon⟩ := hI3.opens (by omega) (by decide)
        have hps3 := hI3.log.plen
        repeat' (first | ((fail_if_success (with_reducible show C _ _ _ (Code.seq (Code.seq (Code.region 24 _ _) _) _) _ _)); refine Z H ?_) | (refine Zc ?_ ?_ <;> intro hc <;> first | (exfalso; omega) | skip) | (refine Y ?_; try change C _ _ _ _ _ _) | (refine Zs H ?_; clear H; (try clear w); intro w H) | (refine Zn H ?_; clear H; (try clear w); (first | ((fail_if_success (have := bl1)); intro bl1 w H) | ((fail_if_success (have := bl2)); intro bl2 w H) | intro _ w H)) | (refine Ze H ?_; clear H; (try clear w); intro gv w H))
        refine C.cut [4, 95, 96, 97, 98, 99, 100, 101, 102, 103, 104, 105, 106, 107, 108, 109, 110, 111, 112, 113, 114, 115, 116, 117, 118, 119, 120] [] rfl (fun vs w => Holds s5 w (logW bL bp m2.epoch m2.home m2.used m2.pages m2.dead :: dsk b d2 :: [])) ?_ ?_
        · rcases hpg with ⟨hc0, hm2, ho⟩ | ⟨hc0, hc9, hm2, ho⟩ | ⟨hc9, hm2, ho⟩
          · rw [hm2] at H hp2
            first | (have hT : Holds _ _ (logW bL _ _ _ _ _ _ :: _) := H; clear hT) | (replace H := H.up 1 rfl; (try simp only [List.set_cons_zero, List.set_cons_succ, List.eraseIdx_cons_zero, List.eraseIdx_cons_succ] at H); have hT : Holds _ _ (logW bL _ _ _ _ _ _ :: _) := H; clear hT) | (replace H := H.up 2 rfl; (try simp only [List.set_cons_zero, List.set_cons_succ, List.eraseIdx_cons_zero, List.eraseIdx_cons_succ] at H); have hT : Holds _ _ (logW bL _ _ _ _ _ _ :: _) := H; clear hT) | (replace H := H.up 3 rfl; (try simp only [List.set_cons_zero, List.set_cons_succ, List.eraseIdx_cons_zero, List.eraseIdx_cons_succ] at H); have hT : Holds _ _ (logW bL _ _ _ _ _ _ :: _) := H; clear hT) | (replace H := H.up 4 rfl; (try simp only [List.set_cons_zero, List.set_cons_succ, List.eraseIdx_cons_zero, List.eraseIdx_cons_succ] at H); have hT : Holds _ _ (logW bL _ _ _ _ _ _ :: _) := H; clear hT) | (replace H := H.up 5 rfl; (try simp only [List.set_cons_zero, List.set_cons_succ, List.eraseIdx_cons_zero, List.eraseIdx_cons_succ] at H); have hT : Holds _ _ (logW bL _ _ _ _ _ _ :: _) := H; clear hT) | (replace H := H.up 6 rfl; (try simp only [List.set_cons_zero, List.set_cons_succ, List.eraseIdx_cons_zero, List.eraseIdx_cons_succ] at H); have hT : Holds _ _ (logW bL _ _ _ _ _ _ :: _) := H; clear hT)
            repeat' (first | refine Z H ?_ | (refine Zc ?_ ?_ <;> intro hc <;> first | (exfalso; omega) | skip) | (refine Y ?_; try change C _ _ _ _ _ _) | (refine Zs H ?_; clear H; (try clear w); intro w H) | (refine Zn H ?_; clear H; (try clear w); (first | ((fail_if_success (have := bl1)); intro bl1 w H) | ((fail_if_success (have := bl2)); intro bl2 w H) | intro _ w H)) | (refine Ze H ?_; clear H; (try clear w); intro gv w H))
            refine C.drawn2 [gb] [0, 0, 0, 0, 2, 0, 1, 0, 0, 0, 0, 0, 0, 0, 2, 0, 0, 0, 0, 0, 0, 0, 0, 2, 0, 0] [5, 10, 9] [0, 1, 3, 7, 15, 7, 39, 127, 255, 511, 1023, 2047, 4095, 8191, 16383, 8191, 65535, 131071, 262143, 524287, 1048575, 2097151, 1048575, 5242879, 16777215, 33554431] (by kernel_rfl) ?_; replace H := H.drew; simp only [segL, List.take_succ_cons, List.take_zero, List.drop_succ_cons, List.drop_zero]; have H0 := H
            repeat' (first | refine Z H ?_ | (refine Zc ?_ ?_ <;> intro hc <;> first | (exfalso; omega) | skip) | (refine Y ?_; try change C _ _ _ _ _ _) | (refine Zs H ?_; clear H; (try clear w); intro w H) | (refine Zn H ?_; clear H; (try clear w); (first | ((fail_if_success (have := bl1)); intro bl1 w H) | ((fail_if_success (have := bl2)); intro bl2 w H) | intro _ w H)) | (refine Ze H ?_; clear H; (try clear w); intro gv w H))
            (refine X.call (pages_s H hp2) ?_; (try clear H); rintro _ w ⟨rfl, H⟩; refine ⟨_, rfl, ?_⟩); refine L.nil ?_; refine ⟨rfl, rfl, (by repeat (first | exact subN_nil | refine subN_cons (by simp) ?_)), (by first | exact keep_same | (repeat (first | exact keepV H0 H | exact keepP H0 H | exact keep_nil | refine keep_cons ?_ ?_))), ?_⟩; clear H0; have H0 := H
            repeat' (first | refine Z H ?_ | (refine Zc ?_ ?_ <;> intro hc <;> first | (exfalso; omega) | skip) | (refine Y ?_; try change C _ _ _ _ _ _) | (refine Zs H ?_; clear H; (try clear w); intro w H) | (refine Zn H ?_; clear H; (try clear w); (first | ((fail_if_success (have := bl1)); intro bl1 w H) | ((fail_if_success (have := bl2)); intro bl2 w H) | intro _ w H)) | (refine Ze H ?_; clear H; (try clear w); intro gv w H))
            refine ⟨rfl, rfl, (by repeat (first | exact subN_nil | refine subN_cons (by simp) ?_)), (by first | exact keep_same | (repeat (first | exact keepV H0 H | exact keepP H0 H | exact keep_nil | refine keep_cons ?_ ?_))), ?_⟩; clear H0; have H0 := H
            repeat' (first | refine Z H ?_ | (refine Zc ?_ ?_ <;> intro hc <;> first | (exfalso; omega) | skip) | (refine Y ?_; try change C _ _ _ _ _ _) | (refine Zs H ?_; clear H; (try clear w); intro w H) | (refine Zn H ?_; clear H; (try clear w); (first | ((fail_if_success (have := bl1)); intro bl1 w H) | ((fail_if_success (have := bl2)); intro bl2 w H) | intro _ w H)) | (refine Ze H ?_; clear H; (try clear w); intro gv w H))
            first | (have hT : Holds _ _ (dsk b _ :: _) := H; clear hT) | (replace H := H.up 1 rfl; (try simp only [List.set_cons_zero, List.set_cons_succ, List.eraseIdx_cons_zero, List.eraseIdx_cons_succ] at H); have hT : Holds _ _ (dsk b _ :: _) := H; clear hT) | (replace H := H.up 2 rfl; (try simp only [List.set_cons_zero, List.set_cons_succ, List.eraseIdx_cons_zero, List.eraseIdx_cons_succ] at H); have hT : Holds _ _ (dsk b _ :: _) := H; clear hT) | (replace H := H.up 3 rfl; (try simp only [List.set_cons_zero, List.set_cons_succ, List.eraseIdx_cons_zero, List.eraseIdx_cons_succ] at H); have hT : Holds _ _ (dsk b _ :: _) := H; clear hT) | (replace H := H.up 4 rfl; (try simp only [List.set_cons_zero, List.set_cons_succ, List.eraseIdx_cons_zero, List.eraseIdx_cons_succ] at H); have hT : Holds _ _ (dsk b _ :: _) := H; clear hT) | (replace H := H.up 5 rfl; (try simp only [List.set_cons_zero, List.set_cons_succ, List.eraseIdx_cons_zero, List.eraseIdx_cons_succ] at H); have hT : Holds _ _ (dsk b _ :: _) := H; clear hT) | (replace H := H.up 6 rfl; (try simp only [List.set_cons_zero, List.set_cons_succ, List.eraseIdx_cons_zero, List.eraseIdx_cons_succ] at H); have hT : Holds _ _ (dsk b _ :: _) := H; clear hT)
            (refine X.call (On_s H) ?_; (try clear H); rintro _ w ⟨rfl, H⟩; refine ⟨_, rfl, ?_⟩); refine L.nil ?_; refine ⟨rfl, rfl, (by repeat (first | exact subN_nil | refine subN_cons (by simp) ?_)), (by first | exact keep_same | (repeat (first | exact keepV H0 H | exact keepP H0 H | exact keep_nil | refine keep_cons ?_ ?_))), ?_⟩; clear H0; have H0 := H
            rw [ho]
            repeat' (first | (refine K.cmpB rfl rfl rfl rfl rfl ?_) | refine Z H ?_ | (refine Zc ?_ ?_ <;> intro hc <;> first | (exfalso; omega) | skip) | (refine Y ?_; try change C _ _ _ _ _ _) | (refine Zs H ?_; clear H; (try clear w); intro w H) | (refine Zn H ?_; clear H; (try clear w); (first | ((fail_if_success (have := bl1)); intro bl1 w H) | ((fail_if_success (have := bl2)); intro bl2 w H) | intro _ w H)) | (refine Ze H ?_; clear H; (try clear w); intro gv w H))
            refine ⟨rfl, rfl, (by repeat (first | exact subN_nil | refine subN_cons (by simp) ?_)), (by first | exact keep_same | (repeat (first | exact keepV H0 H | exact keepP H0 H | exact keep_nil | refine keep_cons ?_ ?_))), ?_⟩; clear H0; have H0 := H
            repeat' (first | refine Z H ?_ | (refine Zc ?_ ?_ <;> intro hc <;> first | (exfalso; omega) | skip) | (refine Y ?_; try change C _ _ _ _ _ _) | (refine Zs H ?_; clear H; (try clear w); intro w H) | (refine Zn H ?_; clear H; (try clear w); (first | ((fail_if_success (have := bl1)); intro bl1 w H) | ((fail_if_success (have := bl2)); intro bl2 w H) | intro _ w H)) | (refine Ze H ?_; clear H; (try clear w); intro gv w H))
            exact ⟨by (repeat (first | exact Agr.refl | exact Agr.hav | refine Agr.upd rfl ?_ | refine Agr.in rfl ?_)), by rw [hm2]; exact H.arr⟩
          all_goals
            rw [hm2] at H hp2
            first | (have hT : Holds _ _ (logW bL _ _ _ _ _ _ :: _) := H; clear hT) | (replace H := H.up 1 rfl; (try simp only [List.set_cons_zero, List.set_cons_succ, List.eraseIdx_cons_zero, List.eraseIdx_cons_succ] at H); have hT : Holds _ _ (logW bL _ _ _ _ _ _ :: _) := H; clear hT) | (replace H := H.up 2 rfl; (try simp only [List.set_cons_zero, List.set_cons_succ, List.eraseIdx_cons_zero, List.eraseIdx_cons_succ] at H); have hT : Holds _ _ (logW bL _ _ _ _ _ _ :: _) := H; clear hT) | (replace H := H.up 3 rfl; (try simp only [List.set_cons_zero, List.set_cons_succ, List.eraseIdx_cons_zero, List.eraseIdx_cons_succ] at H); have hT : Holds _ _ (logW bL _ _ _ _ _ _ :: _) := H; clear hT) | (replace H := H.up 4 rfl; (try simp only [List.set_cons_zero, List.set_cons_succ, List.eraseIdx_cons_zero, List.eraseIdx_cons_succ] at H); have hT : Holds _ _ (logW bL _ _ _ _ _ _ :: _) := H; clear hT) | (replace H := H.up 5 rfl; (try simp only [List.set_cons_zero, List.set_cons_succ, List.eraseIdx_cons_zero, List.eraseIdx_cons_succ] at H); have hT : Holds _ _ (logW bL _ _ _ _ _ _ :: _) := H; clear hT) | (replace H := H.up 6 rfl; (try simp only [List.set_cons_zero, List.set_cons_succ, List.eraseIdx_cons_zero, List.eraseIdx_cons_succ] at H); have hT : Holds _ _ (logW bL _ _ _ _ _ _ :: _) := H; clear hT)
            repeat' (first | refine Z H ?_ | (refine Zc ?_ ?_ <;> intro hc <;> first | (exfalso; omega) | skip) | (refine Y ?_; try change C _ _ _ _ _ _) | (refine Zs H ?_; clear H; (try clear w); intro w H) | (refine Zn H ?_; clear H; (try clear w); (first | ((fail_if_success (have := bl1)); intro bl1 w H) | ((fail_if_success (have := bl2)); intro bl2 w H) | intro _ w H)) | (refine Ze H ?_; clear H; (try clear w); intro gv w H))
            refine C.drawn2 [gb] [0, 0, 0, 0, 2, 0, 1, 0, 0, 0, 0, 0, 0, 0, 2, 0, 0, 0, 0, 0, 0, 0, 0, 2, 0, 0] [5, 10, 9] [0, 1, 3, 7, 15, 7, 39, 127, 255, 511, 1023, 2047, 4095, 8191, 16383, 8191, 65535, 131071, 262143, 524287, 1048575, 2097151, 1048575, 5242879, 16777215, 33554431] (by kernel_rfl) ?_; replace H := H.drew; simp only [segL, List.take_succ_cons, List.take_zero, List.drop_succ_cons, List.drop_zero]; have H0 := H
            repeat' (first | refine Z H ?_ | (refine Zc ?_ ?_ <;> intro hc <;> first | (exfalso; omega) | skip) | (refine Y ?_; try change C _ _ _ _ _ _) | (refine Zs H ?_; clear H; (try clear w); intro w H) | (refine Zn H ?_; clear H; (try clear w); (first | ((fail_if_success (have := bl1)); intro bl1 w H) | ((fail_if_success (have := bl2)); intro bl2 w H) | intro _ w H)) | (refine Ze H ?_; clear H; (try clear w); intro gv w H))
            refine ⟨rfl, rfl, (by repeat (first | exact subN_nil | refine subN_cons (by simp) ?_)), (by first | exact keep_same | (repeat (first | exact keepV H0 H | exact keepP H0 H | exact keep_nil | refine keep_cons ?_ ?_))), ?_⟩; clear H0; have H0 := H
            repeat' (first | refine Z H ?_ | (refine Zc ?_ ?_ <;> intro hc <;> first | (exfalso; omega) | skip) | (refine Y ?_; try change C _ _ _ _ _ _) | (refine Zs H ?_; clear H; (try clear w); intro w H) | (refine Zn H ?_; clear H; (try clear w); (first | ((fail_if_success (have := bl1)); intro bl1 w H) | ((fail_if_success (have := bl2)); intro bl2 w H) | intro _ w H)) | (refine Ze H ?_; clear H; (try clear w); intro gv w H))
            (refine X.call (pages_s H hp2) ?_; (try clear H); rintro _ w ⟨rfl, H⟩; refine ⟨_, rfl, ?_⟩); refine L.nil ?_; refine ⟨rfl, rfl, (by repeat (first | exact subN_nil | refine subN_cons (by simp) ?_)), (by first | exact keep_same | (repeat (first | exact keepV H0 H | exact keepP H0 H | exact keep_nil | refine keep_cons ?_ ?_))), ?_⟩; clear H0; have H0 := H
            repeat' (first | refine Z H ?_ | (refine Zc ?_ ?_ <;> intro hc <;> first | (exfalso; omega) | skip) | (refine Y ?_; try change C _ _ _ _ _ _) | (refine Zs H ?_; clear H; (try clear w); intro w H) | (refine Zn H ?_; clear H; (try clear w); (first | ((fail_if_success (have := bl1)); intro bl1 w H) | ((fail_if_success (have := bl2)); intro bl2 w H) | intro _ w H)) | (refine Ze H ?_; clear H; (try clear w); intro gv w H))
            first | (have hT : Holds _ _ (dsk b _ :: _) := H; clear hT) | (replace H := H.up 1 rfl; (try simp only [List.set_cons_zero, List.set_cons_succ, List.eraseIdx_cons_zero, List.eraseIdx_cons_succ] at H); have hT : Holds _ _ (dsk b _ :: _) := H; clear hT) | (replace H := H.up 2 rfl; (try simp only [List.set_cons_zero, List.set_cons_succ, List.eraseIdx_cons_zero, List.eraseIdx_cons_succ] at H); have hT : Holds _ _ (dsk b _ :: _) := H; clear hT) | (replace H := H.up 3 rfl; (try simp only [List.set_cons_zero, List.set_cons_succ, List.eraseIdx_cons_zero, List.eraseIdx_cons_succ] at H); have hT : Holds _ _ (dsk b _ :: _) := H; clear hT) | (replace H := H.up 4 rfl; (try simp only [List.set_cons_zero, List.set_cons_succ, List.eraseIdx_cons_zero, List.eraseIdx_cons_succ] at H); have hT : Holds _ _ (dsk b _ :: _) := H; clear hT) | (replace H := H.up 5 rfl; (try simp only [List.set_cons_zero, List.set_cons_succ, List.eraseIdx_cons_zero, List.eraseIdx_cons_succ] at H); have hT : Holds _ _ (dsk b _ :: _) := H; clear hT) | (replace H := H.up 6 rfl; (try simp only [List.set_cons_zero, List.set_cons_succ, List.eraseIdx_cons_zero, List.eraseIdx_cons_succ] at H); have hT : Holds _ _ (dsk b _ :: _) := H; clear hT)
            (refine X.call (On_s H) ?_; (try clear H); rintro _ w ⟨rfl, H⟩; refine ⟨_, rfl, ?_⟩); refine L.nil ?_; refine ⟨rfl, rfl, (by repeat (first | exact subN_nil | refine subN_cons (by simp) ?_)), (by first | exact keep_same | (repeat (first | exact keepV H0 H | exact keepP H0 H | exact keep_nil | refine keep_cons ?_ ?_))), ?_⟩; clear H0; have H0 := H
            rw [ho]
            repeat' (first | (refine K.cmpB rfl rfl rfl rfl rfl ?_) | refine Z H ?_ | (refine Zc ?_ ?_ <;> intro hc <;> first | (exfalso; omega) | skip) | (refine Y ?_; try change C _ _ _ _ _ _) | (refine Zs H ?_; clear H; (try clear w); intro w H) | (refine Zn H ?_; clear H; (try clear w); (first | ((fail_if_success (have := bl1)); intro bl1 w H) | ((fail_if_success (have := bl2)); intro bl2 w H) | intro _ w H)) | (refine Ze H ?_; clear H; (try clear w); intro gv w H))
            refine ⟨rfl, rfl, (by repeat (first | exact subN_nil | refine subN_cons (by simp) ?_)), (by first | exact keep_same | (repeat (first | exact keepV H0 H | exact keepP H0 H | exact keep_nil | refine keep_cons ?_ ?_))), ?_⟩; clear H0; have H0 := H
            repeat' (first | refine Z H ?_ | (refine Zc ?_ ?_ <;> intro hc <;> first | (exfalso; omega) | skip) | (refine Y ?_; try change C _ _ _ _ _ _) | (refine Zs H ?_; clear H; (try clear w); intro w H) | (refine Zn H ?_; clear H; (try clear w); (first | ((fail_if_success (have := bl1)); intro bl1 w H) | ((fail_if_success (have := bl2)); intro bl2 w H) | intro _ w H)) | (refine Ze H ?_; clear H; (try clear w); intro gv w H))
            exact ⟨by (repeat (first | exact Agr.refl | exact Agr.hav | refine Agr.upd rfl ?_ | refine Agr.in rfl ?_)), by rw [hm2]; exact H.arr⟩
        · clear H
          rintro vs hv4 w H
          repeat' (first | refine Z H ?_ | (refine Zc ?_ ?_ <;> intro hc <;> first | (exfalso; omega) | skip) | (refine Y ?_; try change C _ _ _ _ _ _) | (refine Zs H ?_; clear H; (try clear w); intro w H) | (refine Zn H ?_; clear H; (try clear w); (first | ((fail_if_success (have := bl1)); intro bl1 w H) | ((fail_if_success (have := bl2)); intro bl2 w H) | intro _ w H)) | (refine Ze H ?_; clear H; (try clear w); intro gv w H))
          first | (have hT : Holds _ _ (dsk b _ :: _) := H; clear hT) | (replace H := H.up 1 rfl; (try simp only [List.set_cons_zero, List.set_cons_succ, List.eraseIdx_cons_zero, List.eraseIdx_cons_succ] at H); have hT : Holds _ _ (dsk b _ :: _) := H; clear hT) | (replace H := H.up 2 rfl; (try simp only [List.set_cons_zero, List.set_cons_succ, List.eraseIdx_cons_zero, List.eraseIdx_cons_succ] at H); have hT : Holds _ _ (dsk b _ :: _) := H; clear hT) | (replace H := H.up 3 rfl; (try simp only [List.set_cons_zero, List.set_cons_succ, List.eraseIdx_cons_zero, List.eraseIdx_cons_succ] at H); have hT : Holds _ _ (dsk b _ :: _) := H; clear hT) | (replace H := H.up 4 rfl; (try simp only [List.set_cons_zero, List.set_cons_succ, List.eraseIdx_cons_zero, List.eraseIdx_cons_succ] at H); have hT : Holds _ _ (dsk b _ :: _) := H; clear hT) | (replace H := H.up 5 rfl; (try simp only [List.set_cons_zero, List.set_cons_succ, List.eraseIdx_cons_zero, List.eraseIdx_cons_succ] at H); have hT : Holds _ _ (dsk b _ :: _) := H; clear hT) | (replace H := H.up 6 rfl; (try simp only [List.set_cons_zero, List.set_cons_succ, List.eraseIdx_cons_zero, List.eraseIdx_cons_succ] at H); have hT : Holds _ _ (dsk b _ :: _) := H; clear hT)
          (refine X.call (Arm_s (n := -1) (sv := []) H (.ro (SlS.nil _ _)) (by decide) (by decide)) ?_; (try clear H); rintro _ w ⟨rfl, H⟩; refine ⟨_, rfl, ?_⟩)
          repeat' (first | refine Z H ?_ | (refine Zc ?_ ?_ <;> intro hc <;> first | (exfalso; omega) | skip) | (refine Y ?_; try change C _ _ _ _ _ _) | (refine Zs H ?_; clear H; (try clear w); intro w H) | (refine Zn H ?_; clear H; (try clear w); (first | ((fail_if_success (have := bl1)); intro bl1 w H) | ((fail_if_success (have := bl2)); intro bl2 w H) | intro _ w H)) | (refine Ze H ?_; clear H; (try clear w); intro gv w H))
          (refine X.call (Power_s H) ?_; (try clear H); rintro _ w ⟨rfl, H⟩; refine ⟨_, rfl, ?_⟩)
          repeat' (first | refine Z H ?_ | (refine Zc ?_ ?_ <;> intro hc <;> first | (exfalso; omega) | skip) | (refine Y ?_; try change C _ _ _ _ _ _) | (refine Zs H ?_; clear H; (try clear w); intro w H) | (refine Zn H ?_; clear H; (try clear w); (first | ((fail_if_success (have := bl1)); intro bl1 w H) | ((fail_if_success (have := bl2)); intro bl2 w H) | intro _ w H)) | (refine Ze H ?_; clear H; (try clear w); intro gv w H))
          generalize (d2.arm (-1) []).power = d3 at *
          refine X.call (Open_l (x := ((f : Int), 52)) (hN.mono hle5) H (hp.mono ((hs2.trans hle3).trans (hs4.trans hs5))) rfl hon) ?_
          clear H
          rintro _ w ⟨s6, hs6, hcase⟩
          obtain ⟨m4, bL2, ho, rfl, H⟩ := hcase.resolve_right (fun ⟨c, ho, _⟩ => by rw [hop] at ho; cases ho)
          clear hcase
          refine ⟨_, rfl, ?_⟩
          rw [hop] at ho
          cases ho
          replace hnS := hnS.mono hs6
          have H' : Holds s6 w (logW bL2 bp m3.epoch m3.home m3.used m3.pages m3.dead :: dsk b d3 :: []) := H.arr
          clear H
          have H := H'
          clear H'
          repeat' (first | refine Z H ?_ | (refine Zc ?_ ?_ <;> intro hc <;> first | (exfalso; omega) | skip) | (refine Y ?_; try change C _ _ _ _ _ _) | (refine Zs H ?_; clear H; (try clear w); intro w H) | (refine Zn H ?_; clear H; (try clear w); (first | ((fail_if_success (have := bl1)); intro bl1 w H) | ((fail_if_success (have := bl2)); intro bl2 w H) | intro _ w H)) | (refine Ze H ?_; clear H; (try clear w); intro gv w H))
          (refine X.call (pages_s H hps3) ?_; (try clear H); rintro _ w ⟨rfl, H⟩; refine ⟨_, rfl, ?_⟩)
          rcases hm3 with hm3 | ⟨hc3, hm3⟩
          · rw [hm3]
            repeat' (first | refine Z H ?_ | (refine Zc ?_ ?_ <;> intro hc <;> first | (exfalso; omega) | skip) | (refine Y ?_; try change C _ _ _ _ _ _) | (refine Zs H ?_; clear H; (try clear w); intro w H) | (refine Zn H ?_; clear H; (try clear w); (first | ((fail_if_success (have := bl1)); intro bl1 w H) | ((fail_if_success (have := bl2)); intro bl2 w H) | intro _ w H)) | (refine Ze H ?_; clear H; (try clear w); intro gv w H))
            exact ⟨by (repeat (first | exact Agr.refl | exact Agr.hav | refine Agr.upd rfl ?_ | refine Agr.in rfl ?_)), acts.length - (i + 1), by omega, i + 1, s6, d3, m3, bL2, rfl, by omega, by omega, rfl, (hle3.trans (hs4.trans hs5)).trans hs6, hI3, H⟩
          · rw [hm3]
            repeat' (first | refine Z H ?_ | (refine Zc ?_ ?_ <;> intro hc <;> first | (exfalso; omega) | skip) | (refine Y ?_; try change C _ _ _ _ _ _) | (refine Zs H ?_; clear H; (try clear w); intro w H) | (refine Zn H ?_; clear H; (try clear w); (first | ((fail_if_success (have := bl1)); intro bl1 w H) | ((fail_if_success (have := bl2)); intro bl2 w H) | intro _ w H)) | (refine Ze H ?_; clear H; (try clear w); intro gv w H))
            all_goals exact ⟨by (repeat (first | exact Agr.refl | exact Agr.hav | refine Agr.upd rfl ?_ | refine Agr.in rfl ?_)), acts.length - (i + 1), by omega, i + 1, s6, d3, m3, bL2, rfl, by omega, by omega, rfl, (hle3.trans (hs4.trans hs5)).trans hs6, hI3, H⟩
  · repeat' (first | refine Z H ?_ | (refine Zc ?_ ?_ <;> intro hc <;> first | (exfalso; omega) | skip) | (refine Y ?_; try change C _ _ _ _ _ _) | (refine Zs H ?_; clear H; (try clear w); intro w H) | (refine Zn H ?_; clear H; (try clear w); (first | ((fail_if_success (have := bl1)); intro bl1 w H) | ((fail_if_success (have := bl2)); intro bl2 w H) | intro _ w H)) | (refine Ze H ?_; clear H; (try clear w); intro gv w H))
    all_goals
      (refine X.call (awake16 (hN.mono hle23) H) ?_; (try clear H); rintro _ w ⟨s6, rfl, hle6, H⟩; refine ⟨_, rfl, ?_⟩)
      repeat' (first | refine Z H ?_ | (refine Zc ?_ ?_ <;> intro hc <;> first | (exfalso; omega) | skip) | (refine Y ?_; try change C _ _ _ _ _ _) | (refine Zs H ?_; clear H; (try clear w); intro w H) | (refine Zn H ?_; clear H; (try clear w); (first | ((fail_if_success (have := bl1)); intro bl1 w H) | ((fail_if_success (have := bl2)); intro bl2 w H) | intro _ w H)) | (refine Ze H ?_; clear H; (try clear w); intro gv w H))
      exact ⟨_, resT rfl, rfl, H.done (hle23.trans hle6)⟩
theorem wcrash_rdg {w : World} {a : Option Addr} {n c : Nat} {z : Int} (hN : Nib (startRo w)) (_ : Rdg Tryd.prog w 3 [.int .i64 z]) (g : Rdg Tryd.prog w 68 [.slice a n c]) : Calls Tryd.prog 10 #[.int .i64 z, .slice a n c] w fun e w' => e = .returned (.bool true) ∧ Only [] w w' := by
  obtain ⟨l, h1, h2⟩ := acts16_of g
  obtain ⟨va, vc, hv, _⟩ := formS h1
  cases hv
  exact (wcrash_walk hN (Holds.start w) h1 h2).mono fun e w' h => ⟨h.1, h.2.only⟩
end
end Go.Proofs.YtbknpbihgfphaaaDoor
