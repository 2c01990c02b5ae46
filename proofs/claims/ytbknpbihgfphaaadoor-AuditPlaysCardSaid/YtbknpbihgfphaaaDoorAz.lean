/- Layer 20: awake. -/
import Derived.Test.YtbknpbihgfphaaaDoorAy
set_option linter.unusedSimpArgs false
set_option linter.unusedVariables false
namespace Go.Proofs.YtbknpbihgfphaaaDoor
open Go Go.RowKit Go.Own

section
variable {s : Ro} {w : World} {R : List Asn} {b bp : Nat} {d : DM} {x : Ext}
theorem OpenA_ok {cnt : Nat} {es : List En} (hN : Nib s) (H : Holds s w (dsk b d :: R)) (hp : PartS s bp b x) (hx : x.2 = (cnt : Int)) (hc : cnt ≤ 1000) (hs : scanA d x cnt 0 = (es, 0)) : Calls Tryd.prog 13 #[.pointer (some ⟨bp, 0, none⟩)] w fun e w' => ∃ s' bL aa cc, e = .returned (.tuple #[.pointer (some ⟨bL, 0, none⟩), .int .i64 0]) ∧ s.Le s' ∧ Holds s' w' (logP bL bp aa cc ⟨es, false⟩ (dsk b d :: R)) :=
  (OpenA_s hN H hp hx hc).mono fun e w' h => by
    obtain ⟨s', hs', h⟩ := h
    rw [hs] at h
    rcases h with ⟨_, bL, aa, cc, he, H⟩ | ⟨h, _⟩
    · exact ⟨s', bL, aa, cc, he, hs', H⟩
    · exact absurd rfl h
theorem full_pin {i g t j : Nat} {cs : List Value} {v : Value} {rs : List Asn} (H : Holds s w rs) (hi : rs[i]? = some (var g t cs)) (hv : cs[j]? = some v) : Pin (full s w) g j v := ⟨cs.toArray, t, (0, 0), H.var hi, by simpa using hv⟩
theorem Entries_e {bL cc : Nat} {aa : Option Addr} {m : AL} (H : Holds s w (logP bL bp aa cc m R)) (hl : m.ents.length ≤ 1000) : Calls Tryd.prog 16 #[.pointer (some ⟨bL, 0, none⟩)] w fun e w' => ∃ a' c', e = .returned (.slice a' m.ents.length c') ∧ Only [] w w' ∧ Holds s w' (row 34 4 (.slice a' m.ents.length c') m.ents.length (m.ents.flatMap En.cells) :: logP bL bp aa cc m R) := by
  have p1 := full_pin (j := 1) H (i := 0) rfl rfl
  have hS : SlS (full s w) (.slice aa m.ents.length cc) 4 m.ents.length (m.ents.flatMap En.cells) := Src.full (.own 1 _ rfl) H
  have key : Calls Tryd.prog 16 #[.pointer (some ⟨bL, 0, none⟩)] w fun e w' => ∃ a' c', e = .returned (.slice a' m.ents.length c') ∧ Holds (full s w) w' [row 34 4 (.slice a' m.ents.length c') m.ents.length (m.ents.flatMap En.cells)] := by
    have HF := H.full
    clear H
    have H := HF
    clear HF
    generalize full s w = s1 at *
    refine enter Tryd.func16 rfl Tryd.ntmps16 rfl ?_
    repeat' (first | refine Z H ?_ | (refine Zc ?_ ?_ <;> intro hc <;> first | (exfalso; omega) | skip) | (refine Y ?_; try change C _ _ _ _ _ _) | (refine Zs H ?_; clear H; (try clear w); intro w H) | (refine Zn H ?_; clear H; (try clear w); intro _ w H) | (refine Ze H ?_; clear H; (try clear w); intro gv w H))
    (refine X.call (CloneE_s H (.ro hS) (by omega)) ?_; (try clear H); rintro _ w ⟨a1, c1, rfl, H⟩; refine ⟨_, rfl, ?_⟩)
    repeat' (first | refine Z H ?_ | (refine Zc ?_ ?_ <;> intro hc <;> first | (exfalso; omega) | skip) | (refine Y ?_; try change C _ _ _ _ _ _) | (refine Zs H ?_; clear H; (try clear w); intro w H) | (refine Zn H ?_; clear H; (try clear w); intro _ w H) | (refine Ze H ?_; clear H; (try clear w); intro gv w H))
    exact ⟨_, resT rfl, a1, c1, rfl, H⟩
  exact key.mono fun e w' ⟨a1, c1, he, H'⟩ => ⟨a1, c1, he, H.pure1 H'⟩
theorem build_entry2 (w : World) : (Instr.build 34 [(0, .int .i64 1), (2, .int .u32 7)].toArray).run Tryd.prog w = .ok (.agg #[.int .i64 1, .int .i64 0, .int .u32 7, .int .i64 0]) w := by kernel_rfl
theorem build_ents1 (a b c d : Int) (w : World) : (Instr.buildSlice 22 1 [(0, .agg #[.int .i64 a, .int .i64 b, .int .u32 c, .int .i64 d])].toArray).run Tryd.prog w = .ok (.slice (some ⟨w.heap.size, 0, none⟩) 1 1) (w.alloc (.cells [.int .i64 a, .int .i64 b, .int .u32 c, .int .i64 d].toArray 34)) := by kernel_rfl
def awE : En := ⟨1, 0, 7, 0⟩
set_option maxRecDepth 100000 in
set_option maxHeartbeats 1000000 in
theorem awake20 (hN : Nib s) (H : Holds s w R) : Calls Tryd.prog 19 #[] w fun e w' => ∃ s', e = .returned (.bool true) ∧ s.Le s' ∧ Holds s' w' R := by
  have hL0 : Lg 12 2 3 (DM.new 12) ⟨[], false⟩ := Lg.new
  have hs0 := hL0.scan (by decide) (by decide) (by simp) 3 0 rfl (by simp)
  obtain ⟨hL1, hA⟩ := hL0.add (by decide) (by decide) awE
  have hA' : (addA (DM.new 12) (((2 : Nat) : Int), ((3 : Nat) : Int)) ⟨[], false⟩ awE).2.2 = 0 ∧ (addA (DM.new 12) (((2 : Nat) : Int), ((3 : Nat) : Int)) ⟨[], false⟩ awE).2.1 = ⟨[awE], false⟩ := by
    rcases hA with ⟨_, h, _⟩ | ⟨_, _, h, _⟩ | ⟨h1, _, _, h2⟩
    · exact absurd h (by decide)
    · exact absurd h (by decide)
    · exact ⟨h1, h2⟩
  clear hA
  rw [hA'.2] at hL1
  have hs1 := hL1.scan (by decide) (by decide) (by simp; decide) 3 0 rfl (by simp)
  rw [List.drop_zero] at hs0 hs1
  dsimp only at hs0 hs1
  refine enter Tryd.func19 rfl Tryd.ntmps19 rfl ?_
  repeat' (first | refine Z H ?_ | (refine Zc ?_ ?_ <;> intro hc <;> first | (exfalso; omega) | skip) | (refine Y ?_; try change C _ _ _ _ _ _) | (refine Zs H ?_; clear H; (try clear w); intro w H) | (refine Zn H ?_; clear H; (try clear w); (first | ((fail_if_success (have := bl1)); intro bl1 w H) | intro _ w H)) | (refine Ze H ?_; clear H; (try clear w); intro gv w H))
  (refine X.call (part20_s (cnt := 3) H (by decide) (by decide)) ?_; (try clear H); rintro _ w ⟨s1, b, bp, rfl, hle1, hp, H⟩; refine ⟨_, rfl, ?_⟩)
  repeat' (first | refine Z H ?_ | (refine Zc ?_ ?_ <;> intro hc <;> first | (exfalso; omega) | skip) | (refine Y ?_; try change C _ _ _ _ _ _) | (refine Zs H ?_; clear H; (try clear w); intro w H) | (refine Zn H ?_; clear H; (try clear w); (first | ((fail_if_success (have := bl1)); intro bl1 w H) | intro _ w H)) | (refine Ze H ?_; clear H; (try clear w); intro gv w H))
  (refine X.call (OpenA_ok (cnt := 3) (hN.mono hle1) H hp rfl (by decide) hs0) ?_; (try clear H); rintro _ w ⟨s2, bL, aa, cc, rfl, hle2, H⟩; refine ⟨_, rfl, ?_⟩)
  repeat' (first | refine Z H ?_ | (refine Zc ?_ ?_ <;> intro hc <;> first | (exfalso; omega) | skip) | (refine Y ?_; try change C _ _ _ _ _ _) | (refine Zs H ?_; clear H; (try clear w); intro w H) | (refine Zn H ?_; clear H; (try clear w); (first | ((fail_if_success (have := bl1)); intro bl1 w H) | intro _ w H)) | (refine Ze H ?_; clear H; (try clear w); intro gv w H))
  have hE := Entries_s (m := ⟨[], false⟩) H (by simp)
  dsimp only [List.length_nil] at hE
  (refine X.call (hE) ?_; (try clear H); rintro _ w ⟨a1, c1, rfl, H⟩; refine ⟨_, rfl, ?_⟩)
  clear hE
  repeat' (first | (refine K.build [(0, .int .i64 1), (2, .int .u32 7)] (.agg #[.int .i64 1, .int .i64 0, .int .u32 7, .int .i64 0]) build_entry2 rfl rfl rfl ?_) | refine Z H ?_ | (refine Zc ?_ ?_ <;> intro hc <;> first | (exfalso; omega) | skip) | (refine Y ?_; try change C _ _ _ _ _ _) | (refine Zs H ?_; clear H; (try clear w); intro w H) | (refine Zn H ?_; clear H; (try clear w); (first | ((fail_if_success (have := bl1)); intro bl1 w H) | intro _ w H)) | (refine Ze H ?_; clear H; (try clear w); intro gv w H))
  have H1 : Holds s2 w (logP bL bp aa cc ⟨[], false⟩ (dsk b (DM.new 12) :: var bl1 34 [.int .i64 1, .int .i64 0, .int .u32 7, .int .i64 0] :: R)) := logP_of H
  clear H
  have hAd := Add_a (y := awE) (m := ⟨[], false⟩) (hN.mono (hle1.trans hle2)) H1 (hp.mono hle2) ⟨by unfold I64 awE; decide, by unfold I64 awE; decide, by decide, by unfold I64 awE; decide⟩ (by decide) (by decide)
  rw [hA'.1, hA'.2] at hAd
  clear hA' hL0 hL1
  generalize (addA (DM.new 12) (((2 : Nat) : Int), ((3 : Nat) : Int)) ⟨[], false⟩ awE).1 = d1 at *
  (refine X.call (hAd) ?_; (try clear H); rintro _ w ⟨a2, c2, rfl, H⟩; refine ⟨_, rfl, ?_⟩)
  clear hAd H1
  repeat' (first | refine Z H ?_ | (refine Zc ?_ ?_ <;> intro hc <;> first | (exfalso; omega) | skip) | (refine Y ?_; try change C _ _ _ _ _ _) | (refine Zs H ?_; clear H; (try clear w); intro w H) | (refine Zn H ?_; clear H; (try clear w); (first | ((fail_if_success (have := bl1)); intro bl1 w H) | intro _ w H)) | (refine Ze H ?_; clear H; (try clear w); intro gv w H))
  dsimp only [logP] at H
  first | (have hT : Holds _ _ (dsk b _ :: _) := H; clear hT) | (replace H := H.up 1 rfl; (try simp only [List.set_cons_zero, List.set_cons_succ, List.eraseIdx_cons_zero, List.eraseIdx_cons_succ] at H); have hT : Holds _ _ (dsk b _ :: _) := H; clear hT) | (replace H := H.up 2 rfl; (try simp only [List.set_cons_zero, List.set_cons_succ, List.eraseIdx_cons_zero, List.eraseIdx_cons_succ] at H); have hT : Holds _ _ (dsk b _ :: _) := H; clear hT) | (replace H := H.up 3 rfl; (try simp only [List.set_cons_zero, List.set_cons_succ, List.eraseIdx_cons_zero, List.eraseIdx_cons_succ] at H); have hT : Holds _ _ (dsk b _ :: _) := H; clear hT) | (replace H := H.up 4 rfl; (try simp only [List.set_cons_zero, List.set_cons_succ, List.eraseIdx_cons_zero, List.eraseIdx_cons_succ] at H); have hT : Holds _ _ (dsk b _ :: _) := H; clear hT) | (replace H := H.up 5 rfl; (try simp only [List.set_cons_zero, List.set_cons_succ, List.eraseIdx_cons_zero, List.eraseIdx_cons_succ] at H); have hT : Holds _ _ (dsk b _ :: _) := H; clear hT) | (replace H := H.up 6 rfl; (try simp only [List.set_cons_zero, List.set_cons_succ, List.eraseIdx_cons_zero, List.eraseIdx_cons_succ] at H); have hT : Holds _ _ (dsk b _ :: _) := H; clear hT)
  (refine X.call (OpenA_ok (cnt := 3) (hN.mono (hle1.trans hle2)) H (hp.mono hle2) rfl (by decide) hs1) ?_; (try clear H); rintro _ w ⟨s3, bM, a3, c3, rfl, hle3, H⟩; refine ⟨_, rfl, ?_⟩)
  repeat' (first | refine Z H ?_ | (refine Zc ?_ ?_ <;> intro hc <;> first | (exfalso; omega) | skip) | (refine Y ?_; try change C _ _ _ _ _ _) | (refine Zs H ?_; clear H; (try clear w); intro w H) | (refine Zn H ?_; clear H; (try clear w); (first | ((fail_if_success (have := bl1)); intro bl1 w H) | intro _ w H)) | (refine Ze H ?_; clear H; (try clear w); intro gv w H))
  refine C.drawn7 [0, 1, 2, 3, 4, 5, 6, 7, 9, 8, 10, 11, 12, 13, 14, 15, 16, 17, 18, 19] [0, 0, 0, 0, 0, 0, 0, 0, 1, 2, 3, 3, 0, 0, 0, 0, 0, 0, 0, 0] [10, 1, 1] [0, 1, 2, 3, 4, 5, 6, 7, 9, 10, 8, 11, 12, 13, 14, 15, 16, 17, 18, 19] [0, 0, 0, 0, 0, 0, 0, 0, 1, 3, 2, 3, 0, 0, 0, 0, 0, 0, 0, 0] [10, 1, 1] [0, 1, 3, 7, 15, 31, 63, 127, 255, 127, 639, 2047, 4095, 8191, 16383, 32767, 65535, 131071, 262143, 524287] 8 10 (by kernel_rfl) ?_ ?_
  · replace H := H.drew
    simp only [Reg.pick, List.filterMap_cons, List.filterMap_nil, List.getElem?_toArray, List.getElem?_cons_zero, List.getElem?_cons_succ, segN, List.take_succ_cons, List.take_zero, List.drop_succ_cons, List.drop_zero]
    repeat' (first | refine Z H ?_ | (refine Zc ?_ ?_ <;> intro hc <;> first | (exfalso; omega) | skip) | (refine Y ?_; try change C _ _ _ _ _ _) | (refine Zs H ?_; clear H; (try clear w); intro w H) | (refine Zn H ?_; clear H; (try clear w); (first | ((fail_if_success (have := bl1)); intro bl1 w H) | intro _ w H)) | (refine Ze H ?_; clear H; (try clear w); intro gv w H))
    have hE := Entries_e (m := ⟨[awE], false⟩) H (by decide)
    dsimp only at hE
    (refine X.call (hE) ?_; (try clear H); rintro _ w ⟨a4, c4, rfl, ho, H⟩; refine ⟨_, rfl, ?_⟩); refine L.nil ?_; refine ⟨rfl, rfl, (by first | exact fun h => Bool.noConfusion (show false = true from h) | exact fun _ => ext_same | exact fun _ => ext_only (by assumption)), ?_⟩
    clear ho hE
    repeat' (first | refine Z H ?_ | (refine Zc ?_ ?_ <;> intro hc <;> first | (exfalso; omega) | skip) | (refine Y ?_; try change C _ _ _ _ _ _) | (refine Zs H ?_; clear H; (try clear w); intro w H) | (refine Zn H ?_; clear H; (try clear w); (first | ((fail_if_success (have := bl1)); intro bl1 w H) | intro _ w H)) | (refine Ze H ?_; clear H; (try clear w); intro gv w H))
    refine K.lit [(0, .agg #[.int .i64 1, .int .i64 0, .int .u32 7, .int .i64 0])] 34 4 [.int .i64 1, .int .i64 0, .int .u32 7, .int .i64 0] H (build_ents1 _ _ _ _) rfl rfl rfl rfl (by decide) ?_
    clear H
    intro g5 w H
    refine L.nil ?_; refine ⟨rfl, rfl, (by first | exact fun h => Bool.noConfusion (show false = true from h) | exact fun _ => ext_same | exact fun _ => ext_only (by assumption)), ?_⟩
    repeat' (first | refine Z H ?_ | (refine Zc ?_ ?_ <;> intro hc <;> first | (exfalso; omega) | skip) | (refine Y ?_; try change C _ _ _ _ _ _) | (refine Zs H ?_; clear H; (try clear w); intro w H) | (refine Zn H ?_; clear H; (try clear w); (first | ((fail_if_success (have := bl1)); intro bl1 w H) | intro _ w H)) | (refine Ze H ?_; clear H; (try clear w); intro gv w H))
    have hS := same_e (l := [awE]) (m := [awE]) (v := .slice a4 [awE].length c4) (u := .slice (some ⟨g5, 0, none⟩) 1 1) H (.own 1 _ rfl) (.own 0 _ rfl) (by decide) (by decide)
    rw [decide_eq_true rfl] at hS
    (refine X.call (hS) ?_; (try clear H); rintro _ w ⟨rfl, ho, H⟩; refine ⟨_, rfl, ?_⟩); refine L.nil ?_; refine ⟨rfl, rfl, (by first | exact fun h => Bool.noConfusion (show false = true from h) | exact fun _ => ext_same | exact fun _ => ext_only (by assumption)), ?_⟩
    clear ho hS
    repeat' (first | refine Z H ?_ | (refine Zc ?_ ?_ <;> intro hc <;> first | (exfalso; omega) | skip) | (refine Y ?_; try change C _ _ _ _ _ _) | (refine Zs H ?_; clear H; (try clear w); intro w H) | (refine Zn H ?_; clear H; (try clear w); (first | ((fail_if_success (have := bl1)); intro bl1 w H) | intro _ w H)) | (refine Ze H ?_; clear H; (try clear w); intro gv w H))
    dsimp only [logP] at H
    exact ⟨_, resT rfl, s3, rfl, hle1.trans (hle2.trans hle3), H.arr⟩
  · replace H := H.drew
    simp only [Reg.pick, List.filterMap_cons, List.filterMap_nil, List.getElem?_toArray, List.getElem?_cons_zero, List.getElem?_cons_succ, segN, List.take_succ_cons, List.take_zero, List.drop_succ_cons, List.drop_zero]
    repeat' (first | refine Z H ?_ | (refine Zc ?_ ?_ <;> intro hc <;> first | (exfalso; omega) | skip) | (refine Y ?_; try change C _ _ _ _ _ _) | (refine Zs H ?_; clear H; (try clear w); intro w H) | (refine Zn H ?_; clear H; (try clear w); (first | ((fail_if_success (have := bl1)); intro bl1 w H) | intro _ w H)) | (refine Ze H ?_; clear H; (try clear w); intro gv w H))
    refine K.lit [(0, .agg #[.int .i64 1, .int .i64 0, .int .u32 7, .int .i64 0])] 34 4 [.int .i64 1, .int .i64 0, .int .u32 7, .int .i64 0] H (build_ents1 _ _ _ _) rfl rfl rfl rfl (by decide) ?_
    clear H
    intro g5 w H
    refine L.nil ?_; refine ⟨rfl, rfl, (by first | exact fun h => Bool.noConfusion (show false = true from h) | exact fun _ => ext_same | exact fun _ => ext_only (by assumption)), ?_⟩
    repeat' (first | refine Z H ?_ | (refine Zc ?_ ?_ <;> intro hc <;> first | (exfalso; omega) | skip) | (refine Y ?_; try change C _ _ _ _ _ _) | (refine Zs H ?_; clear H; (try clear w); intro w H) | (refine Zn H ?_; clear H; (try clear w); (first | ((fail_if_success (have := bl1)); intro bl1 w H) | intro _ w H)) | (refine Ze H ?_; clear H; (try clear w); intro gv w H))
    have H1 : Holds s3 w (logP bM bp a3 c3 ⟨[awE], false⟩ (row 34 4 (.slice (some ⟨g5, 0, none⟩) 1 1) 1 [.int .i64 1, .int .i64 0, .int .u32 7, .int .i64 0] :: R)) := by
      dsimp only [logP] at H
      exact logP_of H
    clear H
    have hE := Entries_e (m := ⟨[awE], false⟩) H1 (by decide)
    dsimp only at hE
    (refine X.call (hE) ?_; (try clear H); rintro _ w ⟨a4, c4, rfl, ho, H⟩; refine ⟨_, rfl, ?_⟩); refine L.nil ?_; refine ⟨rfl, rfl, (by first | exact fun h => Bool.noConfusion (show false = true from h) | exact fun _ => ext_same | exact fun _ => ext_only (by assumption)), ?_⟩
    clear ho hE H1
    repeat' (first | refine Z H ?_ | (refine Zc ?_ ?_ <;> intro hc <;> first | (exfalso; omega) | skip) | (refine Y ?_; try change C _ _ _ _ _ _) | (refine Zs H ?_; clear H; (try clear w); intro w H) | (refine Zn H ?_; clear H; (try clear w); (first | ((fail_if_success (have := bl1)); intro bl1 w H) | intro _ w H)) | (refine Ze H ?_; clear H; (try clear w); intro gv w H))
    have hS := same_e (l := [awE]) (m := [awE]) (v := .slice a4 [awE].length c4) (u := .slice (some ⟨g5, 0, none⟩) 1 1) H (.own 0 _ rfl) (.own 3 _ rfl) (by decide) (by decide)
    rw [decide_eq_true rfl] at hS
    (refine X.call (hS) ?_; (try clear H); rintro _ w ⟨rfl, ho, H⟩; refine ⟨_, rfl, ?_⟩); refine L.nil ?_; refine ⟨rfl, rfl, (by first | exact fun h => Bool.noConfusion (show false = true from h) | exact fun _ => ext_same | exact fun _ => ext_only (by assumption)), ?_⟩
    clear ho hS
    repeat' (first | refine Z H ?_ | (refine Zc ?_ ?_ <;> intro hc <;> first | (exfalso; omega) | skip) | (refine Y ?_; try change C _ _ _ _ _ _) | (refine Zs H ?_; clear H; (try clear w); intro w H) | (refine Zn H ?_; clear H; (try clear w); (first | ((fail_if_success (have := bl1)); intro bl1 w H) | intro _ w H)) | (refine Ze H ?_; clear H; (try clear w); intro gv w H))
    dsimp only [logP] at H
    exact ⟨_, resT rfl, s3, rfl, hle1.trans (hle2.trans hle3), H.arr⟩
end
end Go.Proofs.YtbknpbihgfphaaaDoor
