/- The document's log (layer 16): Format, walked. law16: part, awake, walked. law16: awake, walked. -/
import Derived.Test.YtbknpbihgfphaaaDoorOpWk
import Derived.Test.YtbknpbihgfphaaaDoorOpWm
set_option linter.unusedSimpArgs false
set_option linter.unusedVariables false
namespace Go.Proofs.YtbknpbihgfphaaaDoor
open Go Go.RowKit Go.Own
def z40 : List UInt8 := List.replicate 40 0
def clrAts (n : Nat) : List Nat := (List.range n).map fun i => 34 + i
theorem clrAts_succ (n : Nat) : clrAts (n + 1) = clrAts n ++ [34 + n] := by simp [clrAts, List.range_succ]
/-- the steps of the document's Format -/
def fmtSteps : List St := setSteps (clrAts 18) (List.replicate 18 z64) 1 0 (List.replicate 16 z40)
theorem home_wr {e h : Nat} {ps : List UInt8} {pgs : List (List UInt8)} (hp : ∀ i, i < 16 → pgs[i]?.getD [] = getP ps i) : ∀ n i, i + n ≤ 16 → homeFrom e h ps n i = wrS ((List.range' i n).map fun i => 2 + 16 * h + i) ((List.range' i n).map fun i => pgB e i pgs) ++ [.f, .w (e % 2) (headB e h), .f]
  | 0, i, _ => rfl
  | n + 1, i, hi => by
    rw [homeFrom, home_wr hp n (i + 1) (by omega), List.range'_succ, List.map_cons, List.map_cons, wrS, wrS, List.zipWith_cons_cons, List.cons_append]
    congr 2
    unfold pageB pgB
    rw [hp i (by omega)]
theorem homeSteps_wr {e h : Nat} {ps : List UInt8} {pgs : List (List UInt8)} (hp : ∀ i, i < 16 → pgs[i]?.getD [] = getP ps i) : homeSteps e h ps = setSteps [] [] e h pgs := by
  unfold homeSteps setSteps homeAts homeLs
  rw [home_wr hp 16 0 (by decide), List.range_eq_range', List.nil_append, List.nil_append, List.append_assoc]
  rfl
theorem clear_wr (r : List St) : ∀ n k, clearFrom r n k = wrS ((List.range' k n).map fun i => 34 + i) (List.replicate n z64) ++ r
  | 0, k => rfl
  | n + 1, k => by
    rw [clearFrom, clear_wr r n (k + 1), List.range'_succ, List.map_cons, List.replicate_succ, wrS, wrS, List.zipWith_cons_cons, List.cons_append]
theorem fmt_eq : formatSteps = fmtSteps := by
  have hp : ∀ i, i < 16 → (List.replicate 16 z40)[i]?.getD [] = getP z640 i := by
    intro i hi
    rw [List.getElem?_replicate, if_pos hi]
    unfold getP z640 z40
    rw [List.drop_replicate, List.take_replicate]
    have : min 40 (640 - i * 40) = 40 := by omega
    rw [this]; rfl
  unfold formatSteps fmtSteps
  rw [homeSteps_wr hp, clear_wr]
  unfold setSteps clrAts
  rw [List.range_eq_range', wrS_app (a := (List.range' 0 18).map fun i => 34 + i) (l := List.replicate 18 z64) (by simp), List.nil_append, List.nil_append]
  simp only [List.append_assoc]
theorem strs_rep (n : Nat) (l : List UInt8) : strs (List.replicate n l) ++ [.string (bst l)] = strs (List.replicate (n + 1) l) := by rw [List.replicate_succ', strs_app]; rfl
theorem build_r16 (x0 x1 x2 x3 x4 : Value) (f : Int) (w : World) : (Instr.build 86 [(0, .agg #[x0, x1, x2, x3, x4]), (1, .int .i64 f)].toArray).run Tryd.prog w = .ok (.agg #[x0, x1, x2, x3, x4, .int .i64 f, .slice none 0 0, .int .u32 0, .int .i64 0, .int .i64 0, .bool false]) w := by kernel_rfl
section
variable {s : Ro} {w : World} {R : List Asn}
set_option maxRecDepth 100000 in
set_option maxHeartbeats 1000000 in
theorem Format_s {d : DM} {f : Nat} {v : Value} (H : Holds s w R) (hR : RefS s v d) (hf : f ≤ 100) (hpl : d.pend.length ≤ 5000) : Calls Tryd.prog 72 #[v, .int .i64 (f : Int)] w fun y w' => ∃ s' v', y = .returned (.tuple #[v', .int .i64 (run ((f : Int), 52) formatSteps d).2]) ∧ s.Le s' ∧ RefS s' v' (run ((f : Int), 52) formatSteps d).1 ∧ Holds s' w' R := by
  rw [fmt_eq]
  obtain ⟨a0, c0, a1, c1, lf, a2, n2, c2, rfl⟩ := refCellsW hR
  refine enter Tryd.func72 rfl Tryd.ntmps72 rfl ?_
  repeat' (first | refine Z H ?_ | (refine Zc ?_ ?_ <;> intro hc <;> first | (exfalso; omega) | skip) | (refine Y ?_; try change C _ _ _ _ _ _) | (refine Zs H ?_; clear H; (try clear w); intro w H) | (refine Zn H ?_; clear H; (try clear w); (first | ((fail_if_success (have := bl1)); intro bl1 w H) | ((fail_if_success (have := bl2)); intro bl2 w H) | ((fail_if_success (have := bl3)); intro bl3 w H) | intro _ w H)) | (refine Ze H ?_; clear H; (try clear w); intro gv w H))
  refine K.build [(0, .agg #[.slice a0 d.secs.length c0, .slice a1 d.pend.length c1, .bool d.off, .int .i64 lf, .slice a2 n2 c2]), (1, .int .i64 f)] (.agg #[.slice a0 d.secs.length c0, .slice a1 d.pend.length c1, .bool d.off, .int .i64 lf, .slice a2 n2 c2, .int .i64 f, .slice none 0 0, .int .u32 0, .int .i64 0, .int .i64 0, .bool false]) (build_r16 _ _ _ _ _ _) rfl rfl rfl ?_
  repeat' (first | refine Z H ?_ | (refine Zc ?_ ?_ <;> intro hc <;> first | (exfalso; omega) | skip) | (refine Y ?_; try change C _ _ _ _ _ _) | (refine Zs H ?_; clear H; (try clear w); intro w H) | (refine Zn H ?_; clear H; (try clear w); (first | ((fail_if_success (have := bl1)); intro bl1 w H) | ((fail_if_success (have := bl2)); intro bl2 w H) | ((fail_if_success (have := bl3)); intro bl3 w H) | intro _ w H)) | (refine Ze H ?_; clear H; (try clear w); intro gv w H))
  replace H := H.nilRow 9 1
  have H' : Holds s w (row 9 1 (.slice none 0 0) 0 [] :: var bl3 86 [.slice a0 d.secs.length c0, .slice a1 d.pend.length c1, .bool d.off, .int .i64 lf, .slice a2 n2 c2, .int .i64 f, .slice none 0 0, .int .u32 0, .int .i64 0, .int .i64 0, .bool false] :: var bl2 54 [.slice none 0 0, .slice none 0 0, .bool false, .int .i64 0, .slice none 0 0] :: R) := H.arr
  clear H
  refine C.loopS [9, 16, 17, 18, 19, 20, 21, 22, 23, 24, 25] [9] rfl (fun k vs w => ∃ i : Nat, ∃ pa pc, k = 16 - i ∧ i ≤ 16 ∧ vs = [.int .i64 (i : Int)] ∧ Holds s w (row 9 1 (.slice pa i pc) i (strs (List.replicate i z40)) :: var bl3 86 [.slice a0 d.secs.length c0, .slice a1 d.pend.length c1, .bool d.off, .int .i64 lf, .slice a2 n2 c2, .int .i64 f, .slice pa i pc, .int .u32 0, .int .i64 0, .int .i64 0, .bool false] :: var bl2 54 [.slice none 0 0, .slice none 0 0, .bool false, .int .i64 0, .slice none 0 0] :: R)) 16 ⟨0, none, 0, rfl, Nat.zero_le _, rfl, H'⟩ ?_
  clear H'
  rintro k vs hv w ⟨i, pa, pc, rfl, hi, rfl, H⟩
  by_cases hlt : i < 16
  · repeat' (first | refine Z H ?_ | (refine Zc ?_ ?_ <;> intro hc <;> first | (exfalso; omega) | skip) | (refine Y ?_; try change C _ _ _ _ _ _) | (refine Zs H ?_; clear H; (try clear w); intro w H) | (refine Zn H ?_; clear H; (try clear w); (first | ((fail_if_success (have := bl1)); intro bl1 w H) | ((fail_if_success (have := bl2)); intro bl2 w H) | ((fail_if_success (have := bl3)); intro bl3 w H) | intro _ w H)) | (refine Ze H ?_; clear H; (try clear w); intro gv w H))
    refine C.drawn2 [bl3] [0, 1, 2, 2, 3, 0, 3] [3, 1] [0, 1, 0, 4, 15, 31, 63] (by kernel_rfl) ?_; replace H := H.drew; simp only [segL, List.take_succ_cons, List.take_zero, List.drop_succ_cons, List.drop_zero]; have H0 := H
    repeat' (first | refine Z H ?_ | (refine Zc ?_ ?_ <;> intro hc <;> first | (exfalso; omega) | skip) | (refine Y ?_; try change C _ _ _ _ _ _) | (refine Zs H ?_; clear H; (try clear w); intro w H) | (refine Zn H ?_; clear H; (try clear w); (first | ((fail_if_success (have := bl1)); intro bl1 w H) | ((fail_if_success (have := bl2)); intro bl2 w H) | ((fail_if_success (have := bl3)); intro bl3 w H) | intro _ w H)) | (refine Ze H ?_; clear H; (try clear w); intro gv w H))
    (refine X.call (Noughts16_s (n := 40) H (by decide)) ?_; (try clear H); rintro _ w ⟨rfl, _, H⟩; refine ⟨_, rfl, ?_⟩); refine L.nil ?_; refine ⟨rfl, rfl, (by repeat (first | exact subN_nil | refine subN_cons (by simp) ?_)), (by first | exact keep_same | (repeat (first | exact keepV H0 H | exact keepP H0 H | exact keep_nil | refine keep_cons ?_ ?_))), ?_⟩; clear H0; have H0 := H
    refine K.one H rfl rfl (by conv => lhs; whnf) (by rfl) (by rfl) ?_; clear H; (try clear w); intro g1 w H
    refine L.nil ?_
    refine ⟨rfl, rfl, (by repeat (first | exact subN_nil | refine subN_cons (by simp) ?_)), (by first | exact keep_same | (repeat (first | exact keepV H0 H | exact keepP H0 H | exact keep_nil | refine keep_cons ?_ ?_))), ?_⟩; clear H0; have H0 := H
    repeat' (first | (refine X.app H ?_; clear H; intro a3 c3 w H) | refine Z H ?_ | (refine Zc ?_ ?_ <;> intro hc <;> first | (exfalso; omega) | skip) | (refine Y ?_; try change C _ _ _ _ _ _) | (refine Zs H ?_; clear H; (try clear w); intro w H) | (refine Zn H ?_; clear H; (try clear w); (first | ((fail_if_success (have := bl1)); intro bl1 w H) | ((fail_if_success (have := bl2)); intro bl2 w H) | ((fail_if_success (have := bl3)); intro bl3 w H) | intro _ w H)) | (refine Ze H ?_; clear H; (try clear w); intro gv w H))
    refine ⟨rfl, rfl, (by repeat (first | exact subN_nil | refine subN_cons (by simp) ?_)), (by first | exact keep_same | (repeat (first | exact keepV H0 H | exact keepP H0 H | exact keep_nil | refine keep_cons ?_ ?_))), ?_⟩; clear H0; have H0 := H
    repeat' (first | refine Z H ?_ | (refine Zc ?_ ?_ <;> intro hc <;> first | (exfalso; omega) | skip) | (refine Y ?_; try change C _ _ _ _ _ _) | (refine Zs H ?_; clear H; (try clear w); intro w H) | (refine Zn H ?_; clear H; (try clear w); (first | ((fail_if_success (have := bl1)); intro bl1 w H) | ((fail_if_success (have := bl2)); intro bl2 w H) | ((fail_if_success (have := bl3)); intro bl3 w H) | intro _ w H)) | (refine Ze H ?_; clear H; (try clear w); intro gv w H))
    have hre : strs (List.replicate i z40) ++ [.string (bst (List.replicate 40 0))] = strs (List.replicate (i + 1) z40) := strs_rep i z40
    rw [hre] at H
    exact ⟨by (repeat (first | exact Agr.refl | exact Agr.hav | refine Agr.upd rfl ?_ | refine Agr.in rfl ?_)), 16 - (i + 1), by omega, i + 1, a3, c3, rfl, by omega, rfl, H.arr⟩
  · have hie : i = 16 := by omega
    subst hie
    obtain ⟨s1, hs1, H1, hpS⟩ := H.fixRow
    clear H
    have H := H1
    clear H1
    repeat' (first | refine Z H ?_ | (refine Zc ?_ ?_ <;> intro hc <;> first | (exfalso; omega) | skip) | (refine Y ?_; try change C _ _ _ _ _ _) | (refine Zs H ?_; clear H; (try clear w); intro w H) | (refine Zn H ?_; clear H; (try clear w); (first | ((fail_if_success (have := bl1)); intro bl1 w H) | ((fail_if_success (have := bl2)); intro bl2 w H) | ((fail_if_success (have := bl3)); intro bl3 w H) | intro _ w H)) | (refine Ze H ?_; clear H; (try clear w); intro gv w H))
    have H' : Holds s1 w (row 3 1 (.slice none 0 0) 0 [] :: row 9 1 (.slice none 0 0) 0 [] :: var bl3 86 [.slice a0 d.secs.length c0, .slice a1 d.pend.length c1, .bool d.off, .int .i64 lf, .slice a2 n2 c2, .int .i64 f, .slice pa 16 pc, .int .u32 0, .int .i64 0, .int .i64 0, .bool false] :: var bl2 54 [.slice none 0 0, .slice none 0 0, .bool false, .int .i64 0, .slice none 0 0] :: R) := ((H.nilRow 9 1).nilRow 3 1).arr
    refine C.loopS [7, 8, 10, 26, 27, 28, 29, 30, 31, 32, 33, 34, 35, 36, 37] [7, 8, 10] rfl (fun k vs w => ∃ i : Nat, ∃ na ca nb cb, k = 18 - i ∧ i ≤ 18 ∧ vs = [.slice na i ca, .slice nb i cb, .int .i64 ((34 + i : Nat) : Int)] ∧ Holds s1 w (row 3 1 (.slice na i ca) i (ints (clrAts i)) :: row 9 1 (.slice nb i cb) i (strs (List.replicate i z64)) :: var bl3 86 [.slice a0 d.secs.length c0, .slice a1 d.pend.length c1, .bool d.off, .int .i64 lf, .slice a2 n2 c2, .int .i64 f, .slice pa 16 pc, .int .u32 0, .int .i64 0, .int .i64 0, .bool false] :: var bl2 54 [.slice none 0 0, .slice none 0 0, .bool false, .int .i64 0, .slice none 0 0] :: R)) 18 ⟨0, none, 0, none, 0, rfl, Nat.zero_le _, rfl, H'⟩ ?_
    clear H H'
    rintro k vs hv2 w ⟨i, na, ca, nb, cb, rfl, hi2, rfl, H⟩
    by_cases hlt2 : i < 18
    · repeat' (first | refine Z H ?_ | (refine Zc ?_ ?_ <;> intro hc <;> first | (exfalso; omega) | skip) | (refine Y ?_; try change C _ _ _ _ _ _) | (refine Zs H ?_; clear H; (try clear w); intro w H) | (refine Zn H ?_; clear H; (try clear w); (first | ((fail_if_success (have := bl1)); intro bl1 w H) | ((fail_if_success (have := bl2)); intro bl2 w H) | ((fail_if_success (have := bl3)); intro bl3 w H) | intro _ w H)) | (refine Ze H ?_; clear H; (try clear w); intro gv w H))
      refine K.one H rfl rfl (by conv => lhs; whnf) (by rfl) (by rfl) ?_; clear H; (try clear w); intro g1 w H
      repeat' (first | (refine X.app H ?_; clear H; intro a3 c3 w H) | refine Z H ?_ | (refine Zc ?_ ?_ <;> intro hc <;> first | (exfalso; omega) | skip) | (refine Y ?_; try change C _ _ _ _ _ _) | (refine Zs H ?_; clear H; (try clear w); intro w H) | (refine Zn H ?_; clear H; (try clear w); (first | ((fail_if_success (have := bl1)); intro bl1 w H) | ((fail_if_success (have := bl2)); intro bl2 w H) | ((fail_if_success (have := bl3)); intro bl3 w H) | intro _ w H)) | (refine Ze H ?_; clear H; (try clear w); intro gv w H))
      (refine X.call (Noughts16_s (n := 64) H (by decide)) ?_; (try clear H); rintro _ w ⟨rfl, _, H⟩; refine ⟨_, rfl, ?_⟩)
      repeat' (first | refine Z H ?_ | (refine Zc ?_ ?_ <;> intro hc <;> first | (exfalso; omega) | skip) | (refine Y ?_; try change C _ _ _ _ _ _) | (refine Zs H ?_; clear H; (try clear w); intro w H) | (refine Zn H ?_; clear H; (try clear w); (first | ((fail_if_success (have := bl1)); intro bl1 w H) | ((fail_if_success (have := bl2)); intro bl2 w H) | ((fail_if_success (have := bl3)); intro bl3 w H) | intro _ w H)) | (refine Ze H ?_; clear H; (try clear w); intro gv w H))
      refine K.one (v := .string (bst (List.replicate 64 0))) (cs := [.string (bst (List.replicate 64 0))]) H rfl rfl rfl rfl rfl ?_
      clear H
      intro g2 w H
      repeat' (first | (refine X.app H ?_; clear H; intro a4 c4 w H) | refine Z H ?_ | (refine Zc ?_ ?_ <;> intro hc <;> first | (exfalso; omega) | skip) | (refine Y ?_; try change C _ _ _ _ _ _) | (refine Zs H ?_; clear H; (try clear w); intro w H) | (refine Zn H ?_; clear H; (try clear w); (first | ((fail_if_success (have := bl1)); intro bl1 w H) | ((fail_if_success (have := bl2)); intro bl2 w H) | ((fail_if_success (have := bl3)); intro bl3 w H) | intro _ w H)) | (refine Ze H ?_; clear H; (try clear w); intro gv w H))
      have H' : Holds s1 w (row 3 1 (.slice a3 (i + 1) c3) (i + 1) (ints (clrAts i) ++ [.int .i64 ((34 + i : Nat) : Int)]) :: row 9 1 (.slice a4 (i + 1) c4) (i + 1) (strs (List.replicate i z64) ++ [.string (bst (List.replicate 64 0))]) :: var bl3 86 [.slice a0 d.secs.length c0, .slice a1 d.pend.length c1, .bool d.off, .int .i64 lf, .slice a2 n2 c2, .int .i64 f, .slice pa 16 pc, .int .u32 0, .int .i64 0, .int .i64 0, .bool false] :: var bl2 54 [.slice none 0 0, .slice none 0 0, .bool false, .int .i64 0, .slice none 0 0] :: R) := H.arr
      rw [show strs (List.replicate i z64) ++ [.string (bst (List.replicate 64 0))] = strs (List.replicate (i + 1) z64) from strs_rep i z64, show ints (clrAts i) ++ [.int .i64 ((34 + i : Nat) : Int)] = ints (clrAts (i + 1)) by rw [clrAts_succ, ints_app]; rfl] at H'
      exact ⟨by (repeat (first | exact Agr.refl | exact Agr.hav | refine Agr.upd rfl ?_ | refine Agr.in rfl ?_)), 18 - (i + 1), by omega, i + 1, a3, c3, a4, c4, rfl, by omega, rfl, H'⟩
    · have hie : i = 18 := by omega
      subst hie
      repeat' (first | refine Z H ?_ | (refine Zc ?_ ?_ <;> intro hc <;> first | (exfalso; omega) | skip) | (refine Y ?_; try change C _ _ _ _ _ _) | (refine Zs H ?_; clear H; (try clear w); intro w H) | (refine Zn H ?_; clear H; (try clear w); (first | ((fail_if_success (have := bl1)); intro bl1 w H) | ((fail_if_success (have := bl2)); intro bl2 w H) | ((fail_if_success (have := bl3)); intro bl3 w H) | intro _ w H)) | (refine Ze H ?_; clear H; (try clear w); intro gv w H))
      have hRW : RefW s1 [.slice a0 d.secs.length c0, .slice a1 d.pend.length c1, .bool d.off, .int .i64 lf, .slice a2 n2 c2, .int .i64 f, .slice pa 16 pc, .int .u32 0, .int .i64 0, .int .i64 0, .bool false] d f pa 16 pc 0 0 0 false := ⟨a0, c0, a1, c1, lf, a2, n2, c2, rfl, hR.mono hs1⟩
      have hS := settle_s (ats := clrAts 18) (ls := List.replicate 18 z64) (pgs := List.replicate 16 z40) (e := 1) (hme := 0) (aa := na) (ca := ca) (ab := nb) (cb := cb) H hRW hpS rfl (by intro p hp; rw [(List.mem_replicate.1 hp).2]; rfl) (by decide) (by decide) rfl (by decide) (by decide) (by intro l hl; rw [(List.mem_replicate.1 hl).2]; decide) hf hpl
      rw [show setSteps (clrAts 18) (List.replicate 18 z64) 1 0 (List.replicate 16 z40) = fmtSteps from rfl] at hS
      generalize run ((f : Int), 52) fmtSteps d = rr at *
      obtain ⟨d', code⟩ := rr
      dsimp only at hS ⊢
      refine X.call hS ?_
      clear H hS
      rintro _ w ⟨s2, cs2, rfl, hs2, hR2, H⟩
      refine ⟨_, rfl, ?_⟩
      have hR2' := hR2
      obtain ⟨d0, q0, d1, q1, lf2, d2, m3, q2, rfl, hD2⟩ := hR2'
      repeat' (first | (refine X.ldp [.slice d0 d'.secs.length q0, .slice d1 d'.pend.length q1, .bool d'.off, .int .i64 lf2, .slice d2 m3 q2] H ?_) | refine Z H ?_ | (refine Zc ?_ ?_ <;> intro hc <;> first | (exfalso; omega) | skip) | (refine Y ?_; try change C _ _ _ _ _ _) | (refine Zs H ?_; clear H; (try clear w); intro w H) | (refine Zn H ?_; clear H; (try clear w); (first | ((fail_if_success (have := bl1)); intro bl1 w H) | ((fail_if_success (have := bl2)); intro bl2 w H) | ((fail_if_success (have := bl3)); intro bl3 w H) | intro _ w H)) | (refine Ze H ?_; clear H; (try clear w); intro gv w H))
      exact ⟨_, resVT H rfl, s2, _, rfl, hs1.trans hs2, hD2, H.arr⟩
end
end Go.Proofs.YtbknpbihgfphaaaDoor
set_option linter.unusedSimpArgs false
set_option linter.unusedVariables false
namespace Go.Proofs.YtbknpbihgfphaaaDoor
open Go Go.RowKit Go.Own
section
variable {P : Program} {e : Env} {w : World} {s : Ro} {rs : List Asn}
theorem resTTVT {fn : Func} {r ty k t u v : Nat} [T : RowC P ty k] {b t' : Nat} {cs : List Value} {f : List Value → List Asn} (H : Holds s w rs) (h : fn.results = #[.tmp t, .tmp u, .cell r ty, .tmp v]) (hr : e r = .pointer (some ⟨b, 0, none⟩) := by rfl) (V : PutV rs b t' cs f := by infer_instance) (hn : cs.length = k := by rfl) : ResE P fn e w (.tuple #[e t, e u, .agg cs.toArray, e v]) := fun a ha => by
  obtain ⟨i, hi, _⟩ := V.ix
  have hr' : a.tmps.getD r undef = .pointer (some ⟨b, 0, none⟩) := by rw [← hr, ← ha]; rfl
  rw [Array.getD_eq_getD_getElem?] at hr'
  have := run_cell (P := P) (ty := ty) (off := 0) H hi hn
  subst ha
  simp [results, h, hr', asAddr, this, envOf]
end
section
variable {s : Ro} {w : World} {R : List Asn}
set_option maxRecDepth 100000 in
set_option maxHeartbeats 1000000 in
theorem part16_s {n : Nat} (hN : Nib s) (H : Holds s w R) (hn : n ≤ 8) : Calls Tryd.prog 35 #[.int .i64 (n : Int)] w fun y w' => ∃ s' b bp v, y = .returned (.tuple #[.pointer (some ⟨b, 0, none⟩), .pointer (some ⟨bp, 0, none⟩), v, .bool true]) ∧ s.Le s' ∧ PartS s' bp b ((n : Int), 52) ∧ RefS s' v (fmtD n) ∧ Holds s' w' (dsk b (fmtD n) :: R) := by
  obtain ⟨hf0, hfr⟩ := fmt_free (f := n) (by omega)
  refine enter Tryd.func35 rfl Tryd.ntmps35 rfl ?_
  repeat' (first | refine Z H ?_ | (refine Zc ?_ ?_ <;> intro hc <;> first | (exfalso; omega) | skip) | (refine Y ?_; try change C _ _ _ _ _ _) | (refine Zs H ?_; clear H; (try clear w); intro w H) | (refine Zn H ?_; clear H; (try clear w); intro _ w H) | (refine Ze H ?_; clear H; (try clear w); intro gv w H))
  (refine X.call (New_s (n := 60) H (by decide) (by decide)) ?_; (try clear H); rintro _ w ⟨b, rfl, H⟩; refine ⟨_, rfl, ?_⟩)
  repeat' (first | refine Z H ?_ | (refine Zc ?_ ?_ <;> intro hc <;> first | (exfalso; omega) | skip) | (refine Y ?_; try change C _ _ _ _ _ _) | (refine Zs H ?_; clear H; (try clear w); intro w H) | (refine Zn H ?_; clear H; (try clear w); intro _ w H) | (refine Ze H ?_; clear H; (try clear w); intro gv w H))
  refine X.call (New_r (n := 60) H (by decide) (by decide)) ?_
  clear H
  rintro _ w ⟨s1, v1, rfl, hs1, hR, H⟩
  refine ⟨_, rfl, ?_⟩
  have hRc := hR
  obtain ⟨a0, c0, a1, c1, lf, a2, n2, c2, rfl⟩ := refCellsW hRc
  repeat' (first | (refine K.build [(0, .int .i64 (n : Int)), (1, .int .i64 52)] (.agg #[.int .i64 (n : Int), .int .i64 52]) (build_ext' _ _) rfl rfl rfl ?_) | refine Z H ?_ | (refine Zc ?_ ?_ <;> intro hc <;> first | (exfalso; omega) | skip) | (refine Y ?_; try change C _ _ _ _ _ _) | (refine Zs H ?_; clear H; (try clear w); intro w H) | (refine Zn H ?_; clear H; (try clear w); intro _ w H) | (refine Ze H ?_; clear H; (try clear w); intro gv w H))
  first | (have hT : Holds _ _ (dsk b _ :: _) := H; clear hT) | (replace H := H.up 1 rfl; (try simp only [List.set_cons_zero, List.set_cons_succ, List.eraseIdx_cons_zero, List.eraseIdx_cons_succ] at H); have hT : Holds _ _ (dsk b _ :: _) := H; clear hT) | (replace H := H.up 2 rfl; (try simp only [List.set_cons_zero, List.set_cons_succ, List.eraseIdx_cons_zero, List.eraseIdx_cons_succ] at H); have hT : Holds _ _ (dsk b _ :: _) := H; clear hT) | (replace H := H.up 3 rfl; (try simp only [List.set_cons_zero, List.set_cons_succ, List.eraseIdx_cons_zero, List.eraseIdx_cons_succ] at H); have hT : Holds _ _ (dsk b _ :: _) := H; clear hT) | (replace H := H.up 4 rfl; (try simp only [List.set_cons_zero, List.set_cons_succ, List.eraseIdx_cons_zero, List.eraseIdx_cons_succ] at H); have hT : Holds _ _ (dsk b _ :: _) := H; clear hT) | (replace H := H.up 5 rfl; (try simp only [List.set_cons_zero, List.set_cons_succ, List.eraseIdx_cons_zero, List.eraseIdx_cons_succ] at H); have hT : Holds _ _ (dsk b _ :: _) := H; clear hT) | (replace H := H.up 6 rfl; (try simp only [List.set_cons_zero, List.set_cons_succ, List.eraseIdx_cons_zero, List.eraseIdx_cons_succ] at H); have hT : Holds _ _ (dsk b _ :: _) := H; clear hT)
  have hNw := New_p1 (x := ((n : Int), 52)) H (by unfold I64; simp only; omega) (by unfold liesM; simp [DM.new]; omega)
  (refine X.call (hNw) ?_; (try clear H); rintro _ w ⟨s2, bp, rfl, hs2, hp, H⟩; refine ⟨_, rfl, ?_⟩)
  clear hNw
  repeat' (first | refine Z H ?_ | (refine Zc ?_ ?_ <;> intro hc <;> first | (exfalso; omega) | skip) | (refine Y ?_; try change C _ _ _ _ _ _) | (refine Zs H ?_; clear H; (try clear w); intro w H) | (refine Zn H ?_; clear H; (try clear w); intro _ w H) | (refine Ze H ?_; clear H; (try clear w); intro gv w H))
  first | (have hT : Holds _ _ (dsk b _ :: _) := H; clear hT) | (replace H := H.up 1 rfl; (try simp only [List.set_cons_zero, List.set_cons_succ, List.eraseIdx_cons_zero, List.eraseIdx_cons_succ] at H); have hT : Holds _ _ (dsk b _ :: _) := H; clear hT) | (replace H := H.up 2 rfl; (try simp only [List.set_cons_zero, List.set_cons_succ, List.eraseIdx_cons_zero, List.eraseIdx_cons_succ] at H); have hT : Holds _ _ (dsk b _ :: _) := H; clear hT) | (replace H := H.up 3 rfl; (try simp only [List.set_cons_zero, List.set_cons_succ, List.eraseIdx_cons_zero, List.eraseIdx_cons_succ] at H); have hT : Holds _ _ (dsk b _ :: _) := H; clear hT) | (replace H := H.up 4 rfl; (try simp only [List.set_cons_zero, List.set_cons_succ, List.eraseIdx_cons_zero, List.eraseIdx_cons_succ] at H); have hT : Holds _ _ (dsk b _ :: _) := H; clear hT) | (replace H := H.up 5 rfl; (try simp only [List.set_cons_zero, List.set_cons_succ, List.eraseIdx_cons_zero, List.eraseIdx_cons_succ] at H); have hT : Holds _ _ (dsk b _ :: _) := H; clear hT) | (replace H := H.up 6 rfl; (try simp only [List.set_cons_zero, List.set_cons_succ, List.eraseIdx_cons_zero, List.eraseIdx_cons_succ] at H); have hT : Holds _ _ (dsk b _ :: _) := H; clear hT)
  have hFm := Format_w (hN.mono (hs1.trans hs2)) H hp rfl (by simp [DM.new])
  rw [hf0, show (run ((n : Int), 52) formatSteps (DM.new 60)).1 = fmtD n from rfl] at hFm
  (refine X.call (hFm) ?_; (try clear H); rintro _ w ⟨rfl, H⟩; refine ⟨_, rfl, ?_⟩)
  clear hFm
  repeat' (first | refine Z H ?_ | (refine Zc ?_ ?_ <;> intro hc <;> first | (exfalso; omega) | skip) | (refine Y ?_; try change C _ _ _ _ _ _) | (refine Zs H ?_; clear H; (try clear w); intro w H) | (refine Zn H ?_; clear H; (try clear w); intro _ w H) | (refine Ze H ?_; clear H; (try clear w); intro gv w H))
  have hFs := Format_s (f := n) H (hR.mono hs2) (by omega) (by simp [DM.new])
  rw [hf0, show (run ((n : Int), 52) formatSteps (DM.new 60)).1 = fmtD n from rfl] at hFs
  refine X.call hFs ?_
  clear H hFs
  rintro _ w ⟨s3, v3, rfl, hs3, hR3, H⟩
  refine ⟨_, rfl, ?_⟩
  have hRc := hR3
  obtain ⟨b0, k0, b1, k1, lf2, b2, n3, k2, rfl⟩ := refCellsW hRc
  repeat' (first | refine Z H ?_ | (refine Zc ?_ ?_ <;> intro hc <;> first | (exfalso; omega) | skip) | (refine Y ?_; try change C _ _ _ _ _ _) | (refine Zs H ?_; clear H; (try clear w); intro w H) | (refine Zn H ?_; clear H; (try clear w); intro _ w H) | (refine Ze H ?_; clear H; (try clear w); intro gv w H))
  refine C.drawn1 [0, 0, 1, 0, 0, 0, 0, 3, 0] [0, 0, 0, 0, 8, 1, 35, 103, 255] (by kernel_rfl) ?_; replace H := H.drew
  repeat' (first | refine Z H ?_ | (refine Zc ?_ ?_ <;> intro hc <;> first | (exfalso; omega) | skip) | (refine Y ?_; try change C _ _ _ _ _ _) | (refine Zs H ?_; clear H; (try clear w); intro w H) | (refine Zn H ?_; clear H; (try clear w); intro _ w H) | (refine Ze H ?_; clear H; (try clear w); intro gv w H))
  exact ⟨_, resTTVT H rfl, s3, b, bp, _, rfl, (hs1.trans hs2).trans hs3, hp.mono hs3, hR3, H.arr⟩
end
end Go.Proofs.YtbknpbihgfphaaaDoor
set_option linter.unusedSimpArgs false
set_option linter.unusedVariables false
namespace Go.Proofs.YtbknpbihgfphaaaDoor
open Go Go.RowKit Go.Own
def awL : List Ch := chsM 2 0 0 5
def awM : WL := ⟨1, 0, 0, z640, false⟩
theorem commit_aw : (commitM (fmtD 0) ((0 : Nat), 52) awM awL).2.2 = 0 ∧ (commitM (fmtD 0) ((0 : Nat), 52) awM awL).2.1.used = 3 ∧ getP (commitM (fmtD 0) ((0 : Nat), 52) awM awL).2.1.pages 1 = List.replicate 40 6 ∧ (commitM (fmtD 0) ((0 : Nat), 52) awM awL).2.1.pages.length = 640 := by decide +kernel
theorem fmt_pend (n : Nat) : (fmtD n).pend.length ≤ 100 := by
  have h := run_pend ((n : Int), 52) formatSteps (DM.new 60)
  have h2 : formatSteps.length = 37 := by decide
  have h3 : (DM.new 60).pend.length = 0 := rfl
  unfold fmtD
  omega
theorem fmt_on {n : Nat} (hn : n + 52 ≤ 60) : ∀ k : Nat, k < 52 → (pread (fmtD n) ((n : Int), 52) (k : Int)).2 = 0 := by
  intro k hk
  have := (fmt_free hn).2.pread (f := n) (c := 52) hk hn (by decide)
  rw [show ((52 : Nat) : Int) = 52 from rfl] at this
  rw [this]
theorem build_act16 (w : World) : (Instr.build 78 [(1, .int .i64 2), (4, .int .u8 5)].toArray).run Tryd.prog w = .ok (.agg #[.int .i64 0, .int .i64 2, .int .i64 0, .int .i64 0, .int .u8 5, .slice none 0 0]) w := by kernel_rfl
section
variable {s : Ro} {w : World} {R : List Asn}
theorem Epoch_l {bL bp e h u : Nat} {ps : List UInt8} {dd : Bool} (H : Holds s w (logW bL bp e h u ps dd :: R)) : Calls Tryd.prog 51 #[.pointer (some ⟨bL, 0, none⟩)] w fun y w' => y = .returned (.int .u32 (e : Int)) ∧ Holds s w' (logW bL bp e h u ps dd :: R) := by
  unfold logW at *
  refine enter Tryd.func51 rfl Tryd.ntmps51 rfl ?_
  repeat' (first | refine Z H ?_ | (refine Zc ?_ ?_ <;> intro hc <;> first | (exfalso; omega) | skip) | (refine Y ?_; try change C _ _ _ _ _ _) | (refine Zs H ?_; clear H; (try clear w); intro w H) | (refine Zn H ?_; clear H; (try clear w); intro _ w H) | (refine Ze H ?_; clear H; (try clear w); intro gv w H))
  exact ⟨_, resT rfl, rfl, H⟩
theorem Used_l {bL bp e h u : Nat} {ps : List UInt8} {dd : Bool} (H : Holds s w (logW bL bp e h u ps dd :: R)) : Calls Tryd.prog 52 #[.pointer (some ⟨bL, 0, none⟩)] w fun y w' => y = .returned (.int .i64 (u : Int)) ∧ Holds s w' (logW bL bp e h u ps dd :: R) := by
  unfold logW at *
  refine enter Tryd.func52 rfl Tryd.ntmps52 rfl ?_
  repeat' (first | refine Z H ?_ | (refine Zc ?_ ?_ <;> intro hc <;> first | (exfalso; omega) | skip) | (refine Y ?_; try change C _ _ _ _ _ _) | (refine Zs H ?_; clear H; (try clear w); intro w H) | (refine Zn H ?_; clear H; (try clear w); intro _ w H) | (refine Ze H ?_; clear H; (try clear w); intro gv w H))
  exact ⟨_, resT rfl, rfl, H⟩
theorem Page16_l {bL bp e h u : Nat} {ps : List UInt8} {dd : Bool} (H : Holds s w (logW bL bp e h u ps dd :: R)) : Calls Tryd.prog 70 #[.pointer (some ⟨bL, 0, none⟩), .int .i64 16] w fun y w' => y = .returned (.tuple #[.slice none 0 0, .int .i64 4]) ∧ Holds s w' (logW bL bp e h u ps dd :: R) := by
  unfold logW at *
  refine enter Tryd.func70 rfl Tryd.ntmps70 rfl ?_
  repeat' (first | refine Z H ?_ | (refine Zc ?_ ?_ <;> intro hc <;> first | (exfalso; omega) | skip) | (refine Y ?_; try change C _ _ _ _ _ _) | (refine Zs H ?_; clear H; (try clear w); intro w H) | (refine Zn H ?_; clear H; (try clear w); intro _ w H) | (refine Ze H ?_; clear H; (try clear w); intro gv w H))
  exact ⟨_, resTT rfl, rfl, H⟩
set_option maxRecDepth 100000 in
set_option maxHeartbeats 1000000 in
theorem awake16 (hN : Nib s) (H : Holds s w R) : Calls Tryd.prog 34 #[] w fun y w' => ∃ s', y = .returned (.bool true) ∧ s.Le s' ∧ Holds s' w' R := by
  have hpd := fmt_pend 0
  have hon := fmt_on (n := 0) (by decide)
  obtain ⟨hk1, hk2, hk3, hk4⟩ := commit_aw
  have hop := open_aw
  refine enter Tryd.func34 rfl Tryd.ntmps34 rfl ?_
  repeat' (first | refine Z H ?_ | (refine Zc ?_ ?_ <;> intro hc <;> first | (exfalso; omega) | skip) | (refine Y ?_; try change C _ _ _ _ _ _) | (refine Zs H ?_; clear H; (try clear w); intro w H) | (refine Zn H ?_; clear H; (try clear w); intro _ w H) | (refine Ze H ?_; clear H; (try clear w); intro gv w H))
  refine X.call (part16_s (n := 0) hN H (by decide)) ?_
  clear H
  rintro _ w ⟨s1, b, bp, v, rfl, hs1, hp, hR, H⟩
  refine ⟨_, rfl, ?_⟩
  obtain ⟨a0, c0, a1, c1, lf, a2, n2, c2, rfl⟩ := refCellsW hR
  repeat' (first | refine Z H ?_ | (refine Zc ?_ ?_ <;> intro hc <;> first | (exfalso; omega) | skip) | (refine Y ?_; try change C _ _ _ _ _ _) | (refine Zs H ?_; clear H; (try clear w); intro w H) | (refine Zn H ?_; clear H; (try clear w); intro _ w H) | (refine Ze H ?_; clear H; (try clear w); intro gv w H))
  first | (have hT : Holds _ _ (dsk b _ :: _) := H; clear hT) | (replace H := H.up 1 rfl; (try simp only [List.set_cons_zero, List.set_cons_succ, List.eraseIdx_cons_zero, List.eraseIdx_cons_succ] at H); have hT : Holds _ _ (dsk b _ :: _) := H; clear hT) | (replace H := H.up 2 rfl; (try simp only [List.set_cons_zero, List.set_cons_succ, List.eraseIdx_cons_zero, List.eraseIdx_cons_succ] at H); have hT : Holds _ _ (dsk b _ :: _) := H; clear hT) | (replace H := H.up 3 rfl; (try simp only [List.set_cons_zero, List.set_cons_succ, List.eraseIdx_cons_zero, List.eraseIdx_cons_succ] at H); have hT : Holds _ _ (dsk b _ :: _) := H; clear hT) | (replace H := H.up 4 rfl; (try simp only [List.set_cons_zero, List.set_cons_succ, List.eraseIdx_cons_zero, List.eraseIdx_cons_succ] at H); have hT : Holds _ _ (dsk b _ :: _) := H; clear hT) | (replace H := H.up 5 rfl; (try simp only [List.set_cons_zero, List.set_cons_succ, List.eraseIdx_cons_zero, List.eraseIdx_cons_succ] at H); have hT : Holds _ _ (dsk b _ :: _) := H; clear hT) | (replace H := H.up 6 rfl; (try simp only [List.set_cons_zero, List.set_cons_succ, List.eraseIdx_cons_zero, List.eraseIdx_cons_succ] at H); have hT : Holds _ _ (dsk b _ :: _) := H; clear hT)
  refine X.call (Open_l (x := (((0 : Nat) : Int), 52)) (hN.mono hs1) H hp rfl hon) ?_
  clear H
  rintro _ w ⟨s2, hs2, hcase⟩
  obtain ⟨m, bL, ho, rfl, H⟩ := hcase.resolve_right (fun ⟨c, ho, _⟩ => by rw [hop] at ho; cases ho)
  clear hcase
  refine ⟨_, rfl, ?_⟩
  rw [hop] at ho
  cases ho
  dsimp only at H
  repeat' (first | refine Z H ?_ | (refine Zc ?_ ?_ <;> intro hc <;> first | (exfalso; omega) | skip) | (refine Y ?_; try change C _ _ _ _ _ _) | (refine Zs H ?_; clear H; (try clear w); intro w H) | (refine Zn H ?_; clear H; (try clear w); intro _ w H) | (refine Ze H ?_; clear H; (try clear w); intro gv w H))
  (refine X.call (Epoch_l H) ?_; (try clear H); rintro _ w ⟨rfl, H⟩; refine ⟨_, rfl, ?_⟩)
  repeat' (first | refine Z H ?_ | (refine Zc ?_ ?_ <;> intro hc <;> first | (exfalso; omega) | skip) | (refine Y ?_; try change C _ _ _ _ _ _) | (refine Zs H ?_; clear H; (try clear w); intro w H) | (refine Zn H ?_; clear H; (try clear w); intro _ w H) | (refine Ze H ?_; clear H; (try clear w); intro gv w H))
  (refine X.call (Used_l H) ?_; (try clear H); rintro _ w ⟨rfl, H⟩; refine ⟨_, rfl, ?_⟩)
  repeat' (first | (refine K.build [(1, .int .i64 2), (4, .int .u8 5)] (.agg #[.int .i64 0, .int .i64 2, .int .i64 0, .int .i64 0, .int .u8 5, .slice none 0 0]) build_act16 rfl rfl rfl ?_) | refine Z H ?_ | (refine Zc ?_ ?_ <;> intro hc <;> first | (exfalso; omega) | skip) | (refine Y ?_; try change C _ _ _ _ _ _) | (refine Zs H ?_; clear H; (try clear w); intro w H) | (refine Zn H ?_; clear H; (try clear w); intro _ w H) | (refine Ze H ?_; clear H; (try clear w); intro gv w H))
  refine X.call (Changes_s (dx := 0) (N := 2) (At := 0) (off := 0) (fill := 5) (kv := .slice none 0 0) H (by unfold I64; decide) (by unfold I64; decide) rfl) ?_
  clear H
  rintro _ w ⟨s3, v3, cs3, rfl, hs3, hS3, hC3, H⟩
  refine ⟨_, rfl, ?_⟩
  rw [show chsM 2 0 0 5 = awL from rfl] at hS3 hC3
  have hCm := Commit_l (m := awM) (x := (((0 : Nat) : Int), 52)) (hN.mono ((hs1.trans hs2).trans hs3)) H (hp.mono (hs2.trans hs3)) (by decide) (by decide) (by decide) (by decide) hS3 hC3 (by decide) (by omega)
  rw [hk1, hk2] at hCm
  generalize (commitM (fmtD 0) (((0 : Nat) : Int), 52) awM awL).2.1.pages = pgs at *
  generalize (commitM (fmtD 0) (((0 : Nat) : Int), 52) awM awL).2.1.epoch = ep at *
  generalize (commitM (fmtD 0) (((0 : Nat) : Int), 52) awM awL).2.1.home = ho at *
  generalize (commitM (fmtD 0) (((0 : Nat) : Int), 52) awM awL).2.1.dead = de at *
  generalize (commitM (fmtD 0) (((0 : Nat) : Int), 52) awM awL).1 = d1 at *
  repeat' (first | refine Z H ?_ | (refine Zc ?_ ?_ <;> intro hc <;> first | (exfalso; omega) | skip) | (refine Y ?_; try change C _ _ _ _ _ _) | (refine Zs H ?_; clear H; (try clear w); intro w H) | (refine Zn H ?_; clear H; (try clear w); intro _ w H) | (refine Ze H ?_; clear H; (try clear w); intro gv w H))
  (refine X.call (hCm) ?_; (try clear H); rintro _ w ⟨rfl, H⟩; refine ⟨_, rfl, ?_⟩)
  clear hCm
  repeat' (first | refine Z H ?_ | (refine Zc ?_ ?_ <;> intro hc <;> first | (exfalso; omega) | skip) | (refine Y ?_; try change C _ _ _ _ _ _) | (refine Zs H ?_; clear H; (try clear w); intro w H) | (refine Zn H ?_; clear H; (try clear w); intro _ w H) | (refine Ze H ?_; clear H; (try clear w); intro gv w H))
  have hPg := Page_l (n := 1) H hk4 (by decide)
  (refine X.call (hPg) ?_; (try clear H); rintro _ w ⟨g, rfl, H⟩; refine ⟨_, rfl, ?_⟩)
  clear hPg
  have hgl : (getP pgs 1).length = 40 := by rw [hk3]; rfl
  have e0 : (u8s (getP pgs 1))[0 + 0 * 1]? = some (.int .u8 6) := by rw [hk3]; rfl
  repeat' (first | refine Z H ?_ | (refine Zc ?_ ?_ <;> intro hc <;> first | (exfalso; omega) | skip) | (refine Y ?_; try change C _ _ _ _ _ _) | (refine Zs H ?_; clear H; (try clear w); intro w H) | (refine Zn H ?_; clear H; (try clear w); intro _ w H) | (refine Ze H ?_; clear H; (try clear w); intro gv w H))
  have H' := H.arr (rs' := logW bL bp ep ho 3 pgs de :: row 5 1 (.slice (some ⟨g, 0, none⟩) (getP pgs 1).length 40) (getP pgs 1).length (u8s (getP pgs 1)) :: R)
  clear H
  have H := H'
  clear H'
  (refine X.call (Page16_l H) ?_; (try clear H); rintro _ w ⟨rfl, H⟩; refine ⟨_, rfl, ?_⟩)
  repeat' (first | refine Z H ?_ | (refine Zc ?_ ?_ <;> intro hc <;> first | (exfalso; omega) | skip) | (refine Y ?_; try change C _ _ _ _ _ _) | (refine Zs H ?_; clear H; (try clear w); intro w H) | (refine Zn H ?_; clear H; (try clear w); intro _ w H) | (refine Ze H ?_; clear H; (try clear w); intro gv w H))
  (refine X.call (Used_l H) ?_; (try clear H); rintro _ w ⟨rfl, H⟩; refine ⟨_, rfl, ?_⟩)
  repeat' (first | (refine K.ia (i := 0) rfl rfl rfl rfl rfl (by omega) ?_) | refine Z H ?_ | (refine Zc ?_ ?_ <;> intro hc <;> first | (exfalso; omega) | skip) | (refine Y ?_; try change C _ _ _ _ _ _) | (refine Zs H ?_; clear H; (try clear w); intro w H) | (refine Zn H ?_; clear H; (try clear w); intro _ w H) | (refine Ze H ?_; clear H; (try clear w); intro gv w H))
  exact ⟨_, resT rfl, s3, rfl, (hs1.trans hs2).trans hs3, H.arr⟩
end
end Go.Proofs.YtbknpbihgfphaaaDoor
