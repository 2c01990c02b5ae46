/- Squeezed copy of the texts Wl Wo Wp Ar0 Ar Wr Wt Bb Wu. -/
import Derived.Test.YtgilmcpdpggikaaGreatDoorCWj
import Derived.Test.YtgilmcpdpggikaaGreatDoorCWg
import Derived.Test.YtgilmcpdpggikaaGreatDoorCK2
import Derived.ProofKit
import Derived.SizedLaws
import Derived.OpenShut
import Derived.Deep.Slices
import Derived.Test.YtgilmcpdpggikaaGreatDoorCEx
set_option maxRecDepth 100000
set_option maxHeartbeats 1000000
set_option linter.unusedSimpArgs false
set_option linter.unusedVariables false
namespace Go.Proofs.YtgilmcpdpggikaaGreatDoor
open Go Go.RowKit Go.Own
def z40 : List UInt8 := List.replicate 40 0
def clrAts (n : Nat) : List Nat := (List.range n).map fun i => 34 + i
theorem clrAts_succ (n : Nat) : clrAts (n + 1) = clrAts n ++ [34 + n] := by simp [clrAts, List.range_succ]
def fmtSteps : List St := setSteps (clrAts 18) (List.replicate 18 z64) 1 0 (List.replicate 16 z40)
theorem home_wr {e h : Nat} {ps : List UInt8} {pgs : List (List UInt8)} (hp : ∀ i, i < 16 → pgs[i]?.getD [] = getP ps i) : ∀ n i, i + n ≤ 16 → homeFrom e h ps n i = wrS ((List.range' i n).map fun i => 2 + 16 * h + i) ((List.range' i n).map fun i => pgB e i pgs) ++ [.f, .w (e % 2) (headB e h), .f]
 | 0, i, _ => rfl
 | n + 1, i, hi => by
  rw [homeFrom, home_wr hp n (i + 1) (by omega), List.range'_succ, List.map_cons, List.map_cons, wrS, wrS, List.zipWith_cons_cons, List.cons_append]
  congr 2
  unfold pageB pgB
  rw [hp i (by omega)]
theorem homeSteps_wr {e h : Nat} {ps : List UInt8} {pgs : List (List UInt8)} (hp : ∀ i, i < 16 → pgs[i]?.getD [] = getP ps i) : homeSteps e h ps = setSteps [] [] e h pgs := by
 unfold homeSteps setSteps homeAts homeLs
 rw [home_wr hp 16 0 (by decide), List.range_eq_range', List.nil_append, List.nil_append, List.append_assoc]
 rfl
theorem clear_wr (r : List St) : ∀ n k, clearFrom r n k = wrS ((List.range' k n).map fun i => 34 + i) (List.replicate n z64) ++ r
 | 0, k => rfl
 | n + 1, k => by
  rw [clearFrom, clear_wr r n (k + 1), List.range'_succ, List.map_cons, List.replicate_succ, wrS, wrS, List.zipWith_cons_cons, List.cons_append]
theorem fmt_eq : formatSteps = fmtSteps := by
 have hp : ∀ i, i < 16 → (List.replicate 16 z40)[i]?.getD [] = getP z640 i := by
  intro i hi
  rw [List.getElem?_replicate, if_pos hi]
  unfold getP z640 z40
  rw [List.drop_replicate, List.take_replicate]
  have : min 40 (640 - i * 40) = 40 := by omega
  rw [this]; rfl
 unfold formatSteps fmtSteps
 rw [homeSteps_wr hp, clear_wr]
 unfold setSteps clrAts
 rw [List.range_eq_range', wrS_app (a := (List.range' 0 18).map fun i => 34 + i) (l := List.replicate 18 z64) (by simp), List.nil_append, List.nil_append]
 simp only [List.append_assoc]
theorem strs_rep (n : Nat) (l : List UInt8) : strs (List.replicate n l) ++ [.string (bst l)] = strs (List.replicate (n + 1) l) := by rw [List.replicate_succ', strs_app]; rfl
theorem build_r16 (x0 x1 x2 x3 x4 : Value) (f : Int) (w : World) : (Instr.build 173 [(0, .agg #[x0, x1, x2, x3, x4]), (1, .int .i64 f)].toArray).run Tryz.prog w = .ok (.agg #[x0, x1, x2, x3, x4, .int .i64 f, .slice none 0 0, .int .u32 0, .int .i64 0, .int .i64 0, .bool false]) w := by kernel_rfl
section
variable {s : Ro} {w : World} {R : List Asn}
theorem Format_s {d : DM} {f : Nat} {v : Value} (H : Holds s w R) (hR : RefS s v d) (hf : f ≤ 100) (hpl : d.pend.length ≤ 5000) : Calls Tryz.prog 60 #[v, .int .i64 (f : Int)] w fun y w' => ∃ s' v', y = .returned (.tuple #[v', .int .i64 (run ((f : Int), 52) formatSteps d).2]) ∧ s.Le s' ∧ RefS s' v' (run ((f : Int), 52) formatSteps d).1 ∧ Holds s' w' R := by
 rw [fmt_eq]
 obtain ⟨a0, c0, a1, c1, lf, a2, n2, c2, rfl⟩ := refCellsW hR
 refine enter Tryz.func60 rfl Tryz.ntmps60 rfl ?_
 repeat' (first | refine Z H ?_ | (refine Zc ?_ ?_ <;> intro hc <;> first | (exfalso; omega) | skip) | (refine Y ?_; try change C _ _ _ _ _ _) | (refine Zs H ?_; clear H; (try clear w); intro w H) | (refine Zn H ?_; clear H; (try clear w); (first | ((fail_if_success (have := bl1)); intro bl1 w H) | ((fail_if_success (have := bl2)); intro bl2 w H) | ((fail_if_success (have := bl3)); intro bl3 w H) | intro _ w H)) | (refine Ze H ?_; clear H; (try clear w); intro gv w H))
 refine K.build [(0, .agg #[.slice a0 d.secs.length c0, .slice a1 d.pend.length c1, .bool d.off, .int .i64 lf, .slice a2 n2 c2]), (1, .int .i64 f)] (.agg #[.slice a0 d.secs.length c0, .slice a1 d.pend.length c1, .bool d.off, .int .i64 lf, .slice a2 n2 c2, .int .i64 f, .slice none 0 0, .int .u32 0, .int .i64 0, .int .i64 0, .bool false]) (build_r16 _ _ _ _ _ _) rfl rfl rfl ?_
 repeat' (first | refine Z H ?_ | (refine Zc ?_ ?_ <;> intro hc <;> first | (exfalso; omega) | skip) | (refine Y ?_; try change C _ _ _ _ _ _) | (refine Zs H ?_; clear H; (try clear w); intro w H) | (refine Zn H ?_; clear H; (try clear w); (first | ((fail_if_success (have := bl1)); intro bl1 w H) | ((fail_if_success (have := bl2)); intro bl2 w H) | ((fail_if_success (have := bl3)); intro bl3 w H) | intro _ w H)) | (refine Ze H ?_; clear H; (try clear w); intro gv w H))
 replace H := H.nilRow 9 1
 have H' : Holds s w (row 9 1 (.slice none 0 0) 0 [] :: var bl3 173 [.slice a0 d.secs.length c0, .slice a1 d.pend.length c1, .bool d.off, .int .i64 lf, .slice a2 n2 c2, .int .i64 f, .slice none 0 0, .int .u32 0, .int .i64 0, .int .i64 0, .bool false] :: var bl2 74 [.slice none 0 0, .slice none 0 0, .bool false, .int .i64 0, .slice none 0 0] :: R) := H.arr
 clear H
 refine C.loopS [9, 16, 17, 18, 19, 20, 21, 22, 23, 24, 25] [9] rfl (fun k vs w => ∃ i : Nat, ∃ pa pc, k = 16 - i ∧ i ≤ 16 ∧ vs = [.int .i64 (i : Int)] ∧ Holds s w (row 9 1 (.slice pa i pc) i (strs (List.replicate i z40)) :: var bl3 173 [.slice a0 d.secs.length c0, .slice a1 d.pend.length c1, .bool d.off, .int .i64 lf, .slice a2 n2 c2, .int .i64 f, .slice pa i pc, .int .u32 0, .int .i64 0, .int .i64 0, .bool false] :: var bl2 74 [.slice none 0 0, .slice none 0 0, .bool false, .int .i64 0, .slice none 0 0] :: R)) 16 ⟨0, none, 0, rfl, Nat.zero_le _, rfl, H'⟩ ?_
 clear H'
 rintro k vs hv w ⟨i, pa, pc, rfl, hi, rfl, H⟩
 by_cases hlt : i < 16
 ·repeat' (first | refine Z H ?_ | (refine Zc ?_ ?_ <;> intro hc <;> first | (exfalso; omega) | skip) | (refine Y ?_; try change C _ _ _ _ _ _) | (refine Zs H ?_; clear H; (try clear w); intro w H) | (refine Zn H ?_; clear H; (try clear w); (first | ((fail_if_success (have := bl1)); intro bl1 w H) | ((fail_if_success (have := bl2)); intro bl2 w H) | ((fail_if_success (have := bl3)); intro bl3 w H) | intro _ w H)) | (refine Ze H ?_; clear H; (try clear w); intro gv w H))
  refine C.drawn2 [bl3] [0, 1, 2, 2, 3, 0, 3] [3, 1] [0, 1, 0, 4, 15, 31, 63] (by kernel_rfl) ?_; replace H := H.drew; refine sgB ?_; have H0 := H
  repeat' (first | refine Z H ?_ | (refine Zc ?_ ?_ <;> intro hc <;> first | (exfalso; omega) | skip) | (refine Y ?_; try change C _ _ _ _ _ _) | (refine Zs H ?_; clear H; (try clear w); intro w H) | (refine Zn H ?_; clear H; (try clear w); (first | ((fail_if_success (have := bl1)); intro bl1 w H) | ((fail_if_success (have := bl2)); intro bl2 w H) | ((fail_if_success (have := bl3)); intro bl3 w H) | intro _ w H)) | (refine Ze H ?_; clear H; (try clear w); intro gv w H))
  (refine X.call (Noughts16_s (n := 40) H (by decide)) ?_; (try clear H); rintro _ w ⟨rfl, _, H⟩; refine ⟨_, rfl, ?_⟩); refine L.nil ?_; refine ⟨rfl, rfl, (by repeat (first | exact subN_nil | refine subN_cons (by simp) ?_)), (by first | exact keep_same | (repeat (first | exact keepV H0 H | exact keepP H0 H | exact keep_nil | refine keep_cons ?_ ?_))), ?_⟩; clear H0; have H0 := H
  refine K.one H rfl rfl (by conv => lhs; whnf) (by rfl) (by rfl) ?_; clear H; (try clear w); intro g1 w H
  refine L.nil ?_
  refine ⟨rfl, rfl, (by repeat (first | exact subN_nil | refine subN_cons (by simp) ?_)), (by first | exact keep_same | (repeat (first | exact keepV H0 H | exact keepP H0 H | exact keep_nil | refine keep_cons ?_ ?_))), ?_⟩; clear H0; have H0 := H
  repeat' (first | (refine X.app H ?_; clear H; intro a3 c3 w H) | refine Z H ?_ | (refine Zc ?_ ?_ <;> intro hc <;> first | (exfalso; omega) | skip) | (refine Y ?_; try change C _ _ _ _ _ _) | (refine Zs H ?_; clear H; (try clear w); intro w H) | (refine Zn H ?_; clear H; (try clear w); (first | ((fail_if_success (have := bl1)); intro bl1 w H) | ((fail_if_success (have := bl2)); intro bl2 w H) | ((fail_if_success (have := bl3)); intro bl3 w H) | intro _ w H)) | (refine Ze H ?_; clear H; (try clear w); intro gv w H))
  refine ⟨rfl, rfl, (by repeat (first | exact subN_nil | refine subN_cons (by simp) ?_)), (by first | exact keep_same | (repeat (first | exact keepV H0 H | exact keepP H0 H | exact keep_nil | refine keep_cons ?_ ?_))), ?_⟩; clear H0; have H0 := H
  repeat' (first | refine Z H ?_ | (refine Zc ?_ ?_ <;> intro hc <;> first | (exfalso; omega) | skip) | (refine Y ?_; try change C _ _ _ _ _ _) | (refine Zs H ?_; clear H; (try clear w); intro w H) | (refine Zn H ?_; clear H; (try clear w); (first | ((fail_if_success (have := bl1)); intro bl1 w H) | ((fail_if_success (have := bl2)); intro bl2 w H) | ((fail_if_success (have := bl3)); intro bl3 w H) | intro _ w H)) | (refine Ze H ?_; clear H; (try clear w); intro gv w H))
  have hre : strs (List.replicate i z40) ++ [.string (bst (List.replicate 40 0))] = strs (List.replicate (i + 1) z40) := strs_rep i z40
  rw [hre] at H
  exact ⟨agr, 16 - (i + 1), by omega, i + 1, a3, c3, rfl, by omega, rfl, H.arr⟩
 ·have hie : i = 16 := by omega
  subst hie
  obtain ⟨s1, hs1, H1, hpS⟩ := H.fixRow
  clear H
  have H := H1
  clear H1
  repeat' (first | refine Z H ?_ | (refine Zc ?_ ?_ <;> intro hc <;> first | (exfalso; omega) | skip) | (refine Y ?_; try change C _ _ _ _ _ _) | (refine Zs H ?_; clear H; (try clear w); intro w H) | (refine Zn H ?_; clear H; (try clear w); (first | ((fail_if_success (have := bl1)); intro bl1 w H) | ((fail_if_success (have := bl2)); intro bl2 w H) | ((fail_if_success (have := bl3)); intro bl3 w H) | intro _ w H)) | (refine Ze H ?_; clear H; (try clear w); intro gv w H))
  have H' : Holds s1 w (row 3 1 (.slice none 0 0) 0 [] :: row 9 1 (.slice none 0 0) 0 [] :: var bl3 173 [.slice a0 d.secs.length c0, .slice a1 d.pend.length c1, .bool d.off, .int .i64 lf, .slice a2 n2 c2, .int .i64 f, .slice pa 16 pc, .int .u32 0, .int .i64 0, .int .i64 0, .bool false] :: var bl2 74 [.slice none 0 0, .slice none 0 0, .bool false, .int .i64 0, .slice none 0 0] :: R) := ((H.nilRow 9 1).nilRow 3 1).arr
  refine C.loopS [7, 8, 10, 26, 27, 28, 29, 30, 31, 32, 33, 34, 35, 36, 37] [7, 8, 10] rfl (fun k vs w => ∃ i : Nat, ∃ na ca nb cb, k = 18 - i ∧ i ≤ 18 ∧ vs = [.slice na i ca, .slice nb i cb, .int .i64 ((34 + i : Nat) : Int)] ∧ Holds s1 w (row 3 1 (.slice na i ca) i (ints (clrAts i)) :: row 9 1 (.slice nb i cb) i (strs (List.replicate i z64)) :: var bl3 173 [.slice a0 d.secs.length c0, .slice a1 d.pend.length c1, .bool d.off, .int .i64 lf, .slice a2 n2 c2, .int .i64 f, .slice pa 16 pc, .int .u32 0, .int .i64 0, .int .i64 0, .bool false] :: var bl2 74 [.slice none 0 0, .slice none 0 0, .bool false, .int .i64 0, .slice none 0 0] :: R)) 18 ⟨0, none, 0, none, 0, rfl, Nat.zero_le _, rfl, H'⟩ ?_
  clear H H'
  rintro k vs hv2 w ⟨i, na, ca, nb, cb, rfl, hi2, rfl, H⟩
  by_cases hlt2 : i < 18
  ·repeat' (first | refine Z H ?_ | (refine Zc ?_ ?_ <;> intro hc <;> first | (exfalso; omega) | skip) | (refine Y ?_; try change C _ _ _ _ _ _) | (refine Zs H ?_; clear H; (try clear w); intro w H) | (refine Zn H ?_; clear H; (try clear w); (first | ((fail_if_success (have := bl1)); intro bl1 w H) | ((fail_if_success (have := bl2)); intro bl2 w H) | ((fail_if_success (have := bl3)); intro bl3 w H) | intro _ w H)) | (refine Ze H ?_; clear H; (try clear w); intro gv w H))
   refine K.one H rfl rfl (by conv => lhs; whnf) (by rfl) (by rfl) ?_; clear H; (try clear w); intro g1 w H
   repeat' (first | (refine X.app H ?_; clear H; intro a3 c3 w H) | refine Z H ?_ | (refine Zc ?_ ?_ <;> intro hc <;> first | (exfalso; omega) | skip) | (refine Y ?_; try change C _ _ _ _ _ _) | (refine Zs H ?_; clear H; (try clear w); intro w H) | (refine Zn H ?_; clear H; (try clear w); (first | ((fail_if_success (have := bl1)); intro bl1 w H) | ((fail_if_success (have := bl2)); intro bl2 w H) | ((fail_if_success (have := bl3)); intro bl3 w H) | intro _ w H)) | (refine Ze H ?_; clear H; (try clear w); intro gv w H))
   (refine X.call (Noughts16_s (n := 64) H (by decide)) ?_; (try clear H); rintro _ w ⟨rfl, _, H⟩; refine ⟨_, rfl, ?_⟩)
   repeat' (first | refine Z H ?_ | (refine Zc ?_ ?_ <;> intro hc <;> first | (exfalso; omega) | skip) | (refine Y ?_; try change C _ _ _ _ _ _) | (refine Zs H ?_; clear H; (try clear w); intro w H) | (refine Zn H ?_; clear H; (try clear w); (first | ((fail_if_success (have := bl1)); intro bl1 w H) | ((fail_if_success (have := bl2)); intro bl2 w H) | ((fail_if_success (have := bl3)); intro bl3 w H) | intro _ w H)) | (refine Ze H ?_; clear H; (try clear w); intro gv w H))
   refine K.one (v := .string (bst (List.replicate 64 0))) (cs := [.string (bst (List.replicate 64 0))]) H rfl rfl rfl rfl rfl ?_
   clear H
   intro g2 w H
   repeat' (first | (refine X.app H ?_; clear H; intro a4 c4 w H) | refine Z H ?_ | (refine Zc ?_ ?_ <;> intro hc <;> first | (exfalso; omega) | skip) | (refine Y ?_; try change C _ _ _ _ _ _) | (refine Zs H ?_; clear H; (try clear w); intro w H) | (refine Zn H ?_; clear H; (try clear w); (first | ((fail_if_success (have := bl1)); intro bl1 w H) | ((fail_if_success (have := bl2)); intro bl2 w H) | ((fail_if_success (have := bl3)); intro bl3 w H) | intro _ w H)) | (refine Ze H ?_; clear H; (try clear w); intro gv w H))
   have H' : Holds s1 w (row 3 1 (.slice a3 (i + 1) c3) (i + 1) (ints (clrAts i) ++ [.int .i64 ((34 + i : Nat) : Int)]) :: row 9 1 (.slice a4 (i + 1) c4) (i + 1) (strs (List.replicate i z64) ++ [.string (bst (List.replicate 64 0))]) :: var bl3 173 [.slice a0 d.secs.length c0, .slice a1 d.pend.length c1, .bool d.off, .int .i64 lf, .slice a2 n2 c2, .int .i64 f, .slice pa 16 pc, .int .u32 0, .int .i64 0, .int .i64 0, .bool false] :: var bl2 74 [.slice none 0 0, .slice none 0 0, .bool false, .int .i64 0, .slice none 0 0] :: R) := H.arr
   rw [show strs (List.replicate i z64) ++ [.string (bst (List.replicate 64 0))] = strs (List.replicate (i + 1) z64) from strs_rep i z64, show ints (clrAts i) ++ [.int .i64 ((34 + i : Nat) : Int)] = ints (clrAts (i + 1)) by rw [clrAts_succ, ints_app]; rfl] at H'
   exact ⟨agr, 18 - (i + 1), by omega, i + 1, a3, c3, a4, c4, rfl, by omega, rfl, H'⟩
  ·have hie : i = 18 := by omega
   subst hie
   repeat' (first | refine Z H ?_ | (refine Zc ?_ ?_ <;> intro hc <;> first | (exfalso; omega) | skip) | (refine Y ?_; try change C _ _ _ _ _ _) | (refine Zs H ?_; clear H; (try clear w); intro w H) | (refine Zn H ?_; clear H; (try clear w); (first | ((fail_if_success (have := bl1)); intro bl1 w H) | ((fail_if_success (have := bl2)); intro bl2 w H) | ((fail_if_success (have := bl3)); intro bl3 w H) | intro _ w H)) | (refine Ze H ?_; clear H; (try clear w); intro gv w H))
   have hRW : RefW s1 [.slice a0 d.secs.length c0, .slice a1 d.pend.length c1, .bool d.off, .int .i64 lf, .slice a2 n2 c2, .int .i64 f, .slice pa 16 pc, .int .u32 0, .int .i64 0, .int .i64 0, .bool false] d f pa 16 pc 0 0 0 false := ⟨a0, c0, a1, c1, lf, a2, n2, c2, rfl, hR.mono hs1⟩
   have hS := settle_s (ats := clrAts 18) (ls := List.replicate 18 z64) (pgs := List.replicate 16 z40) (e := 1) (hme := 0) (aa := na) (ca := ca) (ab := nb) (cb := cb) H hRW hpS rfl (by intro p hp; rw [(List.mem_replicate.1 hp).2]; rfl) (by decide) (by decide) rfl (by decide) (by decide) (by intro l hl; rw [(List.mem_replicate.1 hl).2]; decide) hf hpl
   rw [show setSteps (clrAts 18) (List.replicate 18 z64) 1 0 (List.replicate 16 z40) = fmtSteps from rfl] at hS
   generalize run ((f : Int), 52) fmtSteps d = rr at *
   obtain ⟨d', code⟩ := rr
   dsimp only at hS ⊢
   refine X.call hS ?_
   clear H hS
   rintro _ w ⟨s2, cs2, rfl, hs2, hR2, H⟩
   refine ⟨_, rfl, ?_⟩
   have hR2' := hR2
   obtain ⟨d0, q0, d1, q1, lf2, d2, m3, q2, rfl, hD2⟩ := hR2'
   repeat' (first | (refine X.ldp [.slice d0 d'.secs.length q0, .slice d1 d'.pend.length q1, .bool d'.off, .int .i64 lf2, .slice d2 m3 q2] H ?_) | refine Z H ?_ | (refine Zc ?_ ?_ <;> intro hc <;> first | (exfalso; omega) | skip) | (refine Y ?_; try change C _ _ _ _ _ _) | (refine Zs H ?_; clear H; (try clear w); intro w H) | (refine Zn H ?_; clear H; (try clear w); (first | ((fail_if_success (have := bl1)); intro bl1 w H) | ((fail_if_success (have := bl2)); intro bl2 w H) | ((fail_if_success (have := bl3)); intro bl3 w H) | intro _ w H)) | (refine Ze H ?_; clear H; (try clear w); intro gv w H))
   exact ⟨_, resVT H rfl, s2, _, rfl, hs1.trans hs2, hD2, H.arr⟩
end
section
variable {P : Program} {e : Env} {w : World} {s : Ro} {rs : List Asn}
end
section
variable {s : Ro} {w : World} {R : List Asn}
end
def awM : WL := ⟨1, 0, 0, z640, false⟩
section
variable {s : Ro} {w : World} {R : List Asn}
end
end Go.Proofs.YtgilmcpdpggikaaGreatDoor
namespace Go.Own
open Go Go.RowKit
def Rdg (P : Program) (w : World) (t : TypeId) (cs : List Value) : Prop :=
 ∃ (H : Type) (enc : TypeId × Value → H) (fuel : Nat) (x : DataW H × List MemPlace), DataW.trod enc P w 0 (fun _ => true) true fuel t cs = some x ∧ ∀ n ∈ x.1.weights P t, n ≤ reachBytes
section
variable {P : Program} {w : World} {t e : TypeId} {cs : List Value}
theorem rdg_int {k : IntKind} (hu : P.underlying t = some (.int k)) (h : Rdg P w t cs) : ∃ n, cs = [.int k n] ∧ (Lit.int k n).wf = true := by
 obtain ⟨H, enc, fuel, x, h, _⟩ := h
 cases fuel with
 | zero => simp [DataW.trod] at h
 | succ f =>
  unfold DataW.trod at h
  rw [hu] at h
  split at h <;> simp_all
theorem rdg_bool (hu : P.underlying t = some .bool) (h : Rdg P w t cs) : ∃ b, cs = [.bool b] := by
 obtain ⟨H, enc, fuel, x, h, _⟩ := h
 cases fuel with
 | zero => simp [DataW.trod] at h
 | succ f =>
  unfold DataW.trod at h
  rw [hu] at h
  split at h <;> simp_all
theorem rdg_string (hu : P.underlying t = some .string) (h : Rdg P w t cs) : ∃ s : ByteArray, cs = [.string s] ∧ s.size ≤ reachBytes := by
 obtain ⟨H, enc, fuel, x, h, hw⟩ := h
 cases fuel with
 | zero => simp [DataW.trod] at h
 | succ f =>
  unfold DataW.trod at h
  rw [hu] at h
  split at h <;> simp_all
  rename_i s
  obtain ⟨_, rfl⟩ := h
  have := hw s.data.toList.length (by simp [DataW.weights])
  rw [Array.length_toList] at this
  exact this
theorem add_add (a : Addr) (m j : Nat) : (a.add m).add j = a.add (m + j) := by
 unfold Addr.add
 by_cases hm : m = 0
 ·simp [hm]
 ·by_cases hj : j = 0
  ·simp [hj]
  ·rw [if_neg hm, if_neg hj, if_neg (by omega)]
   simp [Nat.add_assoc]
theorem weights_all {H : Type} {l : List (DataW H)} {d : DataW H} (h : d ∈ l) {n : Nat} (hn : n ∈ d.weights P e) : n ∈ DataW.weightsAll P e l := by
 induction l with
 | nil => cases h
 | cons x r ih =>
  simp only [DataW.weightsAll, List.mem_append]
  rcases List.mem_cons.1 h with rfl | h
  ·exact .inl hn
  ·exact .inr (ih h)
theorem rdg_slice (hu : P.underlying t = some (.slice e)) (h : Rdg P w t cs) : cs = [.slice none 0 0] ∨
  ∃ a len cap, cs = [.slice (some a) len cap] ∧ len ≤ cap ∧ cap ≤ maxLen ∧ cap * P.bytesOf e ≤ reachBytes ∧
   ∀ i, i < len → ∃ cs', cs'.length = P.cellsOf e ∧ (∀ j, j < P.cellsOf e → w.cell? (a.add (i * P.cellsOf e + j)) = cs'[j]?) ∧ Rdg P w e cs' := by
 obtain ⟨H, enc, fuel, x, h, hw⟩ := h
 rcases Deep.open_slice hu h with ⟨h0, _⟩ | ⟨a, len, cap, m, n, D, Pl, rfl, _, hl, hm, hmm, rfl, hx⟩
 ·exact .inl h0
 ·right
  simp only [if_true] at hmm
  subst hmm
  simp only [DataW.weights, hu] at hw
  refine ⟨a, len, m, rfl, hl, hm, ?_, fun i hi => ?_⟩
  ·have := hw _ (by simp; exact Or.inl rfl)
   rw [show len + (m - len) = m by omega] at this
   exact this
  ·obtain ⟨cs', h1, h2⟩ := hx i (by omega)
   obtain ⟨_, hlen, hc⟩ := World.cells?_some h1
   refine ⟨cs', hlen, fun j hj => by rw [← add_add]; exact hc j hj, H, enc, n, (D i, Pl i), h2, fun q hq => hw q ?_⟩
   simp only [List.mem_cons, List.mem_append]
   refine .inr (.inl (weights_all (d := D i) ?_ hq))
   exact List.mem_map.2 ⟨i, List.mem_range.2 hi, rfl⟩
theorem rdg_struct {fs : Array Field} (hu : P.underlying t = some (.struct fs)) (h : Rdg P w t cs) : cs.length = P.cellsOf t ∧
  ∀ (j : Nat) f, fs[j]? = some f → Rdg P w f.type ((cs.drop f.offset).take (P.cellsOf f.type)) := by
 obtain ⟨H, enc, fuel, x, h, hw⟩ := h
 cases fuel with
 | zero => simp [DataW.trod] at h
 | succ n =>
  unfold DataW.trod at h
  rw [hu] at h
  simp only [] at h
  split at h
  ·rename_i hl
   rw [Option.map_eq_some_iff] at h
   obtain ⟨xs, hxs, rfl⟩ := h
   refine ⟨hl, fun j f hf => ?_⟩
   have hj := mapM_some_get hxs j f (by simpa using hf)
   have hlen := mapM_some_length hxs
   have hjl : j < xs.length := by
    have : j < fs.size := (Array.getElem?_eq_some_iff.1 hf).1
    simp at hlen; omega
   rw [List.getElem?_eq_getElem hjl] at hj
   refine ⟨H, enc, n, xs[j], hj, fun q hq => hw q ?_⟩
   simp only [DataW.weights, hu]
   refine DataW.weights_mem_each (j := j) (t := f.type) (d := xs[j].1) ?_ ?_ q hq
   ·simp [hf]
   ·simp [hjl]
  ·cases h
theorem exists_list {α : Type} {p : Nat → α → Prop} : ∀ (n : Nat), (∀ i, i < n → ∃ x, p i x) → ∃ l : List α, l.length = n ∧ ∀ i (h : i < l.length), p i l[i]
 | 0, _ => ⟨[], rfl, fun i h => absurd h (by simp)⟩
 | n + 1, h => by
  obtain ⟨l, hl, hp⟩ := exists_list n (fun i hi => h i (by omega))
  obtain ⟨x, hx⟩ := h n (by omega)
  refine ⟨l ++ [x], by simp [hl], fun i hi => ?_⟩
  by_cases hin : i < l.length
  ·rw [List.getElem_append_left hin]; exact hp i hin
  ·have : i = n := by simp at hi; omega
   subst this
   rw [List.getElem_append_right (by omega)]
   simp only [hl, Nat.sub_self, List.getElem_cons_zero]
   exact hx
theorem flatMap_get {α : Type} {f : α → List Value} {sz : Nat} (hpos : 0 < sz) : ∀ (l : List α), (∀ x ∈ l, (f x).length = sz) → ∀ (j : Nat) (v : Value), (l.flatMap f)[j]? = some v → ∃ (h : j / sz < l.length), (f l[j / sz])[j % sz]? = some v
 | [], _, j, v, h => by simp at h
 | x :: l, hf, j, v, h => by
  have hx := hf x (by simp)
  rw [List.flatMap_cons] at h
  by_cases hj : j < sz
  ·rw [List.getElem?_append_left (by omega)] at h
   have e1 : j / sz = 0 := Nat.div_eq_of_lt hj
   have e2 : j % sz = j := Nat.mod_eq_of_lt hj
   refine ⟨by rw [e1]; simp, ?_⟩
   simp only [e1, e2, List.getElem_cons_zero]
   exact h
  ·rw [List.getElem?_append_right (by omega), hx] at h
   obtain ⟨h1, h2⟩ := flatMap_get hpos l (fun y hy => hf y (by simp [hy])) (j - sz) v h
   have e1 : j / sz = (j - sz) / sz + 1 := by
    rw [Nat.div_eq_sub_div hpos (by omega)]
   have e2 : j % sz = (j - sz) % sz := by rw [Nat.mod_eq_sub_mod (by omega)]
   refine ⟨by rw [e1]; simp; exact h1, ?_⟩
   simp only [e1, e2, List.getElem_cons_succ]
   exact h2
theorem flatMap_len {α : Type} {f : α → List Value} {sz : Nat} : ∀ (l : List α), (∀ x ∈ l, (f x).length = sz) → (l.flatMap f).length = l.length * sz
 | [], _ => by simp
 | x :: l, hf => by
  rw [List.flatMap_cons, List.length_append, hf x (by simp), flatMap_len l (fun y hy => hf y (by simp [hy]))]
  simp [Nat.add_mul]; omega
theorem rdg_list {α : Type} (f : α → List Value) (p : α → Prop) {v : Value} (hu : P.underlying t = some (.slice e)) (hsz : 0 < P.cellsOf e) (hone : ∀ cs', cs'.length = P.cellsOf e → Rdg P w e cs' → ∃ x, f x = cs' ∧ p x) (h : Rdg P w t [v]) :
  ∃ l : List α, Sl w v (P.cellsOf e) l.length (l.flatMap f) ∧ (∀ x ∈ l, p x ∧ (f x).length = P.cellsOf e) ∧ l.length * P.bytesOf e ≤ reachBytes := by
 rcases rdg_slice hu h with h0 | ⟨a, len, cap, hv, hl, hm, hb, hel⟩
 ·cases h0
  exact ⟨[], ⟨none, 0, rfl, by simp, Nat.le_refl _, Nat.zero_le _, fun j x hx => by simp at hx⟩, by simp, by simp⟩
 ·cases hv
  have hch : ∀ i, i < len → ∃ x : α, (f x).length = P.cellsOf e ∧ (∀ j, j < P.cellsOf e → w.cell? (a.add (i * P.cellsOf e + j)) = (f x)[j]?) ∧ p x := fun i hi => by
   obtain ⟨cs', h1, h2, h3⟩ := hel i hi
   obtain ⟨x, hx, hp⟩ := hone cs' h1 h3
   exact ⟨x, by rw [hx]; exact h1, by rw [hx]; exact h2, hp⟩
  obtain ⟨l, hll, hp⟩ := exists_list len hch
  have hflen : ∀ x ∈ l, (f x).length = P.cellsOf e := fun x hx => by
   obtain ⟨i, hi, rfl⟩ := List.mem_iff_getElem.1 hx; exact (hp i hi).1
  refine ⟨l, ⟨some a, cap, by rw [hll], flatMap_len l hflen, by omega, hm, fun j v hv => ⟨a, rfl, ?_⟩⟩, fun x hx => ⟨?_, hflen x hx⟩, ?_⟩
  ·obtain ⟨h1, h2⟩ := flatMap_get hsz l hflen j v hv
   have := (hp _ h1).2.1 (j % P.cellsOf e) (Nat.mod_lt _ hsz)
   rw [show j / P.cellsOf e * P.cellsOf e + j % P.cellsOf e = j by rw [Nat.mul_comm]; exact Nat.div_add_mod j _] at this
   rw [this]; exact h2
  ·obtain ⟨i, hi, rfl⟩ := List.mem_iff_getElem.1 hx; exact (hp i hi).2.2
  ·rw [hll]; exact Nat.le_trans (Nat.mul_le_mul_right _ hl) hb
theorem flatMap_one {α : Type} (f : α → Value) : ∀ (l : List α), l.flatMap (fun x => [f x]) = l.map f
 | [] => rfl
 | x :: l => by rw [List.flatMap_cons, flatMap_one f l]; rfl
theorem rdg_bools {v : Value} (hu : P.underlying t = some (.slice e)) (he : P.underlying e = some .bool) (hc : P.cellsOf e = 1) (hb : P.bytesOf e = 1) (h : Rdg P w t [v]) :
  ∃ l : List Bool, Sl w v 1 l.length (l.map Value.bool) ∧ l.length ≤ reachBytes := by
 obtain ⟨l, h1, _, h3⟩ := rdg_list (fun b : Bool => [Value.bool b]) (fun _ => True) hu (by rw [hc]; decide) (fun cs' _ h => by
  obtain ⟨b, rfl⟩ := rdg_bool he h; exact ⟨b, rfl, trivial⟩) h
 rw [hc] at h1
 rw [hb, Nat.mul_one] at h3
 refine ⟨l, ?_, h3⟩
 rwa [flatMap_one] at h1
theorem rdg_ints {v : Value} {k : IntKind} (hu : P.underlying t = some (.slice e)) (he : P.underlying e = some (.int k)) (hc : P.cellsOf e = 1) (h : Rdg P w t [v]) :
  ∃ l : List Int, Sl w v 1 l.length (l.map (Value.int k)) ∧ (∀ n ∈ l, (Lit.int k n).wf = true) ∧ l.length * P.bytesOf e ≤ reachBytes := by
 obtain ⟨l, h1, h2, h3⟩ := rdg_list (fun n : Int => [Value.int k n]) (fun n => (Lit.int k n).wf = true) hu (by rw [hc]; decide) (fun cs' _ h => by
  obtain ⟨n, rfl, hw⟩ := rdg_int he h; exact ⟨n, rfl, hw⟩) h
 rw [hc] at h1
 refine ⟨l, ?_, fun n hn => (h2 n hn).1, h3⟩
 rwa [flatMap_one] at h1
theorem wf_i64 {n : Int} (h : (Lit.int .i64 n).wf = true) : -9223372036854775808 ≤ n ∧ n ≤ 9223372036854775807 := bounds_i64 h
theorem wf_u8 {n : Int} (h : (Lit.int .u8 n).wf = true) : ∃ x : UInt8, Value.int .u8 n = u8 x := by
 have := bounds_u8 h
 refine ⟨UInt8.ofNat n.toNat, ?_⟩
 unfold u8
 congr 1
 rw [UInt8.toNat_ofNat']
 omega
end
end Go.Own
namespace Go.Proofs.YtgilmcpdpggikaaGreatDoor
open Go Go.RowKit Go.Own
open Go.ChangeShapes Go.WideShapes Go.ChangeAt
theorem rdg_field {P : Program} {w : World} {t : TypeId} {cs : List Value} {fs : Array Field} (hu : P.underlying t = some (.struct fs)) (h : Rdg P w t cs) (j : Nat) (ft : TypeId) (off sz : Nat) (hf : (fs[j]?).map (fun f => (f.type, f.offset)) = some (ft, off)) (hs : P.cellsOf ft = sz) : Rdg P w ft ((cs.drop off).take sz) := by
 obtain ⟨_, h2⟩ := rdg_struct hu h
 rw [Option.map_eq_some_iff] at hf
 obtain ⟨f, h3, h4⟩ := hf
 cases h4
 have := h2 j f h3
 rwa [hs] at this
theorem reach_le : reachBytes ≤ 140737488351232 := by decide
theorem home_ok {e h : Nat} {ps : List UInt8} (hh : h ≤ 1) (hl : ps.length = 640) : ∀ n i, i + n ≤ 16 → (homeFrom e h ps n i).all okS = true
 | 0, i, _ => by
  have h1 : (headB e h).length = 64 := secW_len (by simp)
  have h2 : e % 2 < 52 := by omega
  simp [homeFrom, okS, h1, h2]
 | n + 1, i, hi => by
  have h1 : (pageB e i ps).length = 64 := secW_len (by rw [List.length_append, getP_len hl (by omega)]; simp)
  have h2 : 2 + 16 * h + i < 52 := by omega
  rw [homeFrom, List.all_cons, home_ok hh hl n (i + 1) (by omega)]
  simp [okS, h1, h2]
theorem rec_ok {e : Nat} : ∀ (l : List Ch) (u : Nat), u + l.length + 1 ≤ 18 → (∀ c ∈ l, c.Ok) → (recSteps e u l).all okS = true
 | [], u, hu, _ => by
  have h1 : (markB e u).length = 64 := secW_len (by simp)
  have h2 : 34 + u < 52 := by simp at hu; omega
  simp [recSteps, okS, h1, h2]
 | c :: r, u, hu, hc => by
  have h0 := hc c (by simp)
  have h1 : (recB e u c).length = 64 := secW_len (by rw [List.length_append, h0.2.2]; simp)
  have h2 : 34 + u < 52 := by rw [List.length_cons] at hu; omega
  rw [recSteps, List.all_cons, rec_ok r (u + 1) (by rw [List.length_cons] at hu; omega) (fun c hc' => hc c (by simp [hc']))]
  simp [okS, h1, h2]
end Go.Proofs.YtgilmcpdpggikaaGreatDoor
namespace Go.Proofs.YtgilmcpdpggikaaGreatDoor
open Go Go.RowKit Go.Own
section
variable {s : Ro} {w : World} {R : List Asn}
theorem take_page {ps : List UInt8} {i : Nat} : ps.take (i * 40) ++ getP ps i = ps.take ((i + 1) * 40) := by
 unfold getP
 rw [show (i + 1) * 40 = i * 40 + 40 by omega, List.take_add]
end
theorem layS_get : ∀ (s : List (List UInt8)) (ps : List (Nat × List UInt8)) (sv : List Bool) (k : Nat), (layS s ps sv)[k]?.getD [] = s[k]?.getD [] ∨ ∃ b, (k, b) ∈ ps ∧ (layS s ps sv)[k]?.getD [] = b
 | s, [], sv, k => .inl (by rw [layS])
 | s, p :: ps, [], k => .inl (by rw [layS])
 | s, p :: ps, b :: bs, k => by
  rw [layS]
  rcases layS_get (if b then s.set p.1 p.2 else s) ps bs k with h | ⟨x, hx, h⟩
  ·rw [h]
   cases b with
   | false => exact .inl rfl
   | true =>
    simp only [if_true]
    by_cases hk : p.1 = k
    ·subst hk
     by_cases hl : p.1 < s.length
     ·exact .inr ⟨p.2, by simp, by rw [List.getElem?_set_self hl]; rfl⟩
     ·exact .inl (by rw [List.set_eq_of_length_le (by omega)])
    ·exact .inl (by rw [List.getElem?_set_ne hk])
  ·exact .inr ⟨x, List.mem_cons_of_mem _ hx, h⟩
theorem powered_on {d : DM} (h : d.off = false) : (d.powered.2 = true ∧ d.powered.1.off = false ∧ d.powered.1.secs = d.secs ∧ d.powered.1.pend = d.pend) ∨ (d.powered.2 = false ∧ d.powered.1.off = true ∧ d.powered.1.pend = [] ∧ ∃ sv, d.powered.1.secs = layS d.secs d.pend sv) := by
 unfold DM.powered
 cases ha : d.armed with
 | false => simp [h]
 | true =>
  by_cases hl : d.left = 0
  ·right; simp [h, hl, DM.crash]; exact ⟨_, rfl⟩
  ·left; simp [h, hl]
theorem cur_nil {d : DM} (h : d.pend = []) (k : Nat) : d.cur k = d.sec k := by simp [DM.cur, h]
theorem pwrite_on {N : Nat} {d : DM} (ho : d.off = false) (hl : d.secs.length = N) {f c n : Nat} {l : List UInt8} (hn : n < c) (hf : f + c ≤ N) (hN : N ≤ 1000) (h64 : l.length = 64) :
  ((pwrite d ((f : Int), (c : Int)) (n : Int) l).2 = 0 ∧ (pwrite d ((f : Int), (c : Int)) (n : Int) l).1.off = false ∧ (pwrite d ((f : Int), (c : Int)) (n : Int) l).1.secs = d.secs ∧ (pwrite d ((f : Int), (c : Int)) (n : Int) l).1.pend = d.pend ++ [(f + n, l)]) ∨
  ((pwrite d ((f : Int), (c : Int)) (n : Int) l).2 = 9 ∧ (pwrite d ((f : Int), (c : Int)) (n : Int) l).1.off = true ∧ (pwrite d ((f : Int), (c : Int)) (n : Int) l).1.pend = [] ∧ ∃ sv, (pwrite d ((f : Int), (c : Int)) (n : Int) l).1.secs = layS d.secs d.pend sv) := by
 have hib : d.inB ((f + n : Nat) : Int) = true := by simp only [DM.inB, decide_eq_true_eq]; rw [hl]; omega
 have e : pwrite d ((f : Int), (c : Int)) (n : Int) l = if d.powered.2 then ({ d.powered.1 with pend := d.powered.1.pend ++ [(f + n, l)] }, 0) else (d.powered.1, 9) := by
  unfold Go.Proofs.YtgilmcpdpggikaaGreatDoor.pwrite
  simp only
  rw [place_inN hn (by omega)]
  simp only [if_true]
  unfold DM.write
  rw [if_pos hib, if_pos h64, Int.toNat_natCast]
 rw [e]
 rcases powered_on ho with ⟨h1, h2, h3, h4⟩ | ⟨h1, h2, h3, h4⟩
 ·rw [if_pos h1]; exact .inl ⟨rfl, h2, h3, by simp only [h4]⟩
 ·rw [if_neg (by rw [h1]; decide)]; exact .inr ⟨rfl, h2, h3, h4⟩
theorem flush_on {d : DM} (ho : d.off = false) :
  (d.flush.2 = 0 ∧ d.flush.1.off = false ∧ d.flush.1.pend = [] ∧ d.flush.1.secs = layAll d.secs d.pend) ∨
  (d.flush.2 = 9 ∧ d.flush.1.off = true ∧ d.flush.1.pend = [] ∧ ∃ sv, d.flush.1.secs = layS d.secs d.pend sv) := by
 unfold DM.flush
 rcases powered_on ho with ⟨h1, h2, h3, h4⟩ | ⟨h1, h2, h3, h4⟩
 ·rw [if_pos h1]; exact .inl ⟨rfl, h2, rfl, by simp only [h3, h4]⟩
 ·rw [if_neg (by rw [h1]; decide)]; exact .inr ⟨rfl, h2, h3, h4⟩
def calmD (d : DM) : DM := (d.arm (-1) []).power
theorem calm_facts (d : DM) : (calmD d).off = false ∧ (calmD d).armed = false ∧ (calmD d).pend = [] ∧ (calmD d).secs = d.secs := by
 unfold calmD DM.arm DM.power DM.disarm
 refine ⟨rfl, rfl, rfl, ?_⟩
 split
 ·rfl
 ·simp
theorem dec_sec {c : UInt8} {e n : Nat} {r : List UInt8} (he : e < 2 ^ 32) (hn : r.length = n) (hr : n ≤ 55) : decW c n (secW c e r) = some (e, r) := by
 subst hn
 have hp : (c :: putN e 4).length = 5 := by simp [putN_len]
 have h0 : contW c e r = (c :: putN e 4) ++ (r ++ List.replicate (55 - r.length) 0) := by simp [contW]
 have h1 : (contW c e r).drop 5 = r ++ List.replicate (55 - r.length) 0 := by rw [h0]; exact List.drop_left' hp
 have h2 : (contW c e r).drop (5 + r.length) = List.replicate (55 - r.length) 0 := by rw [← List.drop_drop, h1]; exact List.drop_left' rfl
 have h3 : ((contW c e r).drop 1).take 4 = putN e 4 := by
  rw [h0, List.cons_append, List.drop_succ_cons, List.drop_zero]
  exact List.take_left' (by simp [putN_len])
 have h4 : (contW c e r)[0]? = some c := by rw [h0]; rfl
 have h5 : (List.replicate (55 - r.length) (0 : UInt8)).any (fun x => x != 0) = false := by simp [List.any_eq_false]
 have h6 : numN (putN e 4) = e := by rw [numN_put]; exact Nat.mod_eq_of_lt (by omega)
 unfold decW secW
 rw [open_seal]
 simp only [contW_len hr, h4, h2, h5, h3, h1, h6, if_true]
 simp
theorem dec_oth {c c' : UInt8} {e n : Nat} {r : List UInt8} (hr : r.length ≤ 55) (hc : c ≠ c') : decW c' n (secW c e r) = none := by
 have h4 : (contW c e r)[0]? = some c := by simp [contW]
 unfold decW secW
 rw [open_seal]
 simp only [contW_len hr, h4, if_true]
 rw [if_neg (fun h => hc (Option.some.inj h))]
def recStep (l : List UInt8) (e k : Nat) : Option (Option Ch) := match decW 82 42 l with
 | some (e', b :: b2 :: r) => if e' = e ∧ b.toNat = k ∧ b2.toNat < 16 then some (some ⟨(b2.toNat : Int), r⟩) else none
 | _ => match decW 67 1 l with
  | some (e', [b]) => if e' = e ∧ b.toNat = k then some none else none
  | _ => none
def recsC (c : Nat → List UInt8) (e : Nat) : Nat → Nat → List UInt8 → Nat → List Ch → List UInt8 × Nat
 | 0, _, ps, u, _ => (ps, u)
 | n + 1, k, ps, u, pend => match recStep (c (34 + k)) e k with
  | none => (ps, u)
  | some (some ch) => recsC c e n (k + 1) ps u (pend ++ [ch])
  | some none => recsC c e n (k + 1) (applyL ps pend) (k + 1) []
theorem recsM_eq {d : DM} {x : Ext} {c : Nat → List UInt8} {e : Nat} (h : ∀ k, k < 52 → sec d x k = c k) : ∀ n k ps u pend, n + k ≤ 18 → recsM d x e n k ps u pend = recsC c e n k ps u pend
 | 0, k, ps, u, pend, _ => rfl
 | n + 1, k, ps, u, pend, hk => by
  have e1 := h (34 + k) (by omega)
  have h2 := fun ps u pend => recsM_eq (e := e) h n (k + 1) ps u pend (by omega)
  simp only [recsM, recsC, recStep, e1, h2]
  cases h82 : decW 82 42 (c (34 + k)) with
  | some p =>
   obtain ⟨e', r⟩ := p
   have := decW_len h82 (by decide)
   match r, this with
   | b :: b2 :: r, _ =>
    simp only
    by_cases hc : e' = e ∧ b.toNat = k ∧ b2.toNat < 16
    ·simp only [if_pos hc]
    ·simp only [if_neg hc]
  | none =>
   simp only
   cases h67 : decW 67 1 (c (34 + k)) with
   | some p =>
    obtain ⟨e', r⟩ := p
    have := decW_len h67 (by decide)
    match r, this with
    | [b], _ =>
     simp only
     by_cases hc : e' = e ∧ b.toNat = k
     ·simp only [if_pos hc]
     ·simp only [if_neg hc]
   | none => rfl
theorem recStep_rec {e k : Nat} {ch : Ch} (he : e < 2 ^ 32) (hk : k < 256) (ho : ch.Ok) : recStep (recB e k ch) e k = some (some ch) := by
 obtain ⟨h1, h2, h3⟩ := ho
 have hp : (UInt8.ofNat ch.page.toNat).toNat = ch.page.toNat := by rw [UInt8.toNat_ofNat']; exact Nat.mod_eq_of_lt (by omega)
 have hk' : (UInt8.ofNat k).toNat = k := by rw [UInt8.toNat_ofNat']; exact Nat.mod_eq_of_lt hk
 have hd : decW 82 42 (recB e k ch) = some (e, UInt8.ofNat k :: UInt8.ofNat ch.page.toNat :: ch.data) := dec_sec he (by simp [h3]) (by decide)
 unfold recStep
 rw [hd]
 simp only
 rw [if_pos ⟨trivial, hk', by omega⟩, hp]
 have : ((ch.page.toNat : Nat) : Int) = ch.page := by omega
 rw [this]
theorem recStep_not {e e' k k' : Nat} {ch : Ch} (he : e < 2 ^ 32) (ho : ch.Ok) : recStep (recB e k ch) e' k' ≠ some none := by
 have hd : decW 82 42 (recB e k ch) = some (e, UInt8.ofNat k :: UInt8.ofNat ch.page.toNat :: ch.data) := dec_sec he (by simp [ho.2.2]) (by decide)
 unfold recStep
 rw [hd]
 simp only
 split <;> simp
theorem recStep_mark {e k : Nat} (he : e < 2 ^ 32) (hk : k < 256) : recStep (markB e k) e k = some none := by
 have hk' : (UInt8.ofNat k).toNat = k := by rw [UInt8.toNat_ofNat']; exact Nat.mod_eq_of_lt hk
 have h1 : decW 82 42 (markB e k) = none := dec_oth (by simp) (by decide)
 have h2 : decW 67 1 (markB e k) = some (e, [UInt8.ofNat k]) := dec_sec he rfl (by decide)
 unfold recStep
 rw [h1, h2]
 simp [hk']
theorem recStep_mark_e {e e' k k' : Nat} (he : e < 2 ^ 32) (h : recStep (markB e k) e' k' = some none) : e' = e := by
 have h1 : decW 82 42 (markB e k) = none := dec_oth (by simp) (by decide)
 have h2 : decW 67 1 (markB e k) = some (e, [UInt8.ofNat k]) := dec_sec he rfl (by decide)
 unfold recStep at h
 rw [h1, h2] at h
 simp only at h
 split at h
 ·rename_i hc; exact hc.1.symm
 ·cases h
theorem recsC_end {c : Nat → List UInt8} {e : Nat} : ∀ n k ps u pend, (∀ j, k ≤ j → j < k + n → recStep (c (34 + j)) e j ≠ some none) → recsC c e n k ps u pend = (ps, u)
 | 0, k, ps, u, pend, _ => rfl
 | n + 1, k, ps, u, pend, h => by
  rw [recsC]
  cases hs : recStep (c (34 + k)) e k with
  | none => rfl
  | some o =>
   cases o with
   | none => exact absurd hs (h k (Nat.le_refl _) (by omega))
   | some ch => exact recsC_end n (k + 1) ps u _ (fun j h1 h2 => h j (by omega) (by omega))
theorem recsC_le {c : Nat → List UInt8} {e : Nat} : ∀ n k ps u pend, u ≤ k → u ≤ (recsC c e n k ps u pend).2 ∧ (recsC c e n k ps u pend).2 ≤ k + n ∧ ((recsC c e n k ps u pend).2 ≤ k → recsC c e n k ps u pend = (ps, u))
 | 0, k, ps, u, pend, h => ⟨Nat.le_refl _, h, fun _ => rfl⟩
 | n + 1, k, ps, u, pend, h => by
  rw [recsC]
  cases hs : recStep (c (34 + k)) e k with
  | none => exact ⟨Nat.le_refl _, by simp only; omega, fun _ => rfl⟩
  | some o =>
   cases o with
   | none =>
    have := recsC_le (c := c) (e := e) n (k + 1) (applyL ps pend) (k + 1) [] (Nat.le_refl _)
    simp only
    exact ⟨by omega, by omega, fun h' => by omega⟩
   | some ch =>
    have := recsC_le (c := c) (e := e) n (k + 1) ps u (pend ++ [ch]) (by omega)
    simp only
    exact ⟨by omega, by omega, fun h' => this.2.2 (by omega)⟩
theorem recsC_to {c c' : Nat → List UInt8} {e : Nat} : ∀ n k ps u pend ps2 u2, u ≤ k → recsC c e n k ps u pend = (ps2, u2) → k < u2 → (∀ j, k ≤ j → j < u2 → c' (34 + j) = c (34 + j)) → recsC c' e n k ps u pend = recsC c' e (n - (u2 - k)) u2 ps2 u2 []
 | 0, k, ps, u, pend, ps2, u2, h, hr, hk, hc => by
  rw [recsC] at hr; cases hr; omega
 | n + 1, k, ps, u, pend, ps2, u2, h, hr, hk, hc => by
  rw [recsC, hc k (Nat.le_refl _) hk]
  rw [recsC] at hr
  cases hs : recStep (c (34 + k)) e k with
  | none => rw [hs] at hr; cases hr; omega
  | some o =>
   rw [hs] at hr
   cases o with
   | some ch =>
    simp only at hr ⊢
    by_cases hk1 : k + 1 < u2
    ·rw [recsC_to n (k + 1) ps u _ ps2 u2 (by omega) hr hk1 (fun j h1 h2 => hc j (by omega) h2), show n - (u2 - (k + 1)) = n + 1 - (u2 - k) by omega]
    ·have := recsC_le (c := c) (e := e) n (k + 1) ps u (pend ++ [ch]) (by omega)
     rw [hr] at this
     have h3 := this.2.2 (by dsimp only; omega)
     cases h3
     omega
   | none =>
    simp only at hr ⊢
    by_cases hk1 : k + 1 < u2
    ·rw [recsC_to n (k + 1) _ (k + 1) [] ps2 u2 (Nat.le_refl _) hr hk1 (fun j h1 h2 => hc j (by omega) h2), show n - (u2 - (k + 1)) = n + 1 - (u2 - k) by omega]
    ·have := recsC_le (c := c) (e := e) n (k + 1) (applyL ps pend) (k + 1) [] (Nat.le_refl _)
     rw [hr] at this
     have h3 := this.2.2 (by dsimp only; omega)
     cases h3
     rw [show n + 1 - (k + 1 - k) = n by omega]
theorem recsC_keep {c c' : Nat → List UInt8} {e : Nat} {ps0 ps : List UInt8} {u : Nat} (h : recsC c e 18 0 ps0 0 [] = (ps, u)) (hc : ∀ j, j < u → c' (34 + j) = c (34 + j)) : recsC c' e 18 0 ps0 0 [] = recsC c' e (18 - u) u ps u [] := by
 by_cases hu : 0 < u
 ·have := recsC_to (c' := c') 18 0 ps0 0 [] ps u (Nat.le_refl _) h hu (fun j _ h2 => hc j h2)
  rw [this, Nat.sub_zero]
 ·have h0 : u = 0 := by omega
  subst h0
  have := recsC_le (c := c) (e := e) 18 0 ps0 0 [] (Nat.le_refl _)
  rw [h] at this
  have h3 := this.2.2 (Nat.le_refl _)
  cases h3
  rfl
theorem recsC_recs {c : Nat → List UInt8} {e : Nat} (he : e < 2 ^ 32) : ∀ (l : List Ch) (n k : Nat) ps u pend, (∀ ch ∈ l, ch.Ok) → k + l.length ≤ 18 → (∀ i (hi : i < l.length), c (34 + (k + i)) = recB e (k + i) l[i]) → recsC c e (l.length + n) k ps u pend = recsC c e n (k + l.length) ps u (pend ++ l)
 | [], n, k, ps, u, pend, _, _, _ => by simp
 | ch :: r, n, k, ps, u, pend, ho, hk, h => by
  rw [List.length_cons] at hk
  have h0 : c (34 + k) = recB e k ch := h 0 (by simp)
  rw [List.length_cons, show r.length + 1 + n = (r.length + n) + 1 by omega, recsC, h0, recStep_rec he (by omega) (ho ch (by simp))]
  simp only
  rw [recsC_recs he r n (k + 1) ps u (pend ++ [ch]) (fun x hx => ho x (by simp [hx])) (by omega) (fun i hi => by
   have := h (i + 1) (by rw [List.length_cons]; omega)
   rw [show k + 1 + i = k + (i + 1) by omega, this]; rfl)]
  rw [show k + 1 + r.length = k + (r.length + 1) by omega, List.append_assoc]; rfl
structure LgC (c : Nat → List UInt8) (m : WL) : Prop where
 ep : m.epoch < 2 ^ 32
 home : m.home ≤ 1
 used : m.used ≤ 18
 plen : m.pages.length = 640
 dead : m.dead = false
 head : c (m.epoch % 2) = headB m.epoch m.home
 oth : ∀ e' h', candW (c (1 - m.epoch % 2)) (1 - m.epoch % 2) = some (e', h') → e' < m.epoch
 body : ∃ ps0 : List UInt8, ps0.length = 640 ∧ (∀ i, i < 16 → c (2 + 16 * m.home + i) = pageB m.epoch i ps0) ∧ recsC c m.epoch 18 0 ps0 0 [] = (m.pages, m.used)
 old : ∀ k e', k < 18 → m.epoch < e' → recStep (c (34 + k)) e' k ≠ some none
 late : ∀ k, m.used ≤ k → k < 18 → recStep (c (34 + k)) m.epoch k ≠ some none
theorem cand_head {e h : Nat} (he : e < 2 ^ 32) (hh : h ≤ 1) : candW (headB e h) (e % 2) = some (e, h) := by
 have h2 : decW 72 1 (headB e h) = some (e, [UInt8.ofNat h]) := dec_sec he rfl (by decide)
 have hk' : (UInt8.ofNat h).toNat = h := by rw [UInt8.toNat_ofNat']; exact Nat.mod_eq_of_lt (by omega)
 unfold candW
 rw [h2]
 simp only
 rw [if_pos trivial, if_pos (by omega), hk']
theorem pagesM_eq {d : DM} {x : Ext} {c : Nat → List UInt8} {e h : Nat} {ps0 : List UInt8} (hs : ∀ k, k < 52 → sec d x k = c k) (he : e < 2 ^ 32) (hh : h ≤ 1) (hl : ps0.length = 640) (hp : ∀ i, i < 16 → c (2 + 16 * h + i) = pageB e i ps0) : ∀ n i ps, i + n = 16 → ps.length = 640 → ps.take (i * 40) = ps0.take (i * 40) → wpagesM d x e h n i ps = some ps0
 | 0, i, ps, hi, hps, ht => by
  have : i = 16 := by omega
  subst this
  rw [List.take_of_length_le (by omega), List.take_of_length_le (by omega)] at ht
  rw [wpagesM, ht]
 | n + 1, i, ps, hi, hps, ht => by
  have hg := getP_len hl (i := i) (by omega)
  have hk' : (UInt8.ofNat i).toNat = i := by rw [UInt8.toNat_ofNat']; exact Nat.mod_eq_of_lt (by omega)
  have h2 : decW 80 41 (pageB e i ps0) = some (e, UInt8.ofNat i :: getP ps0 i) := dec_sec he (by simp [hg]) (by decide)
  rw [wpagesM, hs _ (by omega), hp i (by omega), h2]
  simp only
  rw [if_pos ⟨trivial, hk'⟩]
  refine pagesM_eq hs he hh hl hp n (i + 1) _ (by omega) (setP_len hps hg (by omega)) ?_
  unfold setP
  rw [← List.append_assoc, List.take_append_of_le_length (by rw [List.length_append, List.length_take, hg]; omega), List.take_of_length_le (by rw [List.length_append, List.length_take, hg]; omega), ht, take_page]
theorem LgC.opens {c : Nat → List UInt8} {m : WL} (h : LgC c m) {d : DM} {x : Ext} (hs : ∀ k, k < 52 → sec d x k = c k) : openM d x = (some m, 0) := by
 have hep := h.ep
 have hhm := h.home
 obtain ⟨ps0, hl, hp, hr⟩ := h.body
 have hacc : accW d x 2 = some (m.epoch, m.home) := by
  have e2 : accW d x 2 = pickW (pickW none (candW (sec d x 0) 0)) (candW (sec d x 1) 1) := rfl
  rw [e2, hs 0 (by decide), hs 1 (by decide)]
  have ho := h.oth
  have hh := h.head
  rcases Nat.mod_two_eq_zero_or_one m.epoch with h0 | h0
  ·rw [h0] at hh ho
   have h1 : candW (c 0) 0 = some (m.epoch, m.home) := by rw [hh, ← h0]; exact cand_head hep hhm
   rw [h1]
   cases hc : candW (c 1) 1 with
   | none => rfl
   | some p =>
    have := ho p.1 p.2 (by rw [← hc])
    simp only [pickW]
    rw [if_neg (by omega)]
  ·rw [h0] at hh ho
   have h1 : candW (c 1) 1 = some (m.epoch, m.home) := by rw [hh, ← h0]; exact cand_head hep hhm
   rw [h1]
   cases hc : candW (c 0) 0 with
   | none => rfl
   | some p =>
    have := ho p.1 p.2 (by rw [← hc])
    simp only [pickW]
    rw [if_pos (by omega)]
 unfold openM
 rw [hacc]
 simp only
 rw [pagesM_eq hs hep hhm hl hp 16 0 z640 (by decide) List.length_replicate rfl]
 simp only
 rw [recsM_eq hs 18 0 ps0 0 [] (by decide), hr]
 simp only
 obtain ⟨e, h', u, ps, dd⟩ := m
 have := h.dead
 dsimp only at this ⊢
 rw [this]
theorem recsC_congr {c c' : Nat → List UInt8} {e : Nat} (h : ∀ j, j < 18 → c' (34 + j) = c (34 + j)) : ∀ n k ps u pend, n + k ≤ 18 → recsC c' e n k ps u pend = recsC c e n k ps u pend
 | 0, k, ps, u, pend, _ => rfl
 | n + 1, k, ps, u, pend, hk => by
  rw [recsC, recsC, h k (by omega)]
  have h2 := fun ps u pend => recsC_congr (e := e) h n (k + 1) ps u pend (by omega)
  simp only [h2]
theorem LgC.home_any {c c' : Nat → List UInt8} {m : WL} (h : LgC c m) (hc : ∀ k, k < 52 → (k < 2 + 16 * (1 - m.home) ∨ 2 + 16 * (1 - m.home) + 16 ≤ k) → c' k = c k) : LgC c' m := by
 have hh := h.home
 obtain ⟨ps0, hl, hp, hr⟩ := h.body
 have h34 : ∀ j, j < 18 → c' (34 + j) = c (34 + j) := fun j hj => hc (34 + j) (by omega) (by omega)
 refine ⟨h.ep, h.home, h.used, h.plen, h.dead, ?_, ?_, ⟨ps0, hl, fun i hi => ?_, ?_⟩, fun k e' hk he => ?_, fun k h1 h2 => ?_⟩
 ·rw [hc _ (by omega) (by omega)]; exact h.head
 ·rw [hc _ (by omega) (by omega)]; exact h.oth
 ·rw [hc _ (by omega) (by omega)]; exact hp i hi
 ·rw [recsC_congr h34 18 0 _ _ _ (by decide)]; exact hr
 ·rw [h34 k hk]; exact h.old k e' hk he
 ·rw [h34 k h2]; exact h.late k h1 h2
theorem LgC.next {c c' : Nat → List UInt8} {m : WL} (h : LgC c m) (he : m.epoch ≠ 4294967295) (hp : ∀ i, i < 16 → c' (2 + 16 * (1 - m.home) + i) = pageB (m.epoch + 1) i m.pages) (hh : c' ((m.epoch + 1) % 2) = headB (m.epoch + 1) (1 - m.home)) (ho : c' (m.epoch % 2) = c (m.epoch % 2)) (h34 : ∀ j, j < 18 → c' (34 + j) = c (34 + j)) : LgC c' ⟨m.epoch + 1, 1 - m.home, 0, m.pages, false⟩ := by
 have hep := h.ep
 have hhm := h.home
 have hold : ∀ k, k < 18 → recStep (c' (34 + k)) (m.epoch + 1) k ≠ some none := fun k hk => by rw [h34 k hk]; exact h.old k _ hk (by omega)
 refine ⟨by dsimp only; omega, by dsimp only; omega, Nat.zero_le _, h.plen, rfl, hh, fun e' h' hc => ?_, ⟨m.pages, h.plen, hp, ?_⟩, fun k e' hk he => ?_, fun k _ h2 => hold k h2⟩
 ·dsimp only at hc ⊢
  have e1 : 1 - (m.epoch + 1) % 2 = m.epoch % 2 := by omega
  rw [e1, ho, h.head, cand_head hep hhm] at hc
  cases hc; omega
 ·exact recsC_end 18 0 _ _ _ (fun j _ hj => hold j (by omega))
 ·dsimp only at he
  rw [h34 k hk]; exact h.old k e' hk (by omega)
theorem LgC.recs_any {c c' : Nat → List UInt8} {m : WL} {l : List Ch} (h : LgC c m) (hl : ∀ ch ∈ l, ch.Ok) (hu : m.used + l.length + 1 ≤ 18) (hc : ∀ k, k < 52 → c' k = c k ∨ ∃ i, ∃ hi : i < l.length, k = 34 + (m.used + i) ∧ c' k = recB m.epoch (m.used + i) l[i]) : LgC c' m := by
 have hep := h.ep
 have hhm := h.home
 obtain ⟨ps0, hl0, hp, hr⟩ := h.body
 have hlo : ∀ k, k < 34 + m.used → c' k = c k := fun k hk => (hc k (by omega)).resolve_right (fun ⟨i, hi, he, _⟩ => by omega)
 have hst : ∀ k e', k < 18 → recStep (c' (34 + k)) e' k = some none → recStep (c (34 + k)) e' k = some none := fun k e' hk hs => by
  rcases hc (34 + k) (by omega) with h1 | ⟨i, hi, _, h1⟩
  ·rw [h1] at hs; exact hs
  ·rw [h1] at hs; exact absurd hs (recStep_not hep (hl _ (List.getElem_mem hi)))
 have hlate : ∀ k, m.used ≤ k → k < 18 → recStep (c' (34 + k)) m.epoch k ≠ some none := fun k h1 h2 h3 => h.late k h1 h2 (hst k _ h2 h3)
 refine ⟨h.ep, h.home, h.used, h.plen, h.dead, ?_, ?_, ⟨ps0, hl0, fun i hi => ?_, ?_⟩, fun k e' hk he h3 => h.old k e' hk he (hst k _ hk h3), hlate⟩
 ·rw [hlo _ (by omega)]; exact h.head
 ·rw [hlo _ (by omega)]; exact h.oth
 ·rw [hlo _ (by omega)]; exact hp i hi
 ·rw [recsC_keep hr (fun j hj => hlo _ (by omega)), recsC_end _ _ _ _ _ (fun j h1 h2 => hlate j h1 (by omega))]
theorem LgC.mark {c c' : Nat → List UInt8} {m : WL} {l : List Ch} (h : LgC c m) (hl : ∀ ch ∈ l, ch.Ok) (hu : m.used + l.length + 1 ≤ 18) (hr : ∀ i (hi : i < l.length), c (34 + (m.used + i)) = recB m.epoch (m.used + i) l[i]) (hm : c' (34 + (m.used + l.length)) = markB m.epoch (m.used + l.length)) (hc : ∀ k, k < 52 → k ≠ 34 + (m.used + l.length) → c' k = c k) : LgC c' ⟨m.epoch, m.home, m.used + l.length + 1, applyL m.pages l, false⟩ := by
 have hep := h.ep
 have hhm := h.home
 obtain ⟨ps0, hl0, hp, hr0⟩ := h.body
 have hlate : ∀ k, m.used + l.length + 1 ≤ k → k < 18 → recStep (c' (34 + k)) m.epoch k ≠ some none := fun k h1 h2 => by rw [hc _ (by omega) (by omega)]; exact h.late k (by omega) h2
 refine ⟨h.ep, h.home, hu, applyL_len hl h.plen, rfl, ?_, ?_, ⟨ps0, hl0, fun i hi => ?_, ?_⟩, fun k e' hk he h3 => ?_, hlate⟩
 ·dsimp only; rw [hc _ (by omega) (by omega)]; exact h.head
 ·dsimp only; rw [hc _ (by omega) (by omega)]; exact h.oth
 ·dsimp only; rw [hc _ (by omega) (by omega)]; exact hp i hi
 ·dsimp only
  rw [recsC_keep hr0 (fun j hj => hc _ (by omega) (by omega)), show 18 - m.used = l.length + ((18 - m.used - l.length - 1) + 1) by omega, recsC_recs hep l _ m.used _ _ _ hl (by omega) (fun i hi => by rw [hc _ (by omega) (by omega)]; exact hr i hi), recsC, hm, recStep_mark hep (by omega)]
  simp only [List.nil_append]
  exact recsC_end _ _ _ _ _ (fun j h1 h2 => hlate j h1 (by omega))
 ·dsimp only at he
  by_cases hk2 : k = m.used + l.length
  ·subst hk2
   rw [hm] at h3
   have := recStep_mark_e hep h3
   omega
  ·rw [hc _ (by omega) (by omega)] at h3
   exact h.old k e' hk he h3
end Go.Proofs.YtgilmcpdpggikaaGreatDoor
