/- law16: pages, walked. -/
import Derived.Test.YtbknpbihgfphaaaDoorCrWr
set_option linter.unusedSimpArgs false
set_option linter.unusedVariables false
namespace Go.Proofs.YtbknpbihgfphaaaDoor
open Go Go.RowKit Go.Own
section
variable {s : Ro} {w : World} {R : List Asn}
theorem take_page {ps : List UInt8} {i : Nat} : ps.take (i * 40) ++ getP ps i = ps.take ((i + 1) * 40) := by
  unfold getP
  rw [show (i + 1) * 40 = i * 40 + 40 by omega, List.take_add]
set_option maxRecDepth 100000 in
set_option maxHeartbeats 1000000 in
theorem pages_s {bL bp e h u : Nat} {ps : List UInt8} {dd : Bool} (H : Holds s w (logW bL bp e h u ps dd :: R)) (hl : ps.length = 640) : Calls Tryd.prog 48 #[.pointer (some ⟨bL, 0, none⟩)] w fun y w' => y = .returned (.string (bst ps)) ∧ Holds s w' (logW bL bp e h u ps dd :: R) := by
  refine enter Tryd.func48 rfl Tryd.ntmps48 rfl ?_
  repeat' (first | refine Z H ?_ | (refine Zc ?_ ?_ <;> intro hc <;> first | (exfalso; omega) | skip) | (refine Y ?_; try change C _ _ _ _ _ _) | (refine Zs H ?_; clear H; (try clear w); intro w H) | (refine Zn H ?_; clear H; (try clear w); intro _ w H) | (refine Ze H ?_; clear H; (try clear w); intro gv w H))
  refine C.loopS [3, 4, 5, 6, 7, 8, 9, 10, 11, 12, 13, 14, 15, 16, 17, 18, 19, 20] [3, 4] rfl (fun k vs w => ∃ i : Nat, k = 16 - i ∧ i ≤ 16 ∧ vs = [.string (bst (ps.take (i * 40))), .int .i64 (i : Int)] ∧ Holds s w (logW bL bp e h u ps dd :: R)) 16 ⟨0, rfl, Nat.zero_le _, rfl, H⟩ ?_
  clear H
  rintro k vs hv w ⟨i, rfl, hi, rfl, H⟩
  by_cases hlt : i < 16
  · repeat' (first | refine Z H ?_ | (refine Zc ?_ ?_ <;> intro hc <;> first | (exfalso; omega) | skip) | (refine Y ?_; try change C _ _ _ _ _ _) | (refine Zs H ?_; clear H; (try clear w); intro w H) | (refine Zn H ?_; clear H; (try clear w); intro _ w H) | (refine Ze H ?_; clear H; (try clear w); intro gv w H))
    have hg := getP_len hl hlt
    (refine X.call (Page_l (n := i) H hl hlt) ?_; (try clear H); rintro _ w ⟨g, rfl, H⟩; refine ⟨_, rfl, ?_⟩)
    have hsz : (bst (ps.take (i * 40))).size + (bst (getP ps i)).size ≤ 9223372036854775807 := by rw [bst_size, bst_size, hg, List.length_take]; omega
    repeat' (first | (refine X.stro H ?_) | (refine J.cat (a := bst (ps.take (i * 40))) (b := bst (getP ps i)) ?_ (hl := hsz); rw [bst_app, take_page]) | refine Z H ?_ | (refine Zc ?_ ?_ <;> intro hc <;> first | (exfalso; omega) | skip) | (refine Y ?_; try change C _ _ _ _ _ _) | (refine Zs H ?_; clear H; (try clear w); intro w H) | (refine Zn H ?_; clear H; (try clear w); intro _ w H) | (refine Ze H ?_; clear H; (try clear w); intro gv w H))
    exact ⟨by (repeat (first | exact Agr.refl | exact Agr.hav | refine Agr.upd rfl ?_ | refine Agr.in rfl ?_)), 16 - (i + 1), by omega, i + 1, rfl, by omega, rfl, H.tail⟩
  · have hie : i = 16 := by omega
    subst hie
    rw [List.take_of_length_le (by omega)]
    repeat' (first | refine Z H ?_ | (refine Zc ?_ ?_ <;> intro hc <;> first | (exfalso; omega) | skip) | (refine Y ?_; try change C _ _ _ _ _ _) | (refine Zs H ?_; clear H; (try clear w); intro w H) | (refine Zn H ?_; clear H; (try clear w); intro _ w H) | (refine Ze H ?_; clear H; (try clear w); intro gv w H))
    exact ⟨_, resT rfl, rfl, H⟩
end
end Go.Proofs.YtbknpbihgfphaaaDoor
