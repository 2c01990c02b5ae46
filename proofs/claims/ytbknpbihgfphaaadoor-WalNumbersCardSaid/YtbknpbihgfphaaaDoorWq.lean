/- WalNumbers, walked. -/
import Derived.Test.YtbknpbihgfphaaaDoorWp
import Derived.Test.YtbknpbihgfphaaaDoorAr
set_option linter.unusedSimpArgs false
set_option linter.unusedVariables false
namespace Go.Proofs.YtbknpbihgfphaaaDoor
open Go Go.RowKit Go.Own

set_option maxRecDepth 100000 in
set_option maxHeartbeats 1000000 in
theorem numbers_rdg {w : World} (hN : Nib (startRo w)) : Calls Tryd.prog 6 #[] w fun e w' => e = .returned (.bool true) ∧ Only [] w w' := by
  have H := Holds.start w
  refine Calls.mono (R := fun e w' => e = .returned (.bool true) ∧ Fin (startRo w) w') ?_ (fun e w' h => ⟨h.1, h.2.only⟩)
  refine enter Tryd.func6 rfl Tryd.ntmps6 rfl ?_
  repeat' (first | refine Z H ?_ | (refine Zc ?_ ?_ <;> intro hc <;> first | (exfalso; omega) | skip) | (refine Y ?_; try change C _ _ _ _ _ _) | (refine Zs H ?_; clear H; (try clear w); intro w H) | (refine Zn H ?_; clear H; (try clear w); intro _ w H) | (refine Ze H ?_; clear H; (try clear w); intro gv w H))
  (refine X.call (awake16 hN H) ?_; (try clear H); rintro _ w ⟨s1, rfl, hs1, H⟩; refine ⟨_, rfl, ?_⟩)
  repeat' (first | refine Z H ?_ | (refine Zc ?_ ?_ <;> intro hc <;> first | (exfalso; omega) | skip) | (refine Y ?_; try change C _ _ _ _ _ _) | (refine Zs H ?_; clear H; (try clear w); intro w H) | (refine Zn H ?_; clear H; (try clear w); intro _ w H) | (refine Ze H ?_; clear H; (try clear w); intro gv w H))
  exact ⟨_, resT rfl, rfl, H.done hs1⟩
end Go.Proofs.YtbknpbihgfphaaaDoor
