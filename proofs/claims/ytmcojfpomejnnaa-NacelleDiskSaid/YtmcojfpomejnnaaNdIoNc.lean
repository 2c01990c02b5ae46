/- NacelleDisk, over its arguments as they are read. -/
import Derived.Test.YtmcojfpomejnnaaNdIoNb
set_option linter.unusedSimpArgs false
set_option linter.unusedVariables false
namespace Go.Proofs.Ytmcojfpomejnnaa
open Go Go.RowKit Go.Own
theorem ndisk_rdg {w : World} {v0 v1 v2 : Value} (g0 : Rdg Try.prog w 22 [v0]) (g1 : Rdg Try.prog w 23 [v1]) (g2 : Rdg Try.prog w 24 [v2]) : Calls Try.prog 3 #[v0, v1, v2] w fun e w' => e = .returned (.bool true) ∧ Only [] w w' := by
  obtain ⟨ls, l1, _, _⟩ := rdg_ints Try.underlying22 Try.underlying3 (by kernel_rfl) g0
  obtain ⟨l, h1, h2⟩ := acts15_of g1
  obtain ⟨kp, k1, k2⟩ := rdg_bools Try.underlying24 Try.underlying4 (by kernel_rfl) (by kernel_rfl) g2
  exact (ndisk_walk (Holds.start w) (SlS.start l1) h1 h2 (SlS.start k1)).mono fun e w' h => ⟨h.1, h.2.only⟩
end Go.Proofs.Ytmcojfpomejnnaa
