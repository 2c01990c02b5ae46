/- WalConfined, walked. -/
import Derived.Test.YtbknpbihgfphaaaDoorTwWr
set_option linter.unusedSimpArgs false
set_option linter.unusedVariables false
namespace Go.Proofs.YtbknpbihgfphaaaDoor
open Go Go.RowKit Go.Own
theorem recSteps_len (e : Nat) : ∀ (l : List Ch) (k : Nat), (recSteps e k l).length = l.length + 3
  | [], _ => rfl
  | c :: r, k => by rw [recSteps, List.length_cons, recSteps_len e r, List.length_cons]
theorem recM_pend (d : DM) (x : Ext) (m : WL) (l : List Ch) : (recM d x m l).1.pend.length ≤ d.pend.length + (l.length + 3) := by
  have h := run_pend x (recSteps m.epoch m.used l) d
  rw [recSteps_len] at h
  unfold recM
  split <;> exact h
theorem commit_pend (d : DM) (x : Ext) (m : WL) (l : List Ch) : (commitM d x m l).1.pend.length ≤ d.pend.length + 40 := by
  unfold commitM
  by_cases hv : validM l = true
  · have hl := (validM_ok hv).1
    have h1 := run_pend x (homeSteps (m.epoch + 1) (1 - m.home) m.pages) d
    rw [homeSteps_len] at h1
    have h2 := recM_pend (run x (homeSteps (m.epoch + 1) (1 - m.home) m.pages) d).1 x ⟨m.epoch + 1, 1 - m.home, 0, m.pages, false⟩ l
    have h3 := recM_pend d x m l
    repeat' split
    all_goals first | omega | (simp only; omega) | (dsimp only; omega)
  · have hv' : validM l = false := by cases hq : validM l with | true => exact absurd hq hv | false => rfl
    rw [hv']
    split
    · simp
    · rw [if_pos rfl]; simp
end Go.Proofs.YtbknpbihgfphaaaDoor
