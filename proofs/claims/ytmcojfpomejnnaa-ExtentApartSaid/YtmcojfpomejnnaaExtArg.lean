/- An extent among the arguments. -/
import Derived.Test.YtmcojfpomejnnaaExtA
import Derived.Test.YtmcojfpomejnnaaArgs
set_option linter.unusedSimpArgs false
set_option linter.unusedVariables false
namespace Go.Proofs.Ytmcojfpomejnnaa
open Go Go.RowKit Go.Own
open Go.ChangeShapes Go.WideShapes Go.ChangeAt

theorem rdg_field {P : Program} {w : World} {t : TypeId} {cs : List Value} {fs : Array Field} (hu : P.underlying t = some (.struct fs)) (h : Rdg P w t cs) (j : Nat) (ft : TypeId) (off sz : Nat) (hf : (fs[j]?).map (fun f => (f.type, f.offset)) = some (ft, off)) (hs : P.cellsOf ft = sz) : Rdg P w ft ((cs.drop off).take sz) := by
  obtain ⟨_, h2⟩ := rdg_struct hu h
  rw [Option.map_eq_some_iff] at hf
  obtain ⟨f, h3, h4⟩ := hf
  cases h4
  have := h2 j f h3
  rwa [hs] at this

set_option maxRecDepth 100000 in
theorem ext_of {w : World} (cs : List Value) (hl : cs.length = Try.prog.cellsOf 33) (h : Rdg Try.prog w 33 cs) : ∃ x : Ext, x.cells = cs ∧ x.ok := by
  have hl2 : cs.length = 2 := hl.trans (by kernel_rfl)
  match cs, hl2 with
  | [c0, c1], _ =>
    have f0 : Rdg Try.prog w 3 [c0] := rdg_field Try.underlying33 h 0 3 0 1 rfl (by kernel_rfl)
    have f1 : Rdg Try.prog w 3 [c1] := rdg_field Try.underlying33 h 1 3 1 1 rfl (by kernel_rfl)
    obtain ⟨n0, e0, w0⟩ := rdg_int Try.underlying3 f0
    obtain ⟨n1, e1, w1⟩ := rdg_int Try.underlying3 f1
    cases e0; cases e1
    exact ⟨(n0, n1), rfl, wf_i64 w0, wf_i64 w1⟩
theorem reach_le : reachBytes ≤ 140737488351232 := by decide
end Go.Proofs.Ytmcojfpomejnnaa
