/- The arguments of the tree's laws: a list of ops, a tree. law17.Played, walked: a tree behind ops is well formed. -/
import Derived.Test.YtlchnabnhimlcaaTlLj
import Derived.Test.YtlchnabnhimlcaaTlK8f
set_option linter.unusedSimpArgs false
set_option linter.unusedVariables false
namespace Go.Proofs.Ytlchnabnhimlcaa
open Go Go.RowKit Go.Own
open Go.ChangeShapes Go.WideShapes Go.ChangeAt
set_option maxRecDepth 100000 in
theorem op_of {w : World} (cs : List Value) (hl : cs.length = Try.prog.cellsOf 26) (h : Rdg Try.prog w 26 cs) : ∃ x : OpM, x.cells = cs ∧ OpOk (startRo w) x := by
  have hl6 : cs.length = 6 := hl.trans (by kernel_rfl)
  match cs, hl6 with
  | [c0, c1, c2, c3, c4, c5], _ =>
    have f0 : Rdg Try.prog w 3 [c0] := rdg_field Try.underlying26 h 0 3 0 1 rfl (by kernel_rfl)
    have f1 : Rdg Try.prog w 9 [c1] := rdg_field Try.underlying26 h 1 9 1 1 rfl (by kernel_rfl)
    have f2 : Rdg Try.prog w 9 [c2] := rdg_field Try.underlying26 h 2 9 2 1 rfl (by kernel_rfl)
    have f3 : Rdg Try.prog w 3 [c3] := rdg_field Try.underlying26 h 3 3 3 1 rfl (by kernel_rfl)
    have f4 : Rdg Try.prog w 3 [c4] := rdg_field Try.underlying26 h 4 3 4 1 rfl (by kernel_rfl)
    have f5 : Rdg Try.prog w 24 [c5] := rdg_field Try.underlying26 h 5 24 5 1 rfl (by kernel_rfl)
    obtain ⟨n0, e0, w0⟩ := rdg_int Try.underlying3 f0
    obtain ⟨s1, e1, w1⟩ := rdg_str Try.underlying9 f1
    obtain ⟨s2, e2, w2⟩ := rdg_str Try.underlying9 f2
    obtain ⟨n3, e3, w3⟩ := rdg_int Try.underlying3 f3
    obtain ⟨n4, e4, w4⟩ := rdg_int Try.underlying3 f4
    obtain ⟨b, k1, k2⟩ := rdg_u8s Try.underlying24 Try.underlying5 (by kernel_rfl) (by kernel_rfl) f5
    have hS := SlS.start k1
    obtain ⟨va, vc, hv, _⟩ := formS hS
    cases e0; cases e1; cases e2; cases e3; cases e4
    subst hv
    exact ⟨⟨n0, s1, s2, n3, n4, b, va, vc⟩, rfl, Nat.le_trans w1 reach_le2, Nat.le_trans w2 reach_le2, Nat.le_trans k2 reach_le2, hS⟩
theorem ops_of {w : World} {v : Value} (h : Rdg Try.prog w 23 [v]) : ∃ l : List OpM, SlS (startRo w) v 6 l.length (l.flatMap OpM.cells) ∧ ∀ a ∈ l, OpOk (startRo w) a := by
  obtain ⟨acts, ha1, ha2, _⟩ := rdg_list OpM.cells (OpOk (startRo w)) Try.underlying23 (by rw [show Try.prog.cellsOf 26 = 6 by kernel_rfl]; decide) (fun cs' hl h => op_of cs' hl h) h
  rw [show Try.prog.cellsOf 26 = 6 by kernel_rfl] at ha1
  exact ⟨acts, SlS.start ha1, fun a h => (ha2 a h).1⟩
end Go.Proofs.Ytlchnabnhimlcaa
set_option linter.unusedSimpArgs false
set_option linter.unusedVariables false
namespace Go.Proofs.Ytlchnabnhimlcaa
open Go Go.RowKit Go.Own
section
variable {w : World} {s : Ro} {R : List Asn}
end
end Go.Proofs.Ytlchnabnhimlcaa
