/- The acts of layer 6's laws among the arguments. -/
import Derived.Test.YtmcojfpomejnnaaEx
import Derived.Test.YtmcojfpomejnnaaAr
set_option linter.unusedSimpArgs false
set_option linter.unusedVariables false
namespace Go.Proofs.Ytmcojfpomejnnaa
open Go Go.RowKit Go.Own
open Go.ChangeShapes Go.WideShapes Go.ChangeAt

set_option maxRecDepth 100000 in
theorem act6_of {w : World} (cs : List Value) (hl : cs.length = Try.prog.cellsOf 113) (h : Rdg Try.prog w 113 cs) : ∃ x : Act6, x.cells = cs ∧ x.Ok (startRo w) := by
  have hl5 : cs.length = 5 := hl.trans (by kernel_rfl)
  match cs, hl5 with
  | [c0, c1, c2, c3, c4], _ =>
    have f0 : Rdg Try.prog w 3 [c0] := rdg_field Try.underlying113 h 0 3 0 1 rfl (by kernel_rfl)
    have f1 : Rdg Try.prog w 3 [c1] := rdg_field Try.underlying113 h 1 3 1 1 rfl (by kernel_rfl)
    have f2 : Rdg Try.prog w 3 [c2] := rdg_field Try.underlying113 h 2 3 2 1 rfl (by kernel_rfl)
    have f3 : Rdg Try.prog w 5 [c3] := rdg_field Try.underlying113 h 3 5 3 1 rfl (by kernel_rfl)
    have f4 : Rdg Try.prog w 24 [c4] := rdg_field Try.underlying113 h 4 24 4 1 rfl (by kernel_rfl)
    obtain ⟨n0, e0, w0⟩ := rdg_int Try.underlying3 f0
    obtain ⟨n1, e1, w1⟩ := rdg_int Try.underlying3 f1
    obtain ⟨n2, e2, w2⟩ := rdg_int Try.underlying3 f2
    obtain ⟨n3, e3, w3⟩ := rdg_int Try.underlying5 f3
    obtain ⟨x3, hx3⟩ := wf_u8 w3
    obtain ⟨kp, k1, k2⟩ := rdg_bools Try.underlying24 Try.underlying4 (by kernel_rfl) (by kernel_rfl) f4
    cases e0; cases e1; cases e2; cases e3
    exact ⟨⟨n0, n1, n2, x3, c4, kp⟩, by unfold Act6.cells; rw [hx3], SlS.start k1, Nat.le_trans k2 reach_le, wf_i64 w0, wf_i64 w1, wf_i64 w2⟩
theorem acts6_of {w : World} {v : Value} (h : Rdg Try.prog w 107 [v]) : ∃ l : List Act6, SlS (startRo w) v 5 l.length (l.flatMap Act6.cells) ∧ ∀ a ∈ l, a.Ok (startRo w) := by
  obtain ⟨acts, ha1, ha2, _⟩ := rdg_list Act6.cells (Act6.Ok (startRo w)) Try.underlying107 (by rw [show Try.prog.cellsOf 113 = 5 by kernel_rfl]; decide) (fun cs' hl h => act6_of cs' hl h) h
  rw [show Try.prog.cellsOf 113 = 5 by kernel_rfl] at ha1
  exact ⟨acts, SlS.start ha1, fun a h => (ha2 a h).1⟩
theorem exts_of {w : World} {v : Value} (h : Rdg Try.prog w 34 [v]) : ∃ l : List Ext, SlS (startRo w) v 2 l.length (l.flatMap Ext.cells) ∧ ∀ a ∈ l, a.ok := by
  obtain ⟨acts, ha1, ha2, _⟩ := rdg_list Ext.cells Ext.ok Try.underlying34 (by rw [show Try.prog.cellsOf 33 = 2 by kernel_rfl]; decide) (fun cs' hl h => ext_of cs' hl h) h
  rw [show Try.prog.cellsOf 33 = 2 by kernel_rfl] at ha1
  exact ⟨acts, SlS.start ha1, fun a h => (ha2 a h).1⟩
end Go.Proofs.Ytmcojfpomejnnaa
