/- Squeezed copy of the texts Pk. -/
import Derived.Test.YtgilmcpdpggikaaGreatDoorCPj
set_option maxRecDepth 100000
set_option maxHeartbeats 1000000
set_option linter.unusedSimpArgs false
set_option linter.unusedVariables false
namespace Go.Proofs.YtgilmcpdpggikaaGreatDoor
open Go Go.RowKit Go.Own
open Go.ChangeShapes Go.WideShapes Go.ChangeAt
theorem act18_of {w : World} (cs : List Value) (hl : cs.length = Tryz.prog.cellsOf 51) (h : Rdg Tryz.prog w 51 cs) : ∃ x : A18, x.cells = cs ∧ x.Ok (startRo w) := by
 have hl7 : cs.length = 7 := hl.trans (by kernel_rfl)
 match cs, hl7 with
 | [c0, c1, c2, c3, c4, c5, c6], _ =>
  have f0 : Rdg Tryz.prog w 3 [c0] := rdg_field Tryz.underlying51 h 0 3 0 1 rfl (by kernel_rfl)
  have f1 : Rdg Tryz.prog w 9 [c1] := rdg_field Tryz.underlying51 h 1 9 1 1 rfl (by kernel_rfl)
  have f2 : Rdg Tryz.prog w 9 [c2] := rdg_field Tryz.underlying51 h 2 9 2 1 rfl (by kernel_rfl)
  have f3 : Rdg Tryz.prog w 3 [c3] := rdg_field Tryz.underlying51 h 3 3 3 1 rfl (by kernel_rfl)
  have f4 : Rdg Tryz.prog w 3 [c4] := rdg_field Tryz.underlying51 h 4 3 4 1 rfl (by kernel_rfl)
  have f5 : Rdg Tryz.prog w 30 [c5] := rdg_field Tryz.underlying51 h 5 30 5 1 rfl (by kernel_rfl)
  have f6 : Rdg Tryz.prog w 49 [c6] := rdg_field Tryz.underlying51 h 6 49 6 1 rfl (by kernel_rfl)
  obtain ⟨n0, e0, w0⟩ := rdg_int Tryz.underlying3 f0
  obtain ⟨s1, e1, w1⟩ := rdg_str Tryz.underlying9 f1
  obtain ⟨s2, e2, w2⟩ := rdg_str Tryz.underlying9 f2
  obtain ⟨n3, e3, w3⟩ := rdg_int Tryz.underlying3 f3
  obtain ⟨n4, e4, w4⟩ := rdg_int Tryz.underlying3 f4
  obtain ⟨b, k1, k2⟩ := rdg_u8s Tryz.underlying30 Tryz.underlying5 (by kernel_rfl) (by kernel_rfl) f5
  obtain ⟨kp, j1, j2⟩ := rdg_bools Tryz.underlying49 Tryz.underlying4 (by kernel_rfl) (by kernel_rfl) f6
  have hS := SlS.start k1
  obtain ⟨va, vc, hv, _⟩ := formS hS
  cases e0; cases e1; cases e2; cases e3; cases e4
  subst hv
  exact ⟨⟨n0, s1, s2, n3, n4, b, va, vc, c6, kp⟩, rfl, Nat.le_trans k2 reach_le2, hS, SlS.start j1, Nat.le_trans j2 reach_le, wf_i64 w3⟩
theorem acts18_of {w : World} {v : Value} (h : Rdg Tryz.prog w 22 [v]) : ∃ l : List A18, SlS (startRo w) v 7 l.length (l.flatMap A18.cells) ∧ ∀ a ∈ l, a.Ok (startRo w) := by
 obtain ⟨acts, ha1, ha2, _⟩ := rdg_list A18.cells (A18.Ok (startRo w)) Tryz.underlying22 (by rw [show Tryz.prog.cellsOf 51 = 7 by kernel_rfl]; decide) (fun cs' hl h => act18_of cs' hl h) h
 rw [show Tryz.prog.cellsOf 51 = 7 by kernel_rfl] at ha1
 exact ⟨acts, SlS.start ha1, fun a h => (ha2 a h).1⟩
section
variable {w : World} {s : Ro} {R : List Asn}
end
end Go.Proofs.YtgilmcpdpggikaaGreatDoor
