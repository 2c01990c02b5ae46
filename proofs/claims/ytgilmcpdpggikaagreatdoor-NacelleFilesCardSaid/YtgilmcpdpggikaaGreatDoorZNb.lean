/- Squeezed copy of the texts Nb. -/
import Derived.Test.YtgilmcpdpggikaaGreatDoorZNa
set_option maxRecDepth 100000
set_option maxHeartbeats 1000000
set_option linter.unusedSimpArgs false
set_option linter.unusedVariables false
namespace Go.Proofs.YtgilmcpdpggikaaGreatDoor
open Go Go.RowKit Go.Own
open Go.ChangeShapes Go.WideShapes Go.ChangeAt
structure AD where
 which : Bool
 k : Int
 file : Int
 data : Str
 a : Option Addr
 c : Nat
 arm : Int
 kv : Value
 keep : List Bool
def AD.cells (x : AD) : List Value := [.bool x.which, .int .i64 x.k, .int .i64 x.file, .slice x.a x.data.length x.c, .int .i64 x.arm, x.kv]
structure AD.Ok (s : Ro) (x : AD) : Prop where
 dl : x.data.length ≤ 140737488355328
 sl : SlS s (.slice x.a x.data.length x.c) 1 x.data.length (u8s x.data)
 keep : SlS s x.kv 1 x.keep.length (x.keep.map Value.bool)
 klen : x.keep.length ≤ 140737488351232
 hf : I64 x.file
 hn : I64 x.arm
theorem AD.Ok.mono {s s' : Ro} {x : AD} (h : x.Ok s) (hs : s.Le s') : x.Ok s' := ⟨h.dl, h.sl.mono hs, h.keep.mono hs, h.klen, h.hf, h.hn⟩
theorem ad_of {w : World} (cs : List Value) (hl : cs.length = Tryz.prog.cellsOf 92) (h : Rdg Tryz.prog w 92 cs) : ∃ x : AD, x.cells = cs ∧ x.Ok (startRo w) := by
 have hl6 : cs.length = 6 := hl.trans (by kernel_rfl)
 match cs, hl6 with
 | [c0, c1, c2, c3, c4, c5], _ =>
  have f0 : Rdg Tryz.prog w 4 [c0] := rdg_field Tryz.underlying92 h 0 4 0 1 rfl (by kernel_rfl)
  have f1 : Rdg Tryz.prog w 3 [c1] := rdg_field Tryz.underlying92 h 1 3 1 1 rfl (by kernel_rfl)
  have f2 : Rdg Tryz.prog w 3 [c2] := rdg_field Tryz.underlying92 h 2 3 2 1 rfl (by kernel_rfl)
  have f3 : Rdg Tryz.prog w 30 [c3] := rdg_field Tryz.underlying92 h 3 30 3 1 rfl (by kernel_rfl)
  have f4 : Rdg Tryz.prog w 3 [c4] := rdg_field Tryz.underlying92 h 4 3 4 1 rfl (by kernel_rfl)
  have f5 : Rdg Tryz.prog w 49 [c5] := rdg_field Tryz.underlying92 h 5 49 5 1 rfl (by kernel_rfl)
  obtain ⟨b0, e0⟩ := rdg_bool Tryz.underlying4 f0
  obtain ⟨n1, e1, w1⟩ := rdg_int Tryz.underlying3 f1
  obtain ⟨n2, e2, w2⟩ := rdg_int Tryz.underlying3 f2
  obtain ⟨n4, e4, w4⟩ := rdg_int Tryz.underlying3 f4
  obtain ⟨b, k1, k2⟩ := rdg_u8s Tryz.underlying30 Tryz.underlying5 (by kernel_rfl) (by kernel_rfl) f3
  obtain ⟨kp, j1, j2⟩ := rdg_bools Tryz.underlying49 Tryz.underlying4 (by kernel_rfl) (by kernel_rfl) f5
  have hS := SlS.start k1
  obtain ⟨va, vc, hv, _⟩ := formS hS
  cases e0; cases e1; cases e2; cases e4
  subst hv
  exact ⟨⟨b0, n1, n2, b, va, vc, n4, c5, kp⟩, rfl, Nat.le_trans k2 reach_le2, hS, SlS.start j1, Nat.le_trans j2 reach_le, wf_i64 w2, wf_i64 w4⟩
theorem ads_of {w : World} {v : Value} (h : Rdg Tryz.prog w 80 [v]) : ∃ l : List AD, SlS (startRo w) v 6 l.length (l.flatMap AD.cells) ∧ ∀ a ∈ l, a.Ok (startRo w) := by
 obtain ⟨acts, ha1, ha2, _⟩ := rdg_list AD.cells (AD.Ok (startRo w)) Tryz.underlying80 (by rw [show Tryz.prog.cellsOf 92 = 6 by kernel_rfl]; decide) (fun cs' hl h => ad_of cs' hl h) h
 rw [show Tryz.prog.cellsOf 92 = 6 by kernel_rfl] at ha1
 exact ⟨acts, SlS.start ha1, fun a h => (ha2 a h).1⟩
end Go.Proofs.YtgilmcpdpggikaaGreatDoor
