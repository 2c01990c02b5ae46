/- octet's Reader. -/
import Derived.Test.YtbknpbihgfphaaaDoorCrCr
import Derived.Test.YtbknpbihgfphaaaDoorCrTy2
set_option linter.unusedSimpArgs false
set_option linter.unusedVariables false
namespace Go.Proofs.YtbknpbihgfphaaaDoor
open Go Go.RowKit Go.Own
section
variable {P : Program} {n : Nat} {ops : Array Oper} {Q : Post} {rest : List Oper} {e : Env} {w : World} {tt : Nat} {pp : String} {af : Array Edge} {g : Option (Nat × Bool)} {d : Nat}
/-- x[l:h] of a slice -/
theorem midK {t el : TypeId} {x lo hi : Operand} {a : Option Addr} {m c sz by_ l h' : Nat} {zz : List Value} {k k' : IntKind} {il ih : Int} [E : ElC P t el sz by_ zz] (hw : wg n ops g e = true) (hd : Nat.blt d n = true) (hx : ev e x = .slice a m c) (hlo : ev e lo = .int k il) (hhi : ev e hi = .int k' ih) (hl : il = (l : Int)) (hh : ih = (h' : Int)) (h1 : l ≤ h') (h2 : h' ≤ c) (h : L P n ops Q rest (upd e d (.slice (subAddr a c l sz) (h' - l) (c - l))) w) : L P n ops Q (⟨some d, .slice t x (some lo) (some hi) none, tt, pp, af, g⟩ :: rest) e w := by
  obtain ⟨v, E', _⟩ := E.el
  obtain ⟨inf, i1, i2, i3, i4⟩ := E'.info
  refine L.val (o := ⟨some d, .slice t x (some lo) (some hi) none, tt, pp, af, g⟩) _ w hw hd (run_v (sm := Instr.sliceAt t (ev e x) (some (ev e lo)) (some (ev e hi)) none) rfl ?_) h
  rw [hx, hlo, hhi]
  simp [Instr.sliceAt, run_underlying E'.slice, Instr.slice, Instr.sliceBounds, Own.run_sliceBound hl h1, Own.run_sliceBound hh h2, sizeOf, typeInfo, i1, i3, subAddr]
end
section
variable {s : Ro} {w : World} {R : List Asn}
/-- a reader at block g: the bytes, and how far -/
structure Rdr (s : Ro) (a : Option Addr) (c : Nat) (l : List UInt8) : Prop where
  sl : SlS s (.slice a l.length c) 1 l.length (u8s l)
  few : l.length ≤ 1000
theorem Rdr.mono {s s' : Ro} {a : Option Addr} {c : Nat} {l : List UInt8} (h : Rdr s a c l) (hs : s.Le s') : Rdr s' a c l := ⟨h.sl.mono hs, h.few⟩
end
end Go.Proofs.YtbknpbihgfphaaaDoor
