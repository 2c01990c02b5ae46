/- audit: entries and their sectors, as plain data; valid, sector, entry. -/
import Derived.Test.YtbknpbihgfphaaaDoorCrOd
import Derived.Test.YtbknpbihgfphaaaDoorCrEx
set_option linter.unusedSimpArgs false
set_option linter.unusedVariables false
namespace Go.Proofs.YtbknpbihgfphaaaDoor
open Go Go.RowKit Go.Own
structure En where
  kind : Int
  part : Int
  ver : Nat
  code : Int
deriving DecidableEq
def En.cells (x : En) : List Value := [.int .i64 x.kind, .int .i64 x.part, .int .u32 (x.ver : Int), .int .i64 x.code]
def En.zero : En := ⟨0, 0, 0, 0⟩
structure En.Ok (x : En) : Prop where
  k : I64 x.kind
  p : I64 x.part
  v : x.ver < 2 ^ 32
  c : I64 x.code
def En.valid (x : En) : Bool := decide (1 ≤ x.kind ∧ x.kind ≤ 4 ∧ 0 ≤ x.part ∧ x.part < 8 ∧ 0 ≤ x.code ∧ x.code ≤ 255)
def headN (n k p v c : Nat) : List UInt8 := ((((([65] ++ putN n 4) ++ putN k 1) ++ putN p 1) ++ putN v 4) ++ putN c 1)
def contN (n k p v c : Nat) : List UInt8 := headN n k p v c ++ List.replicate 48 0
def secN (n k p v c : Nat) : List UInt8 := sealL (contN n k p v c)
def secE (n : Nat) (x : En) : List UInt8 := secN n x.kind.toNat x.part.toNat x.ver x.code.toNat
theorem headN_len (n k p v c : Nat) : (headN n k p v c).length = 12 := by simp [headN, putN_len]
theorem contN_len (n k p v c : Nat) : (contN n k p v c).length = 60 := by simp [contN, headN_len]
theorem secN_len (n k p v c : Nat) : (secN n k p v c).length = 64 := by simp [secN, sealL, contN_len, putN_len]
section
variable {s : Ro} {w : World} {R : List Asn}
theorem _root_.Go.Own.Holds.weak {s s' : Ro} {w : World} {rs : List Asn} (H : Holds s' w rs) (hs : s.Le s') : Holds s w rs := by
  obtain ⟨⟨f1, f2, f3, f4⟩, F, hF, hn⟩ := H
  have hc := hs.cst
  refine ⟨⟨fun k o h => f1 k o (hs.mem k o h), by rw [f2, hc], by rw [f3, hc], by rw [f4, hc]⟩, F, hF, fun k hk => ?_⟩
  cases hm : s.mem k with
  | none => rfl
  | some o => have := hs.mem k o hm; rw [hn k hk] at this; cases this
theorem _root_.Go.Own.Src.mono {s s' : Ro} {rs : List Asn} {v : Value} {sz n : Nat} {xs : List Value} (h : Src s rs v sz n xs) (hs : s.Le s') : Src s' rs v sz n xs :=
  ⟨fun w H => h.reads w (H.weak hs), fun hx k hk => (h.blk hx k hk).imp (fun ⟨o, ho⟩ => ⟨o, hs.mem k o ho⟩) id⟩
end
end Go.Proofs.YtbknpbihgfphaaaDoor
