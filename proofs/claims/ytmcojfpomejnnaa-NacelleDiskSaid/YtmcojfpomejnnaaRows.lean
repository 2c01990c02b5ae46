/-
  No cell of these rows narrows 'for every input' (looked for: loops, veiled, ifaces, maps, wideKeys, modest, calm, conditions, laid).
  DERIVED. THE GIVEN ROWS OF THIS SEAT. 10 by the template 'for every input the law returns true; each argument reads behind the call as it read before'; 0 by the template 'total and deterministic' (their statements: YtmcojfpomejnnaaTotals.lean).
  GIVEN WITH THE SEED: the statements are not yours to turn. If you find one false, say at which input.
  Laid BY PROGRAM, IN A SANDBOX (cutbox-rows.mjs): the forced cells as the released guide's own fill.sh prints them over the translation 36b7b9a31854480a… (all of the seat's roots in one cut). By AI agents, Wed Nov 11 2026. No macro, syntax, notation, axiom, sorry.
-/
import Derived.Test.YtmcojfpomejnnaaChecked
import GoSem.Claim
import GoSem.ClaimJoined
import GoSem.ClaimMapViews
import Derived.JoinedTies
import Derived.KernelRfl
namespace Go.Proofs.Ytmcojfpomejnnaa
/- THE CELL 'sum', in the pinned program and in every row, IS THE sha256 OF THE DUMP (.gsa) THAT YtmcojfpomejnnaaProg.lean LOADS. Nothing in Lean hashes anything: it is a label: what it is worth is what the hold of that sum in a sandbox is worth. -/
noncomputable def Try.pinned : Pinned := { name := "ytmcojfpomejnnaa", sum := "36b7b9a31854480a9d41412c97cd41de828923f8df252b8290bb3209b1478833", checked := Try.checked }
namespace Rows
def none {H : Type} : Left H := { results := [], args := [] }

/-- 'nacelletop.NacelleDisk': WHATEVER THE INPUT: true; the input reads as it did. -/
def nacelleDiskSpec : ChangeSpec := { name := "nacelleDisk", fn := fun _ => fun
  | [d1, d2, d3] => { results := [.lit (.bool true)], args := [d1, d2, d3] }
  | _ => none }
def nacelleDiskRow : OpenClaim := { program := "ytmcojfpomejnnaa", sum := "36b7b9a31854480a9d41412c97cd41de828923f8df252b8290bb3209b1478833", func := "nacelle/nacelletop.NacelleDisk", spec := "nacelleDisk", unfollowed := true, recurses := true, apart := false }
def NacelleDiskSaid : Prop := nacelleDiskRow.holds Try.pinned (OpenSpec.ofChange nacelleDiskSpec)

/-- ITS FALSE NEIGHBOUR: 'it returns false'. Refute it at one input. -/
def nacelleDiskWrong : ChangeSpec := { name := "nacelleDisk", fn := fun _ => fun
  | [d1, d2, d3] => { results := [.lit (.bool false)], args := [d1, d2, d3] }
  | _ => none }
def NacelleDiskWrongFalsely : Prop := nacelleDiskRow.holds Try.pinned (OpenSpec.ofChange nacelleDiskWrong)

/-- 'nacellelaw15.IoschedPlays': WHATEVER THE INPUT: true; the input reads as it did. -/
def ioschedPlaysSpec : ChangeSpec := { name := "ioschedPlays", fn := fun _ => fun
  | [d1, d2] => { results := [.lit (.bool true)], args := [d1, d2] }
  | _ => none }
def ioschedPlaysRow : OpenClaim := { program := "ytmcojfpomejnnaa", sum := "36b7b9a31854480a9d41412c97cd41de828923f8df252b8290bb3209b1478833", func := "nacelle/nacellelaw15.IoschedPlays", spec := "ioschedPlays", unfollowed := true, recurses := true, apart := false }
def IoschedPlaysSaid : Prop := ioschedPlaysRow.holds Try.pinned (OpenSpec.ofChange ioschedPlaysSpec)

/-- ITS FALSE NEIGHBOUR: 'it returns false'. Refute it at one input. -/
def ioschedPlaysWrong : ChangeSpec := { name := "ioschedPlays", fn := fun _ => fun
  | [d1, d2] => { results := [.lit (.bool false)], args := [d1, d2] }
  | _ => none }
def IoschedPlaysWrongFalsely : Prop := ioschedPlaysRow.holds Try.pinned (OpenSpec.ofChange ioschedPlaysWrong)

/-- 'nacellelaw15.IoschedApart': WHATEVER THE INPUT: true; the input reads as it did. -/
def ioschedApartSpec : ChangeSpec := { name := "ioschedApart", fn := fun _ => fun
  | [d] => { results := [.lit (.bool true)], args := [d] }
  | _ => none }
def ioschedApartRow : OpenClaim := { program := "ytmcojfpomejnnaa", sum := "36b7b9a31854480a9d41412c97cd41de828923f8df252b8290bb3209b1478833", func := "nacelle/nacellelaw15.IoschedApart", spec := "ioschedApart", unfollowed := true, recurses := true, apart := false }
def IoschedApartSaid : Prop := ioschedApartRow.holds Try.pinned (OpenSpec.ofChange ioschedApartSpec)

/-- ITS FALSE NEIGHBOUR: 'it returns false'. Refute it at one input. -/
def ioschedApartWrong : ChangeSpec := { name := "ioschedApart", fn := fun _ => fun
  | [d] => { results := [.lit (.bool false)], args := [d] }
  | _ => none }
def IoschedApartWrongFalsely : Prop := ioschedApartRow.holds Try.pinned (OpenSpec.ofChange ioschedApartWrong)

/-- 'nacellelaw15.IoschedConfined': WHATEVER THE INPUT: true; the input reads as it did. -/
def ioschedConfinedSpec : ChangeSpec := { name := "ioschedConfined", fn := fun _ => fun
  | [d1, d2, d3] => { results := [.lit (.bool true)], args := [d1, d2, d3] }
  | _ => none }
def ioschedConfinedRow : OpenClaim := { program := "ytmcojfpomejnnaa", sum := "36b7b9a31854480a9d41412c97cd41de828923f8df252b8290bb3209b1478833", func := "nacelle/nacellelaw15.IoschedConfined", spec := "ioschedConfined", unfollowed := true, recurses := true, apart := false }
def IoschedConfinedSaid : Prop := ioschedConfinedRow.holds Try.pinned (OpenSpec.ofChange ioschedConfinedSpec)

/-- ITS FALSE NEIGHBOUR: 'it returns false'. Refute it at one input. -/
def ioschedConfinedWrong : ChangeSpec := { name := "ioschedConfined", fn := fun _ => fun
  | [d1, d2, d3] => { results := [.lit (.bool false)], args := [d1, d2, d3] }
  | _ => none }
def IoschedConfinedWrongFalsely : Prop := ioschedConfinedRow.holds Try.pinned (OpenSpec.ofChange ioschedConfinedWrong)

/-- 'nacellelaw15.IoschedShares': WHATEVER THE INPUT: true; the input reads as it did. -/
def ioschedSharesSpec : ChangeSpec := { name := "ioschedShares", fn := fun _ => fun
  | [d1, d2] => { results := [.lit (.bool true)], args := [d1, d2] }
  | _ => none }
def ioschedSharesRow : OpenClaim := { program := "ytmcojfpomejnnaa", sum := "36b7b9a31854480a9d41412c97cd41de828923f8df252b8290bb3209b1478833", func := "nacelle/nacellelaw15.IoschedShares", spec := "ioschedShares", unfollowed := true, recurses := true, apart := false }
def IoschedSharesSaid : Prop := ioschedSharesRow.holds Try.pinned (OpenSpec.ofChange ioschedSharesSpec)

/-- ITS FALSE NEIGHBOUR: 'it returns false'. Refute it at one input. -/
def ioschedSharesWrong : ChangeSpec := { name := "ioschedShares", fn := fun _ => fun
  | [d1, d2] => { results := [.lit (.bool false)], args := [d1, d2] }
  | _ => none }
def IoschedSharesWrongFalsely : Prop := ioschedSharesRow.holds Try.pinned (OpenSpec.ofChange ioschedSharesWrong)

/-- 'nacellelaw15.IoschedWithin': WHATEVER THE INPUT: true; the input reads as it did. -/
def ioschedWithinSpec : ChangeSpec := { name := "ioschedWithin", fn := fun _ => fun
  | [d] => { results := [.lit (.bool true)], args := [d] }
  | _ => none }
def ioschedWithinRow : OpenClaim := { program := "ytmcojfpomejnnaa", sum := "36b7b9a31854480a9d41412c97cd41de828923f8df252b8290bb3209b1478833", func := "nacelle/nacellelaw15.IoschedWithin", spec := "ioschedWithin", unfollowed := true, recurses := true, apart := false }
def IoschedWithinSaid : Prop := ioschedWithinRow.holds Try.pinned (OpenSpec.ofChange ioschedWithinSpec)

/-- ITS FALSE NEIGHBOUR: 'it returns false'. Refute it at one input. -/
def ioschedWithinWrong : ChangeSpec := { name := "ioschedWithin", fn := fun _ => fun
  | [d] => { results := [.lit (.bool false)], args := [d] }
  | _ => none }
def IoschedWithinWrongFalsely : Prop := ioschedWithinRow.holds Try.pinned (OpenSpec.ofChange ioschedWithinWrong)

/-- 'nacellelaw06.ExtentApart': WHATEVER THE INPUT: true; the input reads as it did. -/
def extentApartSpec : ChangeSpec := { name := "extentApart", fn := fun _ => fun
  | [d] => { results := [.lit (.bool true)], args := [d] }
  | _ => none }
def extentApartRow : OpenClaim := { program := "ytmcojfpomejnnaa", sum := "36b7b9a31854480a9d41412c97cd41de828923f8df252b8290bb3209b1478833", func := "nacelle/nacellelaw06.ExtentApart", spec := "extentApart", unfollowed := true, recurses := true, apart := false }
def ExtentApartSaid : Prop := extentApartRow.holds Try.pinned (OpenSpec.ofChange extentApartSpec)

/-- ITS FALSE NEIGHBOUR: 'it returns false'. Refute it at one input. -/
def extentApartWrong : ChangeSpec := { name := "extentApart", fn := fun _ => fun
  | [d] => { results := [.lit (.bool false)], args := [d] }
  | _ => none }
def ExtentApartWrongFalsely : Prop := extentApartRow.holds Try.pinned (OpenSpec.ofChange extentApartWrong)

/-- 'nacellelaw06.ExtentConfined': WHATEVER THE INPUT: true; the input reads as it did. -/
def extentConfinedSpec : ChangeSpec := { name := "extentConfined", fn := fun _ => fun
  | [d1, d2] => { results := [.lit (.bool true)], args := [d1, d2] }
  | _ => none }
def extentConfinedRow : OpenClaim := { program := "ytmcojfpomejnnaa", sum := "36b7b9a31854480a9d41412c97cd41de828923f8df252b8290bb3209b1478833", func := "nacelle/nacellelaw06.ExtentConfined", spec := "extentConfined", unfollowed := true, recurses := true, apart := false }
def ExtentConfinedSaid : Prop := extentConfinedRow.holds Try.pinned (OpenSpec.ofChange extentConfinedSpec)

/-- ITS FALSE NEIGHBOUR: 'it returns false'. Refute it at one input. -/
def extentConfinedWrong : ChangeSpec := { name := "extentConfined", fn := fun _ => fun
  | [d1, d2] => { results := [.lit (.bool false)], args := [d1, d2] }
  | _ => none }
def ExtentConfinedWrongFalsely : Prop := extentConfinedRow.holds Try.pinned (OpenSpec.ofChange extentConfinedWrong)

/-- 'nacellelaw06.ExtentNested': WHATEVER THE INPUT: true; the input reads as it did. -/
def extentNestedSpec : ChangeSpec := { name := "extentNested", fn := fun _ => fun
  | [d1, d2, d3] => { results := [.lit (.bool true)], args := [d1, d2, d3] }
  | _ => none }
def extentNestedRow : OpenClaim := { program := "ytmcojfpomejnnaa", sum := "36b7b9a31854480a9d41412c97cd41de828923f8df252b8290bb3209b1478833", func := "nacelle/nacellelaw06.ExtentNested", spec := "extentNested", unfollowed := true, recurses := true, apart := false }
def ExtentNestedSaid : Prop := extentNestedRow.holds Try.pinned (OpenSpec.ofChange extentNestedSpec)

/-- ITS FALSE NEIGHBOUR: 'it returns false'. Refute it at one input. -/
def extentNestedWrong : ChangeSpec := { name := "extentNested", fn := fun _ => fun
  | [d1, d2, d3] => { results := [.lit (.bool false)], args := [d1, d2, d3] }
  | _ => none }
def ExtentNestedWrongFalsely : Prop := extentNestedRow.holds Try.pinned (OpenSpec.ofChange extentNestedWrong)

/-- 'nacellelaw06.ExtentPlays': WHATEVER THE INPUT: true; the input reads as it did. -/
def extentPlaysSpec : ChangeSpec := { name := "extentPlays", fn := fun _ => fun
  | [d1, d2] => { results := [.lit (.bool true)], args := [d1, d2] }
  | _ => none }
def extentPlaysRow : OpenClaim := { program := "ytmcojfpomejnnaa", sum := "36b7b9a31854480a9d41412c97cd41de828923f8df252b8290bb3209b1478833", func := "nacelle/nacellelaw06.ExtentPlays", spec := "extentPlays", unfollowed := true, recurses := true, apart := false }
def ExtentPlaysSaid : Prop := extentPlaysRow.holds Try.pinned (OpenSpec.ofChange extentPlaysSpec)

/-- ITS FALSE NEIGHBOUR: 'it returns false'. Refute it at one input. -/
def extentPlaysWrong : ChangeSpec := { name := "extentPlays", fn := fun _ => fun
  | [d1, d2] => { results := [.lit (.bool false)], args := [d1, d2] }
  | _ => none }
def ExtentPlaysWrongFalsely : Prop := extentPlaysRow.holds Try.pinned (OpenSpec.ofChange extentPlaysWrong)

/- THE SECOND FORM. 'bulk': how many values and letters a reading holds, each counted each time it is reached (what is shared counts as often as it is met; a slice's spare places count too). A statement '..UptoSaid' is the law's where the arguments, and the package variables that the reading takes, are together of bulk at most 1048576: NARROWER than '..Said'. Prove '..Said' where nothing that the law and all that it calls make is longer than what came in: it says more and counts as full. Else prove '..UptoSaid'. A law counts once. -/
mutual
def uptoBulk {H : Type} : DataW H → Nat
  | .lit (.string bytes) => bytes.length + 1
  | .lit _ => 1
  | .nil => 1
  | .ptr d => uptoBulk d + 1
  | .slice elems spare => uptoBulkAll elems + uptoBulkAll spare + 1
  | .agg parts => uptoBulkAll parts + 1
  | .iface _ d => uptoBulk d + 1
  | .map entries => uptoBulkEntries entries + 1
  | .held _ => 1
def uptoBulkAll {H : Type} : List (DataW H) → Nat
  | [] => 0
  | d :: r => uptoBulk d + uptoBulkAll r
def uptoBulkEntries {H : Type} : List (Lit × DataW H) → Nat
  | [] => 0
  | x :: r => uptoBulkEntry x + uptoBulkEntries r
def uptoBulkEntry {H : Type} : Lit × DataW H → Nat
  | (.string bytes, d) => bytes.length + uptoBulk d + 1
  | (_, d) => uptoBulk d + 1
 end
def uptoSmall : (H : Type) → List (DataW H) → Bool := fun _ ds => decide (uptoBulkAll ds ≤ 1048576)
def OpenSpec.upto (s : _root_.Go.ChangeSpec) : _root_.Go.OpenSpec := { _root_.Go.OpenSpec.ofChange s with cond := some uptoSmall }

/-- 'nacelletop.NacelleDisk', WHERE WHAT IT READS IS OF BULK AT MOST 1048576: true; the input reads as it did. -/
def nacelleDiskUptoRow : OpenClaim := { program := "ytmcojfpomejnnaa", sum := "36b7b9a31854480a9d41412c97cd41de828923f8df252b8290bb3209b1478833", func := "nacelle/nacelletop.NacelleDisk", spec := "nacelleDisk", unfollowed := true, recurses := true, apart := false, narrowed := true }
def NacelleDiskUptoSaid : Prop := nacelleDiskUptoRow.holds Try.pinned (OpenSpec.upto nacelleDiskSpec)

/-- 'nacellelaw15.IoschedPlays', WHERE WHAT IT READS IS OF BULK AT MOST 1048576: true; the input reads as it did. -/
def ioschedPlaysUptoRow : OpenClaim := { program := "ytmcojfpomejnnaa", sum := "36b7b9a31854480a9d41412c97cd41de828923f8df252b8290bb3209b1478833", func := "nacelle/nacellelaw15.IoschedPlays", spec := "ioschedPlays", unfollowed := true, recurses := true, apart := false, narrowed := true }
def IoschedPlaysUptoSaid : Prop := ioschedPlaysUptoRow.holds Try.pinned (OpenSpec.upto ioschedPlaysSpec)

/-- 'nacellelaw15.IoschedApart', WHERE WHAT IT READS IS OF BULK AT MOST 1048576: true; the input reads as it did. -/
def ioschedApartUptoRow : OpenClaim := { program := "ytmcojfpomejnnaa", sum := "36b7b9a31854480a9d41412c97cd41de828923f8df252b8290bb3209b1478833", func := "nacelle/nacellelaw15.IoschedApart", spec := "ioschedApart", unfollowed := true, recurses := true, apart := false, narrowed := true }
def IoschedApartUptoSaid : Prop := ioschedApartUptoRow.holds Try.pinned (OpenSpec.upto ioschedApartSpec)

/-- 'nacellelaw15.IoschedConfined', WHERE WHAT IT READS IS OF BULK AT MOST 1048576: true; the input reads as it did. -/
def ioschedConfinedUptoRow : OpenClaim := { program := "ytmcojfpomejnnaa", sum := "36b7b9a31854480a9d41412c97cd41de828923f8df252b8290bb3209b1478833", func := "nacelle/nacellelaw15.IoschedConfined", spec := "ioschedConfined", unfollowed := true, recurses := true, apart := false, narrowed := true }
def IoschedConfinedUptoSaid : Prop := ioschedConfinedUptoRow.holds Try.pinned (OpenSpec.upto ioschedConfinedSpec)

/-- 'nacellelaw15.IoschedShares', WHERE WHAT IT READS IS OF BULK AT MOST 1048576: true; the input reads as it did. -/
def ioschedSharesUptoRow : OpenClaim := { program := "ytmcojfpomejnnaa", sum := "36b7b9a31854480a9d41412c97cd41de828923f8df252b8290bb3209b1478833", func := "nacelle/nacellelaw15.IoschedShares", spec := "ioschedShares", unfollowed := true, recurses := true, apart := false, narrowed := true }
def IoschedSharesUptoSaid : Prop := ioschedSharesUptoRow.holds Try.pinned (OpenSpec.upto ioschedSharesSpec)

/-- 'nacellelaw15.IoschedWithin', WHERE WHAT IT READS IS OF BULK AT MOST 1048576: true; the input reads as it did. -/
def ioschedWithinUptoRow : OpenClaim := { program := "ytmcojfpomejnnaa", sum := "36b7b9a31854480a9d41412c97cd41de828923f8df252b8290bb3209b1478833", func := "nacelle/nacellelaw15.IoschedWithin", spec := "ioschedWithin", unfollowed := true, recurses := true, apart := false, narrowed := true }
def IoschedWithinUptoSaid : Prop := ioschedWithinUptoRow.holds Try.pinned (OpenSpec.upto ioschedWithinSpec)

/-- 'nacellelaw06.ExtentApart', WHERE WHAT IT READS IS OF BULK AT MOST 1048576: true; the input reads as it did. -/
def extentApartUptoRow : OpenClaim := { program := "ytmcojfpomejnnaa", sum := "36b7b9a31854480a9d41412c97cd41de828923f8df252b8290bb3209b1478833", func := "nacelle/nacellelaw06.ExtentApart", spec := "extentApart", unfollowed := true, recurses := true, apart := false, narrowed := true }
def ExtentApartUptoSaid : Prop := extentApartUptoRow.holds Try.pinned (OpenSpec.upto extentApartSpec)

/-- 'nacellelaw06.ExtentConfined', WHERE WHAT IT READS IS OF BULK AT MOST 1048576: true; the input reads as it did. -/
def extentConfinedUptoRow : OpenClaim := { program := "ytmcojfpomejnnaa", sum := "36b7b9a31854480a9d41412c97cd41de828923f8df252b8290bb3209b1478833", func := "nacelle/nacellelaw06.ExtentConfined", spec := "extentConfined", unfollowed := true, recurses := true, apart := false, narrowed := true }
def ExtentConfinedUptoSaid : Prop := extentConfinedUptoRow.holds Try.pinned (OpenSpec.upto extentConfinedSpec)

/-- 'nacellelaw06.ExtentNested', WHERE WHAT IT READS IS OF BULK AT MOST 1048576: true; the input reads as it did. -/
def extentNestedUptoRow : OpenClaim := { program := "ytmcojfpomejnnaa", sum := "36b7b9a31854480a9d41412c97cd41de828923f8df252b8290bb3209b1478833", func := "nacelle/nacellelaw06.ExtentNested", spec := "extentNested", unfollowed := true, recurses := true, apart := false, narrowed := true }
def ExtentNestedUptoSaid : Prop := extentNestedUptoRow.holds Try.pinned (OpenSpec.upto extentNestedSpec)

/-- 'nacellelaw06.ExtentPlays', WHERE WHAT IT READS IS OF BULK AT MOST 1048576: true; the input reads as it did. -/
def extentPlaysUptoRow : OpenClaim := { program := "ytmcojfpomejnnaa", sum := "36b7b9a31854480a9d41412c97cd41de828923f8df252b8290bb3209b1478833", func := "nacelle/nacellelaw06.ExtentPlays", spec := "extentPlays", unfollowed := true, recurses := true, apart := false, narrowed := true }
def ExtentPlaysUptoSaid : Prop := extentPlaysUptoRow.holds Try.pinned (OpenSpec.upto extentPlaysSpec)

end Rows
end Go.Proofs.Ytmcojfpomejnnaa
