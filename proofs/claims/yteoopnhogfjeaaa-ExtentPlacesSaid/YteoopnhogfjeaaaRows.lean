/-
  No cell of these rows narrows 'for every input' (looked for: loops, veiled, ifaces, maps, wideKeys, modest, calm, conditions, laid).
  DERIVED. THE GIVEN ROWS OF THIS SEAT. 9 by the template 'for every input the law returns true; each argument reads behind the call as it read before'; 0 by the template 'total and deterministic' (their statements: YteoopnhogfjeaaaTotals.lean).
  GIVEN WITH THE SEED: the statements are not yours to turn. If you find one false, say at which input.
  Laid BY PROGRAM, IN A SANDBOX (cutbox-rows.mjs): the forced cells as the released guide's own fill.sh prints them over the translation ce451f3d1e2cb67d… (all of the seat's roots in one cut). By AI agents, Wed Nov 11 2026. No macro, syntax, notation, axiom, sorry.
-/
import Derived.Test.YteoopnhogfjeaaaChecked
import GoSem.Claim
import GoSem.ClaimJoined
import GoSem.ClaimMapViews
import Derived.JoinedTies
import Derived.KernelRfl
namespace Go.Proofs.Yteoopnhogfjeaaa
/- THE CELL 'sum', in the pinned program and in every row, IS THE sha256 OF THE DUMP (.gsa) THAT YteoopnhogfjeaaaProg.lean LOADS. Nothing in Lean hashes anything: it is a label: what it is worth is what the hold of that sum in a sandbox is worth. -/
noncomputable def Try.pinned : Pinned := { name := "yteoopnhogfjeaaa", sum := "ce451f3d1e2cb67d0b748d5a05526bbe526055e601699a049248ef1dd8479bf2", checked := Try.checked }
namespace Rows
def none {H : Type} : Left H := { results := [], args := [] }

/-- 'nacellelaw05.DiskSizes': WHATEVER THE INPUT: true; the input reads as it did. -/
def diskSizesSpec : ChangeSpec := { name := "diskSizes", fn := fun _ => fun
  | [d] => { results := [.lit (.bool true)], args := [d] }
  | _ => none }
def diskSizesRow : OpenClaim := { program := "yteoopnhogfjeaaa", sum := "ce451f3d1e2cb67d0b748d5a05526bbe526055e601699a049248ef1dd8479bf2", func := "nacelle/nacellelaw05.DiskSizes", spec := "diskSizes", apart := false }
def DiskSizesSaid : Prop := diskSizesRow.holds Try.pinned (OpenSpec.ofChange diskSizesSpec)

/-- ITS FALSE NEIGHBOUR: 'it returns false'. Refute it at one input. -/
def diskSizesWrong : ChangeSpec := { name := "diskSizes", fn := fun _ => fun
  | [d] => { results := [.lit (.bool false)], args := [d] }
  | _ => none }
def DiskSizesWrongFalsely : Prop := diskSizesRow.holds Try.pinned (OpenSpec.ofChange diskSizesWrong)

/-- 'nacellelaw05.DiskArmed': WHATEVER THE INPUT: true; the input reads as it did. -/
def diskArmedSpec : ChangeSpec := { name := "diskArmed", fn := fun _ => fun
  | [d1, d2, d3] => { results := [.lit (.bool true)], args := [d1, d2, d3] }
  | _ => none }
def diskArmedRow : OpenClaim := { program := "yteoopnhogfjeaaa", sum := "ce451f3d1e2cb67d0b748d5a05526bbe526055e601699a049248ef1dd8479bf2", func := "nacelle/nacellelaw05.DiskArmed", spec := "diskArmed", apart := false }
def DiskArmedSaid : Prop := diskArmedRow.holds Try.pinned (OpenSpec.ofChange diskArmedSpec)

/-- ITS FALSE NEIGHBOUR: 'it returns false'. Refute it at one input. -/
def diskArmedWrong : ChangeSpec := { name := "diskArmed", fn := fun _ => fun
  | [d1, d2, d3] => { results := [.lit (.bool false)], args := [d1, d2, d3] }
  | _ => none }
def DiskArmedWrongFalsely : Prop := diskArmedRow.holds Try.pinned (OpenSpec.ofChange diskArmedWrong)

/-- 'nacellelaw05.DiskFlushes': WHATEVER THE INPUT: true; the input reads as it did. -/
def diskFlushesSpec : ChangeSpec := { name := "diskFlushes", fn := fun _ => fun
  | [d1, d2] => { results := [.lit (.bool true)], args := [d1, d2] }
  | _ => none }
def diskFlushesRow : OpenClaim := { program := "yteoopnhogfjeaaa", sum := "ce451f3d1e2cb67d0b748d5a05526bbe526055e601699a049248ef1dd8479bf2", func := "nacelle/nacellelaw05.DiskFlushes", spec := "diskFlushes", apart := false }
def DiskFlushesSaid : Prop := diskFlushesRow.holds Try.pinned (OpenSpec.ofChange diskFlushesSpec)

/-- ITS FALSE NEIGHBOUR: 'it returns false'. Refute it at one input. -/
def diskFlushesWrong : ChangeSpec := { name := "diskFlushes", fn := fun _ => fun
  | [d1, d2] => { results := [.lit (.bool false)], args := [d1, d2] }
  | _ => none }
def DiskFlushesWrongFalsely : Prop := diskFlushesRow.holds Try.pinned (OpenSpec.ofChange diskFlushesWrong)

/-- 'nacellelaw06.ExtentApart': WHATEVER THE INPUT: true; the input reads as it did. -/
def extentApartSpec : ChangeSpec := { name := "extentApart", fn := fun _ => fun
  | [d] => { results := [.lit (.bool true)], args := [d] }
  | _ => none }
def extentApartRow : OpenClaim := { program := "yteoopnhogfjeaaa", sum := "ce451f3d1e2cb67d0b748d5a05526bbe526055e601699a049248ef1dd8479bf2", func := "nacelle/nacellelaw06.ExtentApart", spec := "extentApart", unfollowed := true, recurses := true, apart := false }
def ExtentApartSaid : Prop := extentApartRow.holds Try.pinned (OpenSpec.ofChange extentApartSpec)

/-- ITS FALSE NEIGHBOUR: 'it returns false'. Refute it at one input. -/
def extentApartWrong : ChangeSpec := { name := "extentApart", fn := fun _ => fun
  | [d] => { results := [.lit (.bool false)], args := [d] }
  | _ => none }
def ExtentApartWrongFalsely : Prop := extentApartRow.holds Try.pinned (OpenSpec.ofChange extentApartWrong)

/-- 'nacelletop.NacelleDisk': WHATEVER THE INPUT: true; the input reads as it did. -/
def nacelleDiskSpec : ChangeSpec := { name := "nacelleDisk", fn := fun _ => fun
  | [d1, d2, d3] => { results := [.lit (.bool true)], args := [d1, d2, d3] }
  | _ => none }
def nacelleDiskRow : OpenClaim := { program := "yteoopnhogfjeaaa", sum := "ce451f3d1e2cb67d0b748d5a05526bbe526055e601699a049248ef1dd8479bf2", func := "nacelle/nacelletop.NacelleDisk", spec := "nacelleDisk", unfollowed := true, recurses := true, apart := false }
def NacelleDiskSaid : Prop := nacelleDiskRow.holds Try.pinned (OpenSpec.ofChange nacelleDiskSpec)

/-- ITS FALSE NEIGHBOUR: 'it returns false'. Refute it at one input. -/
def nacelleDiskWrong : ChangeSpec := { name := "nacelleDisk", fn := fun _ => fun
  | [d1, d2, d3] => { results := [.lit (.bool false)], args := [d1, d2, d3] }
  | _ => none }
def NacelleDiskWrongFalsely : Prop := nacelleDiskRow.holds Try.pinned (OpenSpec.ofChange nacelleDiskWrong)

/-- 'nacellelaw06.ExtentPlaces': WHATEVER THE INPUT: true; the input reads as it did. -/
def extentPlacesSpec : ChangeSpec := { name := "extentPlaces", fn := fun _ => fun
  | [d] => { results := [.lit (.bool true)], args := [d] }
  | _ => none }
def extentPlacesRow : OpenClaim := { program := "yteoopnhogfjeaaa", sum := "ce451f3d1e2cb67d0b748d5a05526bbe526055e601699a049248ef1dd8479bf2", func := "nacelle/nacellelaw06.ExtentPlaces", spec := "extentPlaces", unfollowed := true, recurses := true, apart := false }
def ExtentPlacesSaid : Prop := extentPlacesRow.holds Try.pinned (OpenSpec.ofChange extentPlacesSpec)

/-- ITS FALSE NEIGHBOUR: 'it returns false'. Refute it at one input. -/
def extentPlacesWrong : ChangeSpec := { name := "extentPlaces", fn := fun _ => fun
  | [d] => { results := [.lit (.bool false)], args := [d] }
  | _ => none }
def ExtentPlacesWrongFalsely : Prop := extentPlacesRow.holds Try.pinned (OpenSpec.ofChange extentPlacesWrong)

/-- 'nacellelaw06.ExtentConfined': WHATEVER THE INPUT: true; the input reads as it did. -/
def extentConfinedSpec : ChangeSpec := { name := "extentConfined", fn := fun _ => fun
  | [d1, d2] => { results := [.lit (.bool true)], args := [d1, d2] }
  | _ => none }
def extentConfinedRow : OpenClaim := { program := "yteoopnhogfjeaaa", sum := "ce451f3d1e2cb67d0b748d5a05526bbe526055e601699a049248ef1dd8479bf2", func := "nacelle/nacellelaw06.ExtentConfined", spec := "extentConfined", unfollowed := true, recurses := true, apart := false }
def ExtentConfinedSaid : Prop := extentConfinedRow.holds Try.pinned (OpenSpec.ofChange extentConfinedSpec)

/-- ITS FALSE NEIGHBOUR: 'it returns false'. Refute it at one input. -/
def extentConfinedWrong : ChangeSpec := { name := "extentConfined", fn := fun _ => fun
  | [d1, d2] => { results := [.lit (.bool false)], args := [d1, d2] }
  | _ => none }
def ExtentConfinedWrongFalsely : Prop := extentConfinedRow.holds Try.pinned (OpenSpec.ofChange extentConfinedWrong)

/-- 'nacellelaw06.ExtentNested': WHATEVER THE INPUT: true; the input reads as it did. -/
def extentNestedSpec : ChangeSpec := { name := "extentNested", fn := fun _ => fun
  | [d1, d2, d3] => { results := [.lit (.bool true)], args := [d1, d2, d3] }
  | _ => none }
def extentNestedRow : OpenClaim := { program := "yteoopnhogfjeaaa", sum := "ce451f3d1e2cb67d0b748d5a05526bbe526055e601699a049248ef1dd8479bf2", func := "nacelle/nacellelaw06.ExtentNested", spec := "extentNested", unfollowed := true, recurses := true, apart := false }
def ExtentNestedSaid : Prop := extentNestedRow.holds Try.pinned (OpenSpec.ofChange extentNestedSpec)

/-- ITS FALSE NEIGHBOUR: 'it returns false'. Refute it at one input. -/
def extentNestedWrong : ChangeSpec := { name := "extentNested", fn := fun _ => fun
  | [d1, d2, d3] => { results := [.lit (.bool false)], args := [d1, d2, d3] }
  | _ => none }
def ExtentNestedWrongFalsely : Prop := extentNestedRow.holds Try.pinned (OpenSpec.ofChange extentNestedWrong)

/-- 'nacellelaw06.ExtentPlays': WHATEVER THE INPUT: true; the input reads as it did. -/
def extentPlaysSpec : ChangeSpec := { name := "extentPlays", fn := fun _ => fun
  | [d1, d2] => { results := [.lit (.bool true)], args := [d1, d2] }
  | _ => none }
def extentPlaysRow : OpenClaim := { program := "yteoopnhogfjeaaa", sum := "ce451f3d1e2cb67d0b748d5a05526bbe526055e601699a049248ef1dd8479bf2", func := "nacelle/nacellelaw06.ExtentPlays", spec := "extentPlays", unfollowed := true, recurses := true, apart := false }
def ExtentPlaysSaid : Prop := extentPlaysRow.holds Try.pinned (OpenSpec.ofChange extentPlaysSpec)

/-- ITS FALSE NEIGHBOUR: 'it returns false'. Refute it at one input. -/
def extentPlaysWrong : ChangeSpec := { name := "extentPlays", fn := fun _ => fun
  | [d1, d2] => { results := [.lit (.bool false)], args := [d1, d2] }
  | _ => none }
def ExtentPlaysWrongFalsely : Prop := extentPlaysRow.holds Try.pinned (OpenSpec.ofChange extentPlaysWrong)

/- THE SECOND FORM. 'bulk': how many values and letters a reading holds, each counted each time it is reached (what is shared counts as often as it is met; a slice's spare places count too). A statement '..UptoSaid' is the law's where the arguments, and the package variables that the reading takes, are together of bulk at most 1048576: NARROWER than '..Said'. Prove '..Said' where nothing that the law and all that it calls make is longer than what came in: it says more and counts as full. Else prove '..UptoSaid'. A law counts once. -/
mutual
def uptoBulk {H : Type} : DataW H → Nat
  | .lit (.string bytes) => bytes.length + 1
  | .lit _ => 1
  | .nil => 1
  | .ptr d => uptoBulk d + 1
  | .slice elems spare => uptoBulkAll elems + uptoBulkAll spare + 1
  | .agg parts => uptoBulkAll parts + 1
  | .iface _ d => uptoBulk d + 1
  | .map entries => uptoBulkEntries entries + 1
  | .held _ => 1
def uptoBulkAll {H : Type} : List (DataW H) → Nat
  | [] => 0
  | d :: r => uptoBulk d + uptoBulkAll r
def uptoBulkEntries {H : Type} : List (Lit × DataW H) → Nat
  | [] => 0
  | x :: r => uptoBulkEntry x + uptoBulkEntries r
def uptoBulkEntry {H : Type} : Lit × DataW H → Nat
  | (.string bytes, d) => bytes.length + uptoBulk d + 1
  | (_, d) => uptoBulk d + 1
 end
def uptoSmall : (H : Type) → List (DataW H) → Bool := fun _ ds => decide (uptoBulkAll ds ≤ 1048576)
def OpenSpec.upto (s : _root_.Go.ChangeSpec) : _root_.Go.OpenSpec := { _root_.Go.OpenSpec.ofChange s with cond := some uptoSmall }

/-- 'nacellelaw05.DiskSizes', WHERE WHAT IT READS IS OF BULK AT MOST 1048576: true; the input reads as it did. -/
def diskSizesUptoRow : OpenClaim := { program := "yteoopnhogfjeaaa", sum := "ce451f3d1e2cb67d0b748d5a05526bbe526055e601699a049248ef1dd8479bf2", func := "nacelle/nacellelaw05.DiskSizes", spec := "diskSizes", apart := false, narrowed := true }
def DiskSizesUptoSaid : Prop := diskSizesUptoRow.holds Try.pinned (OpenSpec.upto diskSizesSpec)

/-- 'nacellelaw05.DiskArmed', WHERE WHAT IT READS IS OF BULK AT MOST 1048576: true; the input reads as it did. -/
def diskArmedUptoRow : OpenClaim := { program := "yteoopnhogfjeaaa", sum := "ce451f3d1e2cb67d0b748d5a05526bbe526055e601699a049248ef1dd8479bf2", func := "nacelle/nacellelaw05.DiskArmed", spec := "diskArmed", apart := false, narrowed := true }
def DiskArmedUptoSaid : Prop := diskArmedUptoRow.holds Try.pinned (OpenSpec.upto diskArmedSpec)

/-- 'nacellelaw05.DiskFlushes', WHERE WHAT IT READS IS OF BULK AT MOST 1048576: true; the input reads as it did. -/
def diskFlushesUptoRow : OpenClaim := { program := "yteoopnhogfjeaaa", sum := "ce451f3d1e2cb67d0b748d5a05526bbe526055e601699a049248ef1dd8479bf2", func := "nacelle/nacellelaw05.DiskFlushes", spec := "diskFlushes", apart := false, narrowed := true }
def DiskFlushesUptoSaid : Prop := diskFlushesUptoRow.holds Try.pinned (OpenSpec.upto diskFlushesSpec)

/-- 'nacellelaw06.ExtentApart', WHERE WHAT IT READS IS OF BULK AT MOST 1048576: true; the input reads as it did. -/
def extentApartUptoRow : OpenClaim := { program := "yteoopnhogfjeaaa", sum := "ce451f3d1e2cb67d0b748d5a05526bbe526055e601699a049248ef1dd8479bf2", func := "nacelle/nacellelaw06.ExtentApart", spec := "extentApart", unfollowed := true, recurses := true, apart := false, narrowed := true }
def ExtentApartUptoSaid : Prop := extentApartUptoRow.holds Try.pinned (OpenSpec.upto extentApartSpec)

/-- 'nacelletop.NacelleDisk', WHERE WHAT IT READS IS OF BULK AT MOST 1048576: true; the input reads as it did. -/
def nacelleDiskUptoRow : OpenClaim := { program := "yteoopnhogfjeaaa", sum := "ce451f3d1e2cb67d0b748d5a05526bbe526055e601699a049248ef1dd8479bf2", func := "nacelle/nacelletop.NacelleDisk", spec := "nacelleDisk", unfollowed := true, recurses := true, apart := false, narrowed := true }
def NacelleDiskUptoSaid : Prop := nacelleDiskUptoRow.holds Try.pinned (OpenSpec.upto nacelleDiskSpec)

/-- 'nacellelaw06.ExtentPlaces', WHERE WHAT IT READS IS OF BULK AT MOST 1048576: true; the input reads as it did. -/
def extentPlacesUptoRow : OpenClaim := { program := "yteoopnhogfjeaaa", sum := "ce451f3d1e2cb67d0b748d5a05526bbe526055e601699a049248ef1dd8479bf2", func := "nacelle/nacellelaw06.ExtentPlaces", spec := "extentPlaces", unfollowed := true, recurses := true, apart := false, narrowed := true }
def ExtentPlacesUptoSaid : Prop := extentPlacesUptoRow.holds Try.pinned (OpenSpec.upto extentPlacesSpec)

/-- 'nacellelaw06.ExtentConfined', WHERE WHAT IT READS IS OF BULK AT MOST 1048576: true; the input reads as it did. -/
def extentConfinedUptoRow : OpenClaim := { program := "yteoopnhogfjeaaa", sum := "ce451f3d1e2cb67d0b748d5a05526bbe526055e601699a049248ef1dd8479bf2", func := "nacelle/nacellelaw06.ExtentConfined", spec := "extentConfined", unfollowed := true, recurses := true, apart := false, narrowed := true }
def ExtentConfinedUptoSaid : Prop := extentConfinedUptoRow.holds Try.pinned (OpenSpec.upto extentConfinedSpec)

/-- 'nacellelaw06.ExtentNested', WHERE WHAT IT READS IS OF BULK AT MOST 1048576: true; the input reads as it did. -/
def extentNestedUptoRow : OpenClaim := { program := "yteoopnhogfjeaaa", sum := "ce451f3d1e2cb67d0b748d5a05526bbe526055e601699a049248ef1dd8479bf2", func := "nacelle/nacellelaw06.ExtentNested", spec := "extentNested", unfollowed := true, recurses := true, apart := false, narrowed := true }
def ExtentNestedUptoSaid : Prop := extentNestedUptoRow.holds Try.pinned (OpenSpec.upto extentNestedSpec)

/-- 'nacellelaw06.ExtentPlays', WHERE WHAT IT READS IS OF BULK AT MOST 1048576: true; the input reads as it did. -/
def extentPlaysUptoRow : OpenClaim := { program := "yteoopnhogfjeaaa", sum := "ce451f3d1e2cb67d0b748d5a05526bbe526055e601699a049248ef1dd8479bf2", func := "nacelle/nacellelaw06.ExtentPlays", spec := "extentPlays", unfollowed := true, recurses := true, apart := false, narrowed := true }
def ExtentPlaysUptoSaid : Prop := extentPlaysUptoRow.holds Try.pinned (OpenSpec.upto extentPlaysSpec)

end Rows
end Go.Proofs.Yteoopnhogfjeaaa
