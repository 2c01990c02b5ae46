/-
  NARROWER THAN 'FOR EVERY INPUT', by the rows' own cells (each row's printed sentence says how): PfsFiles: laid · PfsRefused: laid · PfsQuota: laid · PfsKept: laid · PfsCrashes: laid · NacelleFiles: laid.
  DERIVED. THE GIVEN ROWS OF THIS SEAT. 6 by the template 'for every input the law returns true; each argument reads behind the call as it read before'; 0 by the template 'total and deterministic' (their statements: YtgilmcpdpggikaaGreatDoorTotals.lean).
  GIVEN WITH THE SEED: the statements are not yours to turn. If you find one false, say at which input.
  Laid BY PROGRAM, IN A SANDBOX (cutbox-rows.mjs): the forced cells as the released guide's own fill.sh prints them over the translation 69218ef833e6c428… (all of the seat's roots in one cut). By AI agents, Wed Nov 11 2026. No macro, syntax, notation, axiom, sorry.
-/
import Derived.Test.YtgilmcpdpggikaaGreatDoorChecked
import GoSem.Claim
import GoSem.ClaimJoined
import GoSem.ClaimMapViews
import Derived.JoinedTies
import Derived.KernelRfl
namespace Go.Proofs.YtgilmcpdpggikaaGreatDoor
/- THE CELL 'sum', in the pinned program and in every row, IS THE sha256 OF THE DUMP (.gsa) THAT YtgilmcpdpggikaaGreatDoorProg.lean LOADS. Nothing in Lean hashes anything: it is a label: what it is worth is what the hold of that sum in a sandbox is worth. -/
noncomputable def Tryz.pinned : Pinned := { name := "ytgilmcpdpggikaagreatdoor", sum := "69218ef833e6c4287166db058c21b1de0e1c9774bb6c82cbebf6ddcccb9219f8", checked := Tryz.checked }
namespace Rows
def none {H : Type} : Left H := { results := [], args := [] }

/- WHAT THE LISTED PACKAGE-LEVEL VARIABLES READ AS WHEN THE CALL BEGINS. Each datum BY PROGRAM (the guide's laid-datum.mjs) off the statement by which the dump's own 'gosem.cut.vars' lays the variable. In a bare row this is a premise. The card (YtgilmcpdpggikaaGreatDoorCards.lean) ties it to the program's text. -/
def laid_nacelle_crc_nibbles {H : Type} : DataW H := .agg [.lit (.int .u32 0), .lit (.int .u32 274646895), .lit (.int .u32 549293790), .lit (.int .u32 820201905), .lit (.int .u32 1098587580), .lit (.int .u32 1361435347), .lit (.int .u32 1640403810), .lit (.int .u32 1905808397), .lit (.int .u32 2197175160), .lit (.int .u32 2460548119), .lit (.int .u32 2722870694), .lit (.int .u32 2987750089), .lit (.int .u32 3280807620), .lit (.int .u32 3553878443), .lit (.int .u32 3811616794), .lit (.int .u32 4084100981)]

/-- 'nacellelaw18.PfsFiles': WHATEVER THE INPUT: true; the input reads as it did. -/
def pfsFilesSpec : ChangeSpec := { name := "pfsFiles", fn := fun _ => fun
  | [d] => { results := [.lit (.bool true)], args := [d] }
  | _ => none }
def pfsFilesRow : OpenClaim := { program := "ytgilmcpdpggikaagreatdoor", sum := "69218ef833e6c4287166db058c21b1de0e1c9774bb6c82cbebf6ddcccb9219f8", func := "nacelle/nacellelaw18.PfsFiles", spec := "pfsFiles", inPlace := ["internal/bytealg.IndexByteString", "internal/bytealg.IndexString"], unfollowed := true, recurses := true, named := ["nacelle/crc.nibbles", "internal/bytealg.MaxLen"], plainKeys := false, apart := false, laid := [("nacelle/crc.nibbles", laid_nacelle_crc_nibbles)] }
def PfsFilesSaid : Prop := pfsFilesRow.holds Tryz.pinned (OpenSpec.ofChange pfsFilesSpec)

/-- ITS FALSE NEIGHBOUR: 'it returns false'. Refute it at one input. -/
def pfsFilesWrong : ChangeSpec := { name := "pfsFiles", fn := fun _ => fun
  | [d] => { results := [.lit (.bool false)], args := [d] }
  | _ => none }
def PfsFilesWrongFalsely : Prop := pfsFilesRow.holds Tryz.pinned (OpenSpec.ofChange pfsFilesWrong)

/-- 'nacellelaw18.PfsRefused': WHATEVER THE INPUT: true; the input reads as it did. -/
def pfsRefusedSpec : ChangeSpec := { name := "pfsRefused", fn := fun _ => fun
  | [d1, d2] => { results := [.lit (.bool true)], args := [d1, d2] }
  | _ => none }
def pfsRefusedRow : OpenClaim := { program := "ytgilmcpdpggikaagreatdoor", sum := "69218ef833e6c4287166db058c21b1de0e1c9774bb6c82cbebf6ddcccb9219f8", func := "nacelle/nacellelaw18.PfsRefused", spec := "pfsRefused", inPlace := ["internal/bytealg.IndexByteString", "internal/bytealg.IndexString"], unfollowed := true, recurses := true, named := ["nacelle/crc.nibbles", "internal/bytealg.MaxLen"], plainKeys := false, apart := false, laid := [("nacelle/crc.nibbles", laid_nacelle_crc_nibbles)] }
def PfsRefusedSaid : Prop := pfsRefusedRow.holds Tryz.pinned (OpenSpec.ofChange pfsRefusedSpec)

/-- ITS FALSE NEIGHBOUR: 'it returns false'. Refute it at one input. -/
def pfsRefusedWrong : ChangeSpec := { name := "pfsRefused", fn := fun _ => fun
  | [d1, d2] => { results := [.lit (.bool false)], args := [d1, d2] }
  | _ => none }
def PfsRefusedWrongFalsely : Prop := pfsRefusedRow.holds Tryz.pinned (OpenSpec.ofChange pfsRefusedWrong)

/-- 'nacellelaw18.PfsQuota': WHATEVER THE INPUT: true; the input reads as it did. -/
def pfsQuotaSpec : ChangeSpec := { name := "pfsQuota", fn := fun _ => fun
  | [d1, d2, d3] => { results := [.lit (.bool true)], args := [d1, d2, d3] }
  | _ => none }
def pfsQuotaRow : OpenClaim := { program := "ytgilmcpdpggikaagreatdoor", sum := "69218ef833e6c4287166db058c21b1de0e1c9774bb6c82cbebf6ddcccb9219f8", func := "nacelle/nacellelaw18.PfsQuota", spec := "pfsQuota", inPlace := ["internal/bytealg.IndexByteString", "internal/bytealg.IndexString"], unfollowed := true, recurses := true, named := ["nacelle/crc.nibbles", "internal/bytealg.MaxLen"], plainKeys := false, apart := false, laid := [("nacelle/crc.nibbles", laid_nacelle_crc_nibbles)] }
def PfsQuotaSaid : Prop := pfsQuotaRow.holds Tryz.pinned (OpenSpec.ofChange pfsQuotaSpec)

/-- ITS FALSE NEIGHBOUR: 'it returns false'. Refute it at one input. -/
def pfsQuotaWrong : ChangeSpec := { name := "pfsQuota", fn := fun _ => fun
  | [d1, d2, d3] => { results := [.lit (.bool false)], args := [d1, d2, d3] }
  | _ => none }
def PfsQuotaWrongFalsely : Prop := pfsQuotaRow.holds Tryz.pinned (OpenSpec.ofChange pfsQuotaWrong)

/-- 'nacellelaw18.PfsKept': WHATEVER THE INPUT: true; the input reads as it did. -/
def pfsKeptSpec : ChangeSpec := { name := "pfsKept", fn := fun _ => fun
  | [d1, d2] => { results := [.lit (.bool true)], args := [d1, d2] }
  | _ => none }
def pfsKeptRow : OpenClaim := { program := "ytgilmcpdpggikaagreatdoor", sum := "69218ef833e6c4287166db058c21b1de0e1c9774bb6c82cbebf6ddcccb9219f8", func := "nacelle/nacellelaw18.PfsKept", spec := "pfsKept", inPlace := ["internal/bytealg.IndexByteString", "internal/bytealg.IndexString"], unfollowed := true, recurses := true, named := ["nacelle/crc.nibbles", "internal/bytealg.MaxLen"], plainKeys := false, apart := false, laid := [("nacelle/crc.nibbles", laid_nacelle_crc_nibbles)] }
def PfsKeptSaid : Prop := pfsKeptRow.holds Tryz.pinned (OpenSpec.ofChange pfsKeptSpec)

/-- ITS FALSE NEIGHBOUR: 'it returns false'. Refute it at one input. -/
def pfsKeptWrong : ChangeSpec := { name := "pfsKept", fn := fun _ => fun
  | [d1, d2] => { results := [.lit (.bool false)], args := [d1, d2] }
  | _ => none }
def PfsKeptWrongFalsely : Prop := pfsKeptRow.holds Tryz.pinned (OpenSpec.ofChange pfsKeptWrong)

/-- 'nacellelaw18.PfsCrashes': WHATEVER THE INPUT: true; the input reads as it did. -/
def pfsCrashesSpec : ChangeSpec := { name := "pfsCrashes", fn := fun _ => fun
  | [d] => { results := [.lit (.bool true)], args := [d] }
  | _ => none }
def pfsCrashesRow : OpenClaim := { program := "ytgilmcpdpggikaagreatdoor", sum := "69218ef833e6c4287166db058c21b1de0e1c9774bb6c82cbebf6ddcccb9219f8", func := "nacelle/nacellelaw18.PfsCrashes", spec := "pfsCrashes", inPlace := ["internal/bytealg.IndexByteString", "internal/bytealg.IndexString"], unfollowed := true, recurses := true, named := ["nacelle/crc.nibbles", "internal/bytealg.MaxLen"], plainKeys := false, apart := false, laid := [("nacelle/crc.nibbles", laid_nacelle_crc_nibbles)] }
def PfsCrashesSaid : Prop := pfsCrashesRow.holds Tryz.pinned (OpenSpec.ofChange pfsCrashesSpec)

/-- ITS FALSE NEIGHBOUR: 'it returns false'. Refute it at one input. -/
def pfsCrashesWrong : ChangeSpec := { name := "pfsCrashes", fn := fun _ => fun
  | [d] => { results := [.lit (.bool false)], args := [d] }
  | _ => none }
def PfsCrashesWrongFalsely : Prop := pfsCrashesRow.holds Tryz.pinned (OpenSpec.ofChange pfsCrashesWrong)

/-- 'nacelletop.NacelleFiles': WHATEVER THE INPUT: true; the input reads as it did. -/
def nacelleFilesSpec : ChangeSpec := { name := "nacelleFiles", fn := fun _ => fun
  | [d] => { results := [.lit (.bool true)], args := [d] }
  | _ => none }
def nacelleFilesRow : OpenClaim := { program := "ytgilmcpdpggikaagreatdoor", sum := "69218ef833e6c4287166db058c21b1de0e1c9774bb6c82cbebf6ddcccb9219f8", func := "nacelle/nacelletop.NacelleFiles", spec := "nacelleFiles", inPlace := ["internal/bytealg.IndexByteString", "internal/bytealg.IndexString"], unfollowed := true, recurses := true, named := ["nacelle/crc.nibbles", "internal/bytealg.MaxLen"], plainKeys := false, apart := false, laid := [("nacelle/crc.nibbles", laid_nacelle_crc_nibbles)] }
def NacelleFilesSaid : Prop := nacelleFilesRow.holds Tryz.pinned (OpenSpec.ofChange nacelleFilesSpec)

/-- ITS FALSE NEIGHBOUR: 'it returns false'. Refute it at one input. -/
def nacelleFilesWrong : ChangeSpec := { name := "nacelleFiles", fn := fun _ => fun
  | [d] => { results := [.lit (.bool false)], args := [d] }
  | _ => none }
def NacelleFilesWrongFalsely : Prop := nacelleFilesRow.holds Tryz.pinned (OpenSpec.ofChange nacelleFilesWrong)

/- THE SECOND FORM. 'bulk': how many values and letters a reading holds, each counted each time it is reached (what is shared counts as often as it is met; a slice's spare places count too). A statement '..UptoSaid' is the law's where the arguments, and the package variables that the reading takes, are together of bulk at most 1048576: NARROWER than '..Said'. Prove '..Said' where nothing that the law and all that it calls make is longer than what came in: it says more and counts as full. Else prove '..UptoSaid'. A law counts once. -/
mutual
def uptoBulk {H : Type} : DataW H → Nat
  | .lit (.string bytes) => bytes.length + 1
  | .lit _ => 1
  | .nil => 1
  | .ptr d => uptoBulk d + 1
  | .slice elems spare => uptoBulkAll elems + uptoBulkAll spare + 1
  | .agg parts => uptoBulkAll parts + 1
  | .iface _ d => uptoBulk d + 1
  | .map entries => uptoBulkEntries entries + 1
  | .held _ => 1
def uptoBulkAll {H : Type} : List (DataW H) → Nat
  | [] => 0
  | d :: r => uptoBulk d + uptoBulkAll r
def uptoBulkEntries {H : Type} : List (Lit × DataW H) → Nat
  | [] => 0
  | x :: r => uptoBulkEntry x + uptoBulkEntries r
def uptoBulkEntry {H : Type} : Lit × DataW H → Nat
  | (.string bytes, d) => bytes.length + uptoBulk d + 1
  | (_, d) => uptoBulk d + 1
 end
def uptoSmall : (H : Type) → List (DataW H) → Bool := fun _ ds => decide (uptoBulkAll ds ≤ 1048576)
def OpenSpec.upto (s : _root_.Go.ChangeSpec) : _root_.Go.OpenSpec := { _root_.Go.OpenSpec.ofChange s with cond := some uptoSmall }

/-- 'nacellelaw18.PfsFiles', WHERE WHAT IT READS IS OF BULK AT MOST 1048576: true; the input reads as it did. -/
def pfsFilesUptoRow : OpenClaim := { program := "ytgilmcpdpggikaagreatdoor", sum := "69218ef833e6c4287166db058c21b1de0e1c9774bb6c82cbebf6ddcccb9219f8", func := "nacelle/nacellelaw18.PfsFiles", spec := "pfsFiles", inPlace := ["internal/bytealg.IndexByteString", "internal/bytealg.IndexString"], unfollowed := true, recurses := true, named := ["nacelle/crc.nibbles", "internal/bytealg.MaxLen"], plainKeys := false, apart := false, laid := [("nacelle/crc.nibbles", laid_nacelle_crc_nibbles)], narrowed := true }
def PfsFilesUptoSaid : Prop := pfsFilesUptoRow.holds Tryz.pinned (OpenSpec.upto pfsFilesSpec)

/-- 'nacellelaw18.PfsRefused', WHERE WHAT IT READS IS OF BULK AT MOST 1048576: true; the input reads as it did. -/
def pfsRefusedUptoRow : OpenClaim := { program := "ytgilmcpdpggikaagreatdoor", sum := "69218ef833e6c4287166db058c21b1de0e1c9774bb6c82cbebf6ddcccb9219f8", func := "nacelle/nacellelaw18.PfsRefused", spec := "pfsRefused", inPlace := ["internal/bytealg.IndexByteString", "internal/bytealg.IndexString"], unfollowed := true, recurses := true, named := ["nacelle/crc.nibbles", "internal/bytealg.MaxLen"], plainKeys := false, apart := false, laid := [("nacelle/crc.nibbles", laid_nacelle_crc_nibbles)], narrowed := true }
def PfsRefusedUptoSaid : Prop := pfsRefusedUptoRow.holds Tryz.pinned (OpenSpec.upto pfsRefusedSpec)

/-- 'nacellelaw18.PfsQuota', WHERE WHAT IT READS IS OF BULK AT MOST 1048576: true; the input reads as it did. -/
def pfsQuotaUptoRow : OpenClaim := { program := "ytgilmcpdpggikaagreatdoor", sum := "69218ef833e6c4287166db058c21b1de0e1c9774bb6c82cbebf6ddcccb9219f8", func := "nacelle/nacellelaw18.PfsQuota", spec := "pfsQuota", inPlace := ["internal/bytealg.IndexByteString", "internal/bytealg.IndexString"], unfollowed := true, recurses := true, named := ["nacelle/crc.nibbles", "internal/bytealg.MaxLen"], plainKeys := false, apart := false, laid := [("nacelle/crc.nibbles", laid_nacelle_crc_nibbles)], narrowed := true }
def PfsQuotaUptoSaid : Prop := pfsQuotaUptoRow.holds Tryz.pinned (OpenSpec.upto pfsQuotaSpec)

/-- 'nacellelaw18.PfsKept', WHERE WHAT IT READS IS OF BULK AT MOST 1048576: true; the input reads as it did. -/
def pfsKeptUptoRow : OpenClaim := { program := "ytgilmcpdpggikaagreatdoor", sum := "69218ef833e6c4287166db058c21b1de0e1c9774bb6c82cbebf6ddcccb9219f8", func := "nacelle/nacellelaw18.PfsKept", spec := "pfsKept", inPlace := ["internal/bytealg.IndexByteString", "internal/bytealg.IndexString"], unfollowed := true, recurses := true, named := ["nacelle/crc.nibbles", "internal/bytealg.MaxLen"], plainKeys := false, apart := false, laid := [("nacelle/crc.nibbles", laid_nacelle_crc_nibbles)], narrowed := true }
def PfsKeptUptoSaid : Prop := pfsKeptUptoRow.holds Tryz.pinned (OpenSpec.upto pfsKeptSpec)

/-- 'nacellelaw18.PfsCrashes', WHERE WHAT IT READS IS OF BULK AT MOST 1048576: true; the input reads as it did. -/
def pfsCrashesUptoRow : OpenClaim := { program := "ytgilmcpdpggikaagreatdoor", sum := "69218ef833e6c4287166db058c21b1de0e1c9774bb6c82cbebf6ddcccb9219f8", func := "nacelle/nacellelaw18.PfsCrashes", spec := "pfsCrashes", inPlace := ["internal/bytealg.IndexByteString", "internal/bytealg.IndexString"], unfollowed := true, recurses := true, named := ["nacelle/crc.nibbles", "internal/bytealg.MaxLen"], plainKeys := false, apart := false, laid := [("nacelle/crc.nibbles", laid_nacelle_crc_nibbles)], narrowed := true }
def PfsCrashesUptoSaid : Prop := pfsCrashesUptoRow.holds Tryz.pinned (OpenSpec.upto pfsCrashesSpec)

/-- 'nacelletop.NacelleFiles', WHERE WHAT IT READS IS OF BULK AT MOST 1048576: true; the input reads as it did. -/
def nacelleFilesUptoRow : OpenClaim := { program := "ytgilmcpdpggikaagreatdoor", sum := "69218ef833e6c4287166db058c21b1de0e1c9774bb6c82cbebf6ddcccb9219f8", func := "nacelle/nacelletop.NacelleFiles", spec := "nacelleFiles", inPlace := ["internal/bytealg.IndexByteString", "internal/bytealg.IndexString"], unfollowed := true, recurses := true, named := ["nacelle/crc.nibbles", "internal/bytealg.MaxLen"], plainKeys := false, apart := false, laid := [("nacelle/crc.nibbles", laid_nacelle_crc_nibbles)], narrowed := true }
def NacelleFilesUptoSaid : Prop := nacelleFilesUptoRow.holds Tryz.pinned (OpenSpec.upto nacelleFilesSpec)

end Rows
end Go.Proofs.YtgilmcpdpggikaaGreatDoor
