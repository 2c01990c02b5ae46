/-
  NARROWER THAN 'FOR EVERY INPUT', by the rows' own cells (each row's printed sentence says how): AuditConfined: laid · AuditKeeps: laid · AuditPlays: laid · WalNumbers: laid · WalConfined: laid · WalFull: laid · WalOpens: laid · WalCrashes: laid · WalTwice: laid.
  DERIVED. THE GIVEN ROWS OF THIS SEAT. 9 by the template 'for every input the law returns true; each argument reads behind the call as it read before'; 0 by the template 'total and deterministic' (their statements: YtbknpbihgfphaaaDoorTotals.lean).
  GIVEN WITH THE SEED: the statements are not yours to turn. If you find one false, say at which input.
  Laid BY PROGRAM, IN A SANDBOX (cutbox-rows.mjs): the forced cells as the released guide's own fill.sh prints them over the translation 416a7d945f87d2cb… (all of the seat's roots in one cut). By AI agents, Wed Nov 11 2026. No macro, syntax, notation, axiom, sorry.
-/
import Derived.Test.YtbknpbihgfphaaaDoorChecked
import GoSem.Claim
import GoSem.ClaimJoined
import GoSem.ClaimMapViews
import Derived.JoinedTies
import Derived.KernelRfl
namespace Go.Proofs.YtbknpbihgfphaaaDoor
/- THE CELL 'sum', in the pinned program and in every row, IS THE sha256 OF THE DUMP (.gsa) THAT YtbknpbihgfphaaaDoorProg.lean LOADS. Nothing in Lean hashes anything: it is a label: what it is worth is what the hold of that sum in a sandbox is worth. -/
noncomputable def Tryd.pinned : Pinned := { name := "ytbknpbihgfphaaadoor", sum := "416a7d945f87d2cba0df2e1e3ca891c4680d702ef997c368a585802270b12f8e", checked := Tryd.checked }
namespace Rows
def none {H : Type} : Left H := { results := [], args := [] }

/- WHAT THE LISTED PACKAGE-LEVEL VARIABLES READ AS WHEN THE CALL BEGINS. Each datum BY PROGRAM (the guide's laid-datum.mjs) off the statement by which the dump's own 'gosem.cut.vars' lays the variable. In a bare row this is a premise. The card (YtbknpbihgfphaaaDoorCards.lean) ties it to the program's text. -/
def laid_nacelle_crc_nibbles {H : Type} : DataW H := .agg [.lit (.int .u32 0), .lit (.int .u32 274646895), .lit (.int .u32 549293790), .lit (.int .u32 820201905), .lit (.int .u32 1098587580), .lit (.int .u32 1361435347), .lit (.int .u32 1640403810), .lit (.int .u32 1905808397), .lit (.int .u32 2197175160), .lit (.int .u32 2460548119), .lit (.int .u32 2722870694), .lit (.int .u32 2987750089), .lit (.int .u32 3280807620), .lit (.int .u32 3553878443), .lit (.int .u32 3811616794), .lit (.int .u32 4084100981)]

/-- 'nacellelaw20.AuditConfined': WHATEVER THE INPUT: true; the input reads as it did. -/
def auditConfinedSpec : ChangeSpec := { name := "auditConfined", fn := fun _ => fun
  | [d] => { results := [.lit (.bool true)], args := [d] }
  | _ => none }
def auditConfinedRow : OpenClaim := { program := "ytbknpbihgfphaaadoor", sum := "416a7d945f87d2cba0df2e1e3ca891c4680d702ef997c368a585802270b12f8e", func := "nacelle/nacellelaw20.AuditConfined", spec := "auditConfined", unfollowed := true, recurses := true, named := ["nacelle/crc.nibbles"], apart := false, laid := [("nacelle/crc.nibbles", laid_nacelle_crc_nibbles)] }
def AuditConfinedSaid : Prop := auditConfinedRow.holds Tryd.pinned (OpenSpec.ofChange auditConfinedSpec)

/-- ITS FALSE NEIGHBOUR: 'it returns false'. Refute it at one input. -/
def auditConfinedWrong : ChangeSpec := { name := "auditConfined", fn := fun _ => fun
  | [d] => { results := [.lit (.bool false)], args := [d] }
  | _ => none }
def AuditConfinedWrongFalsely : Prop := auditConfinedRow.holds Tryd.pinned (OpenSpec.ofChange auditConfinedWrong)

/-- 'nacellelaw20.AuditKeeps': WHATEVER THE INPUT: true; the input reads as it did. -/
def auditKeepsSpec : ChangeSpec := { name := "auditKeeps", fn := fun _ => fun
  | [d] => { results := [.lit (.bool true)], args := [d] }
  | _ => none }
def auditKeepsRow : OpenClaim := { program := "ytbknpbihgfphaaadoor", sum := "416a7d945f87d2cba0df2e1e3ca891c4680d702ef997c368a585802270b12f8e", func := "nacelle/nacellelaw20.AuditKeeps", spec := "auditKeeps", unfollowed := true, recurses := true, named := ["nacelle/crc.nibbles"], apart := false, laid := [("nacelle/crc.nibbles", laid_nacelle_crc_nibbles)] }
def AuditKeepsSaid : Prop := auditKeepsRow.holds Tryd.pinned (OpenSpec.ofChange auditKeepsSpec)

/-- ITS FALSE NEIGHBOUR: 'it returns false'. Refute it at one input. -/
def auditKeepsWrong : ChangeSpec := { name := "auditKeeps", fn := fun _ => fun
  | [d] => { results := [.lit (.bool false)], args := [d] }
  | _ => none }
def AuditKeepsWrongFalsely : Prop := auditKeepsRow.holds Tryd.pinned (OpenSpec.ofChange auditKeepsWrong)

/-- 'nacellelaw20.AuditPlays': WHATEVER THE INPUT: true; the input reads as it did. -/
def auditPlaysSpec : ChangeSpec := { name := "auditPlays", fn := fun _ => fun
  | [d1, d2] => { results := [.lit (.bool true)], args := [d1, d2] }
  | _ => none }
def auditPlaysRow : OpenClaim := { program := "ytbknpbihgfphaaadoor", sum := "416a7d945f87d2cba0df2e1e3ca891c4680d702ef997c368a585802270b12f8e", func := "nacelle/nacellelaw20.AuditPlays", spec := "auditPlays", unfollowed := true, recurses := true, named := ["nacelle/crc.nibbles"], apart := false, laid := [("nacelle/crc.nibbles", laid_nacelle_crc_nibbles)] }
def AuditPlaysSaid : Prop := auditPlaysRow.holds Tryd.pinned (OpenSpec.ofChange auditPlaysSpec)

/-- ITS FALSE NEIGHBOUR: 'it returns false'. Refute it at one input. -/
def auditPlaysWrong : ChangeSpec := { name := "auditPlays", fn := fun _ => fun
  | [d1, d2] => { results := [.lit (.bool false)], args := [d1, d2] }
  | _ => none }
def AuditPlaysWrongFalsely : Prop := auditPlaysRow.holds Tryd.pinned (OpenSpec.ofChange auditPlaysWrong)

/-- 'nacellelaw16.WalNumbers': WHATEVER THE INPUT: true; the input reads as it did. -/
def walNumbersSpec : ChangeSpec := { name := "walNumbers", fn := fun _ => fun
  | [] => { results := [.lit (.bool true)], args := [] }
  | _ => none }
def walNumbersRow : OpenClaim := { program := "ytbknpbihgfphaaadoor", sum := "416a7d945f87d2cba0df2e1e3ca891c4680d702ef997c368a585802270b12f8e", func := "nacelle/nacellelaw16.WalNumbers", spec := "walNumbers", unfollowed := true, recurses := true, named := ["nacelle/crc.nibbles"], apart := false, laid := [("nacelle/crc.nibbles", laid_nacelle_crc_nibbles)] }
def WalNumbersSaid : Prop := walNumbersRow.holds Tryd.pinned (OpenSpec.ofChange walNumbersSpec)

/-- ITS FALSE NEIGHBOUR: 'it returns false'. Refute it at one input. -/
def walNumbersWrong : ChangeSpec := { name := "walNumbers", fn := fun _ => fun
  | [] => { results := [.lit (.bool false)], args := [] }
  | _ => none }
def WalNumbersWrongFalsely : Prop := walNumbersRow.holds Tryd.pinned (OpenSpec.ofChange walNumbersWrong)

/-- 'nacellelaw16.WalConfined': WHATEVER THE INPUT: true; the input reads as it did. -/
def walConfinedSpec : ChangeSpec := { name := "walConfined", fn := fun _ => fun
  | [d] => { results := [.lit (.bool true)], args := [d] }
  | _ => none }
def walConfinedRow : OpenClaim := { program := "ytbknpbihgfphaaadoor", sum := "416a7d945f87d2cba0df2e1e3ca891c4680d702ef997c368a585802270b12f8e", func := "nacelle/nacellelaw16.WalConfined", spec := "walConfined", unfollowed := true, recurses := true, named := ["nacelle/crc.nibbles"], apart := false, laid := [("nacelle/crc.nibbles", laid_nacelle_crc_nibbles)] }
def WalConfinedSaid : Prop := walConfinedRow.holds Tryd.pinned (OpenSpec.ofChange walConfinedSpec)

/-- ITS FALSE NEIGHBOUR: 'it returns false'. Refute it at one input. -/
def walConfinedWrong : ChangeSpec := { name := "walConfined", fn := fun _ => fun
  | [d] => { results := [.lit (.bool false)], args := [d] }
  | _ => none }
def WalConfinedWrongFalsely : Prop := walConfinedRow.holds Tryd.pinned (OpenSpec.ofChange walConfinedWrong)

/-- 'nacellelaw16.WalFull': WHATEVER THE INPUT: true; the input reads as it did. -/
def walFullSpec : ChangeSpec := { name := "walFull", fn := fun _ => fun
  | [d1, d2] => { results := [.lit (.bool true)], args := [d1, d2] }
  | _ => none }
def walFullRow : OpenClaim := { program := "ytbknpbihgfphaaadoor", sum := "416a7d945f87d2cba0df2e1e3ca891c4680d702ef997c368a585802270b12f8e", func := "nacelle/nacellelaw16.WalFull", spec := "walFull", unfollowed := true, recurses := true, named := ["nacelle/crc.nibbles"], apart := false, laid := [("nacelle/crc.nibbles", laid_nacelle_crc_nibbles)] }
def WalFullSaid : Prop := walFullRow.holds Tryd.pinned (OpenSpec.ofChange walFullSpec)

/-- ITS FALSE NEIGHBOUR: 'it returns false'. Refute it at one input. -/
def walFullWrong : ChangeSpec := { name := "walFull", fn := fun _ => fun
  | [d1, d2] => { results := [.lit (.bool false)], args := [d1, d2] }
  | _ => none }
def WalFullWrongFalsely : Prop := walFullRow.holds Tryd.pinned (OpenSpec.ofChange walFullWrong)

/-- 'nacellelaw16.WalOpens': WHATEVER THE INPUT: true; the input reads as it did. -/
def walOpensSpec : ChangeSpec := { name := "walOpens", fn := fun _ => fun
  | [d] => { results := [.lit (.bool true)], args := [d] }
  | _ => none }
def walOpensRow : OpenClaim := { program := "ytbknpbihgfphaaadoor", sum := "416a7d945f87d2cba0df2e1e3ca891c4680d702ef997c368a585802270b12f8e", func := "nacelle/nacellelaw16.WalOpens", spec := "walOpens", unfollowed := true, recurses := true, named := ["nacelle/crc.nibbles"], apart := false, laid := [("nacelle/crc.nibbles", laid_nacelle_crc_nibbles)] }
def WalOpensSaid : Prop := walOpensRow.holds Tryd.pinned (OpenSpec.ofChange walOpensSpec)

/-- ITS FALSE NEIGHBOUR: 'it returns false'. Refute it at one input. -/
def walOpensWrong : ChangeSpec := { name := "walOpens", fn := fun _ => fun
  | [d] => { results := [.lit (.bool false)], args := [d] }
  | _ => none }
def WalOpensWrongFalsely : Prop := walOpensRow.holds Tryd.pinned (OpenSpec.ofChange walOpensWrong)

/-- 'nacellelaw16.WalCrashes': WHATEVER THE INPUT: true; the input reads as it did. -/
def walCrashesSpec : ChangeSpec := { name := "walCrashes", fn := fun _ => fun
  | [d1, d2] => { results := [.lit (.bool true)], args := [d1, d2] }
  | _ => none }
def walCrashesRow : OpenClaim := { program := "ytbknpbihgfphaaadoor", sum := "416a7d945f87d2cba0df2e1e3ca891c4680d702ef997c368a585802270b12f8e", func := "nacelle/nacellelaw16.WalCrashes", spec := "walCrashes", unfollowed := true, recurses := true, named := ["nacelle/crc.nibbles"], apart := false, laid := [("nacelle/crc.nibbles", laid_nacelle_crc_nibbles)] }
def WalCrashesSaid : Prop := walCrashesRow.holds Tryd.pinned (OpenSpec.ofChange walCrashesSpec)

/-- ITS FALSE NEIGHBOUR: 'it returns false'. Refute it at one input. -/
def walCrashesWrong : ChangeSpec := { name := "walCrashes", fn := fun _ => fun
  | [d1, d2] => { results := [.lit (.bool false)], args := [d1, d2] }
  | _ => none }
def WalCrashesWrongFalsely : Prop := walCrashesRow.holds Tryd.pinned (OpenSpec.ofChange walCrashesWrong)

/-- 'nacellelaw16.WalTwice': WHATEVER THE INPUT: true; the input reads as it did. -/
def walTwiceSpec : ChangeSpec := { name := "walTwice", fn := fun _ => fun
  | [d1, d2, d3] => { results := [.lit (.bool true)], args := [d1, d2, d3] }
  | _ => none }
def walTwiceRow : OpenClaim := { program := "ytbknpbihgfphaaadoor", sum := "416a7d945f87d2cba0df2e1e3ca891c4680d702ef997c368a585802270b12f8e", func := "nacelle/nacellelaw16.WalTwice", spec := "walTwice", unfollowed := true, recurses := true, named := ["nacelle/crc.nibbles"], apart := false, laid := [("nacelle/crc.nibbles", laid_nacelle_crc_nibbles)] }
def WalTwiceSaid : Prop := walTwiceRow.holds Tryd.pinned (OpenSpec.ofChange walTwiceSpec)

/-- ITS FALSE NEIGHBOUR: 'it returns false'. Refute it at one input. -/
def walTwiceWrong : ChangeSpec := { name := "walTwice", fn := fun _ => fun
  | [d1, d2, d3] => { results := [.lit (.bool false)], args := [d1, d2, d3] }
  | _ => none }
def WalTwiceWrongFalsely : Prop := walTwiceRow.holds Tryd.pinned (OpenSpec.ofChange walTwiceWrong)

/- THE SECOND FORM. 'bulk': how many values and letters a reading holds, each counted each time it is reached (what is shared counts as often as it is met; a slice's spare places count too). A statement '..UptoSaid' is the law's where the arguments, and the package variables that the reading takes, are together of bulk at most 1048576: NARROWER than '..Said'. Prove '..Said' where nothing that the law and all that it calls make is longer than what came in: it says more and counts as full. Else prove '..UptoSaid'. A law counts once. -/
mutual
def uptoBulk {H : Type} : DataW H → Nat
  | .lit (.string bytes) => bytes.length + 1
  | .lit _ => 1
  | .nil => 1
  | .ptr d => uptoBulk d + 1
  | .slice elems spare => uptoBulkAll elems + uptoBulkAll spare + 1
  | .agg parts => uptoBulkAll parts + 1
  | .iface _ d => uptoBulk d + 1
  | .map entries => uptoBulkEntries entries + 1
  | .held _ => 1
def uptoBulkAll {H : Type} : List (DataW H) → Nat
  | [] => 0
  | d :: r => uptoBulk d + uptoBulkAll r
def uptoBulkEntries {H : Type} : List (Lit × DataW H) → Nat
  | [] => 0
  | x :: r => uptoBulkEntry x + uptoBulkEntries r
def uptoBulkEntry {H : Type} : Lit × DataW H → Nat
  | (.string bytes, d) => bytes.length + uptoBulk d + 1
  | (_, d) => uptoBulk d + 1
 end
def uptoSmall : (H : Type) → List (DataW H) → Bool := fun _ ds => decide (uptoBulkAll ds ≤ 1048576)
def OpenSpec.upto (s : _root_.Go.ChangeSpec) : _root_.Go.OpenSpec := { _root_.Go.OpenSpec.ofChange s with cond := some uptoSmall }

/-- 'nacellelaw20.AuditConfined', WHERE WHAT IT READS IS OF BULK AT MOST 1048576: true; the input reads as it did. -/
def auditConfinedUptoRow : OpenClaim := { program := "ytbknpbihgfphaaadoor", sum := "416a7d945f87d2cba0df2e1e3ca891c4680d702ef997c368a585802270b12f8e", func := "nacelle/nacellelaw20.AuditConfined", spec := "auditConfined", unfollowed := true, recurses := true, named := ["nacelle/crc.nibbles"], apart := false, laid := [("nacelle/crc.nibbles", laid_nacelle_crc_nibbles)], narrowed := true }
def AuditConfinedUptoSaid : Prop := auditConfinedUptoRow.holds Tryd.pinned (OpenSpec.upto auditConfinedSpec)

/-- 'nacellelaw20.AuditKeeps', WHERE WHAT IT READS IS OF BULK AT MOST 1048576: true; the input reads as it did. -/
def auditKeepsUptoRow : OpenClaim := { program := "ytbknpbihgfphaaadoor", sum := "416a7d945f87d2cba0df2e1e3ca891c4680d702ef997c368a585802270b12f8e", func := "nacelle/nacellelaw20.AuditKeeps", spec := "auditKeeps", unfollowed := true, recurses := true, named := ["nacelle/crc.nibbles"], apart := false, laid := [("nacelle/crc.nibbles", laid_nacelle_crc_nibbles)], narrowed := true }
def AuditKeepsUptoSaid : Prop := auditKeepsUptoRow.holds Tryd.pinned (OpenSpec.upto auditKeepsSpec)

/-- 'nacellelaw20.AuditPlays', WHERE WHAT IT READS IS OF BULK AT MOST 1048576: true; the input reads as it did. -/
def auditPlaysUptoRow : OpenClaim := { program := "ytbknpbihgfphaaadoor", sum := "416a7d945f87d2cba0df2e1e3ca891c4680d702ef997c368a585802270b12f8e", func := "nacelle/nacellelaw20.AuditPlays", spec := "auditPlays", unfollowed := true, recurses := true, named := ["nacelle/crc.nibbles"], apart := false, laid := [("nacelle/crc.nibbles", laid_nacelle_crc_nibbles)], narrowed := true }
def AuditPlaysUptoSaid : Prop := auditPlaysUptoRow.holds Tryd.pinned (OpenSpec.upto auditPlaysSpec)

/-- 'nacellelaw16.WalNumbers', WHERE WHAT IT READS IS OF BULK AT MOST 1048576: true; the input reads as it did. -/
def walNumbersUptoRow : OpenClaim := { program := "ytbknpbihgfphaaadoor", sum := "416a7d945f87d2cba0df2e1e3ca891c4680d702ef997c368a585802270b12f8e", func := "nacelle/nacellelaw16.WalNumbers", spec := "walNumbers", unfollowed := true, recurses := true, named := ["nacelle/crc.nibbles"], apart := false, laid := [("nacelle/crc.nibbles", laid_nacelle_crc_nibbles)], narrowed := true }
def WalNumbersUptoSaid : Prop := walNumbersUptoRow.holds Tryd.pinned (OpenSpec.upto walNumbersSpec)

/-- 'nacellelaw16.WalConfined', WHERE WHAT IT READS IS OF BULK AT MOST 1048576: true; the input reads as it did. -/
def walConfinedUptoRow : OpenClaim := { program := "ytbknpbihgfphaaadoor", sum := "416a7d945f87d2cba0df2e1e3ca891c4680d702ef997c368a585802270b12f8e", func := "nacelle/nacellelaw16.WalConfined", spec := "walConfined", unfollowed := true, recurses := true, named := ["nacelle/crc.nibbles"], apart := false, laid := [("nacelle/crc.nibbles", laid_nacelle_crc_nibbles)], narrowed := true }
def WalConfinedUptoSaid : Prop := walConfinedUptoRow.holds Tryd.pinned (OpenSpec.upto walConfinedSpec)

/-- 'nacellelaw16.WalFull', WHERE WHAT IT READS IS OF BULK AT MOST 1048576: true; the input reads as it did. -/
def walFullUptoRow : OpenClaim := { program := "ytbknpbihgfphaaadoor", sum := "416a7d945f87d2cba0df2e1e3ca891c4680d702ef997c368a585802270b12f8e", func := "nacelle/nacellelaw16.WalFull", spec := "walFull", unfollowed := true, recurses := true, named := ["nacelle/crc.nibbles"], apart := false, laid := [("nacelle/crc.nibbles", laid_nacelle_crc_nibbles)], narrowed := true }
def WalFullUptoSaid : Prop := walFullUptoRow.holds Tryd.pinned (OpenSpec.upto walFullSpec)

/-- 'nacellelaw16.WalOpens', WHERE WHAT IT READS IS OF BULK AT MOST 1048576: true; the input reads as it did. -/
def walOpensUptoRow : OpenClaim := { program := "ytbknpbihgfphaaadoor", sum := "416a7d945f87d2cba0df2e1e3ca891c4680d702ef997c368a585802270b12f8e", func := "nacelle/nacellelaw16.WalOpens", spec := "walOpens", unfollowed := true, recurses := true, named := ["nacelle/crc.nibbles"], apart := false, laid := [("nacelle/crc.nibbles", laid_nacelle_crc_nibbles)], narrowed := true }
def WalOpensUptoSaid : Prop := walOpensUptoRow.holds Tryd.pinned (OpenSpec.upto walOpensSpec)

/-- 'nacellelaw16.WalCrashes', WHERE WHAT IT READS IS OF BULK AT MOST 1048576: true; the input reads as it did. -/
def walCrashesUptoRow : OpenClaim := { program := "ytbknpbihgfphaaadoor", sum := "416a7d945f87d2cba0df2e1e3ca891c4680d702ef997c368a585802270b12f8e", func := "nacelle/nacellelaw16.WalCrashes", spec := "walCrashes", unfollowed := true, recurses := true, named := ["nacelle/crc.nibbles"], apart := false, laid := [("nacelle/crc.nibbles", laid_nacelle_crc_nibbles)], narrowed := true }
def WalCrashesUptoSaid : Prop := walCrashesUptoRow.holds Tryd.pinned (OpenSpec.upto walCrashesSpec)

/-- 'nacellelaw16.WalTwice', WHERE WHAT IT READS IS OF BULK AT MOST 1048576: true; the input reads as it did. -/
def walTwiceUptoRow : OpenClaim := { program := "ytbknpbihgfphaaadoor", sum := "416a7d945f87d2cba0df2e1e3ca891c4680d702ef997c368a585802270b12f8e", func := "nacelle/nacellelaw16.WalTwice", spec := "walTwice", unfollowed := true, recurses := true, named := ["nacelle/crc.nibbles"], apart := false, laid := [("nacelle/crc.nibbles", laid_nacelle_crc_nibbles)], narrowed := true }
def WalTwiceUptoSaid : Prop := walTwiceUptoRow.holds Tryd.pinned (OpenSpec.upto walTwiceSpec)

end Rows
end Go.Proofs.YtbknpbihgfphaaaDoor
