/-
  DERIVED. GIVEN WITH THE SEED: THE CARDS: each row of YtgilmcpdpggikaaGreatDoorRows.lean that lists a variable, with what it lists TIED to the program's text (the seventh form; the later family's looks); each row that meets fmt, with fmt's text TOLD by the authors' own Lean function (tested against real Go, not proved from fmt's source: count such statements apart). THE CARD IS WHAT COUNTS. Prove the row's statement (the work); the ties are given (YtgilmcpdpggikaaGreatDoorTie.lean); close each card by the builder's one call (the guide's Derived/Test/ToyasCard.lean, 'card_holds'). Laid BY PROGRAM, IN A SANDBOX (cutbox-door.mjs). By AI agents, Wed Nov 11 2026. No macro, syntax, notation, axiom, sorry.
-/
import Derived.Test.YtgilmcpdpggikaaGreatDoorRows
import GoSem.ClaimSeven
namespace Go.Proofs.YtgilmcpdpggikaaGreatDoor
namespace Rows

/-- THE TIED CARD OF 'nacellelaw18.PfsFiles'. -/
def pfsFilesCard : Claim7 := { stood := { row := pfsFilesRow, standIns := [], harness := (true, "5c19376f400680fcf010f6398baa0a612efd2ee5a7c48c5cea9a32d0fe507a03"), looks := false }, kinds := [], alts := [], laidByText := true, laidKinds := [.data], laidTests := true, laidLooks := .later }
def PfsFilesCardSaid : Prop := Claim7.holds Tryz.pinned (.plain (OpenSpec.ofChange pfsFilesSpec)) pfsFilesCard

/-- THE TIED CARD OF 'nacellelaw18.PfsRefused'. -/
def pfsRefusedCard : Claim7 := { stood := { row := pfsRefusedRow, standIns := [], harness := (true, "5c19376f400680fcf010f6398baa0a612efd2ee5a7c48c5cea9a32d0fe507a03"), looks := false }, kinds := [], alts := [], laidByText := true, laidKinds := [.data], laidTests := true, laidLooks := .later }
def PfsRefusedCardSaid : Prop := Claim7.holds Tryz.pinned (.plain (OpenSpec.ofChange pfsRefusedSpec)) pfsRefusedCard

/-- THE TIED CARD OF 'nacellelaw18.PfsQuota'. -/
def pfsQuotaCard : Claim7 := { stood := { row := pfsQuotaRow, standIns := [], harness := (true, "5c19376f400680fcf010f6398baa0a612efd2ee5a7c48c5cea9a32d0fe507a03"), looks := false }, kinds := [], alts := [], laidByText := true, laidKinds := [.data], laidTests := true, laidLooks := .later }
def PfsQuotaCardSaid : Prop := Claim7.holds Tryz.pinned (.plain (OpenSpec.ofChange pfsQuotaSpec)) pfsQuotaCard

/-- THE TIED CARD OF 'nacellelaw18.PfsKept'. -/
def pfsKeptCard : Claim7 := { stood := { row := pfsKeptRow, standIns := [], harness := (true, "5c19376f400680fcf010f6398baa0a612efd2ee5a7c48c5cea9a32d0fe507a03"), looks := false }, kinds := [], alts := [], laidByText := true, laidKinds := [.data], laidTests := true, laidLooks := .later }
def PfsKeptCardSaid : Prop := Claim7.holds Tryz.pinned (.plain (OpenSpec.ofChange pfsKeptSpec)) pfsKeptCard

/-- THE TIED CARD OF 'nacellelaw18.PfsCrashes'. -/
def pfsCrashesCard : Claim7 := { stood := { row := pfsCrashesRow, standIns := [], harness := (true, "5c19376f400680fcf010f6398baa0a612efd2ee5a7c48c5cea9a32d0fe507a03"), looks := false }, kinds := [], alts := [], laidByText := true, laidKinds := [.data], laidTests := true, laidLooks := .later }
def PfsCrashesCardSaid : Prop := Claim7.holds Tryz.pinned (.plain (OpenSpec.ofChange pfsCrashesSpec)) pfsCrashesCard

/-- THE TIED CARD OF 'nacelletop.NacelleFiles'. -/
def nacelleFilesCard : Claim7 := { stood := { row := nacelleFilesRow, standIns := [], harness := (true, "5c19376f400680fcf010f6398baa0a612efd2ee5a7c48c5cea9a32d0fe507a03"), looks := false }, kinds := [], alts := [], laidByText := true, laidKinds := [.data], laidTests := true, laidLooks := .later }
def NacelleFilesCardSaid : Prop := Claim7.holds Tryz.pinned (.plain (OpenSpec.ofChange nacelleFilesSpec)) nacelleFilesCard

/-- THE SECOND FORM's CARD OF 'nacellelaw18.PfsFiles'. -/
def pfsFilesUptoCard : Claim7 := { stood := { row := pfsFilesUptoRow, standIns := [], harness := (true, "5c19376f400680fcf010f6398baa0a612efd2ee5a7c48c5cea9a32d0fe507a03"), looks := false }, kinds := [], alts := [], laidByText := true, laidKinds := [.data], laidTests := true, laidLooks := .later }
def PfsFilesUptoCardSaid : Prop := Claim7.holds Tryz.pinned (.plain (OpenSpec.upto pfsFilesSpec)) pfsFilesUptoCard

/-- THE SECOND FORM's CARD OF 'nacellelaw18.PfsRefused'. -/
def pfsRefusedUptoCard : Claim7 := { stood := { row := pfsRefusedUptoRow, standIns := [], harness := (true, "5c19376f400680fcf010f6398baa0a612efd2ee5a7c48c5cea9a32d0fe507a03"), looks := false }, kinds := [], alts := [], laidByText := true, laidKinds := [.data], laidTests := true, laidLooks := .later }
def PfsRefusedUptoCardSaid : Prop := Claim7.holds Tryz.pinned (.plain (OpenSpec.upto pfsRefusedSpec)) pfsRefusedUptoCard

/-- THE SECOND FORM's CARD OF 'nacellelaw18.PfsQuota'. -/
def pfsQuotaUptoCard : Claim7 := { stood := { row := pfsQuotaUptoRow, standIns := [], harness := (true, "5c19376f400680fcf010f6398baa0a612efd2ee5a7c48c5cea9a32d0fe507a03"), looks := false }, kinds := [], alts := [], laidByText := true, laidKinds := [.data], laidTests := true, laidLooks := .later }
def PfsQuotaUptoCardSaid : Prop := Claim7.holds Tryz.pinned (.plain (OpenSpec.upto pfsQuotaSpec)) pfsQuotaUptoCard

/-- THE SECOND FORM's CARD OF 'nacellelaw18.PfsKept'. -/
def pfsKeptUptoCard : Claim7 := { stood := { row := pfsKeptUptoRow, standIns := [], harness := (true, "5c19376f400680fcf010f6398baa0a612efd2ee5a7c48c5cea9a32d0fe507a03"), looks := false }, kinds := [], alts := [], laidByText := true, laidKinds := [.data], laidTests := true, laidLooks := .later }
def PfsKeptUptoCardSaid : Prop := Claim7.holds Tryz.pinned (.plain (OpenSpec.upto pfsKeptSpec)) pfsKeptUptoCard

/-- THE SECOND FORM's CARD OF 'nacellelaw18.PfsCrashes'. -/
def pfsCrashesUptoCard : Claim7 := { stood := { row := pfsCrashesUptoRow, standIns := [], harness := (true, "5c19376f400680fcf010f6398baa0a612efd2ee5a7c48c5cea9a32d0fe507a03"), looks := false }, kinds := [], alts := [], laidByText := true, laidKinds := [.data], laidTests := true, laidLooks := .later }
def PfsCrashesUptoCardSaid : Prop := Claim7.holds Tryz.pinned (.plain (OpenSpec.upto pfsCrashesSpec)) pfsCrashesUptoCard

/-- THE SECOND FORM's CARD OF 'nacelletop.NacelleFiles'. -/
def nacelleFilesUptoCard : Claim7 := { stood := { row := nacelleFilesUptoRow, standIns := [], harness := (true, "5c19376f400680fcf010f6398baa0a612efd2ee5a7c48c5cea9a32d0fe507a03"), looks := false }, kinds := [], alts := [], laidByText := true, laidKinds := [.data], laidTests := true, laidLooks := .later }
def NacelleFilesUptoCardSaid : Prop := Claim7.holds Tryz.pinned (.plain (OpenSpec.upto nacelleFilesSpec)) nacelleFilesUptoCard
end Rows
end Go.Proofs.YtgilmcpdpggikaaGreatDoor
