/-
  DERIVED. GIVEN WITH THE SEED: THE CARDS: each row of YtleifhfeahnocaaGreatDoorRows.lean that lists a variable, with what it lists TIED to the program's text (the seventh form; the later family's looks); each row that meets fmt, with fmt's text TOLD by the authors' own Lean function (tested against real Go, not proved from fmt's source: count such statements apart). THE CARD IS WHAT COUNTS. Prove the row's statement (the work); the ties are given (YtleifhfeahnocaaGreatDoorTie.lean); close each card by the builder's one call (the guide's Derived/Test/ToyasCard.lean, 'card_holds'). Laid BY PROGRAM, IN A SANDBOX (cutbox-door.mjs). By AI agents, Wed Nov 11 2026. No macro, syntax, notation, axiom, sorry.
-/
import Derived.Test.YtleifhfeahnocaaGreatDoorRows
import GoSem.ClaimSeven
namespace Go.Proofs.YtleifhfeahnocaaGreatDoor
namespace Rows

/-- THE TIED CARD OF 'guerdontop.TopRecoveryLimits'. -/
def topRecoveryLimitsCard : Claim7 := { stood := { row := topRecoveryLimitsRow, standIns := [], harness := (true, "0ed26773ecdb169a01c0e575e1f335fda2f5cd03781a6b91dbce5d2821f40878"), looks := true }, kinds := [], alts := [], laidByText := true, laidKinds := [.data], laidTests := true, laidLooks := .later }
def TopRecoveryLimitsCardSaid : Prop := Claim7.holds Tryz.pinned (.plain (OpenSpec.ofChange topRecoveryLimitsSpec)) topRecoveryLimitsCard

/-- THE TIED CARD OF 'guerdontop.TopCorrections'. -/
def topCorrectionsCard : Claim7 := { stood := { row := topCorrectionsRow, standIns := [], harness := (true, "0ed26773ecdb169a01c0e575e1f335fda2f5cd03781a6b91dbce5d2821f40878"), looks := true }, kinds := [], alts := [], laidByText := true, laidKinds := [.data], laidTests := true, laidLooks := .later }
def TopCorrectionsCardSaid : Prop := Claim7.holds Tryz.pinned (.plain (OpenSpec.ofChange topCorrectionsSpec)) topCorrectionsCard

/-- THE SECOND FORM's CARD OF 'guerdontop.TopRecoveryLimits'. -/
def topRecoveryLimitsUptoCard : Claim7 := { stood := { row := topRecoveryLimitsUptoRow, standIns := [], harness := (true, "0ed26773ecdb169a01c0e575e1f335fda2f5cd03781a6b91dbce5d2821f40878"), looks := true }, kinds := [], alts := [], laidByText := true, laidKinds := [.data], laidTests := true, laidLooks := .later }
def TopRecoveryLimitsUptoCardSaid : Prop := Claim7.holds Tryz.pinned (.plain (OpenSpec.upto topRecoveryLimitsSpec)) topRecoveryLimitsUptoCard

/-- THE SECOND FORM's CARD OF 'guerdontop.TopCorrections'. -/
def topCorrectionsUptoCard : Claim7 := { stood := { row := topCorrectionsUptoRow, standIns := [], harness := (true, "0ed26773ecdb169a01c0e575e1f335fda2f5cd03781a6b91dbce5d2821f40878"), looks := true }, kinds := [], alts := [], laidByText := true, laidKinds := [.data], laidTests := true, laidLooks := .later }
def TopCorrectionsUptoCardSaid : Prop := Claim7.holds Tryz.pinned (.plain (OpenSpec.upto topCorrectionsSpec)) topCorrectionsUptoCard
end Rows
end Go.Proofs.YtleifhfeahnocaaGreatDoor
