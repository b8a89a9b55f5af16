/-
  DERIVED. GIVEN WITH THE SEED: THE CARDS: each row of YtomgmnkalommeaaGreatDoorRows.lean that lists a variable, with what it lists TIED to the program's text (the seventh form; the later family's looks); each row that meets fmt, with fmt's text TOLD by the authors' own Lean function (tested against real Go, not proved from fmt's source: count such statements apart). THE CARD IS WHAT COUNTS. Prove the row's statement (the work); the ties are given (YtomgmnkalommeaaGreatDoorTie.lean); close each card by the builder's one call (the guide's Derived/Test/ToyasCard.lean, 'card_holds'). Laid BY PROGRAM, IN A SANDBOX (cutbox-door.mjs). By AI agents, Wed Nov 11 2026. No macro, syntax, notation, axiom, sorry.
-/
import Derived.Test.YtomgmnkalommeaaGreatDoorRows
import GoSem.ClaimSeven
namespace Go.Proofs.YtomgmnkalommeaaGreatDoor
namespace Rows

/-- THE TIED CARD OF 'guerdonlaw27.VmAgrees'. -/
def vmAgreesCard : Claim7 := { stood := { row := vmAgreesRow, standIns := [], harness := (true, "fd28de05c62e76a0a6e53357171f4b82717cdf0d20b8d071f9c37aab1ec09b96"), looks := false }, kinds := [], alts := [], laidByText := true, laidKinds := [.data], laidTests := true, laidLooks := .later }
def VmAgreesCardSaid : Prop := Claim7.holds Tryz.pinned (.plain (OpenSpec.ofChange vmAgreesSpec)) vmAgreesCard

/-- THE SECOND FORM's CARD OF 'guerdonlaw27.VmAgrees'. -/
def vmAgreesUptoCard : Claim7 := { stood := { row := vmAgreesUptoRow, standIns := [], harness := (true, "fd28de05c62e76a0a6e53357171f4b82717cdf0d20b8d071f9c37aab1ec09b96"), looks := false }, kinds := [], alts := [], laidByText := true, laidKinds := [.data], laidTests := true, laidLooks := .later }
def VmAgreesUptoCardSaid : Prop := Claim7.holds Tryz.pinned (.plain (OpenSpec.upto vmAgreesSpec)) vmAgreesUptoCard
end Rows
end Go.Proofs.YtomgmnkalommeaaGreatDoor
