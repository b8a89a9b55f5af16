/-
  DERIVED. GIVEN WITH THE SEED: THE CARDS: each row of YtbmkhjdoalnkmaaGreatDoorRows.lean that lists a variable, with what it lists TIED to the program's text (the seventh form; the later family's looks); each row that meets fmt, with fmt's text TOLD by the authors' own Lean function (tested against real Go, not proved from fmt's source: count such statements apart). THE CARD IS WHAT COUNTS. Prove the row's statement (the work); the ties are given (YtbmkhjdoalnkmaaGreatDoorTie.lean); close each card by the builder's one call (the guide's Derived/Test/ToyasCard.lean, 'card_holds'). Laid BY PROGRAM, IN A SANDBOX (cutbox-door.mjs). By AI agents, Wed Nov 11 2026. No macro, syntax, notation, axiom, sorry.
-/
import Derived.Test.YtbmkhjdoalnkmaaGreatDoorRows
import GoSem.ClaimSeven
namespace Go.Proofs.YtbmkhjdoalnkmaaGreatDoor
namespace Rows

/-- THE TIED CARD OF 'guerdonlaw13.EvalMembers'. -/
def evalMembersCard : Claim7 := { stood := { row := evalMembersRow, standIns := [], harness := (true, "5d12cba6fefafbe8123836fb574650a4543891576d6efbcc60e920985bbd7562"), looks := false }, kinds := [], alts := [], laidByText := true, laidKinds := [.data], laidTests := true, laidLooks := .later }
def EvalMembersCardSaid : Prop := Claim7.holds Tryz.pinned (.plain (OpenSpec.ofChange evalMembersSpec)) evalMembersCard

/-- THE SECOND FORM's CARD OF 'guerdonlaw13.EvalMembers'. -/
def evalMembersUptoCard : Claim7 := { stood := { row := evalMembersUptoRow, standIns := [], harness := (true, "5d12cba6fefafbe8123836fb574650a4543891576d6efbcc60e920985bbd7562"), looks := false }, kinds := [], alts := [], laidByText := true, laidKinds := [.data], laidTests := true, laidLooks := .later }
def EvalMembersUptoCardSaid : Prop := Claim7.holds Tryz.pinned (.plain (OpenSpec.upto evalMembersSpec)) evalMembersUptoCard
end Rows
end Go.Proofs.YtbmkhjdoalnkmaaGreatDoor
