/-
  DERIVED. GIVEN WITH THE SEED: THE CARDS: each row of YtmihpkfkbfgigaaGreatDoorRows.lean that lists a variable, with what it lists TIED to the program's text (the seventh form; the later family's looks); each row that meets fmt, with fmt's text TOLD by the authors' own Lean function (tested against real Go, not proved from fmt's source: count such statements apart). THE CARD IS WHAT COUNTS. Prove the row's statement (the work); the ties are given (YtmihpkfkbfgigaaGreatDoorTie.lean); close each card by the builder's one call (the guide's Derived/Test/ToyasCard.lean, 'card_holds'). Laid BY PROGRAM, IN A SANDBOX (cutbox-door.mjs). By AI agents, Wed Nov 11 2026. No macro, syntax, notation, axiom, sorry.
-/
import Derived.Test.YtmihpkfkbfgigaaGreatDoorRows
import GoSem.ClaimSeven
namespace Go.Proofs.YtmihpkfkbfgigaaGreatDoor
namespace Rows

/-- THE TIED CARD OF 'guerdonlaw29.CompilerVerified'. -/
def compilerVerifiedCard : Claim7 := { stood := { row := compilerVerifiedRow, standIns := [], harness := (true, "46e381ab207395a4e079398249de0d533ed6868fc4a60d7ff90700a57c545728"), looks := true }, kinds := [], alts := [], laidByText := true, laidKinds := [.data], laidTests := true, laidLooks := .later }
def CompilerVerifiedCardSaid : Prop := Claim7.holds Tryz.pinned (.plain (OpenSpec.ofChange compilerVerifiedSpec)) compilerVerifiedCard

/-- THE TIED CARD OF 'guerdonlaw29.CompilerAgrees'. -/
def compilerAgreesCard : Claim7 := { stood := { row := compilerAgreesRow, standIns := [], harness := (true, "46e381ab207395a4e079398249de0d533ed6868fc4a60d7ff90700a57c545728"), looks := true }, kinds := [], alts := [], laidByText := true, laidKinds := [.data], laidTests := true, laidLooks := .later }
def CompilerAgreesCardSaid : Prop := Claim7.holds Tryz.pinned (.plain (OpenSpec.ofChange compilerAgreesSpec)) compilerAgreesCard

/-- THE SECOND FORM's CARD OF 'guerdonlaw29.CompilerVerified'. -/
def compilerVerifiedUptoCard : Claim7 := { stood := { row := compilerVerifiedUptoRow, standIns := [], harness := (true, "46e381ab207395a4e079398249de0d533ed6868fc4a60d7ff90700a57c545728"), looks := true }, kinds := [], alts := [], laidByText := true, laidKinds := [.data], laidTests := true, laidLooks := .later }
def CompilerVerifiedUptoCardSaid : Prop := Claim7.holds Tryz.pinned (.plain (OpenSpec.upto compilerVerifiedSpec)) compilerVerifiedUptoCard

/-- THE SECOND FORM's CARD OF 'guerdonlaw29.CompilerAgrees'. -/
def compilerAgreesUptoCard : Claim7 := { stood := { row := compilerAgreesUptoRow, standIns := [], harness := (true, "46e381ab207395a4e079398249de0d533ed6868fc4a60d7ff90700a57c545728"), looks := true }, kinds := [], alts := [], laidByText := true, laidKinds := [.data], laidTests := true, laidLooks := .later }
def CompilerAgreesUptoCardSaid : Prop := Claim7.holds Tryz.pinned (.plain (OpenSpec.upto compilerAgreesSpec)) compilerAgreesUptoCard
end Rows
end Go.Proofs.YtmihpkfkbfgigaaGreatDoor
