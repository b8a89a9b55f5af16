/-
  DERIVED. GIVEN WITH THE SEED: THE CARDS: each row of YtfeahmiobbjklaaGreatDoorRows.lean that lists a variable, with what it lists TIED to the program's text (the seventh form; the later family's looks); each row that meets fmt, with fmt's text TOLD by the authors' own Lean function (tested against real Go, not proved from fmt's source: count such statements apart). THE CARD IS WHAT COUNTS. Prove the row's statement (the work); the ties are given (YtfeahmiobbjklaaGreatDoorTie.lean); close each card by the builder's one call (the guide's Derived/Test/ToyasCard.lean, 'card_holds'). Laid BY PROGRAM, IN A SANDBOX (cutbox-door.mjs). By AI agents, Wed Nov 11 2026. No macro, syntax, notation, axiom, sorry.
-/
import Derived.Test.YtfeahmiobbjklaaGreatDoorRows
import GoSem.ClaimSeven
namespace Go.Proofs.YtfeahmiobbjklaaGreatDoor
namespace Rows

/-- THE TIED CARD OF 'guerdonlaw32.TableevalConditions'. -/
def tableevalConditionsCard : Claim7 := { stood := { row := tableevalConditionsRow, standIns := [], harness := (true, "2bb41ff9245350b77ed2bee49ad86246c28bff173b01bb7057e7fb8062b7c9f4"), looks := true }, kinds := [], alts := [], laidByText := true, laidKinds := [.data], laidTests := true, laidLooks := .later }
def TableevalConditionsCardSaid : Prop := Claim7.holds Tryz.pinned (.plain (OpenSpec.ofChange tableevalConditionsSpec)) tableevalConditionsCard

/-- THE TIED CARD OF 'guerdonlaw32.TableevalRun'. -/
def tableevalRunCard : Claim7 := { stood := { row := tableevalRunRow, standIns := [], harness := (true, "2bb41ff9245350b77ed2bee49ad86246c28bff173b01bb7057e7fb8062b7c9f4"), looks := true }, kinds := [], alts := [], laidByText := true, laidKinds := [.data], laidTests := true, laidLooks := .later }
def TableevalRunCardSaid : Prop := Claim7.holds Tryz.pinned (.plain (OpenSpec.ofChange tableevalRunSpec)) tableevalRunCard

/-- THE TIED CARD OF 'guerdonlaw32.TableevalOutcome'. -/
def tableevalOutcomeCard : Claim7 := { stood := { row := tableevalOutcomeRow, standIns := [], harness := (true, "2bb41ff9245350b77ed2bee49ad86246c28bff173b01bb7057e7fb8062b7c9f4"), looks := true }, kinds := [], alts := [], laidByText := true, laidKinds := [.data], laidTests := true, laidLooks := .later }
def TableevalOutcomeCardSaid : Prop := Claim7.holds Tryz.pinned (.plain (OpenSpec.ofChange tableevalOutcomeSpec)) tableevalOutcomeCard

/-- THE TIED CARD OF 'guerdonlaw32.TableevalAgrees'. -/
def tableevalAgreesCard : Claim7 := { stood := { row := tableevalAgreesRow, standIns := [], harness := (true, "2bb41ff9245350b77ed2bee49ad86246c28bff173b01bb7057e7fb8062b7c9f4"), looks := true }, kinds := [], alts := [], laidByText := true, laidKinds := [.data], laidTests := true, laidLooks := .later }
def TableevalAgreesCardSaid : Prop := Claim7.holds Tryz.pinned (.plain (OpenSpec.ofChange tableevalAgreesSpec)) tableevalAgreesCard

/-- THE SECOND FORM's CARD OF 'guerdonlaw32.TableevalConditions'. -/
def tableevalConditionsUptoCard : Claim7 := { stood := { row := tableevalConditionsUptoRow, standIns := [], harness := (true, "2bb41ff9245350b77ed2bee49ad86246c28bff173b01bb7057e7fb8062b7c9f4"), looks := true }, kinds := [], alts := [], laidByText := true, laidKinds := [.data], laidTests := true, laidLooks := .later }
def TableevalConditionsUptoCardSaid : Prop := Claim7.holds Tryz.pinned (.plain (OpenSpec.upto tableevalConditionsSpec)) tableevalConditionsUptoCard

/-- THE SECOND FORM's CARD OF 'guerdonlaw32.TableevalRun'. -/
def tableevalRunUptoCard : Claim7 := { stood := { row := tableevalRunUptoRow, standIns := [], harness := (true, "2bb41ff9245350b77ed2bee49ad86246c28bff173b01bb7057e7fb8062b7c9f4"), looks := true }, kinds := [], alts := [], laidByText := true, laidKinds := [.data], laidTests := true, laidLooks := .later }
def TableevalRunUptoCardSaid : Prop := Claim7.holds Tryz.pinned (.plain (OpenSpec.upto tableevalRunSpec)) tableevalRunUptoCard

/-- THE SECOND FORM's CARD OF 'guerdonlaw32.TableevalOutcome'. -/
def tableevalOutcomeUptoCard : Claim7 := { stood := { row := tableevalOutcomeUptoRow, standIns := [], harness := (true, "2bb41ff9245350b77ed2bee49ad86246c28bff173b01bb7057e7fb8062b7c9f4"), looks := true }, kinds := [], alts := [], laidByText := true, laidKinds := [.data], laidTests := true, laidLooks := .later }
def TableevalOutcomeUptoCardSaid : Prop := Claim7.holds Tryz.pinned (.plain (OpenSpec.upto tableevalOutcomeSpec)) tableevalOutcomeUptoCard

/-- THE SECOND FORM's CARD OF 'guerdonlaw32.TableevalAgrees'. -/
def tableevalAgreesUptoCard : Claim7 := { stood := { row := tableevalAgreesUptoRow, standIns := [], harness := (true, "2bb41ff9245350b77ed2bee49ad86246c28bff173b01bb7057e7fb8062b7c9f4"), looks := true }, kinds := [], alts := [], laidByText := true, laidKinds := [.data], laidTests := true, laidLooks := .later }
def TableevalAgreesUptoCardSaid : Prop := Claim7.holds Tryz.pinned (.plain (OpenSpec.upto tableevalAgreesSpec)) tableevalAgreesUptoCard
end Rows
end Go.Proofs.YtfeahmiobbjklaaGreatDoor
