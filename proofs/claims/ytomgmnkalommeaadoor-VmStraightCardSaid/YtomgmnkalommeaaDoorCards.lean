/-
  DERIVED. GIVEN WITH THE SEED: THE CARDS: each row of YtomgmnkalommeaaDoorRows.lean that lists a variable, with what it lists TIED to the program's text (the seventh form; the later family's looks); each row that meets fmt, with fmt's text TOLD by the authors' own Lean function (tested against real Go, not proved from fmt's source: count such statements apart). THE CARD IS WHAT COUNTS. Prove the row's statement (the work); the ties are given (YtomgmnkalommeaaDoorTie.lean); close each card by the builder's one call (the guide's Derived/Test/ToyasCard.lean, 'card_holds'). Laid BY PROGRAM, IN A SANDBOX (cutbox-door.mjs). By AI agents, Wed Nov 11 2026. No macro, syntax, notation, axiom, sorry.
-/
import Derived.Test.YtomgmnkalommeaaDoorRows
import GoSem.ClaimSeven
namespace Go.Proofs.YtomgmnkalommeaaDoor
namespace Rows

/-- THE TIED CARD OF 'guerdonlaw27.VmSteps'. -/
def vmStepsCard : Claim7 := { stood := { row := vmStepsRow, standIns := [], harness := (true, "f604890b538f3f22cb417e82d93bf95e3a42bcc6b6cb638dba9e97591935d7c9"), looks := false }, kinds := [], alts := [], laidByText := true, laidKinds := [.data], laidTests := true, laidLooks := .later }
def VmStepsCardSaid : Prop := Claim7.holds Tryd.pinned (.plain (OpenSpec.ofChange vmStepsSpec)) vmStepsCard

/-- THE TIED CARD OF 'guerdonlaw27.VmStraight'. -/
def vmStraightCard : Claim7 := { stood := { row := vmStraightRow, standIns := [], harness := (true, "f604890b538f3f22cb417e82d93bf95e3a42bcc6b6cb638dba9e97591935d7c9"), looks := false }, kinds := [], alts := [], laidByText := true, laidKinds := [.data], laidTests := true, laidLooks := .later }
def VmStraightCardSaid : Prop := Claim7.holds Tryd.pinned (.plain (OpenSpec.ofChange vmStraightSpec)) vmStraightCard

/-- THE SECOND FORM's CARD OF 'guerdonlaw27.VmSteps'. -/
def vmStepsUptoCard : Claim7 := { stood := { row := vmStepsUptoRow, standIns := [], harness := (true, "f604890b538f3f22cb417e82d93bf95e3a42bcc6b6cb638dba9e97591935d7c9"), looks := false }, kinds := [], alts := [], laidByText := true, laidKinds := [.data], laidTests := true, laidLooks := .later }
def VmStepsUptoCardSaid : Prop := Claim7.holds Tryd.pinned (.plain (OpenSpec.upto vmStepsSpec)) vmStepsUptoCard

/-- THE SECOND FORM's CARD OF 'guerdonlaw27.VmStraight'. -/
def vmStraightUptoCard : Claim7 := { stood := { row := vmStraightUptoRow, standIns := [], harness := (true, "f604890b538f3f22cb417e82d93bf95e3a42bcc6b6cb638dba9e97591935d7c9"), looks := false }, kinds := [], alts := [], laidByText := true, laidKinds := [.data], laidTests := true, laidLooks := .later }
def VmStraightUptoCardSaid : Prop := Claim7.holds Tryd.pinned (.plain (OpenSpec.upto vmStraightSpec)) vmStraightUptoCard
end Rows
end Go.Proofs.YtomgmnkalommeaaDoor
