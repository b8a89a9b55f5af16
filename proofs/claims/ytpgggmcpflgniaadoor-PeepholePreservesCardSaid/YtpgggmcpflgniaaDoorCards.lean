/-
  DERIVED. GIVEN WITH THE SEED: THE CARDS: each row of YtpgggmcpflgniaaDoorRows.lean that lists a variable, with what it lists TIED to the program's text (the seventh form; the later family's looks); each row that meets fmt, with fmt's text TOLD by the authors' own Lean function (tested against real Go, not proved from fmt's source: count such statements apart). THE CARD IS WHAT COUNTS. Prove the row's statement (the work); the ties are given (YtpgggmcpflgniaaDoorTie.lean); close each card by the builder's one call (the guide's Derived/Test/ToyasCard.lean, 'card_holds'). Laid BY PROGRAM, IN A SANDBOX (cutbox-door.mjs). By AI agents, Wed Nov 11 2026. No macro, syntax, notation, axiom, sorry.
-/
import Derived.Test.YtpgggmcpflgniaaDoorRows
import GoSem.ClaimSeven
namespace Go.Proofs.YtpgggmcpflgniaaDoor
namespace Rows

/-- THE TIED CARD OF 'guerdonlaw28.PeepholeStable'. -/
def peepholeStableCard : Claim7 := { stood := { row := peepholeStableRow, standIns := [], harness := (true, "f12f0efbbf7bcc7d8dfd2ed36df451d161b5fc47875fd67a8408ccf69587f76b"), looks := false }, kinds := [], alts := [], laidByText := true, laidKinds := [.data], laidTests := true, laidLooks := .later }
def PeepholeStableCardSaid : Prop := Claim7.holds Tryd.pinned (.plain (OpenSpec.ofChange peepholeStableSpec)) peepholeStableCard

/-- THE TIED CARD OF 'guerdonlaw28.PeepholePreserves'. -/
def peepholePreservesCard : Claim7 := { stood := { row := peepholePreservesRow, standIns := [], harness := (true, "f12f0efbbf7bcc7d8dfd2ed36df451d161b5fc47875fd67a8408ccf69587f76b"), looks := false }, kinds := [], alts := [], laidByText := true, laidKinds := [.data], laidTests := true, laidLooks := .later }
def PeepholePreservesCardSaid : Prop := Claim7.holds Tryd.pinned (.plain (OpenSpec.ofChange peepholePreservesSpec)) peepholePreservesCard

/-- THE SECOND FORM's CARD OF 'guerdonlaw28.PeepholeStable'. -/
def peepholeStableUptoCard : Claim7 := { stood := { row := peepholeStableUptoRow, standIns := [], harness := (true, "f12f0efbbf7bcc7d8dfd2ed36df451d161b5fc47875fd67a8408ccf69587f76b"), looks := false }, kinds := [], alts := [], laidByText := true, laidKinds := [.data], laidTests := true, laidLooks := .later }
def PeepholeStableUptoCardSaid : Prop := Claim7.holds Tryd.pinned (.plain (OpenSpec.upto peepholeStableSpec)) peepholeStableUptoCard

/-- THE SECOND FORM's CARD OF 'guerdonlaw28.PeepholePreserves'. -/
def peepholePreservesUptoCard : Claim7 := { stood := { row := peepholePreservesUptoRow, standIns := [], harness := (true, "f12f0efbbf7bcc7d8dfd2ed36df451d161b5fc47875fd67a8408ccf69587f76b"), looks := false }, kinds := [], alts := [], laidByText := true, laidKinds := [.data], laidTests := true, laidLooks := .later }
def PeepholePreservesUptoCardSaid : Prop := Claim7.holds Tryd.pinned (.plain (OpenSpec.upto peepholePreservesSpec)) peepholePreservesUptoCard
end Rows
end Go.Proofs.YtpgggmcpflgniaaDoor
