/-
  DERIVED. GIVEN WITH THE SEED: THE CARDS: each row of YtlfjlhcigpejdaaGreatDoorRows.lean that lists a variable, with what it lists TIED to the program's text (the seventh form; the later family's looks); each row that meets fmt, with fmt's text TOLD by the authors' own Lean function (tested against real Go, not proved from fmt's source: count such statements apart). THE CARD IS WHAT COUNTS. Prove the row's statement (the work); the ties are given (YtlfjlhcigpejdaaGreatDoorTie.lean); close each card by the builder's one call (the guide's Derived/Test/ToyasCard.lean, 'card_holds'). Laid BY PROGRAM, IN A SANDBOX (cutbox-door.mjs). By AI agents, Wed Nov 11 2026. No macro, syntax, notation, axiom, sorry.
-/
import Derived.Test.YtlfjlhcigpejdaaGreatDoorRows
import GoSem.ClaimSeven
namespace Go.Proofs.YtlfjlhcigpejdaaGreatDoor
namespace Rows

/-- THE TIED CARD OF 'guerdonlaw28.PeepholeOptimize'. -/
def peepholeOptimizeCard : Claim7 := { stood := { row := peepholeOptimizeRow, standIns := [], harness := (true, "062fafc58582561806e58cd51ba47a2fac17b408599bd1b8998062a23d7467e5"), looks := false }, kinds := [], alts := [], laidByText := true, laidKinds := [.data], laidTests := true, laidLooks := .later }
def PeepholeOptimizeCardSaid : Prop := Claim7.holds Tryz.pinned (.plain (OpenSpec.ofChange peepholeOptimizeSpec)) peepholeOptimizeCard

/-- THE SECOND FORM's CARD OF 'guerdonlaw28.PeepholeOptimize'. -/
def peepholeOptimizeUptoCard : Claim7 := { stood := { row := peepholeOptimizeUptoRow, standIns := [], harness := (true, "062fafc58582561806e58cd51ba47a2fac17b408599bd1b8998062a23d7467e5"), looks := false }, kinds := [], alts := [], laidByText := true, laidKinds := [.data], laidTests := true, laidLooks := .later }
def PeepholeOptimizeUptoCardSaid : Prop := Claim7.holds Tryz.pinned (.plain (OpenSpec.upto peepholeOptimizeSpec)) peepholeOptimizeUptoCard
end Rows
end Go.Proofs.YtlfjlhcigpejdaaGreatDoor
