/-
  DERIVED. GIVEN WITH THE SEED: THE CARDS: each row of YtfjgcenlllgonaaGreatDoorRows.lean that lists a variable, with what it lists TIED to the program's text (the seventh form; the later family's looks); each row that meets fmt, with fmt's text TOLD by the authors' own Lean function (tested against real Go, not proved from fmt's source: count such statements apart). THE CARD IS WHAT COUNTS. Prove the row's statement (the work); the ties are given (YtfjgcenlllgonaaGreatDoorTie.lean); close each card by the builder's one call (the guide's Derived/Test/ToyasCard.lean, 'card_holds'). Laid BY PROGRAM, IN A SANDBOX (cutbox-door.mjs). By AI agents, Wed Nov 11 2026. No macro, syntax, notation, axiom, sorry.
-/
import Derived.Test.YtfjgcenlllgonaaGreatDoorRows
import GoSem.ClaimSeven
namespace Go.Proofs.YtfjgcenlllgonaaGreatDoor
namespace Rows

/-- THE TIED CARD OF 'guerdonlaw29.CompilerRun'. -/
def compilerRunCard : Claim7 := { stood := { row := compilerRunRow, standIns := [], harness := (true, "a23270bc5c32c680b38abfdf186966875dc6e07990d70c4dcd5d12bef2bc91f3"), looks := true }, kinds := [], alts := [], laidByText := true, laidKinds := [.data], laidTests := true, laidLooks := .later }
def CompilerRunCardSaid : Prop := Claim7.holds Tryz.pinned (.plain (OpenSpec.ofChange compilerRunSpec)) compilerRunCard

/-- THE TIED CARD OF 'guerdonlaw29.CompilerCompile'. -/
def compilerCompileCard : Claim7 := { stood := { row := compilerCompileRow, standIns := [], harness := (true, "a23270bc5c32c680b38abfdf186966875dc6e07990d70c4dcd5d12bef2bc91f3"), looks := true }, kinds := [], alts := [], laidByText := true, laidKinds := [.data], laidTests := true, laidLooks := .later }
def CompilerCompileCardSaid : Prop := Claim7.holds Tryz.pinned (.plain (OpenSpec.ofChange compilerCompileSpec)) compilerCompileCard

/-- THE SECOND FORM's CARD OF 'guerdonlaw29.CompilerRun'. -/
def compilerRunUptoCard : Claim7 := { stood := { row := compilerRunUptoRow, standIns := [], harness := (true, "a23270bc5c32c680b38abfdf186966875dc6e07990d70c4dcd5d12bef2bc91f3"), looks := true }, kinds := [], alts := [], laidByText := true, laidKinds := [.data], laidTests := true, laidLooks := .later }
def CompilerRunUptoCardSaid : Prop := Claim7.holds Tryz.pinned (.plain (OpenSpec.upto compilerRunSpec)) compilerRunUptoCard

/-- THE SECOND FORM's CARD OF 'guerdonlaw29.CompilerCompile'. -/
def compilerCompileUptoCard : Claim7 := { stood := { row := compilerCompileUptoRow, standIns := [], harness := (true, "a23270bc5c32c680b38abfdf186966875dc6e07990d70c4dcd5d12bef2bc91f3"), looks := true }, kinds := [], alts := [], laidByText := true, laidKinds := [.data], laidTests := true, laidLooks := .later }
def CompilerCompileUptoCardSaid : Prop := Claim7.holds Tryz.pinned (.plain (OpenSpec.upto compilerCompileSpec)) compilerCompileUptoCard
end Rows
end Go.Proofs.YtfjgcenlllgonaaGreatDoor
