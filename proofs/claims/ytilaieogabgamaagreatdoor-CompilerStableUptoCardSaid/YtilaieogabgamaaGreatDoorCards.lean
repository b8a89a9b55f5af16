/-
  DERIVED. GIVEN WITH THE SEED: THE CARDS: each row of YtilaieogabgamaaGreatDoorRows.lean that lists a variable, with what it lists TIED to the program's text (the seventh form; the later family's looks); each row that meets fmt, with fmt's text TOLD by the authors' own Lean function (tested against real Go, not proved from fmt's source: count such statements apart). THE CARD IS WHAT COUNTS. Prove the row's statement (the work); the ties are given (YtilaieogabgamaaGreatDoorTie.lean); close each card by the builder's one call (the guide's Derived/Test/ToyasCard.lean, 'card_holds'). Laid BY PROGRAM, IN A SANDBOX (cutbox-door.mjs). By AI agents, Wed Nov 11 2026. No macro, syntax, notation, axiom, sorry.
-/
import Derived.Test.YtilaieogabgamaaGreatDoorRows
import GoSem.ClaimSeven
namespace Go.Proofs.YtilaieogabgamaaGreatDoor
namespace Rows

/-- THE TIED CARD OF 'guerdonlaw29.CompilerStable'. -/
def compilerStableCard : Claim7 := { stood := { row := compilerStableRow, standIns := [], harness := (true, "cd92131fdab7845b9e7fe324bb227f0e3fb0c667251b23c8e2620e462d7783f0"), looks := true }, kinds := [], alts := [], laidByText := true, laidKinds := [.data], laidTests := true, laidLooks := .later }
def CompilerStableCardSaid : Prop := Claim7.holds Tryz.pinned (.plain (OpenSpec.ofChange compilerStableSpec)) compilerStableCard

/-- THE TIED CARD OF 'guerdonlaw29.CompilerCompile'. -/
def compilerCompileCard : Claim7 := { stood := { row := compilerCompileRow, standIns := [], harness := (true, "cd92131fdab7845b9e7fe324bb227f0e3fb0c667251b23c8e2620e462d7783f0"), looks := true }, kinds := [], alts := [], laidByText := true, laidKinds := [.data], laidTests := true, laidLooks := .later }
def CompilerCompileCardSaid : Prop := Claim7.holds Tryz.pinned (.plain (OpenSpec.ofChange compilerCompileSpec)) compilerCompileCard

/-- THE SECOND FORM's CARD OF 'guerdonlaw29.CompilerStable'. -/
def compilerStableUptoCard : Claim7 := { stood := { row := compilerStableUptoRow, standIns := [], harness := (true, "cd92131fdab7845b9e7fe324bb227f0e3fb0c667251b23c8e2620e462d7783f0"), looks := true }, kinds := [], alts := [], laidByText := true, laidKinds := [.data], laidTests := true, laidLooks := .later }
def CompilerStableUptoCardSaid : Prop := Claim7.holds Tryz.pinned (.plain (OpenSpec.upto compilerStableSpec)) compilerStableUptoCard

/-- THE SECOND FORM's CARD OF 'guerdonlaw29.CompilerCompile'. -/
def compilerCompileUptoCard : Claim7 := { stood := { row := compilerCompileUptoRow, standIns := [], harness := (true, "cd92131fdab7845b9e7fe324bb227f0e3fb0c667251b23c8e2620e462d7783f0"), looks := true }, kinds := [], alts := [], laidByText := true, laidKinds := [.data], laidTests := true, laidLooks := .later }
def CompilerCompileUptoCardSaid : Prop := Claim7.holds Tryz.pinned (.plain (OpenSpec.upto compilerCompileSpec)) compilerCompileUptoCard
end Rows
end Go.Proofs.YtilaieogabgamaaGreatDoor
