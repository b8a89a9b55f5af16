/-
  DERIVED. GIVEN WITH THE SEED: THE CARDS: each row of YtbmkhjdoalnkmaaDoorRows.lean that lists a variable, with what it lists TIED to the program's text (the seventh form; the later family's looks); each row that meets fmt, with fmt's text TOLD by the authors' own Lean function (tested against real Go, not proved from fmt's source: count such statements apart). THE CARD IS WHAT COUNTS. Prove the row's statement (the work); the ties are given (YtbmkhjdoalnkmaaDoorTie.lean); close each card by the builder's one call (the guide's Derived/Test/ToyasCard.lean, 'card_holds'). Laid BY PROGRAM, IN A SANDBOX (cutbox-door.mjs). By AI agents, Wed Nov 11 2026. No macro, syntax, notation, axiom, sorry.
-/
import Derived.Test.YtbmkhjdoalnkmaaDoorRows
import GoSem.ClaimSeven
namespace Go.Proofs.YtbmkhjdoalnkmaaDoor
namespace Rows

/-- THE TIED CARD OF 'guerdonlaw13.EvalComposition'. -/
def evalCompositionCard : Claim7 := { stood := { row := evalCompositionRow, standIns := [], harness := (true, "8f9ebe615b8ecb1b4b357dc5a75ba293bb2b34ea53dfe675ee6fba84296ae254"), looks := false }, kinds := [], alts := [], laidByText := true, laidKinds := [.data], laidTests := true, laidLooks := .later }
def EvalCompositionCardSaid : Prop := Claim7.holds Tryd.pinned (.plain (OpenSpec.ofChange evalCompositionSpec)) evalCompositionCard

/-- THE TIED CARD OF 'guerdonlaw13.EvalTypeSound'. -/
def evalTypeSoundCard : Claim7 := { stood := { row := evalTypeSoundRow, standIns := [], harness := (true, "8f9ebe615b8ecb1b4b357dc5a75ba293bb2b34ea53dfe675ee6fba84296ae254"), looks := false }, kinds := [], alts := [], laidByText := true, laidKinds := [.data], laidTests := true, laidLooks := .later }
def EvalTypeSoundCardSaid : Prop := Claim7.holds Tryd.pinned (.plain (OpenSpec.ofChange evalTypeSoundSpec)) evalTypeSoundCard

/-- THE SECOND FORM's CARD OF 'guerdonlaw13.EvalComposition'. -/
def evalCompositionUptoCard : Claim7 := { stood := { row := evalCompositionUptoRow, standIns := [], harness := (true, "8f9ebe615b8ecb1b4b357dc5a75ba293bb2b34ea53dfe675ee6fba84296ae254"), looks := false }, kinds := [], alts := [], laidByText := true, laidKinds := [.data], laidTests := true, laidLooks := .later }
def EvalCompositionUptoCardSaid : Prop := Claim7.holds Tryd.pinned (.plain (OpenSpec.upto evalCompositionSpec)) evalCompositionUptoCard

/-- THE SECOND FORM's CARD OF 'guerdonlaw13.EvalTypeSound'. -/
def evalTypeSoundUptoCard : Claim7 := { stood := { row := evalTypeSoundUptoRow, standIns := [], harness := (true, "8f9ebe615b8ecb1b4b357dc5a75ba293bb2b34ea53dfe675ee6fba84296ae254"), looks := false }, kinds := [], alts := [], laidByText := true, laidKinds := [.data], laidTests := true, laidLooks := .later }
def EvalTypeSoundUptoCardSaid : Prop := Claim7.holds Tryd.pinned (.plain (OpenSpec.upto evalTypeSoundSpec)) evalTypeSoundUptoCard
end Rows
end Go.Proofs.YtbmkhjdoalnkmaaDoor
