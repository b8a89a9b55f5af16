/-
  NARROWER THAN 'FOR EVERY INPUT', by the rows' own cells (each row's printed sentence says how): TopRecoveryLimits: laid · TopCorrections: laid.
  DERIVED. THE GIVEN ROWS OF THIS SEAT. 2 by the template 'for every input the law returns true; each argument reads behind the call as it read before'; 0 by the template 'total and deterministic' (their statements: YtleifhfeahnocaaGreatDoorTotals.lean).
  GIVEN WITH THE SEED: the statements are not yours to turn. If you find one false, say at which input.
  Laid BY PROGRAM, IN A SANDBOX (cutbox-rows.mjs): the forced cells as the released guide's own fill.sh prints them over the translation 1f338db77f57ea5b… (all of the seat's roots in one cut). By AI agents, Wed Nov 11 2026. No macro, syntax, notation, axiom, sorry.
-/
import Derived.Test.YtleifhfeahnocaaGreatDoorChecked
import GoSem.Claim
import GoSem.ClaimJoined
import GoSem.ClaimMapViews
import Derived.JoinedTies
import Derived.KernelRfl
namespace Go.Proofs.YtleifhfeahnocaaGreatDoor
/- THE CELL 'sum', in the pinned program and in every row, IS THE sha256 OF THE DUMP (.gsa) THAT YtleifhfeahnocaaGreatDoorProg.lean LOADS. Nothing in Lean hashes anything: it is a label: what it is worth is what the hold of that sum in a sandbox is worth. -/
noncomputable def Tryz.pinned : Pinned := { name := "ytleifhfeahnocaagreatdoor", sum := "1f338db77f57ea5b4ccd7eb993131f0227e4af87cbdf68faebb11d1d47c38752", checked := Tryz.checked }
namespace Rows
def none {H : Type} : Left H := { results := [], args := [] }

/- WHAT THE LISTED PACKAGE-LEVEL VARIABLES READ AS WHEN THE CALL BEGINS. Each datum BY PROGRAM (the guide's laid-datum.mjs) off the statement by which the dump's own 'gosem.cut.vars' lays the variable. In a bare row this is a premise. The card (YtleifhfeahnocaaGreatDoorCards.lean) ties it to the program's text. -/
def laid_guerdon_date_monthLengths {H : Type} : DataW H := .agg [.lit (.int .i64 31), .lit (.int .i64 28), .lit (.int .i64 31), .lit (.int .i64 30), .lit (.int .i64 31), .lit (.int .i64 30), .lit (.int .i64 31), .lit (.int .i64 31), .lit (.int .i64 30), .lit (.int .i64 31), .lit (.int .i64 30), .lit (.int .i64 31)]

/-- 'guerdontop.TopRecoveryLimits': WHATEVER THE INPUT: true; the input reads as it did. -/
def topRecoveryLimitsSpec : ChangeSpec := { name := "topRecoveryLimits", fn := fun _ => fun
  | [d1, d2, d3, d4] => { results := [.lit (.bool true)], args := [d1, d2, d3, d4] }
  | _ => none }
def topRecoveryLimitsRow : OpenClaim := { program := "ytleifhfeahnocaagreatdoor", sum := "1f338db77f57ea5b4ccd7eb993131f0227e4af87cbdf68faebb11d1d47c38752", func := "guerdon/guerdontop.TopRecoveryLimits", spec := "topRecoveryLimits", inPlace := ["internal/bytealg.IndexByteString", "internal/bytealg.IndexString"], unfollowed := true, recurses := true, named := ["internal/bytealg.MaxLen", "guerdon/date.monthLengths", "math/bits.divideError", "math/bits.overflowError"], apart := false, laid := [("guerdon/date.monthLengths", laid_guerdon_date_monthLengths)] }
def TopRecoveryLimitsSaid : Prop := topRecoveryLimitsRow.holds Tryz.pinned (OpenSpec.ofChange topRecoveryLimitsSpec)

/-- ITS FALSE NEIGHBOUR: 'it returns false'. Refute it at one input. -/
def topRecoveryLimitsWrong : ChangeSpec := { name := "topRecoveryLimits", fn := fun _ => fun
  | [d1, d2, d3, d4] => { results := [.lit (.bool false)], args := [d1, d2, d3, d4] }
  | _ => none }
def TopRecoveryLimitsWrongFalsely : Prop := topRecoveryLimitsRow.holds Tryz.pinned (OpenSpec.ofChange topRecoveryLimitsWrong)

/-- 'guerdontop.TopCorrections': WHATEVER THE INPUT: true; the input reads as it did. -/
def topCorrectionsSpec : ChangeSpec := { name := "topCorrections", fn := fun _ => fun
  | [d1, d2, d3, d4] => { results := [.lit (.bool true)], args := [d1, d2, d3, d4] }
  | _ => none }
def topCorrectionsRow : OpenClaim := { program := "ytleifhfeahnocaagreatdoor", sum := "1f338db77f57ea5b4ccd7eb993131f0227e4af87cbdf68faebb11d1d47c38752", func := "guerdon/guerdontop.TopCorrections", spec := "topCorrections", inPlace := ["internal/bytealg.IndexByteString", "internal/bytealg.IndexString"], unfollowed := true, recurses := true, named := ["internal/bytealg.MaxLen", "guerdon/date.monthLengths", "math/bits.divideError", "math/bits.overflowError"], apart := false, laid := [("guerdon/date.monthLengths", laid_guerdon_date_monthLengths)] }
def TopCorrectionsSaid : Prop := topCorrectionsRow.holds Tryz.pinned (OpenSpec.ofChange topCorrectionsSpec)

/-- ITS FALSE NEIGHBOUR: 'it returns false'. Refute it at one input. -/
def topCorrectionsWrong : ChangeSpec := { name := "topCorrections", fn := fun _ => fun
  | [d1, d2, d3, d4] => { results := [.lit (.bool false)], args := [d1, d2, d3, d4] }
  | _ => none }
def TopCorrectionsWrongFalsely : Prop := topCorrectionsRow.holds Tryz.pinned (OpenSpec.ofChange topCorrectionsWrong)

/- THE SECOND FORM. 'bulk': how many values and letters a reading holds, each counted each time it is reached (what is shared counts as often as it is met; a slice's spare places count too). A statement '..UptoSaid' is the law's where the arguments, and the package variables that the reading takes, are together of bulk at most 1048576: NARROWER than '..Said'. Prove '..Said' where nothing that the law and all that it calls make is longer than what came in: it says more and counts as full. Else prove '..UptoSaid'. A law counts once. -/
mutual
def uptoBulk {H : Type} : DataW H → Nat
  | .lit (.string bytes) => bytes.length + 1
  | .lit _ => 1
  | .nil => 1
  | .ptr d => uptoBulk d + 1
  | .slice elems spare => uptoBulkAll elems + uptoBulkAll spare + 1
  | .agg parts => uptoBulkAll parts + 1
  | .iface _ d => uptoBulk d + 1
  | .map entries => uptoBulkEntries entries + 1
  | .held _ => 1
def uptoBulkAll {H : Type} : List (DataW H) → Nat
  | [] => 0
  | d :: r => uptoBulk d + uptoBulkAll r
def uptoBulkEntries {H : Type} : List (Lit × DataW H) → Nat
  | [] => 0
  | x :: r => uptoBulkEntry x + uptoBulkEntries r
def uptoBulkEntry {H : Type} : Lit × DataW H → Nat
  | (.string bytes, d) => bytes.length + uptoBulk d + 1
  | (_, d) => uptoBulk d + 1
 end
def uptoSmall : (H : Type) → List (DataW H) → Bool := fun _ ds => decide (uptoBulkAll ds ≤ 1048576)
def OpenSpec.upto (s : _root_.Go.ChangeSpec) : _root_.Go.OpenSpec := { _root_.Go.OpenSpec.ofChange s with cond := some uptoSmall }

/-- 'guerdontop.TopRecoveryLimits', WHERE WHAT IT READS IS OF BULK AT MOST 1048576: true; the input reads as it did. -/
def topRecoveryLimitsUptoRow : OpenClaim := { program := "ytleifhfeahnocaagreatdoor", sum := "1f338db77f57ea5b4ccd7eb993131f0227e4af87cbdf68faebb11d1d47c38752", func := "guerdon/guerdontop.TopRecoveryLimits", spec := "topRecoveryLimits", inPlace := ["internal/bytealg.IndexByteString", "internal/bytealg.IndexString"], unfollowed := true, recurses := true, named := ["internal/bytealg.MaxLen", "guerdon/date.monthLengths", "math/bits.divideError", "math/bits.overflowError"], apart := false, laid := [("guerdon/date.monthLengths", laid_guerdon_date_monthLengths)], narrowed := true }
def TopRecoveryLimitsUptoSaid : Prop := topRecoveryLimitsUptoRow.holds Tryz.pinned (OpenSpec.upto topRecoveryLimitsSpec)

/-- 'guerdontop.TopCorrections', WHERE WHAT IT READS IS OF BULK AT MOST 1048576: true; the input reads as it did. -/
def topCorrectionsUptoRow : OpenClaim := { program := "ytleifhfeahnocaagreatdoor", sum := "1f338db77f57ea5b4ccd7eb993131f0227e4af87cbdf68faebb11d1d47c38752", func := "guerdon/guerdontop.TopCorrections", spec := "topCorrections", inPlace := ["internal/bytealg.IndexByteString", "internal/bytealg.IndexString"], unfollowed := true, recurses := true, named := ["internal/bytealg.MaxLen", "guerdon/date.monthLengths", "math/bits.divideError", "math/bits.overflowError"], apart := false, laid := [("guerdon/date.monthLengths", laid_guerdon_date_monthLengths)], narrowed := true }
def TopCorrectionsUptoSaid : Prop := topCorrectionsUptoRow.holds Tryz.pinned (OpenSpec.upto topCorrectionsSpec)

end Rows
end Go.Proofs.YtleifhfeahnocaaGreatDoor
