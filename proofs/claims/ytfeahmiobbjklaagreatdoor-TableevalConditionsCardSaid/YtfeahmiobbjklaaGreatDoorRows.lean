/-
  NARROWER THAN 'FOR EVERY INPUT', by the rows' own cells (each row's printed sentence says how): TableevalConditions: laid · TableevalRun: laid · TableevalOutcome: laid · TableevalAgrees: laid.
  DERIVED. THE GIVEN ROWS OF THIS SEAT. 4 by the template 'for every input the law returns true; each argument reads behind the call as it read before'; 0 by the template 'total and deterministic' (their statements: YtfeahmiobbjklaaGreatDoorTotals.lean).
  GIVEN WITH THE SEED: the statements are not yours to turn. If you find one false, say at which input.
  Laid BY PROGRAM, IN A SANDBOX (cutbox-rows.mjs): the forced cells as the released guide's own fill.sh prints them over the translation a40c86d76d18aea6… (all of the seat's roots in one cut). By AI agents, Wed Nov 11 2026. No macro, syntax, notation, axiom, sorry.
-/
import Derived.Test.YtfeahmiobbjklaaGreatDoorChecked
import GoSem.Claim
import GoSem.ClaimJoined
import GoSem.ClaimMapViews
import Derived.JoinedTies
import Derived.KernelRfl
namespace Go.Proofs.YtfeahmiobbjklaaGreatDoor
/- THE CELL 'sum', in the pinned program and in every row, IS THE sha256 OF THE DUMP (.gsa) THAT YtfeahmiobbjklaaGreatDoorProg.lean LOADS. Nothing in Lean hashes anything: it is a label: what it is worth is what the hold of that sum in a sandbox is worth. -/
noncomputable def Tryz.pinned : Pinned := { name := "ytfeahmiobbjklaagreatdoor", sum := "a40c86d76d18aea68d1805313fbbae89815849e1e09a74c10930aa0f52f6d400", checked := Tryz.checked }
namespace Rows
def none {H : Type} : Left H := { results := [], args := [] }

/- WHAT THE LISTED PACKAGE-LEVEL VARIABLES READ AS WHEN THE CALL BEGINS. Each datum BY PROGRAM (the guide's laid-datum.mjs) off the statement by which the dump's own 'gosem.cut.vars' lays the variable. In a bare row this is a premise. The card (YtfeahmiobbjklaaGreatDoorCards.lean) ties it to the program's text. -/
def laid_guerdon_date_monthLengths {H : Type} : DataW H := .agg [.lit (.int .i64 31), .lit (.int .i64 28), .lit (.int .i64 31), .lit (.int .i64 30), .lit (.int .i64 31), .lit (.int .i64 30), .lit (.int .i64 31), .lit (.int .i64 31), .lit (.int .i64 30), .lit (.int .i64 31), .lit (.int .i64 30), .lit (.int .i64 31)]

/-- 'guerdonlaw32.TableevalConditions': WHATEVER THE INPUT: true; the input reads as it did. -/
def tableevalConditionsSpec : ChangeSpec := { name := "tableevalConditions", fn := fun _ => fun
  | [d1, d2] => { results := [.lit (.bool true)], args := [d1, d2] }
  | _ => none }
def tableevalConditionsRow : OpenClaim := { program := "ytfeahmiobbjklaagreatdoor", sum := "a40c86d76d18aea68d1805313fbbae89815849e1e09a74c10930aa0f52f6d400", func := "guerdon/guerdonlaw32.TableevalConditions", spec := "tableevalConditions", inPlace := ["internal/bytealg.IndexByteString", "internal/bytealg.IndexString"], unfollowed := true, recurses := true, named := ["math/bits.divideError", "math/bits.overflowError", "guerdon/date.monthLengths", "internal/bytealg.MaxLen"], plainKeys := false, apart := false, laid := [("guerdon/date.monthLengths", laid_guerdon_date_monthLengths)] }
def TableevalConditionsSaid : Prop := tableevalConditionsRow.holds Tryz.pinned (OpenSpec.ofChange tableevalConditionsSpec)

/-- ITS FALSE NEIGHBOUR: 'it returns false'. Refute it at one input. -/
def tableevalConditionsWrong : ChangeSpec := { name := "tableevalConditions", fn := fun _ => fun
  | [d1, d2] => { results := [.lit (.bool false)], args := [d1, d2] }
  | _ => none }
def TableevalConditionsWrongFalsely : Prop := tableevalConditionsRow.holds Tryz.pinned (OpenSpec.ofChange tableevalConditionsWrong)

/-- 'guerdonlaw32.TableevalRun': WHATEVER THE INPUT: true; the input reads as it did. -/
def tableevalRunSpec : ChangeSpec := { name := "tableevalRun", fn := fun _ => fun
  | [d1, d2, d3] => { results := [.lit (.bool true)], args := [d1, d2, d3] }
  | _ => none }
def tableevalRunRow : OpenClaim := { program := "ytfeahmiobbjklaagreatdoor", sum := "a40c86d76d18aea68d1805313fbbae89815849e1e09a74c10930aa0f52f6d400", func := "guerdon/guerdonlaw32.TableevalRun", spec := "tableevalRun", inPlace := ["internal/bytealg.IndexByteString", "internal/bytealg.IndexString"], unfollowed := true, recurses := true, named := ["math/bits.divideError", "math/bits.overflowError", "guerdon/date.monthLengths", "internal/bytealg.MaxLen"], plainKeys := false, apart := false, laid := [("guerdon/date.monthLengths", laid_guerdon_date_monthLengths)] }
def TableevalRunSaid : Prop := tableevalRunRow.holds Tryz.pinned (OpenSpec.ofChange tableevalRunSpec)

/-- ITS FALSE NEIGHBOUR: 'it returns false'. Refute it at one input. -/
def tableevalRunWrong : ChangeSpec := { name := "tableevalRun", fn := fun _ => fun
  | [d1, d2, d3] => { results := [.lit (.bool false)], args := [d1, d2, d3] }
  | _ => none }
def TableevalRunWrongFalsely : Prop := tableevalRunRow.holds Tryz.pinned (OpenSpec.ofChange tableevalRunWrong)

/-- 'guerdonlaw32.TableevalOutcome': WHATEVER THE INPUT: true; the input reads as it did. -/
def tableevalOutcomeSpec : ChangeSpec := { name := "tableevalOutcome", fn := fun _ => fun
  | [d1, d2, d3] => { results := [.lit (.bool true)], args := [d1, d2, d3] }
  | _ => none }
def tableevalOutcomeRow : OpenClaim := { program := "ytfeahmiobbjklaagreatdoor", sum := "a40c86d76d18aea68d1805313fbbae89815849e1e09a74c10930aa0f52f6d400", func := "guerdon/guerdonlaw32.TableevalOutcome", spec := "tableevalOutcome", inPlace := ["internal/bytealg.IndexByteString", "internal/bytealg.IndexString"], unfollowed := true, recurses := true, named := ["math/bits.divideError", "math/bits.overflowError", "guerdon/date.monthLengths", "internal/bytealg.MaxLen"], plainKeys := false, apart := false, laid := [("guerdon/date.monthLengths", laid_guerdon_date_monthLengths)] }
def TableevalOutcomeSaid : Prop := tableevalOutcomeRow.holds Tryz.pinned (OpenSpec.ofChange tableevalOutcomeSpec)

/-- ITS FALSE NEIGHBOUR: 'it returns false'. Refute it at one input. -/
def tableevalOutcomeWrong : ChangeSpec := { name := "tableevalOutcome", fn := fun _ => fun
  | [d1, d2, d3] => { results := [.lit (.bool false)], args := [d1, d2, d3] }
  | _ => none }
def TableevalOutcomeWrongFalsely : Prop := tableevalOutcomeRow.holds Tryz.pinned (OpenSpec.ofChange tableevalOutcomeWrong)

/-- 'guerdonlaw32.TableevalAgrees': WHATEVER THE INPUT: true; the input reads as it did. -/
def tableevalAgreesSpec : ChangeSpec := { name := "tableevalAgrees", fn := fun _ => fun
  | [d1, d2, d3] => { results := [.lit (.bool true)], args := [d1, d2, d3] }
  | _ => none }
def tableevalAgreesRow : OpenClaim := { program := "ytfeahmiobbjklaagreatdoor", sum := "a40c86d76d18aea68d1805313fbbae89815849e1e09a74c10930aa0f52f6d400", func := "guerdon/guerdonlaw32.TableevalAgrees", spec := "tableevalAgrees", inPlace := ["internal/bytealg.IndexByteString", "internal/bytealg.IndexString"], unfollowed := true, recurses := true, named := ["math/bits.divideError", "math/bits.overflowError", "guerdon/date.monthLengths", "internal/bytealg.MaxLen"], plainKeys := false, apart := false, laid := [("guerdon/date.monthLengths", laid_guerdon_date_monthLengths)] }
def TableevalAgreesSaid : Prop := tableevalAgreesRow.holds Tryz.pinned (OpenSpec.ofChange tableevalAgreesSpec)

/-- ITS FALSE NEIGHBOUR: 'it returns false'. Refute it at one input. -/
def tableevalAgreesWrong : ChangeSpec := { name := "tableevalAgrees", fn := fun _ => fun
  | [d1, d2, d3] => { results := [.lit (.bool false)], args := [d1, d2, d3] }
  | _ => none }
def TableevalAgreesWrongFalsely : Prop := tableevalAgreesRow.holds Tryz.pinned (OpenSpec.ofChange tableevalAgreesWrong)

/- THE SECOND FORM. 'bulk': how many values and letters a reading holds, each counted each time it is reached (what is shared counts as often as it is met; a slice's spare places count too). A statement '..UptoSaid' is the law's where the arguments, and the package variables that the reading takes, are together of bulk at most 1048576: NARROWER than '..Said'. Prove '..Said' where nothing that the law and all that it calls make is longer than what came in: it says more and counts as full. Else prove '..UptoSaid'. A law counts once. -/
mutual
def uptoBulk {H : Type} : DataW H → Nat
  | .lit (.string bytes) => bytes.length + 1
  | .lit _ => 1
  | .nil => 1
  | .ptr d => uptoBulk d + 1
  | .slice elems spare => uptoBulkAll elems + uptoBulkAll spare + 1
  | .agg parts => uptoBulkAll parts + 1
  | .iface _ d => uptoBulk d + 1
  | .map entries => uptoBulkEntries entries + 1
  | .held _ => 1
def uptoBulkAll {H : Type} : List (DataW H) → Nat
  | [] => 0
  | d :: r => uptoBulk d + uptoBulkAll r
def uptoBulkEntries {H : Type} : List (Lit × DataW H) → Nat
  | [] => 0
  | x :: r => uptoBulkEntry x + uptoBulkEntries r
def uptoBulkEntry {H : Type} : Lit × DataW H → Nat
  | (.string bytes, d) => bytes.length + uptoBulk d + 1
  | (_, d) => uptoBulk d + 1
 end
def uptoSmall : (H : Type) → List (DataW H) → Bool := fun _ ds => decide (uptoBulkAll ds ≤ 1048576)
def OpenSpec.upto (s : _root_.Go.ChangeSpec) : _root_.Go.OpenSpec := { _root_.Go.OpenSpec.ofChange s with cond := some uptoSmall }

/-- 'guerdonlaw32.TableevalConditions', WHERE WHAT IT READS IS OF BULK AT MOST 1048576: true; the input reads as it did. -/
def tableevalConditionsUptoRow : OpenClaim := { program := "ytfeahmiobbjklaagreatdoor", sum := "a40c86d76d18aea68d1805313fbbae89815849e1e09a74c10930aa0f52f6d400", func := "guerdon/guerdonlaw32.TableevalConditions", spec := "tableevalConditions", inPlace := ["internal/bytealg.IndexByteString", "internal/bytealg.IndexString"], unfollowed := true, recurses := true, named := ["math/bits.divideError", "math/bits.overflowError", "guerdon/date.monthLengths", "internal/bytealg.MaxLen"], plainKeys := false, apart := false, laid := [("guerdon/date.monthLengths", laid_guerdon_date_monthLengths)], narrowed := true }
def TableevalConditionsUptoSaid : Prop := tableevalConditionsUptoRow.holds Tryz.pinned (OpenSpec.upto tableevalConditionsSpec)

/-- 'guerdonlaw32.TableevalRun', WHERE WHAT IT READS IS OF BULK AT MOST 1048576: true; the input reads as it did. -/
def tableevalRunUptoRow : OpenClaim := { program := "ytfeahmiobbjklaagreatdoor", sum := "a40c86d76d18aea68d1805313fbbae89815849e1e09a74c10930aa0f52f6d400", func := "guerdon/guerdonlaw32.TableevalRun", spec := "tableevalRun", inPlace := ["internal/bytealg.IndexByteString", "internal/bytealg.IndexString"], unfollowed := true, recurses := true, named := ["math/bits.divideError", "math/bits.overflowError", "guerdon/date.monthLengths", "internal/bytealg.MaxLen"], plainKeys := false, apart := false, laid := [("guerdon/date.monthLengths", laid_guerdon_date_monthLengths)], narrowed := true }
def TableevalRunUptoSaid : Prop := tableevalRunUptoRow.holds Tryz.pinned (OpenSpec.upto tableevalRunSpec)

/-- 'guerdonlaw32.TableevalOutcome', WHERE WHAT IT READS IS OF BULK AT MOST 1048576: true; the input reads as it did. -/
def tableevalOutcomeUptoRow : OpenClaim := { program := "ytfeahmiobbjklaagreatdoor", sum := "a40c86d76d18aea68d1805313fbbae89815849e1e09a74c10930aa0f52f6d400", func := "guerdon/guerdonlaw32.TableevalOutcome", spec := "tableevalOutcome", inPlace := ["internal/bytealg.IndexByteString", "internal/bytealg.IndexString"], unfollowed := true, recurses := true, named := ["math/bits.divideError", "math/bits.overflowError", "guerdon/date.monthLengths", "internal/bytealg.MaxLen"], plainKeys := false, apart := false, laid := [("guerdon/date.monthLengths", laid_guerdon_date_monthLengths)], narrowed := true }
def TableevalOutcomeUptoSaid : Prop := tableevalOutcomeUptoRow.holds Tryz.pinned (OpenSpec.upto tableevalOutcomeSpec)

/-- 'guerdonlaw32.TableevalAgrees', WHERE WHAT IT READS IS OF BULK AT MOST 1048576: true; the input reads as it did. -/
def tableevalAgreesUptoRow : OpenClaim := { program := "ytfeahmiobbjklaagreatdoor", sum := "a40c86d76d18aea68d1805313fbbae89815849e1e09a74c10930aa0f52f6d400", func := "guerdon/guerdonlaw32.TableevalAgrees", spec := "tableevalAgrees", inPlace := ["internal/bytealg.IndexByteString", "internal/bytealg.IndexString"], unfollowed := true, recurses := true, named := ["math/bits.divideError", "math/bits.overflowError", "guerdon/date.monthLengths", "internal/bytealg.MaxLen"], plainKeys := false, apart := false, laid := [("guerdon/date.monthLengths", laid_guerdon_date_monthLengths)], narrowed := true }
def TableevalAgreesUptoSaid : Prop := tableevalAgreesUptoRow.holds Tryz.pinned (OpenSpec.upto tableevalAgreesSpec)

end Rows
end Go.Proofs.YtfeahmiobbjklaaGreatDoor
