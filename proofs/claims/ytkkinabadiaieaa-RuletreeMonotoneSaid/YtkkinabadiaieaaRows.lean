/-
  No cell of these rows narrows 'for every input' (looked for: loops, veiled, ifaces, maps, wideKeys, modest, calm, conditions, laid).
  DERIVED. THE GIVEN ROWS OF THIS SEAT. 3 by the template 'for every input the law returns true; each argument reads behind the call as it read before'; 0 by the template 'total and deterministic' (their statements: YtkkinabadiaieaaTotals.lean).
  GIVEN WITH THE SEED: the statements are not yours to turn. If you find one false, say at which input.
  Laid BY PROGRAM, IN A SANDBOX (cutbox-rows.mjs): the forced cells as the released guide's own fill.sh prints them over the translation dc86d384d6a644d7… (all of the seat's roots in one cut). By AI agents, Wed Nov 11 2026. No macro, syntax, notation, axiom, sorry.
-/
import Derived.Test.YtkkinabadiaieaaChecked
import GoSem.Claim
import GoSem.ClaimJoined
import GoSem.ClaimMapViews
import Derived.JoinedTies
import Derived.KernelRfl
namespace Go.Proofs.Ytkkinabadiaieaa
/- THE CELL 'sum', in the pinned program and in every row, IS THE sha256 OF THE DUMP (.gsa) THAT YtkkinabadiaieaaProg.lean LOADS. Nothing in Lean hashes anything: it is a label: what it is worth is what the hold of that sum in a sandbox is worth. -/
noncomputable def Try.pinned : Pinned := { name := "ytkkinabadiaieaa", sum := "dc86d384d6a644d7733711902d8bef008f404372d6edff096e98701083e6ab13", checked := Try.checked }
namespace Rows
def none {H : Type} : Left H := { results := [], args := [] }

/-- 'guerdonlaw14.RuletreeSelects': WHATEVER THE INPUT: true; the input reads as it did. -/
def ruletreeSelectsSpec : ChangeSpec := { name := "ruletreeSelects", fn := fun _ => fun
  | [d1, d2, d3] => { results := [.lit (.bool true)], args := [d1, d2, d3] }
  | _ => none }
def ruletreeSelectsRow : OpenClaim := { program := "ytkkinabadiaieaa", sum := "dc86d384d6a644d7733711902d8bef008f404372d6edff096e98701083e6ab13", func := "guerdon/guerdonlaw14.RuletreeSelects", spec := "ruletreeSelects", recurses := true, apart := false }
def RuletreeSelectsSaid : Prop := ruletreeSelectsRow.holds Try.pinned (OpenSpec.ofChange ruletreeSelectsSpec)

/-- ITS FALSE NEIGHBOUR: 'it returns false'. Refute it at one input. -/
def ruletreeSelectsWrong : ChangeSpec := { name := "ruletreeSelects", fn := fun _ => fun
  | [d1, d2, d3] => { results := [.lit (.bool false)], args := [d1, d2, d3] }
  | _ => none }
def RuletreeSelectsWrongFalsely : Prop := ruletreeSelectsRow.holds Try.pinned (OpenSpec.ofChange ruletreeSelectsWrong)

/-- 'guerdonlaw14.RuletreeMonotone': WHATEVER THE INPUT: true; the input reads as it did. -/
def ruletreeMonotoneSpec : ChangeSpec := { name := "ruletreeMonotone", fn := fun _ => fun
  | [d1, d2, d3, d4] => { results := [.lit (.bool true)], args := [d1, d2, d3, d4] }
  | _ => none }
def ruletreeMonotoneRow : OpenClaim := { program := "ytkkinabadiaieaa", sum := "dc86d384d6a644d7733711902d8bef008f404372d6edff096e98701083e6ab13", func := "guerdon/guerdonlaw14.RuletreeMonotone", spec := "ruletreeMonotone", apart := false }
def RuletreeMonotoneSaid : Prop := ruletreeMonotoneRow.holds Try.pinned (OpenSpec.ofChange ruletreeMonotoneSpec)

/-- ITS FALSE NEIGHBOUR: 'it returns false'. Refute it at one input. -/
def ruletreeMonotoneWrong : ChangeSpec := { name := "ruletreeMonotone", fn := fun _ => fun
  | [d1, d2, d3, d4] => { results := [.lit (.bool false)], args := [d1, d2, d3, d4] }
  | _ => none }
def RuletreeMonotoneWrongFalsely : Prop := ruletreeMonotoneRow.holds Try.pinned (OpenSpec.ofChange ruletreeMonotoneWrong)

/-- 'guerdonlaw14.RuletreeExceptions': WHATEVER THE INPUT: true; the input reads as it did. -/
def ruletreeExceptionsSpec : ChangeSpec := { name := "ruletreeExceptions", fn := fun _ => fun
  | [d1, d2, d3] => { results := [.lit (.bool true)], args := [d1, d2, d3] }
  | _ => none }
def ruletreeExceptionsRow : OpenClaim := { program := "ytkkinabadiaieaa", sum := "dc86d384d6a644d7733711902d8bef008f404372d6edff096e98701083e6ab13", func := "guerdon/guerdonlaw14.RuletreeExceptions", spec := "ruletreeExceptions", apart := false }
def RuletreeExceptionsSaid : Prop := ruletreeExceptionsRow.holds Try.pinned (OpenSpec.ofChange ruletreeExceptionsSpec)

/-- ITS FALSE NEIGHBOUR: 'it returns false'. Refute it at one input. -/
def ruletreeExceptionsWrong : ChangeSpec := { name := "ruletreeExceptions", fn := fun _ => fun
  | [d1, d2, d3] => { results := [.lit (.bool false)], args := [d1, d2, d3] }
  | _ => none }
def RuletreeExceptionsWrongFalsely : Prop := ruletreeExceptionsRow.holds Try.pinned (OpenSpec.ofChange ruletreeExceptionsWrong)

/- THE SECOND FORM. 'bulk': how many values and letters a reading holds, each counted each time it is reached (what is shared counts as often as it is met; a slice's spare places count too). A statement '..UptoSaid' is the law's where the arguments, and the package variables that the reading takes, are together of bulk at most 1048576: NARROWER than '..Said'. Prove '..Said' where nothing that the law and all that it calls make is longer than what came in: it says more and counts as full. Else prove '..UptoSaid'. A law counts once. -/
mutual
def uptoBulk {H : Type} : DataW H → Nat
  | .lit (.string bytes) => bytes.length + 1
  | .lit _ => 1
  | .nil => 1
  | .ptr d => uptoBulk d + 1
  | .slice elems spare => uptoBulkAll elems + uptoBulkAll spare + 1
  | .agg parts => uptoBulkAll parts + 1
  | .iface _ d => uptoBulk d + 1
  | .map entries => uptoBulkEntries entries + 1
  | .held _ => 1
def uptoBulkAll {H : Type} : List (DataW H) → Nat
  | [] => 0
  | d :: r => uptoBulk d + uptoBulkAll r
def uptoBulkEntries {H : Type} : List (Lit × DataW H) → Nat
  | [] => 0
  | x :: r => uptoBulkEntry x + uptoBulkEntries r
def uptoBulkEntry {H : Type} : Lit × DataW H → Nat
  | (.string bytes, d) => bytes.length + uptoBulk d + 1
  | (_, d) => uptoBulk d + 1
 end
def uptoSmall : (H : Type) → List (DataW H) → Bool := fun _ ds => decide (uptoBulkAll ds ≤ 1048576)
def OpenSpec.upto (s : _root_.Go.ChangeSpec) : _root_.Go.OpenSpec := { _root_.Go.OpenSpec.ofChange s with cond := some uptoSmall }

/-- 'guerdonlaw14.RuletreeSelects', WHERE WHAT IT READS IS OF BULK AT MOST 1048576: true; the input reads as it did. -/
def ruletreeSelectsUptoRow : OpenClaim := { program := "ytkkinabadiaieaa", sum := "dc86d384d6a644d7733711902d8bef008f404372d6edff096e98701083e6ab13", func := "guerdon/guerdonlaw14.RuletreeSelects", spec := "ruletreeSelects", recurses := true, apart := false, narrowed := true }
def RuletreeSelectsUptoSaid : Prop := ruletreeSelectsUptoRow.holds Try.pinned (OpenSpec.upto ruletreeSelectsSpec)

/-- 'guerdonlaw14.RuletreeMonotone', WHERE WHAT IT READS IS OF BULK AT MOST 1048576: true; the input reads as it did. -/
def ruletreeMonotoneUptoRow : OpenClaim := { program := "ytkkinabadiaieaa", sum := "dc86d384d6a644d7733711902d8bef008f404372d6edff096e98701083e6ab13", func := "guerdon/guerdonlaw14.RuletreeMonotone", spec := "ruletreeMonotone", apart := false, narrowed := true }
def RuletreeMonotoneUptoSaid : Prop := ruletreeMonotoneUptoRow.holds Try.pinned (OpenSpec.upto ruletreeMonotoneSpec)

/-- 'guerdonlaw14.RuletreeExceptions', WHERE WHAT IT READS IS OF BULK AT MOST 1048576: true; the input reads as it did. -/
def ruletreeExceptionsUptoRow : OpenClaim := { program := "ytkkinabadiaieaa", sum := "dc86d384d6a644d7733711902d8bef008f404372d6edff096e98701083e6ab13", func := "guerdon/guerdonlaw14.RuletreeExceptions", spec := "ruletreeExceptions", apart := false, narrowed := true }
def RuletreeExceptionsUptoSaid : Prop := ruletreeExceptionsUptoRow.holds Try.pinned (OpenSpec.upto ruletreeExceptionsSpec)

end Rows
end Go.Proofs.Ytkkinabadiaieaa
