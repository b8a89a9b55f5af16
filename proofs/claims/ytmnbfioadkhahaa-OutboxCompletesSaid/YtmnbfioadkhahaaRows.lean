/-
  No cell of these rows narrows 'for every input' (looked for: loops, veiled, ifaces, maps, wideKeys, modest, calm, conditions, laid).
  DERIVED. THE GIVEN ROWS OF THIS SEAT. 4 by the template 'for every input the law returns true; each argument reads behind the call as it read before'; 0 by the template 'total and deterministic' (their statements: YtmnbfioadkhahaaTotals.lean).
  GIVEN WITH THE SEED: the statements are not yours to turn. If you find one false, say at which input.
  Laid BY PROGRAM, IN A SANDBOX (cutbox-rows.mjs): the forced cells as the released guide's own fill.sh prints them over the translation e15afc36c8cdd3cc… (all of the seat's roots in one cut). By AI agents, Wed Nov 11 2026. No macro, syntax, notation, axiom, sorry.
-/
import Derived.Test.YtmnbfioadkhahaaChecked
import GoSem.Claim
import GoSem.ClaimJoined
import GoSem.ClaimMapViews
import Derived.JoinedTies
import Derived.KernelRfl
namespace Go.Proofs.Ytmnbfioadkhahaa
/- THE CELL 'sum', in the pinned program and in every row, IS THE sha256 OF THE DUMP (.gsa) THAT YtmnbfioadkhahaaProg.lean LOADS. Nothing in Lean hashes anything: it is a label: what it is worth is what the hold of that sum in a sandbox is worth. -/
noncomputable def Try.pinned : Pinned := { name := "ytmnbfioadkhahaa", sum := "e15afc36c8cdd3cc6c7d607e3a4615c96fd6af0bfdf316711e220115b614b687", checked := Try.checked }
namespace Rows
def none {H : Type} : Left H := { results := [], args := [] }

/-- 'guerdonlaw46.OutboxDeliver': WHATEVER THE INPUT: true; the input reads as it did. -/
def outboxDeliverSpec : ChangeSpec := { name := "outboxDeliver", fn := fun _ => fun
  | [d1, d2] => { results := [.lit (.bool true)], args := [d1, d2] }
  | _ => none }
def outboxDeliverRow : OpenClaim := { program := "ytmnbfioadkhahaa", sum := "e15afc36c8cdd3cc6c7d607e3a4615c96fd6af0bfdf316711e220115b614b687", func := "guerdon/guerdonlaw46.OutboxDeliver", spec := "outboxDeliver", apart := false }
def OutboxDeliverSaid : Prop := outboxDeliverRow.holds Try.pinned (OpenSpec.ofChange outboxDeliverSpec)

/-- ITS FALSE NEIGHBOUR: 'it returns false'. Refute it at one input. -/
def outboxDeliverWrong : ChangeSpec := { name := "outboxDeliver", fn := fun _ => fun
  | [d1, d2] => { results := [.lit (.bool false)], args := [d1, d2] }
  | _ => none }
def OutboxDeliverWrongFalsely : Prop := outboxDeliverRow.holds Try.pinned (OpenSpec.ofChange outboxDeliverWrong)

/-- 'guerdonlaw46.OutboxSend': WHATEVER THE INPUT: true; the input reads as it did. -/
def outboxSendSpec : ChangeSpec := { name := "outboxSend", fn := fun _ => fun
  | [d1, d2, d3] => { results := [.lit (.bool true)], args := [d1, d2, d3] }
  | _ => none }
def outboxSendRow : OpenClaim := { program := "ytmnbfioadkhahaa", sum := "e15afc36c8cdd3cc6c7d607e3a4615c96fd6af0bfdf316711e220115b614b687", func := "guerdon/guerdonlaw46.OutboxSend", spec := "outboxSend", apart := false }
def OutboxSendSaid : Prop := outboxSendRow.holds Try.pinned (OpenSpec.ofChange outboxSendSpec)

/-- ITS FALSE NEIGHBOUR: 'it returns false'. Refute it at one input. -/
def outboxSendWrong : ChangeSpec := { name := "outboxSend", fn := fun _ => fun
  | [d1, d2, d3] => { results := [.lit (.bool false)], args := [d1, d2, d3] }
  | _ => none }
def OutboxSendWrongFalsely : Prop := outboxSendRow.holds Try.pinned (OpenSpec.ofChange outboxSendWrong)

/-- 'guerdonlaw46.OutboxExactlyOnce': WHATEVER THE INPUT: true; the input reads as it did. -/
def outboxExactlyOnceSpec : ChangeSpec := { name := "outboxExactlyOnce", fn := fun _ => fun
  | [d1, d2, d3] => { results := [.lit (.bool true)], args := [d1, d2, d3] }
  | _ => none }
def outboxExactlyOnceRow : OpenClaim := { program := "ytmnbfioadkhahaa", sum := "e15afc36c8cdd3cc6c7d607e3a4615c96fd6af0bfdf316711e220115b614b687", func := "guerdon/guerdonlaw46.OutboxExactlyOnce", spec := "outboxExactlyOnce", apart := false }
def OutboxExactlyOnceSaid : Prop := outboxExactlyOnceRow.holds Try.pinned (OpenSpec.ofChange outboxExactlyOnceSpec)

/-- ITS FALSE NEIGHBOUR: 'it returns false'. Refute it at one input. -/
def outboxExactlyOnceWrong : ChangeSpec := { name := "outboxExactlyOnce", fn := fun _ => fun
  | [d1, d2, d3] => { results := [.lit (.bool false)], args := [d1, d2, d3] }
  | _ => none }
def OutboxExactlyOnceWrongFalsely : Prop := outboxExactlyOnceRow.holds Try.pinned (OpenSpec.ofChange outboxExactlyOnceWrong)

/-- 'guerdonlaw46.OutboxCompletes': WHATEVER THE INPUT: true; the input reads as it did. -/
def outboxCompletesSpec : ChangeSpec := { name := "outboxCompletes", fn := fun _ => fun
  | [d1, d2, d3] => { results := [.lit (.bool true)], args := [d1, d2, d3] }
  | _ => none }
def outboxCompletesRow : OpenClaim := { program := "ytmnbfioadkhahaa", sum := "e15afc36c8cdd3cc6c7d607e3a4615c96fd6af0bfdf316711e220115b614b687", func := "guerdon/guerdonlaw46.OutboxCompletes", spec := "outboxCompletes", apart := false }
def OutboxCompletesSaid : Prop := outboxCompletesRow.holds Try.pinned (OpenSpec.ofChange outboxCompletesSpec)

/-- ITS FALSE NEIGHBOUR: 'it returns false'. Refute it at one input. -/
def outboxCompletesWrong : ChangeSpec := { name := "outboxCompletes", fn := fun _ => fun
  | [d1, d2, d3] => { results := [.lit (.bool false)], args := [d1, d2, d3] }
  | _ => none }
def OutboxCompletesWrongFalsely : Prop := outboxCompletesRow.holds Try.pinned (OpenSpec.ofChange outboxCompletesWrong)

/- THE SECOND FORM. 'bulk': how many values and letters a reading holds, each counted each time it is reached (what is shared counts as often as it is met; a slice's spare places count too). A statement '..UptoSaid' is the law's where the arguments, and the package variables that the reading takes, are together of bulk at most 1048576: NARROWER than '..Said'. Prove '..Said' where nothing that the law and all that it calls make is longer than what came in: it says more and counts as full. Else prove '..UptoSaid'. A law counts once. -/
mutual
def uptoBulk {H : Type} : DataW H → Nat
  | .lit (.string bytes) => bytes.length + 1
  | .lit _ => 1
  | .nil => 1
  | .ptr d => uptoBulk d + 1
  | .slice elems spare => uptoBulkAll elems + uptoBulkAll spare + 1
  | .agg parts => uptoBulkAll parts + 1
  | .iface _ d => uptoBulk d + 1
  | .map entries => uptoBulkEntries entries + 1
  | .held _ => 1
def uptoBulkAll {H : Type} : List (DataW H) → Nat
  | [] => 0
  | d :: r => uptoBulk d + uptoBulkAll r
def uptoBulkEntries {H : Type} : List (Lit × DataW H) → Nat
  | [] => 0
  | x :: r => uptoBulkEntry x + uptoBulkEntries r
def uptoBulkEntry {H : Type} : Lit × DataW H → Nat
  | (.string bytes, d) => bytes.length + uptoBulk d + 1
  | (_, d) => uptoBulk d + 1
 end
def uptoSmall : (H : Type) → List (DataW H) → Bool := fun _ ds => decide (uptoBulkAll ds ≤ 1048576)
def OpenSpec.upto (s : _root_.Go.ChangeSpec) : _root_.Go.OpenSpec := { _root_.Go.OpenSpec.ofChange s with cond := some uptoSmall }

/-- 'guerdonlaw46.OutboxDeliver', WHERE WHAT IT READS IS OF BULK AT MOST 1048576: true; the input reads as it did. -/
def outboxDeliverUptoRow : OpenClaim := { program := "ytmnbfioadkhahaa", sum := "e15afc36c8cdd3cc6c7d607e3a4615c96fd6af0bfdf316711e220115b614b687", func := "guerdon/guerdonlaw46.OutboxDeliver", spec := "outboxDeliver", apart := false, narrowed := true }
def OutboxDeliverUptoSaid : Prop := outboxDeliverUptoRow.holds Try.pinned (OpenSpec.upto outboxDeliverSpec)

/-- 'guerdonlaw46.OutboxSend', WHERE WHAT IT READS IS OF BULK AT MOST 1048576: true; the input reads as it did. -/
def outboxSendUptoRow : OpenClaim := { program := "ytmnbfioadkhahaa", sum := "e15afc36c8cdd3cc6c7d607e3a4615c96fd6af0bfdf316711e220115b614b687", func := "guerdon/guerdonlaw46.OutboxSend", spec := "outboxSend", apart := false, narrowed := true }
def OutboxSendUptoSaid : Prop := outboxSendUptoRow.holds Try.pinned (OpenSpec.upto outboxSendSpec)

/-- 'guerdonlaw46.OutboxExactlyOnce', WHERE WHAT IT READS IS OF BULK AT MOST 1048576: true; the input reads as it did. -/
def outboxExactlyOnceUptoRow : OpenClaim := { program := "ytmnbfioadkhahaa", sum := "e15afc36c8cdd3cc6c7d607e3a4615c96fd6af0bfdf316711e220115b614b687", func := "guerdon/guerdonlaw46.OutboxExactlyOnce", spec := "outboxExactlyOnce", apart := false, narrowed := true }
def OutboxExactlyOnceUptoSaid : Prop := outboxExactlyOnceUptoRow.holds Try.pinned (OpenSpec.upto outboxExactlyOnceSpec)

/-- 'guerdonlaw46.OutboxCompletes', WHERE WHAT IT READS IS OF BULK AT MOST 1048576: true; the input reads as it did. -/
def outboxCompletesUptoRow : OpenClaim := { program := "ytmnbfioadkhahaa", sum := "e15afc36c8cdd3cc6c7d607e3a4615c96fd6af0bfdf316711e220115b614b687", func := "guerdon/guerdonlaw46.OutboxCompletes", spec := "outboxCompletes", apart := false, narrowed := true }
def OutboxCompletesUptoSaid : Prop := outboxCompletesUptoRow.holds Try.pinned (OpenSpec.upto outboxCompletesSpec)

end Rows
end Go.Proofs.Ytmnbfioadkhahaa
