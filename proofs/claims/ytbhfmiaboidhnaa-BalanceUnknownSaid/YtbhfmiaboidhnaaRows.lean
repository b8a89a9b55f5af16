/-
  No cell of these rows narrows 'for every input' (looked for: loops, veiled, ifaces, maps, wideKeys, modest, calm, conditions, laid).
  DERIVED. THE GIVEN ROWS OF THIS SEAT. 5 by the template 'for every input the law returns true; each argument reads behind the call as it read before'; 0 by the template 'total and deterministic' (their statements: YtbhfmiaboidhnaaTotals.lean).
  GIVEN WITH THE SEED: the statements are not yours to turn. If you find one false, say at which input.
  Laid BY PROGRAM, IN A SANDBOX (cutbox-rows.mjs): the forced cells as the released guide's own fill.sh prints them over the translation 1e1a2f487ec9b75f… (all of the seat's roots in one cut). By AI agents, Wed Nov 11 2026. No macro, syntax, notation, axiom, sorry.
-/
import Derived.Test.YtbhfmiaboidhnaaChecked
import GoSem.Claim
import GoSem.ClaimJoined
import GoSem.ClaimMapViews
import Derived.JoinedTies
import Derived.KernelRfl
namespace Go.Proofs.Ytbhfmiaboidhnaa
/- THE CELL 'sum', in the pinned program and in every row, IS THE sha256 OF THE DUMP (.gsa) THAT YtbhfmiaboidhnaaProg.lean LOADS. Nothing in Lean hashes anything: it is a label: what it is worth is what the hold of that sum in a sandbox is worth. -/
noncomputable def Try.pinned : Pinned := { name := "ytbhfmiaboidhnaa", sum := "1e1a2f487ec9b75fc8742fca1332a42ceb4b2f41521ef4a63ffaa98ed5691488", checked := Try.checked }
namespace Rows
def none {H : Type} : Left H := { results := [], args := [] }

/-- 'guerdonlaw38.BalanceOf': WHATEVER THE INPUT: true; the input reads as it did. -/
def balanceOfSpec : ChangeSpec := { name := "balanceOf", fn := fun _ => fun
  | [d1, d2] => { results := [.lit (.bool true)], args := [d1, d2] }
  | _ => none }
def balanceOfRow : OpenClaim := { program := "ytbhfmiaboidhnaa", sum := "1e1a2f487ec9b75fc8742fca1332a42ceb4b2f41521ef4a63ffaa98ed5691488", func := "guerdon/guerdonlaw38.BalanceOf", spec := "balanceOf", unfollowed := true, recurses := true, apart := false }
def BalanceOfSaid : Prop := balanceOfRow.holds Try.pinned (OpenSpec.ofChange balanceOfSpec)

/-- ITS FALSE NEIGHBOUR: 'it returns false'. Refute it at one input. -/
def balanceOfWrong : ChangeSpec := { name := "balanceOf", fn := fun _ => fun
  | [d1, d2] => { results := [.lit (.bool false)], args := [d1, d2] }
  | _ => none }
def BalanceOfWrongFalsely : Prop := balanceOfRow.holds Try.pinned (OpenSpec.ofChange balanceOfWrong)

/-- 'guerdonlaw38.BalanceAmounts': WHATEVER THE INPUT: true; the input reads as it did. -/
def balanceAmountsSpec : ChangeSpec := { name := "balanceAmounts", fn := fun _ => fun
  | [d] => { results := [.lit (.bool true)], args := [d] }
  | _ => none }
def balanceAmountsRow : OpenClaim := { program := "ytbhfmiaboidhnaa", sum := "1e1a2f487ec9b75fc8742fca1332a42ceb4b2f41521ef4a63ffaa98ed5691488", func := "guerdon/guerdonlaw38.BalanceAmounts", spec := "balanceAmounts", unfollowed := true, recurses := true, apart := false }
def BalanceAmountsSaid : Prop := balanceAmountsRow.holds Try.pinned (OpenSpec.ofChange balanceAmountsSpec)

/-- ITS FALSE NEIGHBOUR: 'it returns false'. Refute it at one input. -/
def balanceAmountsWrong : ChangeSpec := { name := "balanceAmounts", fn := fun _ => fun
  | [d] => { results := [.lit (.bool false)], args := [d] }
  | _ => none }
def BalanceAmountsWrongFalsely : Prop := balanceAmountsRow.holds Try.pinned (OpenSpec.ofChange balanceAmountsWrong)

/-- 'guerdonlaw38.BalanceIdentity': WHATEVER THE INPUT: true; the input reads as it did. -/
def balanceIdentitySpec : ChangeSpec := { name := "balanceIdentity", fn := fun _ => fun
  | [d] => { results := [.lit (.bool true)], args := [d] }
  | _ => none }
def balanceIdentityRow : OpenClaim := { program := "ytbhfmiaboidhnaa", sum := "1e1a2f487ec9b75fc8742fca1332a42ceb4b2f41521ef4a63ffaa98ed5691488", func := "guerdon/guerdonlaw38.BalanceIdentity", spec := "balanceIdentity", unfollowed := true, recurses := true, apart := false }
def BalanceIdentitySaid : Prop := balanceIdentityRow.holds Try.pinned (OpenSpec.ofChange balanceIdentitySpec)

/-- ITS FALSE NEIGHBOUR: 'it returns false'. Refute it at one input. -/
def balanceIdentityWrong : ChangeSpec := { name := "balanceIdentity", fn := fun _ => fun
  | [d] => { results := [.lit (.bool false)], args := [d] }
  | _ => none }
def BalanceIdentityWrongFalsely : Prop := balanceIdentityRow.holds Try.pinned (OpenSpec.ofChange balanceIdentityWrong)

/-- 'guerdonlaw38.BalanceUnknown': WHATEVER THE INPUT: true; the input reads as it did. -/
def balanceUnknownSpec : ChangeSpec := { name := "balanceUnknown", fn := fun _ => fun
  | [d1, d2] => { results := [.lit (.bool true)], args := [d1, d2] }
  | _ => none }
def balanceUnknownRow : OpenClaim := { program := "ytbhfmiaboidhnaa", sum := "1e1a2f487ec9b75fc8742fca1332a42ceb4b2f41521ef4a63ffaa98ed5691488", func := "guerdon/guerdonlaw38.BalanceUnknown", spec := "balanceUnknown", unfollowed := true, recurses := true, apart := false }
def BalanceUnknownSaid : Prop := balanceUnknownRow.holds Try.pinned (OpenSpec.ofChange balanceUnknownSpec)

/-- ITS FALSE NEIGHBOUR: 'it returns false'. Refute it at one input. -/
def balanceUnknownWrong : ChangeSpec := { name := "balanceUnknown", fn := fun _ => fun
  | [d1, d2] => { results := [.lit (.bool false)], args := [d1, d2] }
  | _ => none }
def BalanceUnknownWrongFalsely : Prop := balanceUnknownRow.holds Try.pinned (OpenSpec.ofChange balanceUnknownWrong)

/-- 'guerdonlaw38.BalanceTotals': WHATEVER THE INPUT: true; the input reads as it did. -/
def balanceTotalsSpec : ChangeSpec := { name := "balanceTotals", fn := fun _ => fun
  | [d] => { results := [.lit (.bool true)], args := [d] }
  | _ => none }
def balanceTotalsRow : OpenClaim := { program := "ytbhfmiaboidhnaa", sum := "1e1a2f487ec9b75fc8742fca1332a42ceb4b2f41521ef4a63ffaa98ed5691488", func := "guerdon/guerdonlaw38.BalanceTotals", spec := "balanceTotals", unfollowed := true, recurses := true, apart := false }
def BalanceTotalsSaid : Prop := balanceTotalsRow.holds Try.pinned (OpenSpec.ofChange balanceTotalsSpec)

/-- ITS FALSE NEIGHBOUR: 'it returns false'. Refute it at one input. -/
def balanceTotalsWrong : ChangeSpec := { name := "balanceTotals", fn := fun _ => fun
  | [d] => { results := [.lit (.bool false)], args := [d] }
  | _ => none }
def BalanceTotalsWrongFalsely : Prop := balanceTotalsRow.holds Try.pinned (OpenSpec.ofChange balanceTotalsWrong)

/- THE SECOND FORM. 'bulk': how many values and letters a reading holds, each counted each time it is reached (what is shared counts as often as it is met; a slice's spare places count too). A statement '..UptoSaid' is the law's where the arguments, and the package variables that the reading takes, are together of bulk at most 1048576: NARROWER than '..Said'. Prove '..Said' where nothing that the law and all that it calls make is longer than what came in: it says more and counts as full. Else prove '..UptoSaid'. A law counts once. -/
mutual
def uptoBulk {H : Type} : DataW H → Nat
  | .lit (.string bytes) => bytes.length + 1
  | .lit _ => 1
  | .nil => 1
  | .ptr d => uptoBulk d + 1
  | .slice elems spare => uptoBulkAll elems + uptoBulkAll spare + 1
  | .agg parts => uptoBulkAll parts + 1
  | .iface _ d => uptoBulk d + 1
  | .map entries => uptoBulkEntries entries + 1
  | .held _ => 1
def uptoBulkAll {H : Type} : List (DataW H) → Nat
  | [] => 0
  | d :: r => uptoBulk d + uptoBulkAll r
def uptoBulkEntries {H : Type} : List (Lit × DataW H) → Nat
  | [] => 0
  | x :: r => uptoBulkEntry x + uptoBulkEntries r
def uptoBulkEntry {H : Type} : Lit × DataW H → Nat
  | (.string bytes, d) => bytes.length + uptoBulk d + 1
  | (_, d) => uptoBulk d + 1
 end
def uptoSmall : (H : Type) → List (DataW H) → Bool := fun _ ds => decide (uptoBulkAll ds ≤ 1048576)
def OpenSpec.upto (s : _root_.Go.ChangeSpec) : _root_.Go.OpenSpec := { _root_.Go.OpenSpec.ofChange s with cond := some uptoSmall }

/-- 'guerdonlaw38.BalanceOf', WHERE WHAT IT READS IS OF BULK AT MOST 1048576: true; the input reads as it did. -/
def balanceOfUptoRow : OpenClaim := { program := "ytbhfmiaboidhnaa", sum := "1e1a2f487ec9b75fc8742fca1332a42ceb4b2f41521ef4a63ffaa98ed5691488", func := "guerdon/guerdonlaw38.BalanceOf", spec := "balanceOf", unfollowed := true, recurses := true, apart := false, narrowed := true }
def BalanceOfUptoSaid : Prop := balanceOfUptoRow.holds Try.pinned (OpenSpec.upto balanceOfSpec)

/-- 'guerdonlaw38.BalanceAmounts', WHERE WHAT IT READS IS OF BULK AT MOST 1048576: true; the input reads as it did. -/
def balanceAmountsUptoRow : OpenClaim := { program := "ytbhfmiaboidhnaa", sum := "1e1a2f487ec9b75fc8742fca1332a42ceb4b2f41521ef4a63ffaa98ed5691488", func := "guerdon/guerdonlaw38.BalanceAmounts", spec := "balanceAmounts", unfollowed := true, recurses := true, apart := false, narrowed := true }
def BalanceAmountsUptoSaid : Prop := balanceAmountsUptoRow.holds Try.pinned (OpenSpec.upto balanceAmountsSpec)

/-- 'guerdonlaw38.BalanceIdentity', WHERE WHAT IT READS IS OF BULK AT MOST 1048576: true; the input reads as it did. -/
def balanceIdentityUptoRow : OpenClaim := { program := "ytbhfmiaboidhnaa", sum := "1e1a2f487ec9b75fc8742fca1332a42ceb4b2f41521ef4a63ffaa98ed5691488", func := "guerdon/guerdonlaw38.BalanceIdentity", spec := "balanceIdentity", unfollowed := true, recurses := true, apart := false, narrowed := true }
def BalanceIdentityUptoSaid : Prop := balanceIdentityUptoRow.holds Try.pinned (OpenSpec.upto balanceIdentitySpec)

/-- 'guerdonlaw38.BalanceUnknown', WHERE WHAT IT READS IS OF BULK AT MOST 1048576: true; the input reads as it did. -/
def balanceUnknownUptoRow : OpenClaim := { program := "ytbhfmiaboidhnaa", sum := "1e1a2f487ec9b75fc8742fca1332a42ceb4b2f41521ef4a63ffaa98ed5691488", func := "guerdon/guerdonlaw38.BalanceUnknown", spec := "balanceUnknown", unfollowed := true, recurses := true, apart := false, narrowed := true }
def BalanceUnknownUptoSaid : Prop := balanceUnknownUptoRow.holds Try.pinned (OpenSpec.upto balanceUnknownSpec)

/-- 'guerdonlaw38.BalanceTotals', WHERE WHAT IT READS IS OF BULK AT MOST 1048576: true; the input reads as it did. -/
def balanceTotalsUptoRow : OpenClaim := { program := "ytbhfmiaboidhnaa", sum := "1e1a2f487ec9b75fc8742fca1332a42ceb4b2f41521ef4a63ffaa98ed5691488", func := "guerdon/guerdonlaw38.BalanceTotals", spec := "balanceTotals", unfollowed := true, recurses := true, apart := false, narrowed := true }
def BalanceTotalsUptoSaid : Prop := balanceTotalsUptoRow.holds Try.pinned (OpenSpec.upto balanceTotalsSpec)

end Rows
end Go.Proofs.Ytbhfmiaboidhnaa
