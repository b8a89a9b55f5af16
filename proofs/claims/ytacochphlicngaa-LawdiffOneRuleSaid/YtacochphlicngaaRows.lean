/-
  No cell of these rows narrows 'for every input' (looked for: loops, veiled, ifaces, maps, wideKeys, modest, calm, conditions, laid).
  DERIVED. THE GIVEN ROWS OF THIS SEAT. 5 by the template 'for every input the law returns true; each argument reads behind the call as it read before'; 0 by the template 'total and deterministic' (their statements: YtacochphlicngaaTotals.lean).
  GIVEN WITH THE SEED: the statements are not yours to turn. If you find one false, say at which input.
  Laid BY PROGRAM, IN A SANDBOX (cutbox-rows.mjs): the forced cells as the released guide's own fill.sh prints them over the translation 7b9260216f19c962… (all of the seat's roots in one cut). By AI agents, Wed Nov 11 2026. No macro, syntax, notation, axiom, sorry.
-/
import Derived.Test.YtacochphlicngaaChecked
import GoSem.Claim
import GoSem.ClaimJoined
import GoSem.ClaimMapViews
import Derived.JoinedTies
import Derived.KernelRfl
namespace Go.Proofs.Ytacochphlicngaa
/- THE CELL 'sum', in the pinned program and in every row, IS THE sha256 OF THE DUMP (.gsa) THAT YtacochphlicngaaProg.lean LOADS. Nothing in Lean hashes anything: it is a label: what it is worth is what the hold of that sum in a sandbox is worth. -/
noncomputable def Try.pinned : Pinned := { name := "ytacochphlicngaa", sum := "7b9260216f19c962ad748a518e621157ef9a901f7c67d6a3c8060fc1a83398e0", checked := Try.checked }
namespace Rows
def none {H : Type} : Left H := { results := [], args := [] }

/-- 'guerdonlaw51.LawdiffRules': WHATEVER THE INPUT: true; the input reads as it did. -/
def lawdiffRulesSpec : ChangeSpec := { name := "lawdiffRules", fn := fun _ => fun
  | [d1, d2] => { results := [.lit (.bool true)], args := [d1, d2] }
  | _ => none }
def lawdiffRulesRow : OpenClaim := { program := "ytacochphlicngaa", sum := "7b9260216f19c962ad748a518e621157ef9a901f7c67d6a3c8060fc1a83398e0", func := "guerdon/guerdonlaw51.LawdiffRules", spec := "lawdiffRules", unfollowed := true, recurses := true, apart := false }
def LawdiffRulesSaid : Prop := lawdiffRulesRow.holds Try.pinned (OpenSpec.ofChange lawdiffRulesSpec)

/-- ITS FALSE NEIGHBOUR: 'it returns false'. Refute it at one input. -/
def lawdiffRulesWrong : ChangeSpec := { name := "lawdiffRules", fn := fun _ => fun
  | [d1, d2] => { results := [.lit (.bool false)], args := [d1, d2] }
  | _ => none }
def LawdiffRulesWrongFalsely : Prop := lawdiffRulesRow.holds Try.pinned (OpenSpec.ofChange lawdiffRulesWrong)

/-- 'guerdonlaw51.LawdiffInterface': WHATEVER THE INPUT: true; the input reads as it did. -/
def lawdiffInterfaceSpec : ChangeSpec := { name := "lawdiffInterface", fn := fun _ => fun
  | [d1, d2] => { results := [.lit (.bool true)], args := [d1, d2] }
  | _ => none }
def lawdiffInterfaceRow : OpenClaim := { program := "ytacochphlicngaa", sum := "7b9260216f19c962ad748a518e621157ef9a901f7c67d6a3c8060fc1a83398e0", func := "guerdon/guerdonlaw51.LawdiffInterface", spec := "lawdiffInterface", unfollowed := true, recurses := true, apart := false }
def LawdiffInterfaceSaid : Prop := lawdiffInterfaceRow.holds Try.pinned (OpenSpec.ofChange lawdiffInterfaceSpec)

/-- ITS FALSE NEIGHBOUR: 'it returns false'. Refute it at one input. -/
def lawdiffInterfaceWrong : ChangeSpec := { name := "lawdiffInterface", fn := fun _ => fun
  | [d1, d2] => { results := [.lit (.bool false)], args := [d1, d2] }
  | _ => none }
def LawdiffInterfaceWrongFalsely : Prop := lawdiffInterfaceRow.holds Try.pinned (OpenSpec.ofChange lawdiffInterfaceWrong)

/-- 'guerdonlaw51.LawdiffIdentity': WHATEVER THE INPUT: true; the input reads as it did. -/
def lawdiffIdentitySpec : ChangeSpec := { name := "lawdiffIdentity", fn := fun _ => fun
  | [d1, d2] => { results := [.lit (.bool true)], args := [d1, d2] }
  | _ => none }
def lawdiffIdentityRow : OpenClaim := { program := "ytacochphlicngaa", sum := "7b9260216f19c962ad748a518e621157ef9a901f7c67d6a3c8060fc1a83398e0", func := "guerdon/guerdonlaw51.LawdiffIdentity", spec := "lawdiffIdentity", unfollowed := true, recurses := true, apart := false }
def LawdiffIdentitySaid : Prop := lawdiffIdentityRow.holds Try.pinned (OpenSpec.ofChange lawdiffIdentitySpec)

/-- ITS FALSE NEIGHBOUR: 'it returns false'. Refute it at one input. -/
def lawdiffIdentityWrong : ChangeSpec := { name := "lawdiffIdentity", fn := fun _ => fun
  | [d1, d2] => { results := [.lit (.bool false)], args := [d1, d2] }
  | _ => none }
def LawdiffIdentityWrongFalsely : Prop := lawdiffIdentityRow.holds Try.pinned (OpenSpec.ofChange lawdiffIdentityWrong)

/-- 'guerdonlaw51.LawdiffSymmetry': WHATEVER THE INPUT: true; the input reads as it did. -/
def lawdiffSymmetrySpec : ChangeSpec := { name := "lawdiffSymmetry", fn := fun _ => fun
  | [d1, d2] => { results := [.lit (.bool true)], args := [d1, d2] }
  | _ => none }
def lawdiffSymmetryRow : OpenClaim := { program := "ytacochphlicngaa", sum := "7b9260216f19c962ad748a518e621157ef9a901f7c67d6a3c8060fc1a83398e0", func := "guerdon/guerdonlaw51.LawdiffSymmetry", spec := "lawdiffSymmetry", unfollowed := true, recurses := true, apart := false }
def LawdiffSymmetrySaid : Prop := lawdiffSymmetryRow.holds Try.pinned (OpenSpec.ofChange lawdiffSymmetrySpec)

/-- ITS FALSE NEIGHBOUR: 'it returns false'. Refute it at one input. -/
def lawdiffSymmetryWrong : ChangeSpec := { name := "lawdiffSymmetry", fn := fun _ => fun
  | [d1, d2] => { results := [.lit (.bool false)], args := [d1, d2] }
  | _ => none }
def LawdiffSymmetryWrongFalsely : Prop := lawdiffSymmetryRow.holds Try.pinned (OpenSpec.ofChange lawdiffSymmetryWrong)

/-- 'guerdonlaw51.LawdiffOneRule': WHATEVER THE INPUT: true; the input reads as it did. -/
def lawdiffOneRuleSpec : ChangeSpec := { name := "lawdiffOneRule", fn := fun _ => fun
  | [d1, d2, d3, d4] => { results := [.lit (.bool true)], args := [d1, d2, d3, d4] }
  | _ => none }
def lawdiffOneRuleRow : OpenClaim := { program := "ytacochphlicngaa", sum := "7b9260216f19c962ad748a518e621157ef9a901f7c67d6a3c8060fc1a83398e0", func := "guerdon/guerdonlaw51.LawdiffOneRule", spec := "lawdiffOneRule", unfollowed := true, recurses := true, apart := false }
def LawdiffOneRuleSaid : Prop := lawdiffOneRuleRow.holds Try.pinned (OpenSpec.ofChange lawdiffOneRuleSpec)

/-- ITS FALSE NEIGHBOUR: 'it returns false'. Refute it at one input. -/
def lawdiffOneRuleWrong : ChangeSpec := { name := "lawdiffOneRule", fn := fun _ => fun
  | [d1, d2, d3, d4] => { results := [.lit (.bool false)], args := [d1, d2, d3, d4] }
  | _ => none }
def LawdiffOneRuleWrongFalsely : Prop := lawdiffOneRuleRow.holds Try.pinned (OpenSpec.ofChange lawdiffOneRuleWrong)

/- THE SECOND FORM. 'bulk': how many values and letters a reading holds, each counted each time it is reached (what is shared counts as often as it is met; a slice's spare places count too). A statement '..UptoSaid' is the law's where the arguments, and the package variables that the reading takes, are together of bulk at most 1048576: NARROWER than '..Said'. Prove '..Said' where nothing that the law and all that it calls make is longer than what came in: it says more and counts as full. Else prove '..UptoSaid'. A law counts once. -/
mutual
def uptoBulk {H : Type} : DataW H → Nat
  | .lit (.string bytes) => bytes.length + 1
  | .lit _ => 1
  | .nil => 1
  | .ptr d => uptoBulk d + 1
  | .slice elems spare => uptoBulkAll elems + uptoBulkAll spare + 1
  | .agg parts => uptoBulkAll parts + 1
  | .iface _ d => uptoBulk d + 1
  | .map entries => uptoBulkEntries entries + 1
  | .held _ => 1
def uptoBulkAll {H : Type} : List (DataW H) → Nat
  | [] => 0
  | d :: r => uptoBulk d + uptoBulkAll r
def uptoBulkEntries {H : Type} : List (Lit × DataW H) → Nat
  | [] => 0
  | x :: r => uptoBulkEntry x + uptoBulkEntries r
def uptoBulkEntry {H : Type} : Lit × DataW H → Nat
  | (.string bytes, d) => bytes.length + uptoBulk d + 1
  | (_, d) => uptoBulk d + 1
 end
def uptoSmall : (H : Type) → List (DataW H) → Bool := fun _ ds => decide (uptoBulkAll ds ≤ 1048576)
def OpenSpec.upto (s : _root_.Go.ChangeSpec) : _root_.Go.OpenSpec := { _root_.Go.OpenSpec.ofChange s with cond := some uptoSmall }

/-- 'guerdonlaw51.LawdiffRules', WHERE WHAT IT READS IS OF BULK AT MOST 1048576: true; the input reads as it did. -/
def lawdiffRulesUptoRow : OpenClaim := { program := "ytacochphlicngaa", sum := "7b9260216f19c962ad748a518e621157ef9a901f7c67d6a3c8060fc1a83398e0", func := "guerdon/guerdonlaw51.LawdiffRules", spec := "lawdiffRules", unfollowed := true, recurses := true, apart := false, narrowed := true }
def LawdiffRulesUptoSaid : Prop := lawdiffRulesUptoRow.holds Try.pinned (OpenSpec.upto lawdiffRulesSpec)

/-- 'guerdonlaw51.LawdiffInterface', WHERE WHAT IT READS IS OF BULK AT MOST 1048576: true; the input reads as it did. -/
def lawdiffInterfaceUptoRow : OpenClaim := { program := "ytacochphlicngaa", sum := "7b9260216f19c962ad748a518e621157ef9a901f7c67d6a3c8060fc1a83398e0", func := "guerdon/guerdonlaw51.LawdiffInterface", spec := "lawdiffInterface", unfollowed := true, recurses := true, apart := false, narrowed := true }
def LawdiffInterfaceUptoSaid : Prop := lawdiffInterfaceUptoRow.holds Try.pinned (OpenSpec.upto lawdiffInterfaceSpec)

/-- 'guerdonlaw51.LawdiffIdentity', WHERE WHAT IT READS IS OF BULK AT MOST 1048576: true; the input reads as it did. -/
def lawdiffIdentityUptoRow : OpenClaim := { program := "ytacochphlicngaa", sum := "7b9260216f19c962ad748a518e621157ef9a901f7c67d6a3c8060fc1a83398e0", func := "guerdon/guerdonlaw51.LawdiffIdentity", spec := "lawdiffIdentity", unfollowed := true, recurses := true, apart := false, narrowed := true }
def LawdiffIdentityUptoSaid : Prop := lawdiffIdentityUptoRow.holds Try.pinned (OpenSpec.upto lawdiffIdentitySpec)

/-- 'guerdonlaw51.LawdiffSymmetry', WHERE WHAT IT READS IS OF BULK AT MOST 1048576: true; the input reads as it did. -/
def lawdiffSymmetryUptoRow : OpenClaim := { program := "ytacochphlicngaa", sum := "7b9260216f19c962ad748a518e621157ef9a901f7c67d6a3c8060fc1a83398e0", func := "guerdon/guerdonlaw51.LawdiffSymmetry", spec := "lawdiffSymmetry", unfollowed := true, recurses := true, apart := false, narrowed := true }
def LawdiffSymmetryUptoSaid : Prop := lawdiffSymmetryUptoRow.holds Try.pinned (OpenSpec.upto lawdiffSymmetrySpec)

/-- 'guerdonlaw51.LawdiffOneRule', WHERE WHAT IT READS IS OF BULK AT MOST 1048576: true; the input reads as it did. -/
def lawdiffOneRuleUptoRow : OpenClaim := { program := "ytacochphlicngaa", sum := "7b9260216f19c962ad748a518e621157ef9a901f7c67d6a3c8060fc1a83398e0", func := "guerdon/guerdonlaw51.LawdiffOneRule", spec := "lawdiffOneRule", unfollowed := true, recurses := true, apart := false, narrowed := true }
def LawdiffOneRuleUptoSaid : Prop := lawdiffOneRuleUptoRow.holds Try.pinned (OpenSpec.upto lawdiffOneRuleSpec)

end Rows
end Go.Proofs.Ytacochphlicngaa
