/-
  No cell of these rows narrows 'for every input' (looked for: loops, veiled, ifaces, maps, wideKeys, modest, calm, conditions, laid).
  DERIVED. THE GIVEN ROWS OF THIS SEAT. 4 by the template 'for every input the law returns true; each argument reads behind the call as it read before'; 0 by the template 'total and deterministic' (their statements: YtbladfbbhijpmaaGreatTotals.lean).
  GIVEN WITH THE SEED: the statements are not yours to turn. If you find one false, say at which input.
  Laid BY PROGRAM, IN A SANDBOX (cutbox-rows.mjs): the forced cells as the released guide's own fill.sh prints them over the translation fb1998a4756294a2… (all of the seat's roots in one cut). By AI agents, Wed Nov 11 2026. No macro, syntax, notation, axiom, sorry.
-/
import Derived.Test.YtbladfbbhijpmaaGreatChecked
import GoSem.Claim
import GoSem.ClaimJoined
import GoSem.ClaimMapViews
import Derived.JoinedTies
import Derived.KernelRfl
namespace Go.Proofs.YtbladfbbhijpmaaGreat
/- THE CELL 'sum', in the pinned program and in every row, IS THE sha256 OF THE DUMP (.gsa) THAT YtbladfbbhijpmaaGreatProg.lean LOADS. Nothing in Lean hashes anything: it is a label: what it is worth is what the hold of that sum in a sandbox is worth. -/
noncomputable def Tryz.pinned : Pinned := { name := "ytbladfbbhijpmaagreat", sum := "fb1998a4756294a218b647fc378d43ed013c87c56e1985f4910cc4e086e17aaa", checked := Tryz.checked }
namespace Rows
def none {H : Type} : Left H := { results := [], args := [] }

/-- 'guerdonlaw31.DectableBuild': WHATEVER THE INPUT: true; the input reads as it did. -/
def dectableBuildSpec : ChangeSpec := { name := "dectableBuild", fn := fun _ => fun
  | [d1, d2] => { results := [.lit (.bool true)], args := [d1, d2] }
  | _ => none }
def dectableBuildRow : OpenClaim := { program := "ytbladfbbhijpmaagreat", sum := "fb1998a4756294a218b647fc378d43ed013c87c56e1985f4910cc4e086e17aaa", func := "guerdon/guerdonlaw31.DectableBuild", spec := "dectableBuild", inPlace := ["internal/bytealg.IndexByteString", "internal/bytealg.IndexString"], unfollowed := true, recurses := true, named := ["internal/bytealg.MaxLen"], plainKeys := false, apart := false }
def DectableBuildSaid : Prop := dectableBuildRow.holds Tryz.pinned (OpenSpec.ofChange dectableBuildSpec)

/-- ITS FALSE NEIGHBOUR: 'it returns false'. Refute it at one input. -/
def dectableBuildWrong : ChangeSpec := { name := "dectableBuild", fn := fun _ => fun
  | [d1, d2] => { results := [.lit (.bool false)], args := [d1, d2] }
  | _ => none }
def DectableBuildWrongFalsely : Prop := dectableBuildRow.holds Tryz.pinned (OpenSpec.ofChange dectableBuildWrong)

/-- 'guerdonlaw31.DectableTells': WHATEVER THE INPUT: true; the input reads as it did. -/
def dectableTellsSpec : ChangeSpec := { name := "dectableTells", fn := fun _ => fun
  | [d1, d2] => { results := [.lit (.bool true)], args := [d1, d2] }
  | _ => none }
def dectableTellsRow : OpenClaim := { program := "ytbladfbbhijpmaagreat", sum := "fb1998a4756294a218b647fc378d43ed013c87c56e1985f4910cc4e086e17aaa", func := "guerdon/guerdonlaw31.DectableTells", spec := "dectableTells", inPlace := ["internal/bytealg.IndexByteString", "internal/bytealg.IndexString"], unfollowed := true, recurses := true, named := ["internal/bytealg.MaxLen"], plainKeys := false, apart := false }
def DectableTellsSaid : Prop := dectableTellsRow.holds Tryz.pinned (OpenSpec.ofChange dectableTellsSpec)

/-- ITS FALSE NEIGHBOUR: 'it returns false'. Refute it at one input. -/
def dectableTellsWrong : ChangeSpec := { name := "dectableTells", fn := fun _ => fun
  | [d1, d2] => { results := [.lit (.bool false)], args := [d1, d2] }
  | _ => none }
def DectableTellsWrongFalsely : Prop := dectableTellsRow.holds Tryz.pinned (OpenSpec.ofChange dectableTellsWrong)

/-- 'guerdonlaw31.DectableDeterministic': WHATEVER THE INPUT: true; the input reads as it did. -/
def dectableDeterministicSpec : ChangeSpec := { name := "dectableDeterministic", fn := fun _ => fun
  | [d1, d2] => { results := [.lit (.bool true)], args := [d1, d2] }
  | _ => none }
def dectableDeterministicRow : OpenClaim := { program := "ytbladfbbhijpmaagreat", sum := "fb1998a4756294a218b647fc378d43ed013c87c56e1985f4910cc4e086e17aaa", func := "guerdon/guerdonlaw31.DectableDeterministic", spec := "dectableDeterministic", inPlace := ["internal/bytealg.IndexByteString", "internal/bytealg.IndexString"], unfollowed := true, recurses := true, named := ["internal/bytealg.MaxLen"], plainKeys := false, apart := false }
def DectableDeterministicSaid : Prop := dectableDeterministicRow.holds Tryz.pinned (OpenSpec.ofChange dectableDeterministicSpec)

/-- ITS FALSE NEIGHBOUR: 'it returns false'. Refute it at one input. -/
def dectableDeterministicWrong : ChangeSpec := { name := "dectableDeterministic", fn := fun _ => fun
  | [d1, d2] => { results := [.lit (.bool false)], args := [d1, d2] }
  | _ => none }
def DectableDeterministicWrongFalsely : Prop := dectableDeterministicRow.holds Tryz.pinned (OpenSpec.ofChange dectableDeterministicWrong)

/-- 'guerdonlaw31.DectableDisjoint': WHATEVER THE INPUT: true; the input reads as it did. -/
def dectableDisjointSpec : ChangeSpec := { name := "dectableDisjoint", fn := fun _ => fun
  | [d1, d2] => { results := [.lit (.bool true)], args := [d1, d2] }
  | _ => none }
def dectableDisjointRow : OpenClaim := { program := "ytbladfbbhijpmaagreat", sum := "fb1998a4756294a218b647fc378d43ed013c87c56e1985f4910cc4e086e17aaa", func := "guerdon/guerdonlaw31.DectableDisjoint", spec := "dectableDisjoint", inPlace := ["internal/bytealg.IndexByteString", "internal/bytealg.IndexString"], unfollowed := true, recurses := true, named := ["internal/bytealg.MaxLen"], plainKeys := false, apart := false }
def DectableDisjointSaid : Prop := dectableDisjointRow.holds Tryz.pinned (OpenSpec.ofChange dectableDisjointSpec)

/-- ITS FALSE NEIGHBOUR: 'it returns false'. Refute it at one input. -/
def dectableDisjointWrong : ChangeSpec := { name := "dectableDisjoint", fn := fun _ => fun
  | [d1, d2] => { results := [.lit (.bool false)], args := [d1, d2] }
  | _ => none }
def DectableDisjointWrongFalsely : Prop := dectableDisjointRow.holds Tryz.pinned (OpenSpec.ofChange dectableDisjointWrong)

/- THE SECOND FORM. 'bulk': how many values and letters a reading holds, each counted each time it is reached (what is shared counts as often as it is met; a slice's spare places count too). A statement '..UptoSaid' is the law's where the arguments, and the package variables that the reading takes, are together of bulk at most 1048576: NARROWER than '..Said'. Prove '..Said' where nothing that the law and all that it calls make is longer than what came in: it says more and counts as full. Else prove '..UptoSaid'. A law counts once. -/
mutual
def uptoBulk {H : Type} : DataW H → Nat
  | .lit (.string bytes) => bytes.length + 1
  | .lit _ => 1
  | .nil => 1
  | .ptr d => uptoBulk d + 1
  | .slice elems spare => uptoBulkAll elems + uptoBulkAll spare + 1
  | .agg parts => uptoBulkAll parts + 1
  | .iface _ d => uptoBulk d + 1
  | .map entries => uptoBulkEntries entries + 1
  | .held _ => 1
def uptoBulkAll {H : Type} : List (DataW H) → Nat
  | [] => 0
  | d :: r => uptoBulk d + uptoBulkAll r
def uptoBulkEntries {H : Type} : List (Lit × DataW H) → Nat
  | [] => 0
  | x :: r => uptoBulkEntry x + uptoBulkEntries r
def uptoBulkEntry {H : Type} : Lit × DataW H → Nat
  | (.string bytes, d) => bytes.length + uptoBulk d + 1
  | (_, d) => uptoBulk d + 1
 end
def uptoSmall : (H : Type) → List (DataW H) → Bool := fun _ ds => decide (uptoBulkAll ds ≤ 1048576)
def OpenSpec.upto (s : _root_.Go.ChangeSpec) : _root_.Go.OpenSpec := { _root_.Go.OpenSpec.ofChange s with cond := some uptoSmall }

/-- 'guerdonlaw31.DectableBuild', WHERE WHAT IT READS IS OF BULK AT MOST 1048576: true; the input reads as it did. -/
def dectableBuildUptoRow : OpenClaim := { program := "ytbladfbbhijpmaagreat", sum := "fb1998a4756294a218b647fc378d43ed013c87c56e1985f4910cc4e086e17aaa", func := "guerdon/guerdonlaw31.DectableBuild", spec := "dectableBuild", inPlace := ["internal/bytealg.IndexByteString", "internal/bytealg.IndexString"], unfollowed := true, recurses := true, named := ["internal/bytealg.MaxLen"], plainKeys := false, apart := false, narrowed := true }
def DectableBuildUptoSaid : Prop := dectableBuildUptoRow.holds Tryz.pinned (OpenSpec.upto dectableBuildSpec)

/-- 'guerdonlaw31.DectableTells', WHERE WHAT IT READS IS OF BULK AT MOST 1048576: true; the input reads as it did. -/
def dectableTellsUptoRow : OpenClaim := { program := "ytbladfbbhijpmaagreat", sum := "fb1998a4756294a218b647fc378d43ed013c87c56e1985f4910cc4e086e17aaa", func := "guerdon/guerdonlaw31.DectableTells", spec := "dectableTells", inPlace := ["internal/bytealg.IndexByteString", "internal/bytealg.IndexString"], unfollowed := true, recurses := true, named := ["internal/bytealg.MaxLen"], plainKeys := false, apart := false, narrowed := true }
def DectableTellsUptoSaid : Prop := dectableTellsUptoRow.holds Tryz.pinned (OpenSpec.upto dectableTellsSpec)

/-- 'guerdonlaw31.DectableDeterministic', WHERE WHAT IT READS IS OF BULK AT MOST 1048576: true; the input reads as it did. -/
def dectableDeterministicUptoRow : OpenClaim := { program := "ytbladfbbhijpmaagreat", sum := "fb1998a4756294a218b647fc378d43ed013c87c56e1985f4910cc4e086e17aaa", func := "guerdon/guerdonlaw31.DectableDeterministic", spec := "dectableDeterministic", inPlace := ["internal/bytealg.IndexByteString", "internal/bytealg.IndexString"], unfollowed := true, recurses := true, named := ["internal/bytealg.MaxLen"], plainKeys := false, apart := false, narrowed := true }
def DectableDeterministicUptoSaid : Prop := dectableDeterministicUptoRow.holds Tryz.pinned (OpenSpec.upto dectableDeterministicSpec)

/-- 'guerdonlaw31.DectableDisjoint', WHERE WHAT IT READS IS OF BULK AT MOST 1048576: true; the input reads as it did. -/
def dectableDisjointUptoRow : OpenClaim := { program := "ytbladfbbhijpmaagreat", sum := "fb1998a4756294a218b647fc378d43ed013c87c56e1985f4910cc4e086e17aaa", func := "guerdon/guerdonlaw31.DectableDisjoint", spec := "dectableDisjoint", inPlace := ["internal/bytealg.IndexByteString", "internal/bytealg.IndexString"], unfollowed := true, recurses := true, named := ["internal/bytealg.MaxLen"], plainKeys := false, apart := false, narrowed := true }
def DectableDisjointUptoSaid : Prop := dectableDisjointUptoRow.holds Tryz.pinned (OpenSpec.upto dectableDisjointSpec)

end Rows
end Go.Proofs.YtbladfbbhijpmaaGreat
