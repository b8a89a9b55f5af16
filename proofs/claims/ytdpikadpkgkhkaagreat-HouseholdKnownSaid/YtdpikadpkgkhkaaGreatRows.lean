/-
  No cell of these rows narrows 'for every input' (looked for: loops, veiled, ifaces, maps, wideKeys, modest, calm, conditions, laid).
  DERIVED. THE GIVEN ROWS OF THIS SEAT. 6 by the template 'for every input the law returns true; each argument reads behind the call as it read before'; 0 by the template 'total and deterministic' (their statements: YtdpikadpkgkhkaaGreatTotals.lean).
  GIVEN WITH THE SEED: the statements are not yours to turn. If you find one false, say at which input.
  Laid BY PROGRAM, IN A SANDBOX (cutbox-rows.mjs): the forced cells as the released guide's own fill.sh prints them over the translation ac781c60088b32c5… (all of the seat's roots in one cut). By AI agents, Wed Nov 11 2026. No macro, syntax, notation, axiom, sorry.
-/
import Derived.Test.YtdpikadpkgkhkaaGreatChecked
import GoSem.Claim
import GoSem.ClaimJoined
import GoSem.ClaimMapViews
import Derived.JoinedTies
import Derived.KernelRfl
namespace Go.Proofs.YtdpikadpkgkhkaaGreat
/- THE CELL 'sum', in the pinned program and in every row, IS THE sha256 OF THE DUMP (.gsa) THAT YtdpikadpkgkhkaaGreatProg.lean LOADS. Nothing in Lean hashes anything: it is a label: what it is worth is what the hold of that sum in a sandbox is worth. -/
noncomputable def Tryz.pinned : Pinned := { name := "ytdpikadpkgkhkaagreat", sum := "ac781c60088b32c5d92969c1f9c9817e22aeb97db561e3e55b5e297abb390a1e", checked := Tryz.checked }
namespace Rows
def none {H : Type} : Left H := { results := [], args := [] }

/-- 'guerdonlaw35.HouseholdValidate': WHATEVER THE INPUT: true; the input reads as it did. -/
def householdValidateSpec : ChangeSpec := { name := "householdValidate", fn := fun _ => fun
  | [d1, d2] => { results := [.lit (.bool true)], args := [d1, d2] }
  | _ => none }
def householdValidateRow : OpenClaim := { program := "ytdpikadpkgkhkaagreat", sum := "ac781c60088b32c5d92969c1f9c9817e22aeb97db561e3e55b5e297abb390a1e", func := "guerdon/guerdonlaw35.HouseholdValidate", spec := "householdValidate", inPlace := ["internal/bytealg.IndexByteString", "internal/bytealg.IndexString"], unfollowed := true, recurses := true, named := ["internal/bytealg.MaxLen"], apart := false }
def HouseholdValidateSaid : Prop := householdValidateRow.holds Tryz.pinned (OpenSpec.ofChange householdValidateSpec)

/-- ITS FALSE NEIGHBOUR: 'it returns false'. Refute it at one input. -/
def householdValidateWrong : ChangeSpec := { name := "householdValidate", fn := fun _ => fun
  | [d1, d2] => { results := [.lit (.bool false)], args := [d1, d2] }
  | _ => none }
def HouseholdValidateWrongFalsely : Prop := householdValidateRow.holds Tryz.pinned (OpenSpec.ofChange householdValidateWrong)

/-- 'guerdonlaw35.HouseholdMembers': WHATEVER THE INPUT: true; the input reads as it did. -/
def householdMembersSpec : ChangeSpec := { name := "householdMembers", fn := fun _ => fun
  | [d1, d2, d3] => { results := [.lit (.bool true)], args := [d1, d2, d3] }
  | _ => none }
def householdMembersRow : OpenClaim := { program := "ytdpikadpkgkhkaagreat", sum := "ac781c60088b32c5d92969c1f9c9817e22aeb97db561e3e55b5e297abb390a1e", func := "guerdon/guerdonlaw35.HouseholdMembers", spec := "householdMembers", inPlace := ["internal/bytealg.IndexByteString", "internal/bytealg.IndexString"], unfollowed := true, recurses := true, named := ["internal/bytealg.MaxLen"], apart := false }
def HouseholdMembersSaid : Prop := householdMembersRow.holds Tryz.pinned (OpenSpec.ofChange householdMembersSpec)

/-- ITS FALSE NEIGHBOUR: 'it returns false'. Refute it at one input. -/
def householdMembersWrong : ChangeSpec := { name := "householdMembers", fn := fun _ => fun
  | [d1, d2, d3] => { results := [.lit (.bool false)], args := [d1, d2, d3] }
  | _ => none }
def HouseholdMembersWrongFalsely : Prop := householdMembersRow.holds Tryz.pinned (OpenSpec.ofChange householdMembersWrong)

/-- 'guerdonlaw35.HouseholdCase': WHATEVER THE INPUT: true; the input reads as it did. -/
def householdCaseSpec : ChangeSpec := { name := "householdCase", fn := fun _ => fun
  | [d1, d2, d3, d4] => { results := [.lit (.bool true)], args := [d1, d2, d3, d4] }
  | _ => none }
def householdCaseRow : OpenClaim := { program := "ytdpikadpkgkhkaagreat", sum := "ac781c60088b32c5d92969c1f9c9817e22aeb97db561e3e55b5e297abb390a1e", func := "guerdon/guerdonlaw35.HouseholdCase", spec := "householdCase", inPlace := ["internal/bytealg.IndexByteString", "internal/bytealg.IndexString"], unfollowed := true, recurses := true, named := ["internal/bytealg.MaxLen"], apart := false }
def HouseholdCaseSaid : Prop := householdCaseRow.holds Tryz.pinned (OpenSpec.ofChange householdCaseSpec)

/-- ITS FALSE NEIGHBOUR: 'it returns false'. Refute it at one input. -/
def householdCaseWrong : ChangeSpec := { name := "householdCase", fn := fun _ => fun
  | [d1, d2, d3, d4] => { results := [.lit (.bool false)], args := [d1, d2, d3, d4] }
  | _ => none }
def HouseholdCaseWrongFalsely : Prop := householdCaseRow.holds Tryz.pinned (OpenSpec.ofChange householdCaseWrong)

/-- 'guerdonlaw35.HouseholdOrder': WHATEVER THE INPUT: true; the input reads as it did. -/
def householdOrderSpec : ChangeSpec := { name := "householdOrder", fn := fun _ => fun
  | [d1, d2, d3, d4] => { results := [.lit (.bool true)], args := [d1, d2, d3, d4] }
  | _ => none }
def householdOrderRow : OpenClaim := { program := "ytdpikadpkgkhkaagreat", sum := "ac781c60088b32c5d92969c1f9c9817e22aeb97db561e3e55b5e297abb390a1e", func := "guerdon/guerdonlaw35.HouseholdOrder", spec := "householdOrder", inPlace := ["internal/bytealg.IndexByteString", "internal/bytealg.IndexString"], unfollowed := true, recurses := true, named := ["internal/bytealg.MaxLen"], apart := false }
def HouseholdOrderSaid : Prop := householdOrderRow.holds Tryz.pinned (OpenSpec.ofChange householdOrderSpec)

/-- ITS FALSE NEIGHBOUR: 'it returns false'. Refute it at one input. -/
def householdOrderWrong : ChangeSpec := { name := "householdOrder", fn := fun _ => fun
  | [d1, d2, d3, d4] => { results := [.lit (.bool false)], args := [d1, d2, d3, d4] }
  | _ => none }
def HouseholdOrderWrongFalsely : Prop := householdOrderRow.holds Tryz.pinned (OpenSpec.ofChange householdOrderWrong)

/-- 'guerdonlaw35.HouseholdKnown': WHATEVER THE INPUT: true; the input reads as it did. -/
def householdKnownSpec : ChangeSpec := { name := "householdKnown", fn := fun _ => fun
  | [d1, d2, d3, d4] => { results := [.lit (.bool true)], args := [d1, d2, d3, d4] }
  | _ => none }
def householdKnownRow : OpenClaim := { program := "ytdpikadpkgkhkaagreat", sum := "ac781c60088b32c5d92969c1f9c9817e22aeb97db561e3e55b5e297abb390a1e", func := "guerdon/guerdonlaw35.HouseholdKnown", spec := "householdKnown", inPlace := ["internal/bytealg.IndexByteString", "internal/bytealg.IndexString"], unfollowed := true, recurses := true, named := ["internal/bytealg.MaxLen"], apart := false }
def HouseholdKnownSaid : Prop := householdKnownRow.holds Tryz.pinned (OpenSpec.ofChange householdKnownSpec)

/-- ITS FALSE NEIGHBOUR: 'it returns false'. Refute it at one input. -/
def householdKnownWrong : ChangeSpec := { name := "householdKnown", fn := fun _ => fun
  | [d1, d2, d3, d4] => { results := [.lit (.bool false)], args := [d1, d2, d3, d4] }
  | _ => none }
def HouseholdKnownWrongFalsely : Prop := householdKnownRow.holds Tryz.pinned (OpenSpec.ofChange householdKnownWrong)

/-- 'guerdonlaw35.HouseholdValidCase': WHATEVER THE INPUT: true; the input reads as it did. -/
def householdValidCaseSpec : ChangeSpec := { name := "householdValidCase", fn := fun _ => fun
  | [d1, d2, d3, d4] => { results := [.lit (.bool true)], args := [d1, d2, d3, d4] }
  | _ => none }
def householdValidCaseRow : OpenClaim := { program := "ytdpikadpkgkhkaagreat", sum := "ac781c60088b32c5d92969c1f9c9817e22aeb97db561e3e55b5e297abb390a1e", func := "guerdon/guerdonlaw35.HouseholdValidCase", spec := "householdValidCase", inPlace := ["internal/bytealg.IndexByteString", "internal/bytealg.IndexString"], unfollowed := true, recurses := true, named := ["internal/bytealg.MaxLen"], apart := false }
def HouseholdValidCaseSaid : Prop := householdValidCaseRow.holds Tryz.pinned (OpenSpec.ofChange householdValidCaseSpec)

/-- ITS FALSE NEIGHBOUR: 'it returns false'. Refute it at one input. -/
def householdValidCaseWrong : ChangeSpec := { name := "householdValidCase", fn := fun _ => fun
  | [d1, d2, d3, d4] => { results := [.lit (.bool false)], args := [d1, d2, d3, d4] }
  | _ => none }
def HouseholdValidCaseWrongFalsely : Prop := householdValidCaseRow.holds Tryz.pinned (OpenSpec.ofChange householdValidCaseWrong)

/- THE SECOND FORM. 'bulk': how many values and letters a reading holds, each counted each time it is reached (what is shared counts as often as it is met; a slice's spare places count too). A statement '..UptoSaid' is the law's where the arguments, and the package variables that the reading takes, are together of bulk at most 1048576: NARROWER than '..Said'. Prove '..Said' where nothing that the law and all that it calls make is longer than what came in: it says more and counts as full. Else prove '..UptoSaid'. A law counts once. -/
mutual
def uptoBulk {H : Type} : DataW H → Nat
  | .lit (.string bytes) => bytes.length + 1
  | .lit _ => 1
  | .nil => 1
  | .ptr d => uptoBulk d + 1
  | .slice elems spare => uptoBulkAll elems + uptoBulkAll spare + 1
  | .agg parts => uptoBulkAll parts + 1
  | .iface _ d => uptoBulk d + 1
  | .map entries => uptoBulkEntries entries + 1
  | .held _ => 1
def uptoBulkAll {H : Type} : List (DataW H) → Nat
  | [] => 0
  | d :: r => uptoBulk d + uptoBulkAll r
def uptoBulkEntries {H : Type} : List (Lit × DataW H) → Nat
  | [] => 0
  | x :: r => uptoBulkEntry x + uptoBulkEntries r
def uptoBulkEntry {H : Type} : Lit × DataW H → Nat
  | (.string bytes, d) => bytes.length + uptoBulk d + 1
  | (_, d) => uptoBulk d + 1
 end
def uptoSmall : (H : Type) → List (DataW H) → Bool := fun _ ds => decide (uptoBulkAll ds ≤ 1048576)
def OpenSpec.upto (s : _root_.Go.ChangeSpec) : _root_.Go.OpenSpec := { _root_.Go.OpenSpec.ofChange s with cond := some uptoSmall }

/-- 'guerdonlaw35.HouseholdValidate', WHERE WHAT IT READS IS OF BULK AT MOST 1048576: true; the input reads as it did. -/
def householdValidateUptoRow : OpenClaim := { program := "ytdpikadpkgkhkaagreat", sum := "ac781c60088b32c5d92969c1f9c9817e22aeb97db561e3e55b5e297abb390a1e", func := "guerdon/guerdonlaw35.HouseholdValidate", spec := "householdValidate", inPlace := ["internal/bytealg.IndexByteString", "internal/bytealg.IndexString"], unfollowed := true, recurses := true, named := ["internal/bytealg.MaxLen"], apart := false, narrowed := true }
def HouseholdValidateUptoSaid : Prop := householdValidateUptoRow.holds Tryz.pinned (OpenSpec.upto householdValidateSpec)

/-- 'guerdonlaw35.HouseholdMembers', WHERE WHAT IT READS IS OF BULK AT MOST 1048576: true; the input reads as it did. -/
def householdMembersUptoRow : OpenClaim := { program := "ytdpikadpkgkhkaagreat", sum := "ac781c60088b32c5d92969c1f9c9817e22aeb97db561e3e55b5e297abb390a1e", func := "guerdon/guerdonlaw35.HouseholdMembers", spec := "householdMembers", inPlace := ["internal/bytealg.IndexByteString", "internal/bytealg.IndexString"], unfollowed := true, recurses := true, named := ["internal/bytealg.MaxLen"], apart := false, narrowed := true }
def HouseholdMembersUptoSaid : Prop := householdMembersUptoRow.holds Tryz.pinned (OpenSpec.upto householdMembersSpec)

/-- 'guerdonlaw35.HouseholdCase', WHERE WHAT IT READS IS OF BULK AT MOST 1048576: true; the input reads as it did. -/
def householdCaseUptoRow : OpenClaim := { program := "ytdpikadpkgkhkaagreat", sum := "ac781c60088b32c5d92969c1f9c9817e22aeb97db561e3e55b5e297abb390a1e", func := "guerdon/guerdonlaw35.HouseholdCase", spec := "householdCase", inPlace := ["internal/bytealg.IndexByteString", "internal/bytealg.IndexString"], unfollowed := true, recurses := true, named := ["internal/bytealg.MaxLen"], apart := false, narrowed := true }
def HouseholdCaseUptoSaid : Prop := householdCaseUptoRow.holds Tryz.pinned (OpenSpec.upto householdCaseSpec)

/-- 'guerdonlaw35.HouseholdOrder', WHERE WHAT IT READS IS OF BULK AT MOST 1048576: true; the input reads as it did. -/
def householdOrderUptoRow : OpenClaim := { program := "ytdpikadpkgkhkaagreat", sum := "ac781c60088b32c5d92969c1f9c9817e22aeb97db561e3e55b5e297abb390a1e", func := "guerdon/guerdonlaw35.HouseholdOrder", spec := "householdOrder", inPlace := ["internal/bytealg.IndexByteString", "internal/bytealg.IndexString"], unfollowed := true, recurses := true, named := ["internal/bytealg.MaxLen"], apart := false, narrowed := true }
def HouseholdOrderUptoSaid : Prop := householdOrderUptoRow.holds Tryz.pinned (OpenSpec.upto householdOrderSpec)

/-- 'guerdonlaw35.HouseholdKnown', WHERE WHAT IT READS IS OF BULK AT MOST 1048576: true; the input reads as it did. -/
def householdKnownUptoRow : OpenClaim := { program := "ytdpikadpkgkhkaagreat", sum := "ac781c60088b32c5d92969c1f9c9817e22aeb97db561e3e55b5e297abb390a1e", func := "guerdon/guerdonlaw35.HouseholdKnown", spec := "householdKnown", inPlace := ["internal/bytealg.IndexByteString", "internal/bytealg.IndexString"], unfollowed := true, recurses := true, named := ["internal/bytealg.MaxLen"], apart := false, narrowed := true }
def HouseholdKnownUptoSaid : Prop := householdKnownUptoRow.holds Tryz.pinned (OpenSpec.upto householdKnownSpec)

/-- 'guerdonlaw35.HouseholdValidCase', WHERE WHAT IT READS IS OF BULK AT MOST 1048576: true; the input reads as it did. -/
def householdValidCaseUptoRow : OpenClaim := { program := "ytdpikadpkgkhkaagreat", sum := "ac781c60088b32c5d92969c1f9c9817e22aeb97db561e3e55b5e297abb390a1e", func := "guerdon/guerdonlaw35.HouseholdValidCase", spec := "householdValidCase", inPlace := ["internal/bytealg.IndexByteString", "internal/bytealg.IndexString"], unfollowed := true, recurses := true, named := ["internal/bytealg.MaxLen"], apart := false, narrowed := true }
def HouseholdValidCaseUptoSaid : Prop := householdValidCaseUptoRow.holds Tryz.pinned (OpenSpec.upto householdValidCaseSpec)

end Rows
end Go.Proofs.YtdpikadpkgkhkaaGreat
