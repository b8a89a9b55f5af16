/-
  No cell of these rows narrows 'for every input' (looked for: loops, veiled, ifaces, maps, wideKeys, modest, calm, conditions, laid).
  DERIVED. THE GIVEN ROWS OF THIS SEAT. 6 by the template 'for every input the law returns true; each argument reads behind the call as it read before'; 0 by the template 'total and deterministic' (their statements: YtjeeligfdpociaaGreatTotals.lean).
  GIVEN WITH THE SEED: the statements are not yours to turn. If you find one false, say at which input.
  Laid BY PROGRAM, IN A SANDBOX (cutbox-rows.mjs): the forced cells as the released guide's own fill.sh prints them over the translation 2734a820fdcc6063… (all of the seat's roots in one cut). By AI agents, Wed Nov 11 2026. No macro, syntax, notation, axiom, sorry.
-/
import Derived.Test.YtjeeligfdpociaaGreatChecked
import GoSem.Claim
import GoSem.ClaimJoined
import GoSem.ClaimMapViews
import Derived.JoinedTies
import Derived.KernelRfl
namespace Go.Proofs.YtjeeligfdpociaaGreat
/- THE CELL 'sum', in the pinned program and in every row, IS THE sha256 OF THE DUMP (.gsa) THAT YtjeeligfdpociaaGreatProg.lean LOADS. Nothing in Lean hashes anything: it is a label: what it is worth is what the hold of that sum in a sandbox is worth. -/
noncomputable def Tryz.pinned : Pinned := { name := "ytjeeligfdpociaagreat", sum := "2734a820fdcc6063810823d2faf5e2e0f8e843f7cf78e49ecb9ba78328d5a715", checked := Tryz.checked }
namespace Rows
def none {H : Type} : Left H := { results := [], args := [] }

/-- 'guerdonlaw17.LawValidate': WHATEVER THE INPUT: true; the input reads as it did. -/
def lawValidateSpec : ChangeSpec := { name := "lawValidate", fn := fun _ => fun
  | [d] => { results := [.lit (.bool true)], args := [d] }
  | _ => none }
def lawValidateRow : OpenClaim := { program := "ytjeeligfdpociaagreat", sum := "2734a820fdcc6063810823d2faf5e2e0f8e843f7cf78e49ecb9ba78328d5a715", func := "guerdon/guerdonlaw17.LawValidate", spec := "lawValidate", inPlace := ["internal/bytealg.IndexByteString", "internal/bytealg.IndexString"], unfollowed := true, recurses := true, named := ["internal/bytealg.MaxLen"], apart := false }
def LawValidateSaid : Prop := lawValidateRow.holds Tryz.pinned (OpenSpec.ofChange lawValidateSpec)

/-- ITS FALSE NEIGHBOUR: 'it returns false'. Refute it at one input. -/
def lawValidateWrong : ChangeSpec := { name := "lawValidate", fn := fun _ => fun
  | [d] => { results := [.lit (.bool false)], args := [d] }
  | _ => none }
def LawValidateWrongFalsely : Prop := lawValidateRow.holds Tryz.pinned (OpenSpec.ofChange lawValidateWrong)

/-- 'guerdonlaw17.LawFind': WHATEVER THE INPUT: true; the input reads as it did. -/
def lawFindSpec : ChangeSpec := { name := "lawFind", fn := fun _ => fun
  | [d1, d2, d3] => { results := [.lit (.bool true)], args := [d1, d2, d3] }
  | _ => none }
def lawFindRow : OpenClaim := { program := "ytjeeligfdpociaagreat", sum := "2734a820fdcc6063810823d2faf5e2e0f8e843f7cf78e49ecb9ba78328d5a715", func := "guerdon/guerdonlaw17.LawFind", spec := "lawFind", inPlace := ["internal/bytealg.IndexByteString", "internal/bytealg.IndexString"], unfollowed := true, recurses := true, named := ["internal/bytealg.MaxLen"], apart := false }
def LawFindSaid : Prop := lawFindRow.holds Tryz.pinned (OpenSpec.ofChange lawFindSpec)

/-- ITS FALSE NEIGHBOUR: 'it returns false'. Refute it at one input. -/
def lawFindWrong : ChangeSpec := { name := "lawFind", fn := fun _ => fun
  | [d1, d2, d3] => { results := [.lit (.bool false)], args := [d1, d2, d3] }
  | _ => none }
def LawFindWrongFalsely : Prop := lawFindRow.holds Tryz.pinned (OpenSpec.ofChange lawFindWrong)

/-- 'guerdonlaw17.LawDuplicate': WHATEVER THE INPUT: true; the input reads as it did. -/
def lawDuplicateSpec : ChangeSpec := { name := "lawDuplicate", fn := fun _ => fun
  | [d1, d2] => { results := [.lit (.bool true)], args := [d1, d2] }
  | _ => none }
def lawDuplicateRow : OpenClaim := { program := "ytjeeligfdpociaagreat", sum := "2734a820fdcc6063810823d2faf5e2e0f8e843f7cf78e49ecb9ba78328d5a715", func := "guerdon/guerdonlaw17.LawDuplicate", spec := "lawDuplicate", inPlace := ["internal/bytealg.IndexByteString", "internal/bytealg.IndexString"], unfollowed := true, recurses := true, named := ["internal/bytealg.MaxLen"], apart := false }
def LawDuplicateSaid : Prop := lawDuplicateRow.holds Tryz.pinned (OpenSpec.ofChange lawDuplicateSpec)

/-- ITS FALSE NEIGHBOUR: 'it returns false'. Refute it at one input. -/
def lawDuplicateWrong : ChangeSpec := { name := "lawDuplicate", fn := fun _ => fun
  | [d1, d2] => { results := [.lit (.bool false)], args := [d1, d2] }
  | _ => none }
def LawDuplicateWrongFalsely : Prop := lawDuplicateRow.holds Tryz.pinned (OpenSpec.ofChange lawDuplicateWrong)

/-- 'guerdonlaw17.LawSignature': WHATEVER THE INPUT: true; the input reads as it did. -/
def lawSignatureSpec : ChangeSpec := { name := "lawSignature", fn := fun _ => fun
  | [d1, d2] => { results := [.lit (.bool true)], args := [d1, d2] }
  | _ => none }
def lawSignatureRow : OpenClaim := { program := "ytjeeligfdpociaagreat", sum := "2734a820fdcc6063810823d2faf5e2e0f8e843f7cf78e49ecb9ba78328d5a715", func := "guerdon/guerdonlaw17.LawSignature", spec := "lawSignature", inPlace := ["internal/bytealg.IndexByteString", "internal/bytealg.IndexString"], unfollowed := true, recurses := true, named := ["internal/bytealg.MaxLen"], apart := false }
def LawSignatureSaid : Prop := lawSignatureRow.holds Tryz.pinned (OpenSpec.ofChange lawSignatureSpec)

/-- ITS FALSE NEIGHBOUR: 'it returns false'. Refute it at one input. -/
def lawSignatureWrong : ChangeSpec := { name := "lawSignature", fn := fun _ => fun
  | [d1, d2] => { results := [.lit (.bool false)], args := [d1, d2] }
  | _ => none }
def LawSignatureWrongFalsely : Prop := lawSignatureRow.holds Tryz.pinned (OpenSpec.ofChange lawSignatureWrong)

/-- 'guerdonlaw17.LawOnDateValid': WHATEVER THE INPUT: true; the input reads as it did. -/
def lawOnDateValidSpec : ChangeSpec := { name := "lawOnDateValid", fn := fun _ => fun
  | [d1, d2] => { results := [.lit (.bool true)], args := [d1, d2] }
  | _ => none }
def lawOnDateValidRow : OpenClaim := { program := "ytjeeligfdpociaagreat", sum := "2734a820fdcc6063810823d2faf5e2e0f8e843f7cf78e49ecb9ba78328d5a715", func := "guerdon/guerdonlaw17.LawOnDateValid", spec := "lawOnDateValid", inPlace := ["internal/bytealg.IndexByteString", "internal/bytealg.IndexString"], unfollowed := true, recurses := true, named := ["internal/bytealg.MaxLen"], apart := false }
def LawOnDateValidSaid : Prop := lawOnDateValidRow.holds Tryz.pinned (OpenSpec.ofChange lawOnDateValidSpec)

/-- ITS FALSE NEIGHBOUR: 'it returns false'. Refute it at one input. -/
def lawOnDateValidWrong : ChangeSpec := { name := "lawOnDateValid", fn := fun _ => fun
  | [d1, d2] => { results := [.lit (.bool false)], args := [d1, d2] }
  | _ => none }
def LawOnDateValidWrongFalsely : Prop := lawOnDateValidRow.holds Tryz.pinned (OpenSpec.ofChange lawOnDateValidWrong)

/-- 'guerdonlaw17.LawClone': WHATEVER THE INPUT: true; the input reads as it did. -/
def lawCloneSpec : ChangeSpec := { name := "lawClone", fn := fun _ => fun
  | [d1, d2, d3] => { results := [.lit (.bool true)], args := [d1, d2, d3] }
  | _ => none }
def lawCloneRow : OpenClaim := { program := "ytjeeligfdpociaagreat", sum := "2734a820fdcc6063810823d2faf5e2e0f8e843f7cf78e49ecb9ba78328d5a715", func := "guerdon/guerdonlaw17.LawClone", spec := "lawClone", inPlace := ["internal/bytealg.IndexByteString", "internal/bytealg.IndexString"], unfollowed := true, recurses := true, named := ["internal/bytealg.MaxLen"], apart := false }
def LawCloneSaid : Prop := lawCloneRow.holds Tryz.pinned (OpenSpec.ofChange lawCloneSpec)

/-- ITS FALSE NEIGHBOUR: 'it returns false'. Refute it at one input. -/
def lawCloneWrong : ChangeSpec := { name := "lawClone", fn := fun _ => fun
  | [d1, d2, d3] => { results := [.lit (.bool false)], args := [d1, d2, d3] }
  | _ => none }
def LawCloneWrongFalsely : Prop := lawCloneRow.holds Tryz.pinned (OpenSpec.ofChange lawCloneWrong)

/- THE SECOND FORM. 'bulk': how many values and letters a reading holds, each counted each time it is reached (what is shared counts as often as it is met; a slice's spare places count too). A statement '..UptoSaid' is the law's where the arguments, and the package variables that the reading takes, are together of bulk at most 1048576: NARROWER than '..Said'. Prove '..Said' where nothing that the law and all that it calls make is longer than what came in: it says more and counts as full. Else prove '..UptoSaid'. A law counts once. -/
mutual
def uptoBulk {H : Type} : DataW H → Nat
  | .lit (.string bytes) => bytes.length + 1
  | .lit _ => 1
  | .nil => 1
  | .ptr d => uptoBulk d + 1
  | .slice elems spare => uptoBulkAll elems + uptoBulkAll spare + 1
  | .agg parts => uptoBulkAll parts + 1
  | .iface _ d => uptoBulk d + 1
  | .map entries => uptoBulkEntries entries + 1
  | .held _ => 1
def uptoBulkAll {H : Type} : List (DataW H) → Nat
  | [] => 0
  | d :: r => uptoBulk d + uptoBulkAll r
def uptoBulkEntries {H : Type} : List (Lit × DataW H) → Nat
  | [] => 0
  | x :: r => uptoBulkEntry x + uptoBulkEntries r
def uptoBulkEntry {H : Type} : Lit × DataW H → Nat
  | (.string bytes, d) => bytes.length + uptoBulk d + 1
  | (_, d) => uptoBulk d + 1
 end
def uptoSmall : (H : Type) → List (DataW H) → Bool := fun _ ds => decide (uptoBulkAll ds ≤ 1048576)
def OpenSpec.upto (s : _root_.Go.ChangeSpec) : _root_.Go.OpenSpec := { _root_.Go.OpenSpec.ofChange s with cond := some uptoSmall }

/-- 'guerdonlaw17.LawValidate', WHERE WHAT IT READS IS OF BULK AT MOST 1048576: true; the input reads as it did. -/
def lawValidateUptoRow : OpenClaim := { program := "ytjeeligfdpociaagreat", sum := "2734a820fdcc6063810823d2faf5e2e0f8e843f7cf78e49ecb9ba78328d5a715", func := "guerdon/guerdonlaw17.LawValidate", spec := "lawValidate", inPlace := ["internal/bytealg.IndexByteString", "internal/bytealg.IndexString"], unfollowed := true, recurses := true, named := ["internal/bytealg.MaxLen"], apart := false, narrowed := true }
def LawValidateUptoSaid : Prop := lawValidateUptoRow.holds Tryz.pinned (OpenSpec.upto lawValidateSpec)

/-- 'guerdonlaw17.LawFind', WHERE WHAT IT READS IS OF BULK AT MOST 1048576: true; the input reads as it did. -/
def lawFindUptoRow : OpenClaim := { program := "ytjeeligfdpociaagreat", sum := "2734a820fdcc6063810823d2faf5e2e0f8e843f7cf78e49ecb9ba78328d5a715", func := "guerdon/guerdonlaw17.LawFind", spec := "lawFind", inPlace := ["internal/bytealg.IndexByteString", "internal/bytealg.IndexString"], unfollowed := true, recurses := true, named := ["internal/bytealg.MaxLen"], apart := false, narrowed := true }
def LawFindUptoSaid : Prop := lawFindUptoRow.holds Tryz.pinned (OpenSpec.upto lawFindSpec)

/-- 'guerdonlaw17.LawDuplicate', WHERE WHAT IT READS IS OF BULK AT MOST 1048576: true; the input reads as it did. -/
def lawDuplicateUptoRow : OpenClaim := { program := "ytjeeligfdpociaagreat", sum := "2734a820fdcc6063810823d2faf5e2e0f8e843f7cf78e49ecb9ba78328d5a715", func := "guerdon/guerdonlaw17.LawDuplicate", spec := "lawDuplicate", inPlace := ["internal/bytealg.IndexByteString", "internal/bytealg.IndexString"], unfollowed := true, recurses := true, named := ["internal/bytealg.MaxLen"], apart := false, narrowed := true }
def LawDuplicateUptoSaid : Prop := lawDuplicateUptoRow.holds Tryz.pinned (OpenSpec.upto lawDuplicateSpec)

/-- 'guerdonlaw17.LawSignature', WHERE WHAT IT READS IS OF BULK AT MOST 1048576: true; the input reads as it did. -/
def lawSignatureUptoRow : OpenClaim := { program := "ytjeeligfdpociaagreat", sum := "2734a820fdcc6063810823d2faf5e2e0f8e843f7cf78e49ecb9ba78328d5a715", func := "guerdon/guerdonlaw17.LawSignature", spec := "lawSignature", inPlace := ["internal/bytealg.IndexByteString", "internal/bytealg.IndexString"], unfollowed := true, recurses := true, named := ["internal/bytealg.MaxLen"], apart := false, narrowed := true }
def LawSignatureUptoSaid : Prop := lawSignatureUptoRow.holds Tryz.pinned (OpenSpec.upto lawSignatureSpec)

/-- 'guerdonlaw17.LawOnDateValid', WHERE WHAT IT READS IS OF BULK AT MOST 1048576: true; the input reads as it did. -/
def lawOnDateValidUptoRow : OpenClaim := { program := "ytjeeligfdpociaagreat", sum := "2734a820fdcc6063810823d2faf5e2e0f8e843f7cf78e49ecb9ba78328d5a715", func := "guerdon/guerdonlaw17.LawOnDateValid", spec := "lawOnDateValid", inPlace := ["internal/bytealg.IndexByteString", "internal/bytealg.IndexString"], unfollowed := true, recurses := true, named := ["internal/bytealg.MaxLen"], apart := false, narrowed := true }
def LawOnDateValidUptoSaid : Prop := lawOnDateValidUptoRow.holds Tryz.pinned (OpenSpec.upto lawOnDateValidSpec)

/-- 'guerdonlaw17.LawClone', WHERE WHAT IT READS IS OF BULK AT MOST 1048576: true; the input reads as it did. -/
def lawCloneUptoRow : OpenClaim := { program := "ytjeeligfdpociaagreat", sum := "2734a820fdcc6063810823d2faf5e2e0f8e843f7cf78e49ecb9ba78328d5a715", func := "guerdon/guerdonlaw17.LawClone", spec := "lawClone", inPlace := ["internal/bytealg.IndexByteString", "internal/bytealg.IndexString"], unfollowed := true, recurses := true, named := ["internal/bytealg.MaxLen"], apart := false, narrowed := true }
def LawCloneUptoSaid : Prop := lawCloneUptoRow.holds Tryz.pinned (OpenSpec.upto lawCloneSpec)

end Rows
end Go.Proofs.YtjeeligfdpociaaGreat
