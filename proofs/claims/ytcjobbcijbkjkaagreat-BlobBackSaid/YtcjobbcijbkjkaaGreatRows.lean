/-
  No cell of these rows narrows 'for every input' (looked for: loops, veiled, ifaces, maps, wideKeys, modest, calm, conditions, laid).
  DERIVED. THE GIVEN ROWS OF THIS SEAT. 4 by the template 'for every input the law returns true; each argument reads behind the call as it read before'; 0 by the template 'total and deterministic' (their statements: YtcjobbcijbkjkaaGreatTotals.lean).
  GIVEN WITH THE SEED: the statements are not yours to turn. If you find one false, say at which input.
  Laid BY PROGRAM, IN A SANDBOX (cutbox-rows.mjs): the forced cells as the released guide's own fill.sh prints them over the translation 2b6257f8ca275453… (all of the seat's roots in one cut). By AI agents, Wed Nov 11 2026. No macro, syntax, notation, axiom, sorry.
-/
import Derived.Test.YtcjobbcijbkjkaaGreatChecked
import GoSem.Claim
import GoSem.ClaimJoined
import GoSem.ClaimMapViews
import Derived.JoinedTies
import Derived.KernelRfl
namespace Go.Proofs.YtcjobbcijbkjkaaGreat
/- THE CELL 'sum', in the pinned program and in every row, IS THE sha256 OF THE DUMP (.gsa) THAT YtcjobbcijbkjkaaGreatProg.lean LOADS. Nothing in Lean hashes anything: it is a label: what it is worth is what the hold of that sum in a sandbox is worth. -/
noncomputable def Tryz.pinned : Pinned := { name := "ytcjobbcijbkjkaagreat", sum := "2b6257f8ca275453198ea2f2c5a90d26225debe96048dccd22044b9920182c97", checked := Tryz.checked }
namespace Rows
def none {H : Type} : Left H := { results := [], args := [] }

/-- 'shadowbooklaw15.BlobNames': WHATEVER THE INPUT: true; the input reads as it did. -/
def blobNamesSpec : ChangeSpec := { name := "blobNames", fn := fun _ => fun
  | [] => { results := [.lit (.bool true)], args := [] }
  | _ => none }
def blobNamesRow : OpenClaim := { program := "ytcjobbcijbkjkaagreat", sum := "2b6257f8ca275453198ea2f2c5a90d26225debe96048dccd22044b9920182c97", func := "shadowbook/shadowbooklaw15.BlobNames", spec := "blobNames", inPlace := ["internal/abi.NoEscape", "internal/bytealg.MakeNoZero"], unfollowed := true, recurses := true, apart := false }
def BlobNamesSaid : Prop := blobNamesRow.holds Tryz.pinned (OpenSpec.ofChange blobNamesSpec)

/-- ITS FALSE NEIGHBOUR: 'it returns false'. Refute it at one input. -/
def blobNamesWrong : ChangeSpec := { name := "blobNames", fn := fun _ => fun
  | [] => { results := [.lit (.bool false)], args := [] }
  | _ => none }
def BlobNamesWrongFalsely : Prop := blobNamesRow.holds Tryz.pinned (OpenSpec.ofChange blobNamesWrong)

/-- 'shadowbooklaw15.BlobParts': WHATEVER THE INPUT: true; the input reads as it did. -/
def blobPartsSpec : ChangeSpec := { name := "blobParts", fn := fun _ => fun
  | [d1, d2] => { results := [.lit (.bool true)], args := [d1, d2] }
  | _ => none }
def blobPartsRow : OpenClaim := { program := "ytcjobbcijbkjkaagreat", sum := "2b6257f8ca275453198ea2f2c5a90d26225debe96048dccd22044b9920182c97", func := "shadowbook/shadowbooklaw15.BlobParts", spec := "blobParts", inPlace := ["internal/abi.NoEscape", "internal/bytealg.MakeNoZero"], unfollowed := true, recurses := true, apart := false }
def BlobPartsSaid : Prop := blobPartsRow.holds Tryz.pinned (OpenSpec.ofChange blobPartsSpec)

/-- ITS FALSE NEIGHBOUR: 'it returns false'. Refute it at one input. -/
def blobPartsWrong : ChangeSpec := { name := "blobParts", fn := fun _ => fun
  | [d1, d2] => { results := [.lit (.bool false)], args := [d1, d2] }
  | _ => none }
def BlobPartsWrongFalsely : Prop := blobPartsRow.holds Tryz.pinned (OpenSpec.ofChange blobPartsWrong)

/-- 'shadowbooklaw15.BlobApart': WHATEVER THE INPUT: true; the input reads as it did. -/
def blobApartSpec : ChangeSpec := { name := "blobApart", fn := fun _ => fun
  | [d1, d2] => { results := [.lit (.bool true)], args := [d1, d2] }
  | _ => none }
def blobApartRow : OpenClaim := { program := "ytcjobbcijbkjkaagreat", sum := "2b6257f8ca275453198ea2f2c5a90d26225debe96048dccd22044b9920182c97", func := "shadowbook/shadowbooklaw15.BlobApart", spec := "blobApart", inPlace := ["internal/abi.NoEscape", "internal/bytealg.MakeNoZero"], unfollowed := true, recurses := true, apart := false }
def BlobApartSaid : Prop := blobApartRow.holds Tryz.pinned (OpenSpec.ofChange blobApartSpec)

/-- ITS FALSE NEIGHBOUR: 'it returns false'. Refute it at one input. -/
def blobApartWrong : ChangeSpec := { name := "blobApart", fn := fun _ => fun
  | [d1, d2] => { results := [.lit (.bool false)], args := [d1, d2] }
  | _ => none }
def BlobApartWrongFalsely : Prop := blobApartRow.holds Tryz.pinned (OpenSpec.ofChange blobApartWrong)

/-- 'shadowbooklaw15.BlobBack': WHATEVER THE INPUT: true; the input reads as it did. -/
def blobBackSpec : ChangeSpec := { name := "blobBack", fn := fun _ => fun
  | [d1, d2, d3, d4] => { results := [.lit (.bool true)], args := [d1, d2, d3, d4] }
  | _ => none }
def blobBackRow : OpenClaim := { program := "ytcjobbcijbkjkaagreat", sum := "2b6257f8ca275453198ea2f2c5a90d26225debe96048dccd22044b9920182c97", func := "shadowbook/shadowbooklaw15.BlobBack", spec := "blobBack", inPlace := ["internal/abi.NoEscape", "internal/bytealg.MakeNoZero"], unfollowed := true, recurses := true, apart := false }
def BlobBackSaid : Prop := blobBackRow.holds Tryz.pinned (OpenSpec.ofChange blobBackSpec)

/-- ITS FALSE NEIGHBOUR: 'it returns false'. Refute it at one input. -/
def blobBackWrong : ChangeSpec := { name := "blobBack", fn := fun _ => fun
  | [d1, d2, d3, d4] => { results := [.lit (.bool false)], args := [d1, d2, d3, d4] }
  | _ => none }
def BlobBackWrongFalsely : Prop := blobBackRow.holds Tryz.pinned (OpenSpec.ofChange blobBackWrong)

/- THE SECOND FORM. 'bulk': how many values and letters a reading holds, each counted each time it is reached (what is shared counts as often as it is met; a slice's spare places count too). A statement '..UptoSaid' is the law's where the arguments, and the package variables that the reading takes, are together of bulk at most 1048576: NARROWER than '..Said'. Prove '..Said' where nothing that the law and all that it calls make is longer than what came in: it says more and counts as full. Else prove '..UptoSaid'. A law counts once. -/
mutual
def uptoBulk {H : Type} : DataW H → Nat
  | .lit (.string bytes) => bytes.length + 1
  | .lit _ => 1
  | .nil => 1
  | .ptr d => uptoBulk d + 1
  | .slice elems spare => uptoBulkAll elems + uptoBulkAll spare + 1
  | .agg parts => uptoBulkAll parts + 1
  | .iface _ d => uptoBulk d + 1
  | .map entries => uptoBulkEntries entries + 1
  | .held _ => 1
def uptoBulkAll {H : Type} : List (DataW H) → Nat
  | [] => 0
  | d :: r => uptoBulk d + uptoBulkAll r
def uptoBulkEntries {H : Type} : List (Lit × DataW H) → Nat
  | [] => 0
  | x :: r => uptoBulkEntry x + uptoBulkEntries r
def uptoBulkEntry {H : Type} : Lit × DataW H → Nat
  | (.string bytes, d) => bytes.length + uptoBulk d + 1
  | (_, d) => uptoBulk d + 1
 end
def uptoSmall : (H : Type) → List (DataW H) → Bool := fun _ ds => decide (uptoBulkAll ds ≤ 1048576)
def OpenSpec.upto (s : _root_.Go.ChangeSpec) : _root_.Go.OpenSpec := { _root_.Go.OpenSpec.ofChange s with cond := some uptoSmall }

/-- 'shadowbooklaw15.BlobNames', WHERE WHAT IT READS IS OF BULK AT MOST 1048576: true; the input reads as it did. -/
def blobNamesUptoRow : OpenClaim := { program := "ytcjobbcijbkjkaagreat", sum := "2b6257f8ca275453198ea2f2c5a90d26225debe96048dccd22044b9920182c97", func := "shadowbook/shadowbooklaw15.BlobNames", spec := "blobNames", inPlace := ["internal/abi.NoEscape", "internal/bytealg.MakeNoZero"], unfollowed := true, recurses := true, apart := false, narrowed := true }
def BlobNamesUptoSaid : Prop := blobNamesUptoRow.holds Tryz.pinned (OpenSpec.upto blobNamesSpec)

/-- 'shadowbooklaw15.BlobParts', WHERE WHAT IT READS IS OF BULK AT MOST 1048576: true; the input reads as it did. -/
def blobPartsUptoRow : OpenClaim := { program := "ytcjobbcijbkjkaagreat", sum := "2b6257f8ca275453198ea2f2c5a90d26225debe96048dccd22044b9920182c97", func := "shadowbook/shadowbooklaw15.BlobParts", spec := "blobParts", inPlace := ["internal/abi.NoEscape", "internal/bytealg.MakeNoZero"], unfollowed := true, recurses := true, apart := false, narrowed := true }
def BlobPartsUptoSaid : Prop := blobPartsUptoRow.holds Tryz.pinned (OpenSpec.upto blobPartsSpec)

/-- 'shadowbooklaw15.BlobApart', WHERE WHAT IT READS IS OF BULK AT MOST 1048576: true; the input reads as it did. -/
def blobApartUptoRow : OpenClaim := { program := "ytcjobbcijbkjkaagreat", sum := "2b6257f8ca275453198ea2f2c5a90d26225debe96048dccd22044b9920182c97", func := "shadowbook/shadowbooklaw15.BlobApart", spec := "blobApart", inPlace := ["internal/abi.NoEscape", "internal/bytealg.MakeNoZero"], unfollowed := true, recurses := true, apart := false, narrowed := true }
def BlobApartUptoSaid : Prop := blobApartUptoRow.holds Tryz.pinned (OpenSpec.upto blobApartSpec)

/-- 'shadowbooklaw15.BlobBack', WHERE WHAT IT READS IS OF BULK AT MOST 1048576: true; the input reads as it did. -/
def blobBackUptoRow : OpenClaim := { program := "ytcjobbcijbkjkaagreat", sum := "2b6257f8ca275453198ea2f2c5a90d26225debe96048dccd22044b9920182c97", func := "shadowbook/shadowbooklaw15.BlobBack", spec := "blobBack", inPlace := ["internal/abi.NoEscape", "internal/bytealg.MakeNoZero"], unfollowed := true, recurses := true, apart := false, narrowed := true }
def BlobBackUptoSaid : Prop := blobBackUptoRow.holds Tryz.pinned (OpenSpec.upto blobBackSpec)

end Rows
end Go.Proofs.YtcjobbcijbkjkaaGreat
