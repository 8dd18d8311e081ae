/-
  No cell of these rows narrows 'for every input' (looked for: loops, veiled, ifaces, maps, wideKeys, modest, calm, conditions, laid).
  DERIVED. THE GIVEN ROWS OF THIS SEAT. 5 by the template 'for every input the law returns true; each argument reads behind the call as it read before'; 0 by the template 'total and deterministic' (their statements: YtlpgfcfkjkmiiaaTotals.lean).
  GIVEN WITH THE SEED: the statements are not yours to turn. If you find one false, say at which input.
  Laid BY PROGRAM, IN A SANDBOX (cutbox-rows.mjs): the forced cells as the released guide's own fill.sh prints them over the translation b24d2eca52628468… (all of the seat's roots in one cut). By AI agents, Wed Nov 11 2026. No macro, syntax, notation, axiom, sorry.
-/
import Derived.Test.YtlpgfcfkjkmiiaaChecked
import GoSem.Claim
import GoSem.ClaimJoined
import GoSem.ClaimMapViews
import Derived.JoinedTies
import Derived.KernelRfl
namespace Go.Proofs.Ytlpgfcfkjkmiiaa
/- THE CELL 'sum', in the pinned program and in every row, IS THE sha256 OF THE DUMP (.gsa) THAT YtlpgfcfkjkmiiaaProg.lean LOADS. Nothing in Lean hashes anything: it is a label: what it is worth is what the hold of that sum in a sandbox is worth. -/
noncomputable def Try.pinned : Pinned := { name := "ytlpgfcfkjkmiiaa", sum := "b24d2eca526284682ca2f73fcc268d5f491d4d24d1e2f6e23960d367fc243fad", checked := Try.checked }
namespace Rows
def none {H : Type} : Left H := { results := [], args := [] }

/-- 'shadowbooklaw04.FrameBack': WHATEVER THE INPUT: true; the input reads as it did. -/
def frameBackSpec : ChangeSpec := { name := "frameBack", fn := fun _ => fun
  | [d1, d2, d3] => { results := [.lit (.bool true)], args := [d1, d2, d3] }
  | _ => none }
def frameBackRow : OpenClaim := { program := "ytlpgfcfkjkmiiaa", sum := "b24d2eca526284682ca2f73fcc268d5f491d4d24d1e2f6e23960d367fc243fad", func := "shadowbook/shadowbooklaw04.FrameBack", spec := "frameBack", unfollowed := true, recurses := true, apart := false }
def FrameBackSaid : Prop := frameBackRow.holds Try.pinned (OpenSpec.ofChange frameBackSpec)

/-- ITS FALSE NEIGHBOUR: 'it returns false'. Refute it at one input. -/
def frameBackWrong : ChangeSpec := { name := "frameBack", fn := fun _ => fun
  | [d1, d2, d3] => { results := [.lit (.bool false)], args := [d1, d2, d3] }
  | _ => none }
def FrameBackWrongFalsely : Prop := frameBackRow.holds Try.pinned (OpenSpec.ofChange frameBackWrong)

/-- 'shadowbooklaw04.FrameNames': WHATEVER THE INPUT: true; the input reads as it did. -/
def frameNamesSpec : ChangeSpec := { name := "frameNames", fn := fun _ => fun
  | [] => { results := [.lit (.bool true)], args := [] }
  | _ => none }
def frameNamesRow : OpenClaim := { program := "ytlpgfcfkjkmiiaa", sum := "b24d2eca526284682ca2f73fcc268d5f491d4d24d1e2f6e23960d367fc243fad", func := "shadowbook/shadowbooklaw04.FrameNames", spec := "frameNames", unfollowed := true, recurses := true, apart := false }
def FrameNamesSaid : Prop := frameNamesRow.holds Try.pinned (OpenSpec.ofChange frameNamesSpec)

/-- ITS FALSE NEIGHBOUR: 'it returns false'. Refute it at one input. -/
def frameNamesWrong : ChangeSpec := { name := "frameNames", fn := fun _ => fun
  | [] => { results := [.lit (.bool false)], args := [] }
  | _ => none }
def FrameNamesWrongFalsely : Prop := frameNamesRow.holds Try.pinned (OpenSpec.ofChange frameNamesWrong)

/-- 'shadowbooklaw04.FrameCalls': WHATEVER THE INPUT: true; the input reads as it did. -/
def frameCallsSpec : ChangeSpec := { name := "frameCalls", fn := fun _ => fun
  | [d1, d2, d3, d4] => { results := [.lit (.bool true)], args := [d1, d2, d3, d4] }
  | _ => none }
def frameCallsRow : OpenClaim := { program := "ytlpgfcfkjkmiiaa", sum := "b24d2eca526284682ca2f73fcc268d5f491d4d24d1e2f6e23960d367fc243fad", func := "shadowbook/shadowbooklaw04.FrameCalls", spec := "frameCalls", unfollowed := true, recurses := true, apart := false }
def FrameCallsSaid : Prop := frameCallsRow.holds Try.pinned (OpenSpec.ofChange frameCallsSpec)

/-- ITS FALSE NEIGHBOUR: 'it returns false'. Refute it at one input. -/
def frameCallsWrong : ChangeSpec := { name := "frameCalls", fn := fun _ => fun
  | [d1, d2, d3, d4] => { results := [.lit (.bool false)], args := [d1, d2, d3, d4] }
  | _ => none }
def FrameCallsWrongFalsely : Prop := frameCallsRow.holds Try.pinned (OpenSpec.ofChange frameCallsWrong)

/-- 'shadowbooklaw04.FrameRot': WHATEVER THE INPUT: true; the input reads as it did. -/
def frameRotSpec : ChangeSpec := { name := "frameRot", fn := fun _ => fun
  | [d1, d2, d3, d4, d5] => { results := [.lit (.bool true)], args := [d1, d2, d3, d4, d5] }
  | _ => none }
def frameRotRow : OpenClaim := { program := "ytlpgfcfkjkmiiaa", sum := "b24d2eca526284682ca2f73fcc268d5f491d4d24d1e2f6e23960d367fc243fad", func := "shadowbook/shadowbooklaw04.FrameRot", spec := "frameRot", unfollowed := true, recurses := true, apart := false }
def FrameRotSaid : Prop := frameRotRow.holds Try.pinned (OpenSpec.ofChange frameRotSpec)

/-- ITS FALSE NEIGHBOUR: 'it returns false'. Refute it at one input. -/
def frameRotWrong : ChangeSpec := { name := "frameRot", fn := fun _ => fun
  | [d1, d2, d3, d4, d5] => { results := [.lit (.bool false)], args := [d1, d2, d3, d4, d5] }
  | _ => none }
def FrameRotWrongFalsely : Prop := frameRotRow.holds Try.pinned (OpenSpec.ofChange frameRotWrong)

/-- 'shadowbooklaw04.FrameApart': WHATEVER THE INPUT: true; the input reads as it did. -/
def frameApartSpec : ChangeSpec := { name := "frameApart", fn := fun _ => fun
  | [d1, d2, d3] => { results := [.lit (.bool true)], args := [d1, d2, d3] }
  | _ => none }
def frameApartRow : OpenClaim := { program := "ytlpgfcfkjkmiiaa", sum := "b24d2eca526284682ca2f73fcc268d5f491d4d24d1e2f6e23960d367fc243fad", func := "shadowbook/shadowbooklaw04.FrameApart", spec := "frameApart", unfollowed := true, recurses := true, apart := false }
def FrameApartSaid : Prop := frameApartRow.holds Try.pinned (OpenSpec.ofChange frameApartSpec)

/-- ITS FALSE NEIGHBOUR: 'it returns false'. Refute it at one input. -/
def frameApartWrong : ChangeSpec := { name := "frameApart", fn := fun _ => fun
  | [d1, d2, d3] => { results := [.lit (.bool false)], args := [d1, d2, d3] }
  | _ => none }
def FrameApartWrongFalsely : Prop := frameApartRow.holds Try.pinned (OpenSpec.ofChange frameApartWrong)

/- THE SECOND FORM. 'bulk': how many values and letters a reading holds, each counted each time it is reached (what is shared counts as often as it is met; a slice's spare places count too). A statement '..UptoSaid' is the law's where the arguments, and the package variables that the reading takes, are together of bulk at most 1048576: NARROWER than '..Said'. Prove '..Said' where nothing that the law and all that it calls make is longer than what came in: it says more and counts as full. Else prove '..UptoSaid'. A law counts once. -/
mutual
def uptoBulk {H : Type} : DataW H → Nat
  | .lit (.string bytes) => bytes.length + 1
  | .lit _ => 1
  | .nil => 1
  | .ptr d => uptoBulk d + 1
  | .slice elems spare => uptoBulkAll elems + uptoBulkAll spare + 1
  | .agg parts => uptoBulkAll parts + 1
  | .iface _ d => uptoBulk d + 1
  | .map entries => uptoBulkEntries entries + 1
  | .held _ => 1
def uptoBulkAll {H : Type} : List (DataW H) → Nat
  | [] => 0
  | d :: r => uptoBulk d + uptoBulkAll r
def uptoBulkEntries {H : Type} : List (Lit × DataW H) → Nat
  | [] => 0
  | x :: r => uptoBulkEntry x + uptoBulkEntries r
def uptoBulkEntry {H : Type} : Lit × DataW H → Nat
  | (.string bytes, d) => bytes.length + uptoBulk d + 1
  | (_, d) => uptoBulk d + 1
 end
def uptoSmall : (H : Type) → List (DataW H) → Bool := fun _ ds => decide (uptoBulkAll ds ≤ 1048576)
def OpenSpec.upto (s : _root_.Go.ChangeSpec) : _root_.Go.OpenSpec := { _root_.Go.OpenSpec.ofChange s with cond := some uptoSmall }

/-- 'shadowbooklaw04.FrameBack', WHERE WHAT IT READS IS OF BULK AT MOST 1048576: true; the input reads as it did. -/
def frameBackUptoRow : OpenClaim := { program := "ytlpgfcfkjkmiiaa", sum := "b24d2eca526284682ca2f73fcc268d5f491d4d24d1e2f6e23960d367fc243fad", func := "shadowbook/shadowbooklaw04.FrameBack", spec := "frameBack", unfollowed := true, recurses := true, apart := false, narrowed := true }
def FrameBackUptoSaid : Prop := frameBackUptoRow.holds Try.pinned (OpenSpec.upto frameBackSpec)

/-- 'shadowbooklaw04.FrameNames', WHERE WHAT IT READS IS OF BULK AT MOST 1048576: true; the input reads as it did. -/
def frameNamesUptoRow : OpenClaim := { program := "ytlpgfcfkjkmiiaa", sum := "b24d2eca526284682ca2f73fcc268d5f491d4d24d1e2f6e23960d367fc243fad", func := "shadowbook/shadowbooklaw04.FrameNames", spec := "frameNames", unfollowed := true, recurses := true, apart := false, narrowed := true }
def FrameNamesUptoSaid : Prop := frameNamesUptoRow.holds Try.pinned (OpenSpec.upto frameNamesSpec)

/-- 'shadowbooklaw04.FrameCalls', WHERE WHAT IT READS IS OF BULK AT MOST 1048576: true; the input reads as it did. -/
def frameCallsUptoRow : OpenClaim := { program := "ytlpgfcfkjkmiiaa", sum := "b24d2eca526284682ca2f73fcc268d5f491d4d24d1e2f6e23960d367fc243fad", func := "shadowbook/shadowbooklaw04.FrameCalls", spec := "frameCalls", unfollowed := true, recurses := true, apart := false, narrowed := true }
def FrameCallsUptoSaid : Prop := frameCallsUptoRow.holds Try.pinned (OpenSpec.upto frameCallsSpec)

/-- 'shadowbooklaw04.FrameRot', WHERE WHAT IT READS IS OF BULK AT MOST 1048576: true; the input reads as it did. -/
def frameRotUptoRow : OpenClaim := { program := "ytlpgfcfkjkmiiaa", sum := "b24d2eca526284682ca2f73fcc268d5f491d4d24d1e2f6e23960d367fc243fad", func := "shadowbook/shadowbooklaw04.FrameRot", spec := "frameRot", unfollowed := true, recurses := true, apart := false, narrowed := true }
def FrameRotUptoSaid : Prop := frameRotUptoRow.holds Try.pinned (OpenSpec.upto frameRotSpec)

/-- 'shadowbooklaw04.FrameApart', WHERE WHAT IT READS IS OF BULK AT MOST 1048576: true; the input reads as it did. -/
def frameApartUptoRow : OpenClaim := { program := "ytlpgfcfkjkmiiaa", sum := "b24d2eca526284682ca2f73fcc268d5f491d4d24d1e2f6e23960d367fc243fad", func := "shadowbook/shadowbooklaw04.FrameApart", spec := "frameApart", unfollowed := true, recurses := true, apart := false, narrowed := true }
def FrameApartUptoSaid : Prop := frameApartUptoRow.holds Try.pinned (OpenSpec.upto frameApartSpec)

end Rows
end Go.Proofs.Ytlpgfcfkjkmiiaa
