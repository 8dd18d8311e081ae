/-
  No cell of these rows narrows 'for every input' (looked for: loops, veiled, ifaces, maps, wideKeys, modest, calm, conditions, laid).
  DERIVED. THE GIVEN ROWS OF THIS SEAT. 5 by the template 'for every input the law returns true; each argument reads behind the call as it read before'; 0 by the template 'total and deterministic' (their statements: YtmogbadaoaikcaaTotals.lean).
  GIVEN WITH THE SEED: the statements are not yours to turn. If you find one false, say at which input.
  Laid BY PROGRAM, IN A SANDBOX (cutbox-rows.mjs): the forced cells as the released guide's own fill.sh prints them over the translation f4cdedef10ebb6c2… (all of the seat's roots in one cut). By AI agents, Wed Nov 11 2026. No macro, syntax, notation, axiom, sorry.
-/
import Derived.Test.YtmogbadaoaikcaaChecked
import GoSem.Claim
import GoSem.ClaimJoined
import GoSem.ClaimMapViews
import Derived.JoinedTies
import Derived.KernelRfl
namespace Go.Proofs.Ytmogbadaoaikcaa
/- THE CELL 'sum', in the pinned program and in every row, IS THE sha256 OF THE DUMP (.gsa) THAT YtmogbadaoaikcaaProg.lean LOADS. Nothing in Lean hashes anything: it is a label: what it is worth is what the hold of that sum in a sandbox is worth. -/
noncomputable def Try.pinned : Pinned := { name := "ytmogbadaoaikcaa", sum := "f4cdedef10ebb6c2b2d3b9b694c5d849bf278fa2f6f52b0c57a6dcb2f36790b7", checked := Try.checked }
namespace Rows
def none {H : Type} : Left H := { results := [], args := [] }

/-- 'shadowbooklaw12.CountsTake': WHATEVER THE INPUT: true; the input reads as it did. -/
def countsTakeSpec : ChangeSpec := { name := "countsTake", fn := fun _ => fun
  | [d1, d2, d3] => { results := [.lit (.bool true)], args := [d1, d2, d3] }
  | _ => none }
def countsTakeRow : OpenClaim := { program := "ytmogbadaoaikcaa", sum := "f4cdedef10ebb6c2b2d3b9b694c5d849bf278fa2f6f52b0c57a6dcb2f36790b7", func := "shadowbook/shadowbooklaw12.CountsTake", spec := "countsTake", apart := false }
def CountsTakeSaid : Prop := countsTakeRow.holds Try.pinned (OpenSpec.ofChange countsTakeSpec)

/-- ITS FALSE NEIGHBOUR: 'it returns false'. Refute it at one input. -/
def countsTakeWrong : ChangeSpec := { name := "countsTake", fn := fun _ => fun
  | [d1, d2, d3] => { results := [.lit (.bool false)], args := [d1, d2, d3] }
  | _ => none }
def CountsTakeWrongFalsely : Prop := countsTakeRow.holds Try.pinned (OpenSpec.ofChange countsTakeWrong)

/-- 'shadowbooklaw12.CountsSums': WHATEVER THE INPUT: true; the input reads as it did. -/
def countsSumsSpec : ChangeSpec := { name := "countsSums", fn := fun _ => fun
  | [d1, d2] => { results := [.lit (.bool true)], args := [d1, d2] }
  | _ => none }
def countsSumsRow : OpenClaim := { program := "ytmogbadaoaikcaa", sum := "f4cdedef10ebb6c2b2d3b9b694c5d849bf278fa2f6f52b0c57a6dcb2f36790b7", func := "shadowbook/shadowbooklaw12.CountsSums", spec := "countsSums", apart := false }
def CountsSumsSaid : Prop := countsSumsRow.holds Try.pinned (OpenSpec.ofChange countsSumsSpec)

/-- ITS FALSE NEIGHBOUR: 'it returns false'. Refute it at one input. -/
def countsSumsWrong : ChangeSpec := { name := "countsSums", fn := fun _ => fun
  | [d1, d2] => { results := [.lit (.bool false)], args := [d1, d2] }
  | _ => none }
def CountsSumsWrongFalsely : Prop := countsSumsRow.holds Try.pinned (OpenSpec.ofChange countsSumsWrong)

/-- 'shadowbooklaw12.CountsApart': WHATEVER THE INPUT: true; the input reads as it did. -/
def countsApartSpec : ChangeSpec := { name := "countsApart", fn := fun _ => fun
  | [d1, d2, d3] => { results := [.lit (.bool true)], args := [d1, d2, d3] }
  | _ => none }
def countsApartRow : OpenClaim := { program := "ytmogbadaoaikcaa", sum := "f4cdedef10ebb6c2b2d3b9b694c5d849bf278fa2f6f52b0c57a6dcb2f36790b7", func := "shadowbook/shadowbooklaw12.CountsApart", spec := "countsApart", unfollowed := true, recurses := true, apart := false }
def CountsApartSaid : Prop := countsApartRow.holds Try.pinned (OpenSpec.ofChange countsApartSpec)

/-- ITS FALSE NEIGHBOUR: 'it returns false'. Refute it at one input. -/
def countsApartWrong : ChangeSpec := { name := "countsApart", fn := fun _ => fun
  | [d1, d2, d3] => { results := [.lit (.bool false)], args := [d1, d2, d3] }
  | _ => none }
def CountsApartWrongFalsely : Prop := countsApartRow.holds Try.pinned (OpenSpec.ofChange countsApartWrong)

/-- 'shadowbooklaw12.CountsLoads': WHATEVER THE INPUT: true; the input reads as it did. -/
def countsLoadsSpec : ChangeSpec := { name := "countsLoads", fn := fun _ => fun
  | [d1, d2] => { results := [.lit (.bool true)], args := [d1, d2] }
  | _ => none }
def countsLoadsRow : OpenClaim := { program := "ytmogbadaoaikcaa", sum := "f4cdedef10ebb6c2b2d3b9b694c5d849bf278fa2f6f52b0c57a6dcb2f36790b7", func := "shadowbook/shadowbooklaw12.CountsLoads", spec := "countsLoads", unfollowed := true, recurses := true, apart := false }
def CountsLoadsSaid : Prop := countsLoadsRow.holds Try.pinned (OpenSpec.ofChange countsLoadsSpec)

/-- ITS FALSE NEIGHBOUR: 'it returns false'. Refute it at one input. -/
def countsLoadsWrong : ChangeSpec := { name := "countsLoads", fn := fun _ => fun
  | [d1, d2] => { results := [.lit (.bool false)], args := [d1, d2] }
  | _ => none }
def CountsLoadsWrongFalsely : Prop := countsLoadsRow.holds Try.pinned (OpenSpec.ofChange countsLoadsWrong)

/-- 'shadowbooklaw12.CountsNames': WHATEVER THE INPUT: true; the input reads as it did. -/
def countsNamesSpec : ChangeSpec := { name := "countsNames", fn := fun _ => fun
  | [] => { results := [.lit (.bool true)], args := [] }
  | _ => none }
def countsNamesRow : OpenClaim := { program := "ytmogbadaoaikcaa", sum := "f4cdedef10ebb6c2b2d3b9b694c5d849bf278fa2f6f52b0c57a6dcb2f36790b7", func := "shadowbook/shadowbooklaw12.CountsNames", spec := "countsNames", unfollowed := true, recurses := true, apart := false }
def CountsNamesSaid : Prop := countsNamesRow.holds Try.pinned (OpenSpec.ofChange countsNamesSpec)

/-- ITS FALSE NEIGHBOUR: 'it returns false'. Refute it at one input. -/
def countsNamesWrong : ChangeSpec := { name := "countsNames", fn := fun _ => fun
  | [] => { results := [.lit (.bool false)], args := [] }
  | _ => none }
def CountsNamesWrongFalsely : Prop := countsNamesRow.holds Try.pinned (OpenSpec.ofChange countsNamesWrong)

/- THE SECOND FORM. 'bulk': how many values and letters a reading holds, each counted each time it is reached (what is shared counts as often as it is met; a slice's spare places count too). A statement '..UptoSaid' is the law's where the arguments, and the package variables that the reading takes, are together of bulk at most 1048576: NARROWER than '..Said'. Prove '..Said' where nothing that the law and all that it calls make is longer than what came in: it says more and counts as full. Else prove '..UptoSaid'. A law counts once. -/
mutual
def uptoBulk {H : Type} : DataW H → Nat
  | .lit (.string bytes) => bytes.length + 1
  | .lit _ => 1
  | .nil => 1
  | .ptr d => uptoBulk d + 1
  | .slice elems spare => uptoBulkAll elems + uptoBulkAll spare + 1
  | .agg parts => uptoBulkAll parts + 1
  | .iface _ d => uptoBulk d + 1
  | .map entries => uptoBulkEntries entries + 1
  | .held _ => 1
def uptoBulkAll {H : Type} : List (DataW H) → Nat
  | [] => 0
  | d :: r => uptoBulk d + uptoBulkAll r
def uptoBulkEntries {H : Type} : List (Lit × DataW H) → Nat
  | [] => 0
  | x :: r => uptoBulkEntry x + uptoBulkEntries r
def uptoBulkEntry {H : Type} : Lit × DataW H → Nat
  | (.string bytes, d) => bytes.length + uptoBulk d + 1
  | (_, d) => uptoBulk d + 1
 end
def uptoSmall : (H : Type) → List (DataW H) → Bool := fun _ ds => decide (uptoBulkAll ds ≤ 1048576)
def OpenSpec.upto (s : _root_.Go.ChangeSpec) : _root_.Go.OpenSpec := { _root_.Go.OpenSpec.ofChange s with cond := some uptoSmall }

/-- 'shadowbooklaw12.CountsTake', WHERE WHAT IT READS IS OF BULK AT MOST 1048576: true; the input reads as it did. -/
def countsTakeUptoRow : OpenClaim := { program := "ytmogbadaoaikcaa", sum := "f4cdedef10ebb6c2b2d3b9b694c5d849bf278fa2f6f52b0c57a6dcb2f36790b7", func := "shadowbook/shadowbooklaw12.CountsTake", spec := "countsTake", apart := false, narrowed := true }
def CountsTakeUptoSaid : Prop := countsTakeUptoRow.holds Try.pinned (OpenSpec.upto countsTakeSpec)

/-- 'shadowbooklaw12.CountsSums', WHERE WHAT IT READS IS OF BULK AT MOST 1048576: true; the input reads as it did. -/
def countsSumsUptoRow : OpenClaim := { program := "ytmogbadaoaikcaa", sum := "f4cdedef10ebb6c2b2d3b9b694c5d849bf278fa2f6f52b0c57a6dcb2f36790b7", func := "shadowbook/shadowbooklaw12.CountsSums", spec := "countsSums", apart := false, narrowed := true }
def CountsSumsUptoSaid : Prop := countsSumsUptoRow.holds Try.pinned (OpenSpec.upto countsSumsSpec)

/-- 'shadowbooklaw12.CountsApart', WHERE WHAT IT READS IS OF BULK AT MOST 1048576: true; the input reads as it did. -/
def countsApartUptoRow : OpenClaim := { program := "ytmogbadaoaikcaa", sum := "f4cdedef10ebb6c2b2d3b9b694c5d849bf278fa2f6f52b0c57a6dcb2f36790b7", func := "shadowbook/shadowbooklaw12.CountsApart", spec := "countsApart", unfollowed := true, recurses := true, apart := false, narrowed := true }
def CountsApartUptoSaid : Prop := countsApartUptoRow.holds Try.pinned (OpenSpec.upto countsApartSpec)

/-- 'shadowbooklaw12.CountsLoads', WHERE WHAT IT READS IS OF BULK AT MOST 1048576: true; the input reads as it did. -/
def countsLoadsUptoRow : OpenClaim := { program := "ytmogbadaoaikcaa", sum := "f4cdedef10ebb6c2b2d3b9b694c5d849bf278fa2f6f52b0c57a6dcb2f36790b7", func := "shadowbook/shadowbooklaw12.CountsLoads", spec := "countsLoads", unfollowed := true, recurses := true, apart := false, narrowed := true }
def CountsLoadsUptoSaid : Prop := countsLoadsUptoRow.holds Try.pinned (OpenSpec.upto countsLoadsSpec)

/-- 'shadowbooklaw12.CountsNames', WHERE WHAT IT READS IS OF BULK AT MOST 1048576: true; the input reads as it did. -/
def countsNamesUptoRow : OpenClaim := { program := "ytmogbadaoaikcaa", sum := "f4cdedef10ebb6c2b2d3b9b694c5d849bf278fa2f6f52b0c57a6dcb2f36790b7", func := "shadowbook/shadowbooklaw12.CountsNames", spec := "countsNames", unfollowed := true, recurses := true, apart := false, narrowed := true }
def CountsNamesUptoSaid : Prop := countsNamesUptoRow.holds Try.pinned (OpenSpec.upto countsNamesSpec)

end Rows
end Go.Proofs.Ytmogbadaoaikcaa
