/-
  No cell of these rows narrows 'for every input' (looked for: loops, veiled, ifaces, maps, wideKeys, modest, calm, conditions, laid).
  DERIVED. THE GIVEN ROWS OF THIS SEAT. 6 by the template 'for every input the law returns true; each argument reads behind the call as it read before'; 0 by the template 'total and deterministic' (their statements: YtplgodmmmppmeaaGreatTotals.lean).
  GIVEN WITH THE SEED: the statements are not yours to turn. If you find one false, say at which input.
  Laid BY PROGRAM, IN A SANDBOX (cutbox-rows.mjs): the forced cells as the released guide's own fill.sh prints them over the translation bdee4808e4722eef… (all of the seat's roots in one cut). By AI agents, Wed Nov 11 2026. No macro, syntax, notation, axiom, sorry.
-/
import Derived.Test.YtplgodmmmppmeaaGreatChecked
import GoSem.Claim
import GoSem.ClaimJoined
import GoSem.ClaimMapViews
import Derived.JoinedTies
import Derived.KernelRfl
namespace Go.Proofs.YtplgodmmmppmeaaGreat
/- THE CELL 'sum', in the pinned program and in every row, IS THE sha256 OF THE DUMP (.gsa) THAT YtplgodmmmppmeaaGreatProg.lean LOADS. Nothing in Lean hashes anything: it is a label: what it is worth is what the hold of that sum in a sandbox is worth. -/
noncomputable def Tryz.pinned : Pinned := { name := "ytplgodmmmppmeaagreat", sum := "bdee4808e4722eef9b8cb966722bb4d73ad35592d9fab5554745530bd1854dd6", checked := Tryz.checked }
namespace Rows
def none {H : Type} : Left H := { results := [], args := [] }

/-- 'shadowbooklaw24.CatalogBytes': WHATEVER THE INPUT: true; the input reads as it did. -/
def catalogBytesSpec : ChangeSpec := { name := "catalogBytes", fn := fun _ => fun
  | [d1, d2] => { results := [.lit (.bool true)], args := [d1, d2] }
  | _ => none }
def catalogBytesRow : OpenClaim := { program := "ytplgodmmmppmeaagreat", sum := "bdee4808e4722eef9b8cb966722bb4d73ad35592d9fab5554745530bd1854dd6", func := "shadowbook/shadowbooklaw24.CatalogBytes", spec := "catalogBytes", inPlace := ["internal/abi.NoEscape", "internal/bytealg.MakeNoZero"], unfollowed := true, recurses := true, apart := false }
def CatalogBytesSaid : Prop := catalogBytesRow.holds Tryz.pinned (OpenSpec.ofChange catalogBytesSpec)

/-- ITS FALSE NEIGHBOUR: 'it returns false'. Refute it at one input. -/
def catalogBytesWrong : ChangeSpec := { name := "catalogBytes", fn := fun _ => fun
  | [d1, d2] => { results := [.lit (.bool false)], args := [d1, d2] }
  | _ => none }
def CatalogBytesWrongFalsely : Prop := catalogBytesRow.holds Tryz.pinned (OpenSpec.ofChange catalogBytesWrong)

/-- 'shadowbooklaw24.CatalogCalls': WHATEVER THE INPUT: true; the input reads as it did. -/
def catalogCallsSpec : ChangeSpec := { name := "catalogCalls", fn := fun _ => fun
  | [d1, d2, d3] => { results := [.lit (.bool true)], args := [d1, d2, d3] }
  | _ => none }
def catalogCallsRow : OpenClaim := { program := "ytplgodmmmppmeaagreat", sum := "bdee4808e4722eef9b8cb966722bb4d73ad35592d9fab5554745530bd1854dd6", func := "shadowbook/shadowbooklaw24.CatalogCalls", spec := "catalogCalls", inPlace := ["internal/abi.NoEscape", "internal/bytealg.MakeNoZero"], unfollowed := true, recurses := true, apart := false }
def CatalogCallsSaid : Prop := catalogCallsRow.holds Tryz.pinned (OpenSpec.ofChange catalogCallsSpec)

/-- ITS FALSE NEIGHBOUR: 'it returns false'. Refute it at one input. -/
def catalogCallsWrong : ChangeSpec := { name := "catalogCalls", fn := fun _ => fun
  | [d1, d2, d3] => { results := [.lit (.bool false)], args := [d1, d2, d3] }
  | _ => none }
def CatalogCallsWrongFalsely : Prop := catalogCallsRow.holds Tryz.pinned (OpenSpec.ofChange catalogCallsWrong)

/-- 'shadowbooklaw24.CatalogFinds': WHATEVER THE INPUT: true; the input reads as it did. -/
def catalogFindsSpec : ChangeSpec := { name := "catalogFinds", fn := fun _ => fun
  | [d1, d2] => { results := [.lit (.bool true)], args := [d1, d2] }
  | _ => none }
def catalogFindsRow : OpenClaim := { program := "ytplgodmmmppmeaagreat", sum := "bdee4808e4722eef9b8cb966722bb4d73ad35592d9fab5554745530bd1854dd6", func := "shadowbook/shadowbooklaw24.CatalogFinds", spec := "catalogFinds", inPlace := ["internal/abi.NoEscape", "internal/bytealg.MakeNoZero"], unfollowed := true, recurses := true, apart := false }
def CatalogFindsSaid : Prop := catalogFindsRow.holds Tryz.pinned (OpenSpec.ofChange catalogFindsSpec)

/-- ITS FALSE NEIGHBOUR: 'it returns false'. Refute it at one input. -/
def catalogFindsWrong : ChangeSpec := { name := "catalogFinds", fn := fun _ => fun
  | [d1, d2] => { results := [.lit (.bool false)], args := [d1, d2] }
  | _ => none }
def CatalogFindsWrongFalsely : Prop := catalogFindsRow.holds Tryz.pinned (OpenSpec.ofChange catalogFindsWrong)

/-- 'shadowbooklaw24.CatalogNames': WHATEVER THE INPUT: true; the input reads as it did. -/
def catalogNamesSpec : ChangeSpec := { name := "catalogNames", fn := fun _ => fun
  | [] => { results := [.lit (.bool true)], args := [] }
  | _ => none }
def catalogNamesRow : OpenClaim := { program := "ytplgodmmmppmeaagreat", sum := "bdee4808e4722eef9b8cb966722bb4d73ad35592d9fab5554745530bd1854dd6", func := "shadowbook/shadowbooklaw24.CatalogNames", spec := "catalogNames", inPlace := ["internal/abi.NoEscape", "internal/bytealg.MakeNoZero"], unfollowed := true, recurses := true, apart := false }
def CatalogNamesSaid : Prop := catalogNamesRow.holds Tryz.pinned (OpenSpec.ofChange catalogNamesSpec)

/-- ITS FALSE NEIGHBOUR: 'it returns false'. Refute it at one input. -/
def catalogNamesWrong : ChangeSpec := { name := "catalogNames", fn := fun _ => fun
  | [] => { results := [.lit (.bool false)], args := [] }
  | _ => none }
def CatalogNamesWrongFalsely : Prop := catalogNamesRow.holds Tryz.pinned (OpenSpec.ofChange catalogNamesWrong)

/-- 'shadowbooklaw24.CatalogShares': WHATEVER THE INPUT: true; the input reads as it did. -/
def catalogSharesSpec : ChangeSpec := { name := "catalogShares", fn := fun _ => fun
  | [d] => { results := [.lit (.bool true)], args := [d] }
  | _ => none }
def catalogSharesRow : OpenClaim := { program := "ytplgodmmmppmeaagreat", sum := "bdee4808e4722eef9b8cb966722bb4d73ad35592d9fab5554745530bd1854dd6", func := "shadowbook/shadowbooklaw24.CatalogShares", spec := "catalogShares", inPlace := ["internal/abi.NoEscape", "internal/bytealg.MakeNoZero"], unfollowed := true, recurses := true, apart := false }
def CatalogSharesSaid : Prop := catalogSharesRow.holds Tryz.pinned (OpenSpec.ofChange catalogSharesSpec)

/-- ITS FALSE NEIGHBOUR: 'it returns false'. Refute it at one input. -/
def catalogSharesWrong : ChangeSpec := { name := "catalogShares", fn := fun _ => fun
  | [d] => { results := [.lit (.bool false)], args := [d] }
  | _ => none }
def CatalogSharesWrongFalsely : Prop := catalogSharesRow.holds Tryz.pinned (OpenSpec.ofChange catalogSharesWrong)

/-- 'shadowbooklaw24.CatalogPuts': WHATEVER THE INPUT: true; the input reads as it did. -/
def catalogPutsSpec : ChangeSpec := { name := "catalogPuts", fn := fun _ => fun
  | [d] => { results := [.lit (.bool true)], args := [d] }
  | _ => none }
def catalogPutsRow : OpenClaim := { program := "ytplgodmmmppmeaagreat", sum := "bdee4808e4722eef9b8cb966722bb4d73ad35592d9fab5554745530bd1854dd6", func := "shadowbook/shadowbooklaw24.CatalogPuts", spec := "catalogPuts", inPlace := ["internal/abi.NoEscape", "internal/bytealg.MakeNoZero"], unfollowed := true, recurses := true, apart := false }
def CatalogPutsSaid : Prop := catalogPutsRow.holds Tryz.pinned (OpenSpec.ofChange catalogPutsSpec)

/-- ITS FALSE NEIGHBOUR: 'it returns false'. Refute it at one input. -/
def catalogPutsWrong : ChangeSpec := { name := "catalogPuts", fn := fun _ => fun
  | [d] => { results := [.lit (.bool false)], args := [d] }
  | _ => none }
def CatalogPutsWrongFalsely : Prop := catalogPutsRow.holds Tryz.pinned (OpenSpec.ofChange catalogPutsWrong)

/- THE SECOND FORM. 'bulk': how many values and letters a reading holds, each counted each time it is reached (what is shared counts as often as it is met; a slice's spare places count too). A statement '..UptoSaid' is the law's where the arguments, and the package variables that the reading takes, are together of bulk at most 1048576: NARROWER than '..Said'. Prove '..Said' where nothing that the law and all that it calls make is longer than what came in: it says more and counts as full. Else prove '..UptoSaid'. A law counts once. -/
mutual
def uptoBulk {H : Type} : DataW H → Nat
  | .lit (.string bytes) => bytes.length + 1
  | .lit _ => 1
  | .nil => 1
  | .ptr d => uptoBulk d + 1
  | .slice elems spare => uptoBulkAll elems + uptoBulkAll spare + 1
  | .agg parts => uptoBulkAll parts + 1
  | .iface _ d => uptoBulk d + 1
  | .map entries => uptoBulkEntries entries + 1
  | .held _ => 1
def uptoBulkAll {H : Type} : List (DataW H) → Nat
  | [] => 0
  | d :: r => uptoBulk d + uptoBulkAll r
def uptoBulkEntries {H : Type} : List (Lit × DataW H) → Nat
  | [] => 0
  | x :: r => uptoBulkEntry x + uptoBulkEntries r
def uptoBulkEntry {H : Type} : Lit × DataW H → Nat
  | (.string bytes, d) => bytes.length + uptoBulk d + 1
  | (_, d) => uptoBulk d + 1
 end
def uptoSmall : (H : Type) → List (DataW H) → Bool := fun _ ds => decide (uptoBulkAll ds ≤ 1048576)
def OpenSpec.upto (s : _root_.Go.ChangeSpec) : _root_.Go.OpenSpec := { _root_.Go.OpenSpec.ofChange s with cond := some uptoSmall }

/-- 'shadowbooklaw24.CatalogBytes', WHERE WHAT IT READS IS OF BULK AT MOST 1048576: true; the input reads as it did. -/
def catalogBytesUptoRow : OpenClaim := { program := "ytplgodmmmppmeaagreat", sum := "bdee4808e4722eef9b8cb966722bb4d73ad35592d9fab5554745530bd1854dd6", func := "shadowbook/shadowbooklaw24.CatalogBytes", spec := "catalogBytes", inPlace := ["internal/abi.NoEscape", "internal/bytealg.MakeNoZero"], unfollowed := true, recurses := true, apart := false, narrowed := true }
def CatalogBytesUptoSaid : Prop := catalogBytesUptoRow.holds Tryz.pinned (OpenSpec.upto catalogBytesSpec)

/-- 'shadowbooklaw24.CatalogCalls', WHERE WHAT IT READS IS OF BULK AT MOST 1048576: true; the input reads as it did. -/
def catalogCallsUptoRow : OpenClaim := { program := "ytplgodmmmppmeaagreat", sum := "bdee4808e4722eef9b8cb966722bb4d73ad35592d9fab5554745530bd1854dd6", func := "shadowbook/shadowbooklaw24.CatalogCalls", spec := "catalogCalls", inPlace := ["internal/abi.NoEscape", "internal/bytealg.MakeNoZero"], unfollowed := true, recurses := true, apart := false, narrowed := true }
def CatalogCallsUptoSaid : Prop := catalogCallsUptoRow.holds Tryz.pinned (OpenSpec.upto catalogCallsSpec)

/-- 'shadowbooklaw24.CatalogFinds', WHERE WHAT IT READS IS OF BULK AT MOST 1048576: true; the input reads as it did. -/
def catalogFindsUptoRow : OpenClaim := { program := "ytplgodmmmppmeaagreat", sum := "bdee4808e4722eef9b8cb966722bb4d73ad35592d9fab5554745530bd1854dd6", func := "shadowbook/shadowbooklaw24.CatalogFinds", spec := "catalogFinds", inPlace := ["internal/abi.NoEscape", "internal/bytealg.MakeNoZero"], unfollowed := true, recurses := true, apart := false, narrowed := true }
def CatalogFindsUptoSaid : Prop := catalogFindsUptoRow.holds Tryz.pinned (OpenSpec.upto catalogFindsSpec)

/-- 'shadowbooklaw24.CatalogNames', WHERE WHAT IT READS IS OF BULK AT MOST 1048576: true; the input reads as it did. -/
def catalogNamesUptoRow : OpenClaim := { program := "ytplgodmmmppmeaagreat", sum := "bdee4808e4722eef9b8cb966722bb4d73ad35592d9fab5554745530bd1854dd6", func := "shadowbook/shadowbooklaw24.CatalogNames", spec := "catalogNames", inPlace := ["internal/abi.NoEscape", "internal/bytealg.MakeNoZero"], unfollowed := true, recurses := true, apart := false, narrowed := true }
def CatalogNamesUptoSaid : Prop := catalogNamesUptoRow.holds Tryz.pinned (OpenSpec.upto catalogNamesSpec)

/-- 'shadowbooklaw24.CatalogShares', WHERE WHAT IT READS IS OF BULK AT MOST 1048576: true; the input reads as it did. -/
def catalogSharesUptoRow : OpenClaim := { program := "ytplgodmmmppmeaagreat", sum := "bdee4808e4722eef9b8cb966722bb4d73ad35592d9fab5554745530bd1854dd6", func := "shadowbook/shadowbooklaw24.CatalogShares", spec := "catalogShares", inPlace := ["internal/abi.NoEscape", "internal/bytealg.MakeNoZero"], unfollowed := true, recurses := true, apart := false, narrowed := true }
def CatalogSharesUptoSaid : Prop := catalogSharesUptoRow.holds Tryz.pinned (OpenSpec.upto catalogSharesSpec)

/-- 'shadowbooklaw24.CatalogPuts', WHERE WHAT IT READS IS OF BULK AT MOST 1048576: true; the input reads as it did. -/
def catalogPutsUptoRow : OpenClaim := { program := "ytplgodmmmppmeaagreat", sum := "bdee4808e4722eef9b8cb966722bb4d73ad35592d9fab5554745530bd1854dd6", func := "shadowbook/shadowbooklaw24.CatalogPuts", spec := "catalogPuts", inPlace := ["internal/abi.NoEscape", "internal/bytealg.MakeNoZero"], unfollowed := true, recurses := true, apart := false, narrowed := true }
def CatalogPutsUptoSaid : Prop := catalogPutsUptoRow.holds Tryz.pinned (OpenSpec.upto catalogPutsSpec)

end Rows
end Go.Proofs.YtplgodmmmppmeaaGreat
