/-
  No cell of these rows narrows 'for every input' (looked for: loops, veiled, ifaces, maps, wideKeys, modest, calm, conditions, laid).
  DERIVED. THE GIVEN ROWS OF THIS SEAT. 4 by the template 'for every input the law returns true; each argument reads behind the call as it read before'; 0 by the template 'total and deterministic' (their statements: YtpagephahcnijaaGreatTotals.lean).
  GIVEN WITH THE SEED: the statements are not yours to turn. If you find one false, say at which input.
  Laid BY PROGRAM, IN A SANDBOX (cutbox-rows.mjs): the forced cells as the released guide's own fill.sh prints them over the translation 99073b0c612d2153… (all of the seat's roots in one cut). By AI agents, Wed Nov 11 2026. No macro, syntax, notation, axiom, sorry.
-/
import Derived.Test.YtpagephahcnijaaGreatChecked
import GoSem.Claim
import GoSem.ClaimJoined
import GoSem.ClaimMapViews
import Derived.JoinedTies
import Derived.KernelRfl
namespace Go.Proofs.YtpagephahcnijaaGreat
/- THE CELL 'sum', in the pinned program and in every row, IS THE sha256 OF THE DUMP (.gsa) THAT YtpagephahcnijaaGreatProg.lean LOADS. Nothing in Lean hashes anything: it is a label: what it is worth is what the hold of that sum in a sandbox is worth. -/
noncomputable def Tryz.pinned : Pinned := { name := "ytpagephahcnijaagreat", sum := "99073b0c612d21533a09604aab73f633bbb2840ca990315ebf5c7be40372c114", checked := Tryz.checked }
namespace Rows
def none {H : Type} : Left H := { results := [], args := [] }

/-- 'shadowbooklaw26.SnapsStay': WHATEVER THE INPUT: true; the input reads as it did. -/
def snapsStaySpec : ChangeSpec := { name := "snapsStay", fn := fun _ => fun
  | [d1, d2, d3] => { results := [.lit (.bool true)], args := [d1, d2, d3] }
  | _ => none }
def snapsStayRow : OpenClaim := { program := "ytpagephahcnijaagreat", sum := "99073b0c612d21533a09604aab73f633bbb2840ca990315ebf5c7be40372c114", func := "shadowbook/shadowbooklaw26.SnapsStay", spec := "snapsStay", inPlace := ["internal/abi.NoEscape", "internal/bytealg.MakeNoZero", "slices.overlaps[shadowbook/api.Snap]"], unfollowed := true, recurses := true, apart := false }
def SnapsStaySaid : Prop := snapsStayRow.holds Tryz.pinned (OpenSpec.ofChange snapsStaySpec)

/-- ITS FALSE NEIGHBOUR: 'it returns false'. Refute it at one input. -/
def snapsStayWrong : ChangeSpec := { name := "snapsStay", fn := fun _ => fun
  | [d1, d2, d3] => { results := [.lit (.bool false)], args := [d1, d2, d3] }
  | _ => none }
def SnapsStayWrongFalsely : Prop := snapsStayRow.holds Tryz.pinned (OpenSpec.ofChange snapsStayWrong)

/-- 'shadowbooklaw26.SnapsApart': WHATEVER THE INPUT: true; the input reads as it did. -/
def snapsApartSpec : ChangeSpec := { name := "snapsApart", fn := fun _ => fun
  | [d1, d2, d3, d4] => { results := [.lit (.bool true)], args := [d1, d2, d3, d4] }
  | _ => none }
def snapsApartRow : OpenClaim := { program := "ytpagephahcnijaagreat", sum := "99073b0c612d21533a09604aab73f633bbb2840ca990315ebf5c7be40372c114", func := "shadowbook/shadowbooklaw26.SnapsApart", spec := "snapsApart", inPlace := ["internal/abi.NoEscape", "internal/bytealg.MakeNoZero", "slices.overlaps[shadowbook/api.Snap]"], unfollowed := true, recurses := true, apart := false }
def SnapsApartSaid : Prop := snapsApartRow.holds Tryz.pinned (OpenSpec.ofChange snapsApartSpec)

/-- ITS FALSE NEIGHBOUR: 'it returns false'. Refute it at one input. -/
def snapsApartWrong : ChangeSpec := { name := "snapsApart", fn := fun _ => fun
  | [d1, d2, d3, d4] => { results := [.lit (.bool false)], args := [d1, d2, d3, d4] }
  | _ => none }
def SnapsApartWrongFalsely : Prop := snapsApartRow.holds Tryz.pinned (OpenSpec.ofChange snapsApartWrong)

/-- 'shadowbooklaw26.SnapsNone': WHATEVER THE INPUT: true; the input reads as it did. -/
def snapsNoneSpec : ChangeSpec := { name := "snapsNone", fn := fun _ => fun
  | [d1, d2, d3] => { results := [.lit (.bool true)], args := [d1, d2, d3] }
  | _ => none }
def snapsNoneRow : OpenClaim := { program := "ytpagephahcnijaagreat", sum := "99073b0c612d21533a09604aab73f633bbb2840ca990315ebf5c7be40372c114", func := "shadowbook/shadowbooklaw26.SnapsNone", spec := "snapsNone", inPlace := ["internal/abi.NoEscape", "internal/bytealg.MakeNoZero", "slices.overlaps[shadowbook/api.Snap]"], unfollowed := true, recurses := true, apart := false }
def SnapsNoneSaid : Prop := snapsNoneRow.holds Tryz.pinned (OpenSpec.ofChange snapsNoneSpec)

/-- ITS FALSE NEIGHBOUR: 'it returns false'. Refute it at one input. -/
def snapsNoneWrong : ChangeSpec := { name := "snapsNone", fn := fun _ => fun
  | [d1, d2, d3] => { results := [.lit (.bool false)], args := [d1, d2, d3] }
  | _ => none }
def SnapsNoneWrongFalsely : Prop := snapsNoneRow.holds Tryz.pinned (OpenSpec.ofChange snapsNoneWrong)

/-- 'shadowbooklaw26.SnapsNames': WHATEVER THE INPUT: true; the input reads as it did. -/
def snapsNamesSpec : ChangeSpec := { name := "snapsNames", fn := fun _ => fun
  | [] => { results := [.lit (.bool true)], args := [] }
  | _ => none }
def snapsNamesRow : OpenClaim := { program := "ytpagephahcnijaagreat", sum := "99073b0c612d21533a09604aab73f633bbb2840ca990315ebf5c7be40372c114", func := "shadowbook/shadowbooklaw26.SnapsNames", spec := "snapsNames", inPlace := ["internal/abi.NoEscape", "internal/bytealg.MakeNoZero", "slices.overlaps[shadowbook/api.Snap]"], unfollowed := true, recurses := true, apart := false }
def SnapsNamesSaid : Prop := snapsNamesRow.holds Tryz.pinned (OpenSpec.ofChange snapsNamesSpec)

/-- ITS FALSE NEIGHBOUR: 'it returns false'. Refute it at one input. -/
def snapsNamesWrong : ChangeSpec := { name := "snapsNames", fn := fun _ => fun
  | [] => { results := [.lit (.bool false)], args := [] }
  | _ => none }
def SnapsNamesWrongFalsely : Prop := snapsNamesRow.holds Tryz.pinned (OpenSpec.ofChange snapsNamesWrong)

/- THE SECOND FORM. 'bulk': how many values and letters a reading holds, each counted each time it is reached (what is shared counts as often as it is met; a slice's spare places count too). A statement '..UptoSaid' is the law's where the arguments, and the package variables that the reading takes, are together of bulk at most 1048576: NARROWER than '..Said'. Prove '..Said' where nothing that the law and all that it calls make is longer than what came in: it says more and counts as full. Else prove '..UptoSaid'. A law counts once. -/
mutual
def uptoBulk {H : Type} : DataW H → Nat
  | .lit (.string bytes) => bytes.length + 1
  | .lit _ => 1
  | .nil => 1
  | .ptr d => uptoBulk d + 1
  | .slice elems spare => uptoBulkAll elems + uptoBulkAll spare + 1
  | .agg parts => uptoBulkAll parts + 1
  | .iface _ d => uptoBulk d + 1
  | .map entries => uptoBulkEntries entries + 1
  | .held _ => 1
def uptoBulkAll {H : Type} : List (DataW H) → Nat
  | [] => 0
  | d :: r => uptoBulk d + uptoBulkAll r
def uptoBulkEntries {H : Type} : List (Lit × DataW H) → Nat
  | [] => 0
  | x :: r => uptoBulkEntry x + uptoBulkEntries r
def uptoBulkEntry {H : Type} : Lit × DataW H → Nat
  | (.string bytes, d) => bytes.length + uptoBulk d + 1
  | (_, d) => uptoBulk d + 1
 end
def uptoSmall : (H : Type) → List (DataW H) → Bool := fun _ ds => decide (uptoBulkAll ds ≤ 1048576)
def OpenSpec.upto (s : _root_.Go.ChangeSpec) : _root_.Go.OpenSpec := { _root_.Go.OpenSpec.ofChange s with cond := some uptoSmall }

/-- 'shadowbooklaw26.SnapsStay', WHERE WHAT IT READS IS OF BULK AT MOST 1048576: true; the input reads as it did. -/
def snapsStayUptoRow : OpenClaim := { program := "ytpagephahcnijaagreat", sum := "99073b0c612d21533a09604aab73f633bbb2840ca990315ebf5c7be40372c114", func := "shadowbook/shadowbooklaw26.SnapsStay", spec := "snapsStay", inPlace := ["internal/abi.NoEscape", "internal/bytealg.MakeNoZero", "slices.overlaps[shadowbook/api.Snap]"], unfollowed := true, recurses := true, apart := false, narrowed := true }
def SnapsStayUptoSaid : Prop := snapsStayUptoRow.holds Tryz.pinned (OpenSpec.upto snapsStaySpec)

/-- 'shadowbooklaw26.SnapsApart', WHERE WHAT IT READS IS OF BULK AT MOST 1048576: true; the input reads as it did. -/
def snapsApartUptoRow : OpenClaim := { program := "ytpagephahcnijaagreat", sum := "99073b0c612d21533a09604aab73f633bbb2840ca990315ebf5c7be40372c114", func := "shadowbook/shadowbooklaw26.SnapsApart", spec := "snapsApart", inPlace := ["internal/abi.NoEscape", "internal/bytealg.MakeNoZero", "slices.overlaps[shadowbook/api.Snap]"], unfollowed := true, recurses := true, apart := false, narrowed := true }
def SnapsApartUptoSaid : Prop := snapsApartUptoRow.holds Tryz.pinned (OpenSpec.upto snapsApartSpec)

/-- 'shadowbooklaw26.SnapsNone', WHERE WHAT IT READS IS OF BULK AT MOST 1048576: true; the input reads as it did. -/
def snapsNoneUptoRow : OpenClaim := { program := "ytpagephahcnijaagreat", sum := "99073b0c612d21533a09604aab73f633bbb2840ca990315ebf5c7be40372c114", func := "shadowbook/shadowbooklaw26.SnapsNone", spec := "snapsNone", inPlace := ["internal/abi.NoEscape", "internal/bytealg.MakeNoZero", "slices.overlaps[shadowbook/api.Snap]"], unfollowed := true, recurses := true, apart := false, narrowed := true }
def SnapsNoneUptoSaid : Prop := snapsNoneUptoRow.holds Tryz.pinned (OpenSpec.upto snapsNoneSpec)

/-- 'shadowbooklaw26.SnapsNames', WHERE WHAT IT READS IS OF BULK AT MOST 1048576: true; the input reads as it did. -/
def snapsNamesUptoRow : OpenClaim := { program := "ytpagephahcnijaagreat", sum := "99073b0c612d21533a09604aab73f633bbb2840ca990315ebf5c7be40372c114", func := "shadowbook/shadowbooklaw26.SnapsNames", spec := "snapsNames", inPlace := ["internal/abi.NoEscape", "internal/bytealg.MakeNoZero", "slices.overlaps[shadowbook/api.Snap]"], unfollowed := true, recurses := true, apart := false, narrowed := true }
def SnapsNamesUptoSaid : Prop := snapsNamesUptoRow.holds Tryz.pinned (OpenSpec.upto snapsNamesSpec)

end Rows
end Go.Proofs.YtpagephahcnijaaGreat
