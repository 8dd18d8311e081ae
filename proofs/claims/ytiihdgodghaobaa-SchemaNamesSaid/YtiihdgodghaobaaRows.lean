/-
  No cell of these rows narrows 'for every input' (looked for: loops, veiled, ifaces, maps, wideKeys, modest, calm, conditions, laid).
  DERIVED. THE GIVEN ROWS OF THIS SEAT. 6 by the template 'for every input the law returns true; each argument reads behind the call as it read before'; 0 by the template 'total and deterministic' (their statements: YtiihdgodghaobaaTotals.lean).
  GIVEN WITH THE SEED: the statements are not yours to turn. If you find one false, say at which input.
  Laid BY PROGRAM, IN A SANDBOX (cutbox-rows.mjs): the forced cells as the released guide's own fill.sh prints them over the translation 0cde1ecf8980ef1b… (all of the seat's roots in one cut). By AI agents, Wed Nov 11 2026. No macro, syntax, notation, axiom, sorry.
-/
import Derived.Test.YtiihdgodghaobaaChecked
import GoSem.Claim
import GoSem.ClaimJoined
import GoSem.ClaimMapViews
import Derived.JoinedTies
import Derived.KernelRfl
namespace Go.Proofs.Ytiihdgodghaobaa
/- THE CELL 'sum', in the pinned program and in every row, IS THE sha256 OF THE DUMP (.gsa) THAT YtiihdgodghaobaaProg.lean LOADS. Nothing in Lean hashes anything: it is a label: what it is worth is what the hold of that sum in a sandbox is worth. -/
noncomputable def Try.pinned : Pinned := { name := "ytiihdgodghaobaa", sum := "0cde1ecf8980ef1bbaf24ea4be5bca77e6ac84b08b76cb8e39049aa636e4c9d0", checked := Try.checked }
namespace Rows
def none {H : Type} : Left H := { results := [], args := [] }

/-- 'shadowbooklaw17.SchemaFinds': WHATEVER THE INPUT: true; the input reads as it did. -/
def schemaFindsSpec : ChangeSpec := { name := "schemaFinds", fn := fun _ => fun
  | [d1, d2, d3] => { results := [.lit (.bool true)], args := [d1, d2, d3] }
  | _ => none }
def schemaFindsRow : OpenClaim := { program := "ytiihdgodghaobaa", sum := "0cde1ecf8980ef1bbaf24ea4be5bca77e6ac84b08b76cb8e39049aa636e4c9d0", func := "shadowbook/shadowbooklaw17.SchemaFinds", spec := "schemaFinds", unfollowed := true, recurses := true, apart := false }
def SchemaFindsSaid : Prop := schemaFindsRow.holds Try.pinned (OpenSpec.ofChange schemaFindsSpec)

/-- ITS FALSE NEIGHBOUR: 'it returns false'. Refute it at one input. -/
def schemaFindsWrong : ChangeSpec := { name := "schemaFinds", fn := fun _ => fun
  | [d1, d2, d3] => { results := [.lit (.bool false)], args := [d1, d2, d3] }
  | _ => none }
def SchemaFindsWrongFalsely : Prop := schemaFindsRow.holds Try.pinned (OpenSpec.ofChange schemaFindsWrong)

/-- 'shadowbooklaw17.SchemaBack': WHATEVER THE INPUT: true; the input reads as it did. -/
def schemaBackSpec : ChangeSpec := { name := "schemaBack", fn := fun _ => fun
  | [d1, d2] => { results := [.lit (.bool true)], args := [d1, d2] }
  | _ => none }
def schemaBackRow : OpenClaim := { program := "ytiihdgodghaobaa", sum := "0cde1ecf8980ef1bbaf24ea4be5bca77e6ac84b08b76cb8e39049aa636e4c9d0", func := "shadowbook/shadowbooklaw17.SchemaBack", spec := "schemaBack", unfollowed := true, recurses := true, apart := false }
def SchemaBackSaid : Prop := schemaBackRow.holds Try.pinned (OpenSpec.ofChange schemaBackSpec)

/-- ITS FALSE NEIGHBOUR: 'it returns false'. Refute it at one input. -/
def schemaBackWrong : ChangeSpec := { name := "schemaBack", fn := fun _ => fun
  | [d1, d2] => { results := [.lit (.bool false)], args := [d1, d2] }
  | _ => none }
def SchemaBackWrongFalsely : Prop := schemaBackRow.holds Try.pinned (OpenSpec.ofChange schemaBackWrong)

/-- 'shadowbooklaw17.SchemaPrefix': WHATEVER THE INPUT: true; the input reads as it did. -/
def schemaPrefixSpec : ChangeSpec := { name := "schemaPrefix", fn := fun _ => fun
  | [d1, d2] => { results := [.lit (.bool true)], args := [d1, d2] }
  | _ => none }
def schemaPrefixRow : OpenClaim := { program := "ytiihdgodghaobaa", sum := "0cde1ecf8980ef1bbaf24ea4be5bca77e6ac84b08b76cb8e39049aa636e4c9d0", func := "shadowbook/shadowbooklaw17.SchemaPrefix", spec := "schemaPrefix", unfollowed := true, recurses := true, apart := false }
def SchemaPrefixSaid : Prop := schemaPrefixRow.holds Try.pinned (OpenSpec.ofChange schemaPrefixSpec)

/-- ITS FALSE NEIGHBOUR: 'it returns false'. Refute it at one input. -/
def schemaPrefixWrong : ChangeSpec := { name := "schemaPrefix", fn := fun _ => fun
  | [d1, d2] => { results := [.lit (.bool false)], args := [d1, d2] }
  | _ => none }
def SchemaPrefixWrongFalsely : Prop := schemaPrefixRow.holds Try.pinned (OpenSpec.ofChange schemaPrefixWrong)

/-- 'shadowbooklaw17.SchemaRows': WHATEVER THE INPUT: true; the input reads as it did. -/
def schemaRowsSpec : ChangeSpec := { name := "schemaRows", fn := fun _ => fun
  | [d1, d2, d3] => { results := [.lit (.bool true)], args := [d1, d2, d3] }
  | _ => none }
def schemaRowsRow : OpenClaim := { program := "ytiihdgodghaobaa", sum := "0cde1ecf8980ef1bbaf24ea4be5bca77e6ac84b08b76cb8e39049aa636e4c9d0", func := "shadowbook/shadowbooklaw17.SchemaRows", spec := "schemaRows", unfollowed := true, recurses := true, apart := false }
def SchemaRowsSaid : Prop := schemaRowsRow.holds Try.pinned (OpenSpec.ofChange schemaRowsSpec)

/-- ITS FALSE NEIGHBOUR: 'it returns false'. Refute it at one input. -/
def schemaRowsWrong : ChangeSpec := { name := "schemaRows", fn := fun _ => fun
  | [d1, d2, d3] => { results := [.lit (.bool false)], args := [d1, d2, d3] }
  | _ => none }
def SchemaRowsWrongFalsely : Prop := schemaRowsRow.holds Try.pinned (OpenSpec.ofChange schemaRowsWrong)

/-- 'shadowbooklaw17.SchemaNames': WHATEVER THE INPUT: true; the input reads as it did. -/
def schemaNamesSpec : ChangeSpec := { name := "schemaNames", fn := fun _ => fun
  | [] => { results := [.lit (.bool true)], args := [] }
  | _ => none }
def schemaNamesRow : OpenClaim := { program := "ytiihdgodghaobaa", sum := "0cde1ecf8980ef1bbaf24ea4be5bca77e6ac84b08b76cb8e39049aa636e4c9d0", func := "shadowbook/shadowbooklaw17.SchemaNames", spec := "schemaNames", unfollowed := true, recurses := true, apart := false }
def SchemaNamesSaid : Prop := schemaNamesRow.holds Try.pinned (OpenSpec.ofChange schemaNamesSpec)

/-- ITS FALSE NEIGHBOUR: 'it returns false'. Refute it at one input. -/
def schemaNamesWrong : ChangeSpec := { name := "schemaNames", fn := fun _ => fun
  | [] => { results := [.lit (.bool false)], args := [] }
  | _ => none }
def SchemaNamesWrongFalsely : Prop := schemaNamesRow.holds Try.pinned (OpenSpec.ofChange schemaNamesWrong)

/-- 'shadowbooklaw17.SchemaCalls': WHATEVER THE INPUT: true; the input reads as it did. -/
def schemaCallsSpec : ChangeSpec := { name := "schemaCalls", fn := fun _ => fun
  | [d1, d2, d3, d4, d5] => { results := [.lit (.bool true)], args := [d1, d2, d3, d4, d5] }
  | _ => none }
def schemaCallsRow : OpenClaim := { program := "ytiihdgodghaobaa", sum := "0cde1ecf8980ef1bbaf24ea4be5bca77e6ac84b08b76cb8e39049aa636e4c9d0", func := "shadowbook/shadowbooklaw17.SchemaCalls", spec := "schemaCalls", unfollowed := true, recurses := true, apart := false }
def SchemaCallsSaid : Prop := schemaCallsRow.holds Try.pinned (OpenSpec.ofChange schemaCallsSpec)

/-- ITS FALSE NEIGHBOUR: 'it returns false'. Refute it at one input. -/
def schemaCallsWrong : ChangeSpec := { name := "schemaCalls", fn := fun _ => fun
  | [d1, d2, d3, d4, d5] => { results := [.lit (.bool false)], args := [d1, d2, d3, d4, d5] }
  | _ => none }
def SchemaCallsWrongFalsely : Prop := schemaCallsRow.holds Try.pinned (OpenSpec.ofChange schemaCallsWrong)

/- THE SECOND FORM. 'bulk': how many values and letters a reading holds, each counted each time it is reached (what is shared counts as often as it is met; a slice's spare places count too). A statement '..UptoSaid' is the law's where the arguments, and the package variables that the reading takes, are together of bulk at most 1048576: NARROWER than '..Said'. Prove '..Said' where nothing that the law and all that it calls make is longer than what came in: it says more and counts as full. Else prove '..UptoSaid'. A law counts once. -/
mutual
def uptoBulk {H : Type} : DataW H → Nat
  | .lit (.string bytes) => bytes.length + 1
  | .lit _ => 1
  | .nil => 1
  | .ptr d => uptoBulk d + 1
  | .slice elems spare => uptoBulkAll elems + uptoBulkAll spare + 1
  | .agg parts => uptoBulkAll parts + 1
  | .iface _ d => uptoBulk d + 1
  | .map entries => uptoBulkEntries entries + 1
  | .held _ => 1
def uptoBulkAll {H : Type} : List (DataW H) → Nat
  | [] => 0
  | d :: r => uptoBulk d + uptoBulkAll r
def uptoBulkEntries {H : Type} : List (Lit × DataW H) → Nat
  | [] => 0
  | x :: r => uptoBulkEntry x + uptoBulkEntries r
def uptoBulkEntry {H : Type} : Lit × DataW H → Nat
  | (.string bytes, d) => bytes.length + uptoBulk d + 1
  | (_, d) => uptoBulk d + 1
 end
def uptoSmall : (H : Type) → List (DataW H) → Bool := fun _ ds => decide (uptoBulkAll ds ≤ 1048576)
def OpenSpec.upto (s : _root_.Go.ChangeSpec) : _root_.Go.OpenSpec := { _root_.Go.OpenSpec.ofChange s with cond := some uptoSmall }

/-- 'shadowbooklaw17.SchemaFinds', WHERE WHAT IT READS IS OF BULK AT MOST 1048576: true; the input reads as it did. -/
def schemaFindsUptoRow : OpenClaim := { program := "ytiihdgodghaobaa", sum := "0cde1ecf8980ef1bbaf24ea4be5bca77e6ac84b08b76cb8e39049aa636e4c9d0", func := "shadowbook/shadowbooklaw17.SchemaFinds", spec := "schemaFinds", unfollowed := true, recurses := true, apart := false, narrowed := true }
def SchemaFindsUptoSaid : Prop := schemaFindsUptoRow.holds Try.pinned (OpenSpec.upto schemaFindsSpec)

/-- 'shadowbooklaw17.SchemaBack', WHERE WHAT IT READS IS OF BULK AT MOST 1048576: true; the input reads as it did. -/
def schemaBackUptoRow : OpenClaim := { program := "ytiihdgodghaobaa", sum := "0cde1ecf8980ef1bbaf24ea4be5bca77e6ac84b08b76cb8e39049aa636e4c9d0", func := "shadowbook/shadowbooklaw17.SchemaBack", spec := "schemaBack", unfollowed := true, recurses := true, apart := false, narrowed := true }
def SchemaBackUptoSaid : Prop := schemaBackUptoRow.holds Try.pinned (OpenSpec.upto schemaBackSpec)

/-- 'shadowbooklaw17.SchemaPrefix', WHERE WHAT IT READS IS OF BULK AT MOST 1048576: true; the input reads as it did. -/
def schemaPrefixUptoRow : OpenClaim := { program := "ytiihdgodghaobaa", sum := "0cde1ecf8980ef1bbaf24ea4be5bca77e6ac84b08b76cb8e39049aa636e4c9d0", func := "shadowbook/shadowbooklaw17.SchemaPrefix", spec := "schemaPrefix", unfollowed := true, recurses := true, apart := false, narrowed := true }
def SchemaPrefixUptoSaid : Prop := schemaPrefixUptoRow.holds Try.pinned (OpenSpec.upto schemaPrefixSpec)

/-- 'shadowbooklaw17.SchemaRows', WHERE WHAT IT READS IS OF BULK AT MOST 1048576: true; the input reads as it did. -/
def schemaRowsUptoRow : OpenClaim := { program := "ytiihdgodghaobaa", sum := "0cde1ecf8980ef1bbaf24ea4be5bca77e6ac84b08b76cb8e39049aa636e4c9d0", func := "shadowbook/shadowbooklaw17.SchemaRows", spec := "schemaRows", unfollowed := true, recurses := true, apart := false, narrowed := true }
def SchemaRowsUptoSaid : Prop := schemaRowsUptoRow.holds Try.pinned (OpenSpec.upto schemaRowsSpec)

/-- 'shadowbooklaw17.SchemaNames', WHERE WHAT IT READS IS OF BULK AT MOST 1048576: true; the input reads as it did. -/
def schemaNamesUptoRow : OpenClaim := { program := "ytiihdgodghaobaa", sum := "0cde1ecf8980ef1bbaf24ea4be5bca77e6ac84b08b76cb8e39049aa636e4c9d0", func := "shadowbook/shadowbooklaw17.SchemaNames", spec := "schemaNames", unfollowed := true, recurses := true, apart := false, narrowed := true }
def SchemaNamesUptoSaid : Prop := schemaNamesUptoRow.holds Try.pinned (OpenSpec.upto schemaNamesSpec)

/-- 'shadowbooklaw17.SchemaCalls', WHERE WHAT IT READS IS OF BULK AT MOST 1048576: true; the input reads as it did. -/
def schemaCallsUptoRow : OpenClaim := { program := "ytiihdgodghaobaa", sum := "0cde1ecf8980ef1bbaf24ea4be5bca77e6ac84b08b76cb8e39049aa636e4c9d0", func := "shadowbook/shadowbooklaw17.SchemaCalls", spec := "schemaCalls", unfollowed := true, recurses := true, apart := false, narrowed := true }
def SchemaCallsUptoSaid : Prop := schemaCallsUptoRow.holds Try.pinned (OpenSpec.upto schemaCallsSpec)

end Rows
end Go.Proofs.Ytiihdgodghaobaa
