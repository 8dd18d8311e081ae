/-
  No cell of these rows narrows 'for every input' (looked for: loops, veiled, ifaces, maps, wideKeys, modest, calm, conditions, laid).
  DERIVED. THE GIVEN ROWS OF THIS SEAT. 5 by the template 'for every input the law returns true; each argument reads behind the call as it read before'; 0 by the template 'total and deterministic' (their statements: YtiiemgndnpflbaaTotals.lean).
  GIVEN WITH THE SEED: the statements are not yours to turn. If you find one false, say at which input.
  Laid BY PROGRAM, IN A SANDBOX (cutbox-rows.mjs): the forced cells as the released guide's own fill.sh prints them over the translation 786fbce7534dd065… (all of the seat's roots in one cut). By AI agents, Wed Nov 11 2026. No macro, syntax, notation, axiom, sorry.
-/
import Derived.Test.YtiiemgndnpflbaaChecked
import GoSem.Claim
import GoSem.ClaimJoined
import GoSem.ClaimMapViews
import Derived.JoinedTies
import Derived.KernelRfl
namespace Go.Proofs.Ytiiemgndnpflbaa
/- THE CELL 'sum', in the pinned program and in every row, IS THE sha256 OF THE DUMP (.gsa) THAT YtiiemgndnpflbaaProg.lean LOADS. Nothing in Lean hashes anything: it is a label: what it is worth is what the hold of that sum in a sandbox is worth. -/
noncomputable def Try.pinned : Pinned := { name := "ytiiemgndnpflbaa", sum := "786fbce7534dd065c55eb2784f38f42c0afb13e7428693b3a1d51b58055b4c51", checked := Try.checked }
namespace Rows
def none {H : Type} : Left H := { results := [], args := [] }

/-- 'shadowbooklaw11.SuperTorn': WHATEVER THE INPUT: true; the input reads as it did. -/
def superTornSpec : ChangeSpec := { name := "superTorn", fn := fun _ => fun
  | [d1, d2, d3, d4] => { results := [.lit (.bool true)], args := [d1, d2, d3, d4] }
  | _ => none }
def superTornRow : OpenClaim := { program := "ytiiemgndnpflbaa", sum := "786fbce7534dd065c55eb2784f38f42c0afb13e7428693b3a1d51b58055b4c51", func := "shadowbook/shadowbooklaw11.SuperTorn", spec := "superTorn", unfollowed := true, recurses := true, apart := false }
def SuperTornSaid : Prop := superTornRow.holds Try.pinned (OpenSpec.ofChange superTornSpec)

/-- ITS FALSE NEIGHBOUR: 'it returns false'. Refute it at one input. -/
def superTornWrong : ChangeSpec := { name := "superTorn", fn := fun _ => fun
  | [d1, d2, d3, d4] => { results := [.lit (.bool false)], args := [d1, d2, d3, d4] }
  | _ => none }
def SuperTornWrongFalsely : Prop := superTornRow.holds Try.pinned (OpenSpec.ofChange superTornWrong)

/-- 'shadowbooklaw11.SuperBack': WHATEVER THE INPUT: true; the input reads as it did. -/
def superBackSpec : ChangeSpec := { name := "superBack", fn := fun _ => fun
  | [d1, d2] => { results := [.lit (.bool true)], args := [d1, d2] }
  | _ => none }
def superBackRow : OpenClaim := { program := "ytiiemgndnpflbaa", sum := "786fbce7534dd065c55eb2784f38f42c0afb13e7428693b3a1d51b58055b4c51", func := "shadowbook/shadowbooklaw11.SuperBack", spec := "superBack", unfollowed := true, recurses := true, apart := false }
def SuperBackSaid : Prop := superBackRow.holds Try.pinned (OpenSpec.ofChange superBackSpec)

/-- ITS FALSE NEIGHBOUR: 'it returns false'. Refute it at one input. -/
def superBackWrong : ChangeSpec := { name := "superBack", fn := fun _ => fun
  | [d1, d2] => { results := [.lit (.bool false)], args := [d1, d2] }
  | _ => none }
def SuperBackWrongFalsely : Prop := superBackRow.holds Try.pinned (OpenSpec.ofChange superBackWrong)

/-- 'shadowbooklaw11.SuperNames': WHATEVER THE INPUT: true; the input reads as it did. -/
def superNamesSpec : ChangeSpec := { name := "superNames", fn := fun _ => fun
  | [] => { results := [.lit (.bool true)], args := [] }
  | _ => none }
def superNamesRow : OpenClaim := { program := "ytiiemgndnpflbaa", sum := "786fbce7534dd065c55eb2784f38f42c0afb13e7428693b3a1d51b58055b4c51", func := "shadowbook/shadowbooklaw11.SuperNames", spec := "superNames", unfollowed := true, recurses := true, apart := false }
def SuperNamesSaid : Prop := superNamesRow.holds Try.pinned (OpenSpec.ofChange superNamesSpec)

/-- ITS FALSE NEIGHBOUR: 'it returns false'. Refute it at one input. -/
def superNamesWrong : ChangeSpec := { name := "superNames", fn := fun _ => fun
  | [] => { results := [.lit (.bool false)], args := [] }
  | _ => none }
def SuperNamesWrongFalsely : Prop := superNamesRow.holds Try.pinned (OpenSpec.ofChange superNamesWrong)

/-- 'shadowbooklaw11.SuperCalls': WHATEVER THE INPUT: true; the input reads as it did. -/
def superCallsSpec : ChangeSpec := { name := "superCalls", fn := fun _ => fun
  | [d1, d2, d3, d4, d5] => { results := [.lit (.bool true)], args := [d1, d2, d3, d4, d5] }
  | _ => none }
def superCallsRow : OpenClaim := { program := "ytiiemgndnpflbaa", sum := "786fbce7534dd065c55eb2784f38f42c0afb13e7428693b3a1d51b58055b4c51", func := "shadowbook/shadowbooklaw11.SuperCalls", spec := "superCalls", unfollowed := true, recurses := true, apart := false }
def SuperCallsSaid : Prop := superCallsRow.holds Try.pinned (OpenSpec.ofChange superCallsSpec)

/-- ITS FALSE NEIGHBOUR: 'it returns false'. Refute it at one input. -/
def superCallsWrong : ChangeSpec := { name := "superCalls", fn := fun _ => fun
  | [d1, d2, d3, d4, d5] => { results := [.lit (.bool false)], args := [d1, d2, d3, d4, d5] }
  | _ => none }
def SuperCallsWrongFalsely : Prop := superCallsRow.holds Try.pinned (OpenSpec.ofChange superCallsWrong)

/-- 'shadowbooklaw11.SuperTurns': WHATEVER THE INPUT: true; the input reads as it did. -/
def superTurnsSpec : ChangeSpec := { name := "superTurns", fn := fun _ => fun
  | [d1, d2] => { results := [.lit (.bool true)], args := [d1, d2] }
  | _ => none }
def superTurnsRow : OpenClaim := { program := "ytiiemgndnpflbaa", sum := "786fbce7534dd065c55eb2784f38f42c0afb13e7428693b3a1d51b58055b4c51", func := "shadowbook/shadowbooklaw11.SuperTurns", spec := "superTurns", unfollowed := true, recurses := true, apart := false }
def SuperTurnsSaid : Prop := superTurnsRow.holds Try.pinned (OpenSpec.ofChange superTurnsSpec)

/-- ITS FALSE NEIGHBOUR: 'it returns false'. Refute it at one input. -/
def superTurnsWrong : ChangeSpec := { name := "superTurns", fn := fun _ => fun
  | [d1, d2] => { results := [.lit (.bool false)], args := [d1, d2] }
  | _ => none }
def SuperTurnsWrongFalsely : Prop := superTurnsRow.holds Try.pinned (OpenSpec.ofChange superTurnsWrong)

/- THE SECOND FORM. 'bulk': how many values and letters a reading holds, each counted each time it is reached (what is shared counts as often as it is met; a slice's spare places count too). A statement '..UptoSaid' is the law's where the arguments, and the package variables that the reading takes, are together of bulk at most 1048576: NARROWER than '..Said'. Prove '..Said' where nothing that the law and all that it calls make is longer than what came in: it says more and counts as full. Else prove '..UptoSaid'. A law counts once. -/
mutual
def uptoBulk {H : Type} : DataW H → Nat
  | .lit (.string bytes) => bytes.length + 1
  | .lit _ => 1
  | .nil => 1
  | .ptr d => uptoBulk d + 1
  | .slice elems spare => uptoBulkAll elems + uptoBulkAll spare + 1
  | .agg parts => uptoBulkAll parts + 1
  | .iface _ d => uptoBulk d + 1
  | .map entries => uptoBulkEntries entries + 1
  | .held _ => 1
def uptoBulkAll {H : Type} : List (DataW H) → Nat
  | [] => 0
  | d :: r => uptoBulk d + uptoBulkAll r
def uptoBulkEntries {H : Type} : List (Lit × DataW H) → Nat
  | [] => 0
  | x :: r => uptoBulkEntry x + uptoBulkEntries r
def uptoBulkEntry {H : Type} : Lit × DataW H → Nat
  | (.string bytes, d) => bytes.length + uptoBulk d + 1
  | (_, d) => uptoBulk d + 1
 end
def uptoSmall : (H : Type) → List (DataW H) → Bool := fun _ ds => decide (uptoBulkAll ds ≤ 1048576)
def OpenSpec.upto (s : _root_.Go.ChangeSpec) : _root_.Go.OpenSpec := { _root_.Go.OpenSpec.ofChange s with cond := some uptoSmall }

/-- 'shadowbooklaw11.SuperTorn', WHERE WHAT IT READS IS OF BULK AT MOST 1048576: true; the input reads as it did. -/
def superTornUptoRow : OpenClaim := { program := "ytiiemgndnpflbaa", sum := "786fbce7534dd065c55eb2784f38f42c0afb13e7428693b3a1d51b58055b4c51", func := "shadowbook/shadowbooklaw11.SuperTorn", spec := "superTorn", unfollowed := true, recurses := true, apart := false, narrowed := true }
def SuperTornUptoSaid : Prop := superTornUptoRow.holds Try.pinned (OpenSpec.upto superTornSpec)

/-- 'shadowbooklaw11.SuperBack', WHERE WHAT IT READS IS OF BULK AT MOST 1048576: true; the input reads as it did. -/
def superBackUptoRow : OpenClaim := { program := "ytiiemgndnpflbaa", sum := "786fbce7534dd065c55eb2784f38f42c0afb13e7428693b3a1d51b58055b4c51", func := "shadowbook/shadowbooklaw11.SuperBack", spec := "superBack", unfollowed := true, recurses := true, apart := false, narrowed := true }
def SuperBackUptoSaid : Prop := superBackUptoRow.holds Try.pinned (OpenSpec.upto superBackSpec)

/-- 'shadowbooklaw11.SuperNames', WHERE WHAT IT READS IS OF BULK AT MOST 1048576: true; the input reads as it did. -/
def superNamesUptoRow : OpenClaim := { program := "ytiiemgndnpflbaa", sum := "786fbce7534dd065c55eb2784f38f42c0afb13e7428693b3a1d51b58055b4c51", func := "shadowbook/shadowbooklaw11.SuperNames", spec := "superNames", unfollowed := true, recurses := true, apart := false, narrowed := true }
def SuperNamesUptoSaid : Prop := superNamesUptoRow.holds Try.pinned (OpenSpec.upto superNamesSpec)

/-- 'shadowbooklaw11.SuperCalls', WHERE WHAT IT READS IS OF BULK AT MOST 1048576: true; the input reads as it did. -/
def superCallsUptoRow : OpenClaim := { program := "ytiiemgndnpflbaa", sum := "786fbce7534dd065c55eb2784f38f42c0afb13e7428693b3a1d51b58055b4c51", func := "shadowbook/shadowbooklaw11.SuperCalls", spec := "superCalls", unfollowed := true, recurses := true, apart := false, narrowed := true }
def SuperCallsUptoSaid : Prop := superCallsUptoRow.holds Try.pinned (OpenSpec.upto superCallsSpec)

/-- 'shadowbooklaw11.SuperTurns', WHERE WHAT IT READS IS OF BULK AT MOST 1048576: true; the input reads as it did. -/
def superTurnsUptoRow : OpenClaim := { program := "ytiiemgndnpflbaa", sum := "786fbce7534dd065c55eb2784f38f42c0afb13e7428693b3a1d51b58055b4c51", func := "shadowbook/shadowbooklaw11.SuperTurns", spec := "superTurns", unfollowed := true, recurses := true, apart := false, narrowed := true }
def SuperTurnsUptoSaid : Prop := superTurnsUptoRow.holds Try.pinned (OpenSpec.upto superTurnsSpec)

end Rows
end Go.Proofs.Ytiiemgndnpflbaa
