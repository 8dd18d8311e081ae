/-
  NARROWER THAN 'FOR EVERY INPUT', by the rows' own cells (each row's printed sentence says how): DeviceLast: laid · DeviceCrash: laid · DeviceFuses: laid · DeviceNames: laid · DeviceRot: laid · DeviceScript: laid.
  DERIVED. THE GIVEN ROWS OF THIS SEAT. 6 by the template 'for every input the law returns true; each argument reads behind the call as it read before'; 0 by the template 'total and deterministic' (their statements: YtpbjbhcejgnhiaaDoorTotals.lean).
  GIVEN WITH THE SEED: the statements are not yours to turn. If you find one false, say at which input.
  Laid BY PROGRAM, IN A SANDBOX (cutbox-rows.mjs): the forced cells as the released guide's own fill.sh prints them over the translation efb1a8c5e64b4b27… (all of the seat's roots in one cut). By AI agents, Wed Nov 11 2026. No macro, syntax, notation, axiom, sorry.
-/
import Derived.Test.YtpbjbhcejgnhiaaDoorChecked
import GoSem.Claim
import GoSem.ClaimJoined
import GoSem.ClaimMapViews
import Derived.JoinedTies
import Derived.KernelRfl
namespace Go.Proofs.YtpbjbhcejgnhiaaDoor
/- THE CELL 'sum', in the pinned program and in every row, IS THE sha256 OF THE DUMP (.gsa) THAT YtpbjbhcejgnhiaaDoorProg.lean LOADS. Nothing in Lean hashes anything: it is a label: what it is worth is what the hold of that sum in a sandbox is worth. -/
noncomputable def Tryd.pinned : Pinned := { name := "ytpbjbhcejgnhiaadoor", sum := "efb1a8c5e64b4b273be13a593fa7cb5cdf503fc8ba56bac51950b61181f5ef5e", checked := Tryd.checked }
namespace Rows
def none {H : Type} : Left H := { results := [], args := [] }

/- WHAT THE LISTED PACKAGE-LEVEL VARIABLES READ AS WHEN THE CALL BEGINS. Each datum BY PROGRAM (the guide's laid-datum.mjs) off the statement by which the dump's own 'gosem.cut.vars' lays the variable. In a bare row this is a premise. The card (YtpbjbhcejgnhiaaDoorCards.lean) ties it to the program's text. -/
def laid_math_bits_deBruijn64tab {H : Type} : DataW H := .agg [.lit (.int .u8 0), .lit (.int .u8 1), .lit (.int .u8 56), .lit (.int .u8 2), .lit (.int .u8 57), .lit (.int .u8 49), .lit (.int .u8 28), .lit (.int .u8 3), .lit (.int .u8 61), .lit (.int .u8 58), .lit (.int .u8 42), .lit (.int .u8 50), .lit (.int .u8 38), .lit (.int .u8 29), .lit (.int .u8 17), .lit (.int .u8 4), .lit (.int .u8 62), .lit (.int .u8 47), .lit (.int .u8 59), .lit (.int .u8 36), .lit (.int .u8 45), .lit (.int .u8 43), .lit (.int .u8 51), .lit (.int .u8 22), .lit (.int .u8 53), .lit (.int .u8 39), .lit (.int .u8 33), .lit (.int .u8 30), .lit (.int .u8 24), .lit (.int .u8 18), .lit (.int .u8 12), .lit (.int .u8 5), .lit (.int .u8 63), .lit (.int .u8 55), .lit (.int .u8 48), .lit (.int .u8 27), .lit (.int .u8 60), .lit (.int .u8 41), .lit (.int .u8 37), .lit (.int .u8 16), .lit (.int .u8 46), .lit (.int .u8 35), .lit (.int .u8 44), .lit (.int .u8 21), .lit (.int .u8 52), .lit (.int .u8 32), .lit (.int .u8 23), .lit (.int .u8 11), .lit (.int .u8 54), .lit (.int .u8 26), .lit (.int .u8 40), .lit (.int .u8 15), .lit (.int .u8 34), .lit (.int .u8 20), .lit (.int .u8 31), .lit (.int .u8 10), .lit (.int .u8 25), .lit (.int .u8 14), .lit (.int .u8 19), .lit (.int .u8 9), .lit (.int .u8 13), .lit (.int .u8 8), .lit (.int .u8 7), .lit (.int .u8 6)]

/-- 'shadowbooklaw03.DeviceLast': WHATEVER THE INPUT: true; the input reads as it did. -/
def deviceLastSpec : ChangeSpec := { name := "deviceLast", fn := fun _ => fun
  | [d1, d2] => { results := [.lit (.bool true)], args := [d1, d2] }
  | _ => none }
def deviceLastRow : OpenClaim := { program := "ytpbjbhcejgnhiaadoor", sum := "efb1a8c5e64b4b273be13a593fa7cb5cdf503fc8ba56bac51950b61181f5ef5e", func := "shadowbook/shadowbooklaw03.DeviceLast", spec := "deviceLast", inPlace := ["internal/abi.NoEscape", "internal/bytealg.MakeNoZero"], unfollowed := true, recurses := true, named := ["math/bits.deBruijn64tab"], apart := false, laid := [("math/bits.deBruijn64tab", laid_math_bits_deBruijn64tab)] }
def DeviceLastSaid : Prop := deviceLastRow.holds Tryd.pinned (OpenSpec.ofChange deviceLastSpec)

/-- ITS FALSE NEIGHBOUR: 'it returns false'. Refute it at one input. -/
def deviceLastWrong : ChangeSpec := { name := "deviceLast", fn := fun _ => fun
  | [d1, d2] => { results := [.lit (.bool false)], args := [d1, d2] }
  | _ => none }
def DeviceLastWrongFalsely : Prop := deviceLastRow.holds Tryd.pinned (OpenSpec.ofChange deviceLastWrong)

/-- 'shadowbooklaw03.DeviceCrash': WHATEVER THE INPUT: true; the input reads as it did. -/
def deviceCrashSpec : ChangeSpec := { name := "deviceCrash", fn := fun _ => fun
  | [d1, d2, d3] => { results := [.lit (.bool true)], args := [d1, d2, d3] }
  | _ => none }
def deviceCrashRow : OpenClaim := { program := "ytpbjbhcejgnhiaadoor", sum := "efb1a8c5e64b4b273be13a593fa7cb5cdf503fc8ba56bac51950b61181f5ef5e", func := "shadowbook/shadowbooklaw03.DeviceCrash", spec := "deviceCrash", inPlace := ["internal/abi.NoEscape", "internal/bytealg.MakeNoZero"], unfollowed := true, recurses := true, named := ["math/bits.deBruijn64tab"], apart := false, laid := [("math/bits.deBruijn64tab", laid_math_bits_deBruijn64tab)] }
def DeviceCrashSaid : Prop := deviceCrashRow.holds Tryd.pinned (OpenSpec.ofChange deviceCrashSpec)

/-- ITS FALSE NEIGHBOUR: 'it returns false'. Refute it at one input. -/
def deviceCrashWrong : ChangeSpec := { name := "deviceCrash", fn := fun _ => fun
  | [d1, d2, d3] => { results := [.lit (.bool false)], args := [d1, d2, d3] }
  | _ => none }
def DeviceCrashWrongFalsely : Prop := deviceCrashRow.holds Tryd.pinned (OpenSpec.ofChange deviceCrashWrong)

/-- 'shadowbooklaw03.DeviceFuses': WHATEVER THE INPUT: true; the input reads as it did. -/
def deviceFusesSpec : ChangeSpec := { name := "deviceFuses", fn := fun _ => fun
  | [d1, d2, d3] => { results := [.lit (.bool true)], args := [d1, d2, d3] }
  | _ => none }
def deviceFusesRow : OpenClaim := { program := "ytpbjbhcejgnhiaadoor", sum := "efb1a8c5e64b4b273be13a593fa7cb5cdf503fc8ba56bac51950b61181f5ef5e", func := "shadowbook/shadowbooklaw03.DeviceFuses", spec := "deviceFuses", inPlace := ["internal/abi.NoEscape", "internal/bytealg.MakeNoZero"], unfollowed := true, recurses := true, named := ["math/bits.deBruijn64tab"], apart := false, laid := [("math/bits.deBruijn64tab", laid_math_bits_deBruijn64tab)] }
def DeviceFusesSaid : Prop := deviceFusesRow.holds Tryd.pinned (OpenSpec.ofChange deviceFusesSpec)

/-- ITS FALSE NEIGHBOUR: 'it returns false'. Refute it at one input. -/
def deviceFusesWrong : ChangeSpec := { name := "deviceFuses", fn := fun _ => fun
  | [d1, d2, d3] => { results := [.lit (.bool false)], args := [d1, d2, d3] }
  | _ => none }
def DeviceFusesWrongFalsely : Prop := deviceFusesRow.holds Tryd.pinned (OpenSpec.ofChange deviceFusesWrong)

/-- 'shadowbooklaw03.DeviceNames': WHATEVER THE INPUT: true; the input reads as it did. -/
def deviceNamesSpec : ChangeSpec := { name := "deviceNames", fn := fun _ => fun
  | [] => { results := [.lit (.bool true)], args := [] }
  | _ => none }
def deviceNamesRow : OpenClaim := { program := "ytpbjbhcejgnhiaadoor", sum := "efb1a8c5e64b4b273be13a593fa7cb5cdf503fc8ba56bac51950b61181f5ef5e", func := "shadowbook/shadowbooklaw03.DeviceNames", spec := "deviceNames", inPlace := ["internal/abi.NoEscape", "internal/bytealg.MakeNoZero"], unfollowed := true, recurses := true, named := ["math/bits.deBruijn64tab"], apart := false, laid := [("math/bits.deBruijn64tab", laid_math_bits_deBruijn64tab)] }
def DeviceNamesSaid : Prop := deviceNamesRow.holds Tryd.pinned (OpenSpec.ofChange deviceNamesSpec)

/-- ITS FALSE NEIGHBOUR: 'it returns false'. Refute it at one input. -/
def deviceNamesWrong : ChangeSpec := { name := "deviceNames", fn := fun _ => fun
  | [] => { results := [.lit (.bool false)], args := [] }
  | _ => none }
def DeviceNamesWrongFalsely : Prop := deviceNamesRow.holds Tryd.pinned (OpenSpec.ofChange deviceNamesWrong)

/-- 'shadowbooklaw03.DeviceRot': WHATEVER THE INPUT: true; the input reads as it did. -/
def deviceRotSpec : ChangeSpec := { name := "deviceRot", fn := fun _ => fun
  | [d1, d2, d3, d4, d5] => { results := [.lit (.bool true)], args := [d1, d2, d3, d4, d5] }
  | _ => none }
def deviceRotRow : OpenClaim := { program := "ytpbjbhcejgnhiaadoor", sum := "efb1a8c5e64b4b273be13a593fa7cb5cdf503fc8ba56bac51950b61181f5ef5e", func := "shadowbook/shadowbooklaw03.DeviceRot", spec := "deviceRot", inPlace := ["internal/abi.NoEscape", "internal/bytealg.MakeNoZero"], unfollowed := true, recurses := true, named := ["math/bits.deBruijn64tab"], apart := false, laid := [("math/bits.deBruijn64tab", laid_math_bits_deBruijn64tab)] }
def DeviceRotSaid : Prop := deviceRotRow.holds Tryd.pinned (OpenSpec.ofChange deviceRotSpec)

/-- ITS FALSE NEIGHBOUR: 'it returns false'. Refute it at one input. -/
def deviceRotWrong : ChangeSpec := { name := "deviceRot", fn := fun _ => fun
  | [d1, d2, d3, d4, d5] => { results := [.lit (.bool false)], args := [d1, d2, d3, d4, d5] }
  | _ => none }
def DeviceRotWrongFalsely : Prop := deviceRotRow.holds Tryd.pinned (OpenSpec.ofChange deviceRotWrong)

/-- 'shadowbooklaw03.DeviceScript': WHATEVER THE INPUT: true; the input reads as it did. -/
def deviceScriptSpec : ChangeSpec := { name := "deviceScript", fn := fun _ => fun
  | [d1, d2] => { results := [.lit (.bool true)], args := [d1, d2] }
  | _ => none }
def deviceScriptRow : OpenClaim := { program := "ytpbjbhcejgnhiaadoor", sum := "efb1a8c5e64b4b273be13a593fa7cb5cdf503fc8ba56bac51950b61181f5ef5e", func := "shadowbook/shadowbooklaw03.DeviceScript", spec := "deviceScript", inPlace := ["internal/abi.NoEscape", "internal/bytealg.MakeNoZero"], unfollowed := true, recurses := true, named := ["math/bits.deBruijn64tab"], apart := false, laid := [("math/bits.deBruijn64tab", laid_math_bits_deBruijn64tab)] }
def DeviceScriptSaid : Prop := deviceScriptRow.holds Tryd.pinned (OpenSpec.ofChange deviceScriptSpec)

/-- ITS FALSE NEIGHBOUR: 'it returns false'. Refute it at one input. -/
def deviceScriptWrong : ChangeSpec := { name := "deviceScript", fn := fun _ => fun
  | [d1, d2] => { results := [.lit (.bool false)], args := [d1, d2] }
  | _ => none }
def DeviceScriptWrongFalsely : Prop := deviceScriptRow.holds Tryd.pinned (OpenSpec.ofChange deviceScriptWrong)

/- THE SECOND FORM. 'bulk': how many values and letters a reading holds, each counted each time it is reached (what is shared counts as often as it is met; a slice's spare places count too). A statement '..UptoSaid' is the law's where the arguments, and the package variables that the reading takes, are together of bulk at most 1048576: NARROWER than '..Said'. Prove '..Said' where nothing that the law and all that it calls make is longer than what came in: it says more and counts as full. Else prove '..UptoSaid'. A law counts once. -/
mutual
def uptoBulk {H : Type} : DataW H → Nat
  | .lit (.string bytes) => bytes.length + 1
  | .lit _ => 1
  | .nil => 1
  | .ptr d => uptoBulk d + 1
  | .slice elems spare => uptoBulkAll elems + uptoBulkAll spare + 1
  | .agg parts => uptoBulkAll parts + 1
  | .iface _ d => uptoBulk d + 1
  | .map entries => uptoBulkEntries entries + 1
  | .held _ => 1
def uptoBulkAll {H : Type} : List (DataW H) → Nat
  | [] => 0
  | d :: r => uptoBulk d + uptoBulkAll r
def uptoBulkEntries {H : Type} : List (Lit × DataW H) → Nat
  | [] => 0
  | x :: r => uptoBulkEntry x + uptoBulkEntries r
def uptoBulkEntry {H : Type} : Lit × DataW H → Nat
  | (.string bytes, d) => bytes.length + uptoBulk d + 1
  | (_, d) => uptoBulk d + 1
 end
def uptoSmall : (H : Type) → List (DataW H) → Bool := fun _ ds => decide (uptoBulkAll ds ≤ 1048576)
def OpenSpec.upto (s : _root_.Go.ChangeSpec) : _root_.Go.OpenSpec := { _root_.Go.OpenSpec.ofChange s with cond := some uptoSmall }

/-- 'shadowbooklaw03.DeviceLast', WHERE WHAT IT READS IS OF BULK AT MOST 1048576: true; the input reads as it did. -/
def deviceLastUptoRow : OpenClaim := { program := "ytpbjbhcejgnhiaadoor", sum := "efb1a8c5e64b4b273be13a593fa7cb5cdf503fc8ba56bac51950b61181f5ef5e", func := "shadowbook/shadowbooklaw03.DeviceLast", spec := "deviceLast", inPlace := ["internal/abi.NoEscape", "internal/bytealg.MakeNoZero"], unfollowed := true, recurses := true, named := ["math/bits.deBruijn64tab"], apart := false, laid := [("math/bits.deBruijn64tab", laid_math_bits_deBruijn64tab)], narrowed := true }
def DeviceLastUptoSaid : Prop := deviceLastUptoRow.holds Tryd.pinned (OpenSpec.upto deviceLastSpec)

/-- 'shadowbooklaw03.DeviceCrash', WHERE WHAT IT READS IS OF BULK AT MOST 1048576: true; the input reads as it did. -/
def deviceCrashUptoRow : OpenClaim := { program := "ytpbjbhcejgnhiaadoor", sum := "efb1a8c5e64b4b273be13a593fa7cb5cdf503fc8ba56bac51950b61181f5ef5e", func := "shadowbook/shadowbooklaw03.DeviceCrash", spec := "deviceCrash", inPlace := ["internal/abi.NoEscape", "internal/bytealg.MakeNoZero"], unfollowed := true, recurses := true, named := ["math/bits.deBruijn64tab"], apart := false, laid := [("math/bits.deBruijn64tab", laid_math_bits_deBruijn64tab)], narrowed := true }
def DeviceCrashUptoSaid : Prop := deviceCrashUptoRow.holds Tryd.pinned (OpenSpec.upto deviceCrashSpec)

/-- 'shadowbooklaw03.DeviceFuses', WHERE WHAT IT READS IS OF BULK AT MOST 1048576: true; the input reads as it did. -/
def deviceFusesUptoRow : OpenClaim := { program := "ytpbjbhcejgnhiaadoor", sum := "efb1a8c5e64b4b273be13a593fa7cb5cdf503fc8ba56bac51950b61181f5ef5e", func := "shadowbook/shadowbooklaw03.DeviceFuses", spec := "deviceFuses", inPlace := ["internal/abi.NoEscape", "internal/bytealg.MakeNoZero"], unfollowed := true, recurses := true, named := ["math/bits.deBruijn64tab"], apart := false, laid := [("math/bits.deBruijn64tab", laid_math_bits_deBruijn64tab)], narrowed := true }
def DeviceFusesUptoSaid : Prop := deviceFusesUptoRow.holds Tryd.pinned (OpenSpec.upto deviceFusesSpec)

/-- 'shadowbooklaw03.DeviceNames', WHERE WHAT IT READS IS OF BULK AT MOST 1048576: true; the input reads as it did. -/
def deviceNamesUptoRow : OpenClaim := { program := "ytpbjbhcejgnhiaadoor", sum := "efb1a8c5e64b4b273be13a593fa7cb5cdf503fc8ba56bac51950b61181f5ef5e", func := "shadowbook/shadowbooklaw03.DeviceNames", spec := "deviceNames", inPlace := ["internal/abi.NoEscape", "internal/bytealg.MakeNoZero"], unfollowed := true, recurses := true, named := ["math/bits.deBruijn64tab"], apart := false, laid := [("math/bits.deBruijn64tab", laid_math_bits_deBruijn64tab)], narrowed := true }
def DeviceNamesUptoSaid : Prop := deviceNamesUptoRow.holds Tryd.pinned (OpenSpec.upto deviceNamesSpec)

/-- 'shadowbooklaw03.DeviceRot', WHERE WHAT IT READS IS OF BULK AT MOST 1048576: true; the input reads as it did. -/
def deviceRotUptoRow : OpenClaim := { program := "ytpbjbhcejgnhiaadoor", sum := "efb1a8c5e64b4b273be13a593fa7cb5cdf503fc8ba56bac51950b61181f5ef5e", func := "shadowbook/shadowbooklaw03.DeviceRot", spec := "deviceRot", inPlace := ["internal/abi.NoEscape", "internal/bytealg.MakeNoZero"], unfollowed := true, recurses := true, named := ["math/bits.deBruijn64tab"], apart := false, laid := [("math/bits.deBruijn64tab", laid_math_bits_deBruijn64tab)], narrowed := true }
def DeviceRotUptoSaid : Prop := deviceRotUptoRow.holds Tryd.pinned (OpenSpec.upto deviceRotSpec)

/-- 'shadowbooklaw03.DeviceScript', WHERE WHAT IT READS IS OF BULK AT MOST 1048576: true; the input reads as it did. -/
def deviceScriptUptoRow : OpenClaim := { program := "ytpbjbhcejgnhiaadoor", sum := "efb1a8c5e64b4b273be13a593fa7cb5cdf503fc8ba56bac51950b61181f5ef5e", func := "shadowbook/shadowbooklaw03.DeviceScript", spec := "deviceScript", inPlace := ["internal/abi.NoEscape", "internal/bytealg.MakeNoZero"], unfollowed := true, recurses := true, named := ["math/bits.deBruijn64tab"], apart := false, laid := [("math/bits.deBruijn64tab", laid_math_bits_deBruijn64tab)], narrowed := true }
def DeviceScriptUptoSaid : Prop := deviceScriptUptoRow.holds Tryd.pinned (OpenSpec.upto deviceScriptSpec)

end Rows
end Go.Proofs.YtpbjbhcejgnhiaaDoor
