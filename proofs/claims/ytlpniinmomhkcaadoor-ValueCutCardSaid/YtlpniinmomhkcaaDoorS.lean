/- The shallow forms of the functions, by a program of mine (wip/tool/gen.py). -/
import Derived.Test.YtlpniinmomhkcaaDoorVE
import Derived.Test.YtlpniinmomhkcaaDoorChecked
set_option linter.unusedVariables false
set_option maxRecDepth 100000
namespace Go.Proofs.YtlpniinmomhkcaaDoor.V
open Go Go.Proofs
theorem mixed : Tryd.prog.follows .mixedOrders = true := by kernel_rfl

/-- shadowbook/shadowbooklaw16.ValueOrder -/
def an3 : Ann := (.seq .nil (.seq (.seq .nil (.cond (.seq .nil .nil) .nil)) (.seq (.seq .nil (.cond (.seq .nil .nil) .nil)) (.seq .nil (.join [] [3, 4, 5, 7, 8, 1000000] (.seq .nil (.cond (.seq .nil .nil) .nil)) (.seq .nil .nil))))))
def S3 (x0_0 : Int) (x0_1 : Int) (x0_2 : ByteArray) (x1_0 : Int) (x1_1 : Int) (x1_2 : ByteArray) (x2_0 : Int) (x2_1 : Int) (x2_2 : ByteArray) (K : Value → WP) : WP := 
  newW (.cells #[(.int .i64 x0_0), (.int .i64 x0_1), (.string x0_2)] 23) fun (r1 : Nat) =>
  newW (.cells #[(.int .i64 x1_0), (.int .i64 x1_1), (.string x1_2)] 23) fun (r2 : Nat) =>
  newW (.cells #[(.int .i64 x2_0), (.int .i64 x2_1), (.string x2_2)] 23) fun (r3 : Nat) =>
  callW Tryd.prog 9 [] (.one (.one .bool)) fun (u4 : Bool) =>
  splitW (!u4) (K (.bool false)) <|
  ldW .str ((⟨r1, 0, none⟩ : Addr).add 2) fun (u5 : ByteArray) =>
  splitW (decide (((u5.size : Nat) : Int) > (400 : Int))) (K (.bool true)) <|
  ldW .str ((⟨r2, 0, none⟩ : Addr).add 2) fun (u6 : ByteArray) =>
  splitW (decide (((u6.size : Nat) : Int) > (400 : Int))) (K (.bool true)) <|
  ldW .str ((⟨r3, 0, none⟩ : Addr).add 2) fun (u7 : ByteArray) =>
  splitW (decide (((u7.size : Nat) : Int) > (400 : Int))) (K (.bool true)) <|
  drewW <|
  ldAW [(.int .i64), (.int .i64), .str] (⟨r1, 0, none⟩ : Addr) fun (u8 : (Int × Int × ByteArray × Unit)) =>
  ldAW [(.int .i64), (.int .i64), .str] (⟨r2, 0, none⟩ : Addr) fun (u9 : (Int × Int × ByteArray × Unit)) =>
  ldAW [(.int .i64), (.int .i64), .str] (⟨r2, 0, none⟩ : Addr) fun (u10 : (Int × Int × ByteArray × Unit)) =>
  ldAW [(.int .i64), (.int .i64), .str] (⟨r3, 0, none⟩ : Addr) fun (u11 : (Int × Int × ByteArray × Unit)) =>
  ldAW [(.int .i64), (.int .i64), .str] (⟨r1, 0, none⟩ : Addr) fun (u12 : (Int × Int × ByteArray × Unit)) =>
  ldAW [(.int .i64), (.int .i64), .str] (⟨r3, 0, none⟩ : Addr) fun (u13 : (Int × Int × ByteArray × Unit)) =>
  callW Tryd.prog 10 [(.agg #[(.int .i64 u8.1), (.int .i64 u8.2.1), (.string u8.2.2.1)]), (.agg #[(.int .i64 u9.1), (.int .i64 u9.2.1), (.string u9.2.2.1)])] (.one (.one (.int .i64))) fun (u14 : Int) =>
  heldW [[((⟨r3, 0, none⟩ : Addr).add 0, (.int .i64 u13.1)), ((⟨r3, 0, none⟩ : Addr).add 1, (.int .i64 u13.2.1)), ((⟨r3, 0, none⟩ : Addr).add 2, (.string u13.2.2.1))], [((⟨r1, 0, none⟩ : Addr).add 0, (.int .i64 u12.1)), ((⟨r1, 0, none⟩ : Addr).add 1, (.int .i64 u12.2.1)), ((⟨r1, 0, none⟩ : Addr).add 2, (.string u12.2.2.1))], [((⟨r3, 0, none⟩ : Addr).add 0, (.int .i64 u11.1)), ((⟨r3, 0, none⟩ : Addr).add 1, (.int .i64 u11.2.1)), ((⟨r3, 0, none⟩ : Addr).add 2, (.string u11.2.2.1))], [((⟨r2, 0, none⟩ : Addr).add 0, (.int .i64 u10.1)), ((⟨r2, 0, none⟩ : Addr).add 1, (.int .i64 u10.2.1)), ((⟨r2, 0, none⟩ : Addr).add 2, (.string u10.2.2.1))]] <|
  callW Tryd.prog 10 [(.agg #[(.int .i64 u10.1), (.int .i64 u10.2.1), (.string u10.2.2.1)]), (.agg #[(.int .i64 u11.1), (.int .i64 u11.2.1), (.string u11.2.2.1)])] (.one (.one (.int .i64))) fun (u15 : Int) =>
  heldW [[((⟨r3, 0, none⟩ : Addr).add 0, (.int .i64 u13.1)), ((⟨r3, 0, none⟩ : Addr).add 1, (.int .i64 u13.2.1)), ((⟨r3, 0, none⟩ : Addr).add 2, (.string u13.2.2.1))], [((⟨r1, 0, none⟩ : Addr).add 0, (.int .i64 u12.1)), ((⟨r1, 0, none⟩ : Addr).add 1, (.int .i64 u12.2.1)), ((⟨r1, 0, none⟩ : Addr).add 2, (.string u12.2.2.1))]] <|
  callW Tryd.prog 10 [(.agg #[(.int .i64 u12.1), (.int .i64 u12.2.1), (.string u12.2.2.1)]), (.agg #[(.int .i64 u13.1), (.int .i64 u13.2.1), (.string u13.2.2.1)])] (.one (.one (.int .i64))) fun (u16 : Int) =>
  joinW (Unit) (fun (J17 : (Unit) → WP) =>
  ldAW [(.int .i64), (.int .i64), .str] (⟨r2, 0, none⟩ : Addr) fun (u19 : (Int × Int × ByteArray × Unit)) =>
  ldAW [(.int .i64), (.int .i64), .str] (⟨r1, 0, none⟩ : Addr) fun (u20 : (Int × Int × ByteArray × Unit)) =>
  callW Tryd.prog 10 [(.agg #[(.int .i64 u19.1), (.int .i64 u19.2.1), (.string u19.2.2.1)]), (.agg #[(.int .i64 u20.1), (.int .i64 u20.2.1), (.string u20.2.2.1)])] (.one (.one (.int .i64))) fun (u21 : Int) =>
  splitW (u14 != (IntKind.wrap .i64 (0 - u21))) (K (.bool false)) <|
  ldAW [(.int .i64), (.int .i64), .str] (⟨r1, 0, none⟩ : Addr) fun (u22 : (Int × Int × ByteArray × Unit)) =>
  ldAW [(.int .i64), (.int .i64), .str] (⟨r2, 0, none⟩ : Addr) fun (u23 : (Int × Int × ByteArray × Unit)) =>
  eqW Tryd.prog (eqS .eql 23 (.tmp 46) (.tmp 47) (.agg #[(.int .i64 u22.1), (.int .i64 u22.2.1), (.string u22.2.2.1)]) (.agg #[(.int .i64 u23.1), (.int .i64 u23.2.1), (.string u23.2.2.1)])) fun (b24 : Bool) =>
  splitW (!((u14 == (0 : Int)) == b24)) (K (.bool false)) <|
  splitW (decide (u14 ≤ (0 : Int))) (splitW (decide (u15 ≤ (0 : Int))) (splitW (decide (u16 > (0 : Int))) (K (.bool false)) <| J17 ()) <| J17 ()) <| J17 ()) fun (y18 : Unit) =>
  ldAW [(.int .i64), (.int .i64), .str] (⟨r1, 0, none⟩ : Addr) fun (u25 : (Int × Int × ByteArray × Unit)) =>
  newW (.cells #[(.int .i64 u25.1), (.int .i64 u25.2.1), (.string u25.2.2.1)] 23) fun (r26 : Nat) =>
  ldAW [(.int .i64), (.int .i64), .str] (⟨r2, 0, none⟩ : Addr) fun (u27 : (Int × Int × ByteArray × Unit)) =>
  newW (.cells #[(.int .i64 u27.1), (.int .i64 u27.2.1), (.string u27.2.2.1)] 23) fun (r28 : Nat) =>
  callW Tryd.prog 11 [(.slice (some (⟨r26, 0, none⟩ : Addr)) 1 1), (.slice (some (⟨r28, 0, none⟩ : Addr)) 1 1)] (.one (.one (.int .i64))) fun (u29 : Int) =>
  splitW (u29 == u14) (ldAW [(.int .i64), (.int .i64), .str] (⟨r1, 0, none⟩ : Addr) fun (u30 : (Int × Int × ByteArray × Unit)) =>
  ldAW [(.int .i64), (.int .i64), .str] (⟨r2, 0, none⟩ : Addr) fun (u31 : (Int × Int × ByteArray × Unit)) =>
  newW (.cells #[(.int .i64 u30.1), (.int .i64 u30.2.1), (.string u30.2.2.1), (.int .i64 u31.1), (.int .i64 u31.2.1), (.string u31.2.2.1)] 23) fun (r32 : Nat) =>
  ldAW [(.int .i64), (.int .i64), .str] (⟨r1, 0, none⟩ : Addr) fun (u33 : (Int × Int × ByteArray × Unit)) =>
  ldAW [(.int .i64), (.int .i64), .str] (⟨r3, 0, none⟩ : Addr) fun (u34 : (Int × Int × ByteArray × Unit)) =>
  newW (.cells #[(.int .i64 u33.1), (.int .i64 u33.2.1), (.string u33.2.2.1), (.int .i64 u34.1), (.int .i64 u34.2.1), (.string u34.2.2.1)] 23) fun (r35 : Nat) =>
  callW Tryd.prog 11 [(.slice (some (⟨r32, 0, none⟩ : Addr)) 2 2), (.slice (some (⟨r35, 0, none⟩ : Addr)) 2 2)] (.one (.one (.int .i64))) fun (u36 : Int) =>
  splitW (u36 == u15) (ldAW [(.int .i64), (.int .i64), .str] (⟨r1, 0, none⟩ : Addr) fun (u37 : (Int × Int × ByteArray × Unit)) =>
  newW (.cells #[(.int .i64 u37.1), (.int .i64 u37.2.1), (.string u37.2.2.1)] 23) fun (r38 : Nat) =>
  ldAW [(.int .i64), (.int .i64), .str] (⟨r1, 0, none⟩ : Addr) fun (u39 : (Int × Int × ByteArray × Unit)) =>
  ldAW [(.int .i64), (.int .i64), .str] (⟨r2, 0, none⟩ : Addr) fun (u40 : (Int × Int × ByteArray × Unit)) =>
  newW (.cells #[(.int .i64 u39.1), (.int .i64 u39.2.1), (.string u39.2.2.1), (.int .i64 u40.1), (.int .i64 u40.2.1), (.string u40.2.2.1)] 23) fun (r41 : Nat) =>
  callW Tryd.prog 11 [(.slice (some (⟨r38, 0, none⟩ : Addr)) 1 1), (.slice (some (⟨r41, 0, none⟩ : Addr)) 2 2)] (.one (.one (.int .i64))) fun (u42 : Int) => K (.bool (u42 == (-1 : Int)))) <| K (.bool false)) <| K (.bool false)
theorem eq3 (x0_0 : Int) (x0_1 : Int) (x0_2 : ByteArray) (x1_0 : Int) (x1_1 : Int) (x1_2 : ByteArray) (x2_0 : Int) (x2_1 : Int) (x2_2 : ByteArray) (K : Value → WP) : bodyW Tryd.prog Tryd.f3 an3 false [(.agg #[(.int .i64 x0_0), (.int .i64 x0_1), (.string x0_2)]), (.agg #[(.int .i64 x1_0), (.int .i64 x1_1), (.string x1_2)]), (.agg #[(.int .i64 x2_0), (.int .i64 x2_1), (.string x2_2)])] K = S3 x0_0 x0_1 x0_2 x1_0 x1_1 x1_2 x2_0 x2_1 x2_2 K := by kernel_rfl
theorem calls3 (x0_0 : Int) (x0_1 : Int) (x0_2 : ByteArray) (x1_0 : Int) (x1_1 : Int) (x1_2 : ByteArray) (x2_0 : Int) (x2_1 : Int) (x2_2 : ByteArray) {K : Value → WP} {w : World} (h : S3 x0_0 x0_1 x0_2 x1_0 x1_1 x1_2 x2_0 x2_1 x2_2 K w) : Calls Tryd.prog 3 #[(.agg #[(.int .i64 x0_0), (.int .i64 x0_1), (.string x0_2)]), (.agg #[(.int .i64 x1_0), (.int .i64 x1_1), (.string x1_2)]), (.agg #[(.int .i64 x2_0), (.int .i64 x2_1), (.string x2_2)])] w (Ret K) := callsR_of_bodyW mixed Tryd.func3 (of_decide_eq_true (by kernel_rfl)) (by rw [eq3]; exact h)

/-- shadowbook/shadowbooklaw16.ValueCut -/
def an4 : Ann := (.seq .nil (.seq (.seq .nil (.cond (.seq .nil .nil) .nil)) (.seq (.seq .nil (.cond (.seq .nil .nil) .nil)) (.seq .nil (.seq .nil (.seq .nil (.seq (.seq .nil (.block (.loop [(7, .sh (.one (.int .i64))), (8, .sh (.one (.int .i64)))] [0, 1, 5, 6, 1000000] (.seq (.seq .nil (.cond .nil .nil)) (.seq (.block (.seq .nil .nil)) .nil))))) (.seq (.seq .nil (.cond (.seq .nil .nil) .nil)) (.seq .nil (.seq .nil (.seq .nil (.seq (.seq .nil (.cond (.seq .nil .nil) .nil)) (.seq .nil .nil)))))))))))))
def S4 (a0 : Option Addr) (n0 c0 : Nat) (x1 : Int) (K : Value → WP) : WP := 
  callW Tryd.prog 9 [] (.one (.one .bool)) fun (u1 : Bool) =>
  splitW (!u1) (K (.bool false)) <|
  callW Tryd.prog 12 [(.slice a0 n0 c0)] (.one (.one .bool)) fun (u2 : Bool) =>
  splitW (!u2) (K (.bool true)) <|
  splitW (((n0 : Nat) : Int) == (0 : Int)) (K (.bool true)) <|
  callW Tryd.prog 13 [(.slice a0 n0 c0)] (.one (.one .str)) fun (u3 : ByteArray) =>
  runW Tryd.prog (Instr.makeMap 31 none) .any fun (u4 : Value) =>
  runUW Tryd.prog (Instr.mapUpdate 31 u4 (.int .i64 (0 : Int)) (.int .i64 (0 : Int))) <|
  loopW (Int × Int × Unit) ((0 : Int), (0 : Int), ()) fun (y6 : Int × Int × Unit) (I5 : (Int × Int × Unit) → WP) =>
  splitW (decide (y6.2.1 < ((n0 : Nat) : Int))) (guardW (0 ≤ y6.2.1 ∧ y6.2.1 ≤ (IntKind.wrap .i64 (y6.2.1 + (1 : Int))) ∧ (IntKind.wrap .i64 (y6.2.1 + (1 : Int))) ≤ ((c0 : Nat) : Int)) <|
  callW Tryd.prog 13 [(.slice (cutAddr a0 (Int.toNat y6.2.1) c0 3) ((Int.toNat (IntKind.wrap .i64 (y6.2.1 + (1 : Int)))) - (Int.toNat y6.2.1)) (c0 - (Int.toNat y6.2.1)))] (.one (.one .str)) fun (u7 : ByteArray) =>
  runUW Tryd.prog (Instr.mapUpdate 31 u4 (.int .i64 (IntKind.wrap .i64 (y6.1 + ((u7.size : Nat) : Int)))) (.int .i64 (IntKind.wrap .i64 (y6.2.1 + (1 : Int))))) <| I5 ((IntKind.wrap .i64 (y6.1 + ((u7.size : Nat) : Int))), (IntKind.wrap .i64 (y6.2.1 + (1 : Int))), ())) <|
  splitW (y6.1 != ((u3.size : Nat) : Int)) (K (.bool false)) <|
  callW Tryd.prog 14 [(.int .i64 x1), (.int .i64 (IntKind.wrap .i64 (((u3.size : Nat) : Int) + (1 : Int))))] (.one (.one (.int .i64))) fun (u8 : Int) =>
  guardW (0 ≤ u8 ∧ u8 ≤ ((u3.size : Nat) : Int)) <|
  callW Tryd.prog 15 [(.string (ByteArray.extract u3 0 (Int.toNat u8)))] (.many [(.one .slc), (.one (.int .i64))]) fun (u9 : (Option Addr × Nat × Nat) × Int × Unit) =>
  runRW Tryd.prog (Instr.lookup 31 u4 (.int .i64 u8) true) (.many [(.one (.int .i64)), (.one .bool)]) fun (u10 : Int × Bool × Unit) =>
  splitW (!u10.2.1) (splitW (u9.2.1 == (160 : Int)) (K (.bool (((u9.1.2.1 : Nat) : Int) == (0 : Int)))) <| K (.bool false)) <|
  splitW (u9.2.1 == (0 : Int)) (newW (.cells #[(.slice u9.1.1 u9.1.2.1 u9.1.2.2)] 27) fun (r11 : Nat) =>
  guardW (0 ≤ u10.1 ∧ u10.1 ≤ ((c0 : Nat) : Int)) <|
  newW (.cells #[(.slice (cutAddr a0 0 c0 3) (Int.toNat u10.1) c0)] 27) fun (r12 : Nat) =>
  callW Tryd.prog 16 [(.slice (some (⟨r11, 0, none⟩ : Addr)) 1 1), (.slice (some (⟨r12, 0, none⟩ : Addr)) 1 1)] (.one (.one .bool)) fun (u13 : Bool) => K (.bool u13)) <| K (.bool false)
theorem eq4 (a0 : Option Addr) (n0 c0 : Nat) (x1 : Int) (K : Value → WP) : bodyW Tryd.prog Tryd.f4 an4 false [(.slice a0 n0 c0), (.int .i64 x1)] K = S4 a0 n0 c0 x1 K := by kernel_rfl
theorem calls4 (a0 : Option Addr) (n0 c0 : Nat) (x1 : Int) {K : Value → WP} {w : World} (h : S4 a0 n0 c0 x1 K w) : Calls Tryd.prog 4 #[(.slice a0 n0 c0), (.int .i64 x1)] w (Ret K) := callsR_of_bodyW mixed Tryd.func4 (of_decide_eq_true (by kernel_rfl)) (by rw [eq4]; exact h)

/-- shadowbook/shadowbooklaw16.ValueKeys -/
def an5 : Ann := (.seq .nil (.seq (.seq .nil (.cond (.seq .nil .nil) .nil)) (.seq (.seq .nil (.cond (.seq .nil .nil) .nil)) (.seq .nil (.seq .nil (.join [(7, .sh (.one (.int .i64)))] [0, 1, 5, 6, 1000000] (.seq .nil (.cond .nil (.seq .nil (.cond .nil .nil)))) (.seq .nil (.seq .nil (.seq .nil .nil)))))))))
def S5 (a0 : Option Addr) (n0 c0 : Nat) (a1 : Option Addr) (n1 c1 : Nat) (K : Value → WP) : WP := 
  callW Tryd.prog 9 [] (.one (.one .bool)) fun (u1 : Bool) =>
  splitW (!u1) (K (.bool false)) <|
  callW Tryd.prog 12 [(.slice a0 n0 c0)] (.one (.one .bool)) fun (u2 : Bool) =>
  splitW (!u2) (K (.bool true)) <|
  callW Tryd.prog 12 [(.slice a1 n1 c1)] (.one (.one .bool)) fun (u3 : Bool) =>
  splitW (!u3) (K (.bool true)) <|
  callW Tryd.prog 13 [(.slice a0 n0 c0)] (.one (.one .str)) fun (u4 : ByteArray) =>
  callW Tryd.prog 13 [(.slice a1 n1 c1)] (.one (.one .str)) fun (u5 : ByteArray) =>
  joinW (Int × Unit) (fun (J6 : (Int × Unit) → WP) =>
  splitW (Op.bytesLess u4.toList u5.toList) (J6 ((-1 : Int), ())) <|
  splitW (!((Op.bytesLess u4.toList u5.toList) || (u4.toList == u5.toList))) (J6 ((1 : Int), ())) <| J6 ((0 : Int), ())) fun (y7 : Int × Unit) =>
  callW Tryd.prog 15 [(.string u4)] (.many [(.one .slc), (.one (.int .i64))]) fun (u8 : (Option Addr × Nat × Nat) × Int × Unit) =>
  newW (.cells #[] 23) fun (r9 : Nat) =>
  runW Tryd.prog (Builtin.append_ #[27, 27] 27 #[(.slice (some (⟨r9, 0, none⟩ : Addr)) 0 0), (.slice a0 n0 c0)]) .slc fun (u10 : (Option Addr × Nat × Nat)) =>
  runW Tryd.prog (Builtin.append_ #[27, 27] 27 #[(.slice u10.1 u10.2.1 u10.2.2), (.slice a1 n1 c1)]) .slc fun (u11 : (Option Addr × Nat × Nat)) =>
  callW Tryd.prog 11 [(.slice a0 n0 c0), (.slice a1 n1 c1)] (.one (.one (.int .i64))) fun (u12 : Int) =>
  splitW (y7.1 == u12) (splitW (u8.2.1 == (0 : Int)) (newW (.cells #[(.slice u8.1.1 u8.1.2.1 u8.1.2.2)] 27) fun (r13 : Nat) =>
  newW (.cells #[(.slice a0 n0 c0)] 27) fun (r14 : Nat) =>
  callW Tryd.prog 16 [(.slice (some (⟨r13, 0, none⟩ : Addr)) 1 1), (.slice (some (⟨r14, 0, none⟩ : Addr)) 1 1)] (.one (.one .bool)) fun (u15 : Bool) =>
  splitW u15 (callW Tryd.prog 13 [(.slice u11.1 u11.2.1 u11.2.2)] (.one (.one .str)) fun (u16 : ByteArray) =>
  guardW (((u4.size + u5.size : Nat) : Int) ≤ IntKind.i64.max) <| K (.bool (u16.toList == (u4 ++ u5).toList))) <| K (.bool false)) <| K (.bool false)) <| K (.bool false)
theorem eq5 (a0 : Option Addr) (n0 c0 : Nat) (a1 : Option Addr) (n1 c1 : Nat) (K : Value → WP) : bodyW Tryd.prog Tryd.f5 an5 false [(.slice a0 n0 c0), (.slice a1 n1 c1)] K = S5 a0 n0 c0 a1 n1 c1 K := by kernel_rfl
theorem calls5 (a0 : Option Addr) (n0 c0 : Nat) (a1 : Option Addr) (n1 c1 : Nat) {K : Value → WP} {w : World} (h : S5 a0 n0 c0 a1 n1 c1 K w) : Calls Tryd.prog 5 #[(.slice a0 n0 c0), (.slice a1 n1 c1)] w (Ret K) := callsR_of_bodyW mixed Tryd.func5 (of_decide_eq_true (by kernel_rfl)) (by rw [eq5]; exact h)

/-- shadowbook/shadowbooklaw16.ValueTexts -/
def an6 : Ann := (.seq .nil (.seq (.seq .nil (.cond (.seq .nil .nil) .nil)) (.seq (.seq .nil (.cond (.seq .nil .nil) .nil)) (.seq .nil (.seq .nil (.seq (.seq .nil (.cond (.seq .nil .nil) .nil)) (.seq (.seq .nil (.cond (.seq .nil .nil) .nil)) (.seq .nil .nil))))))))
def S6 (x0_0 : Int) (x0_1 : Int) (x0_2 : ByteArray) (x1_0 : Int) (x1_1 : Int) (x1_2 : ByteArray) (x2 : ByteArray) (K : Value → WP) : WP := 
  newW (.cells #[(.int .i64 x0_0), (.int .i64 x0_1), (.string x0_2)] 23) fun (r1 : Nat) =>
  newW (.cells #[(.int .i64 x1_0), (.int .i64 x1_1), (.string x1_2)] 23) fun (r2 : Nat) =>
  callW Tryd.prog 9 [] (.one (.one .bool)) fun (u3 : Bool) =>
  splitW (!u3) (K (.bool false)) <|
  ldAW [(.int .i64), (.int .i64), .str] (⟨r1, 0, none⟩ : Addr) fun (u4 : (Int × Int × ByteArray × Unit)) =>
  ldAW [(.int .i64), (.int .i64), .str] (⟨r2, 0, none⟩ : Addr) fun (u5 : (Int × Int × ByteArray × Unit)) =>
  newW (.cells #[(.int .i64 u4.1), (.int .i64 u4.2.1), (.string u4.2.2.1), (.int .i64 u5.1), (.int .i64 u5.2.1), (.string u5.2.2.1)] 23) fun (r6 : Nat) =>
  callW Tryd.prog 12 [(.slice (some (⟨r6, 0, none⟩ : Addr)) 2 2)] (.one (.one .bool)) fun (u7 : Bool) =>
  splitW (!u7) (K (.bool true)) <|
  splitW (decide (((x2.size : Nat) : Int) > (400 : Int))) (K (.bool true)) <|
  ldAW [(.int .i64), (.int .i64), .str] (⟨r1, 0, none⟩ : Addr) fun (u8 : (Int × Int × ByteArray × Unit)) =>
  callW Tryd.prog 18 [(.agg #[(.int .i64 u8.1), (.int .i64 u8.2.1), (.string u8.2.2.1)])] (.one (.one .str)) fun (u9 : ByteArray) =>
  callW Tryd.prog 17 [(.string u9)] (.many [(.agg [(.int .i64), (.int .i64), .str]), (.one (.int .i64))]) fun (u10 : (Int × Int × ByteArray × Unit) × Int × Unit) =>
  newW (.cells #[(.int .i64 (0 : Int)), (.int .i64 (0 : Int)), (.string ByteArray.empty)] 23) fun (r11 : Nat) =>
  guardW ((#[(.int .i64 u10.1.1), (.int .i64 u10.1.2.1), (.string u10.1.2.2.1)] : Array Value).size = 3) <|
  stAW (⟨r11, 0, none⟩ : Addr) [(.int .i64 u10.1.1), (.int .i64 u10.1.2.1), (.string u10.1.2.2.1)] <|
  callW Tryd.prog 17 [(.string x2)] (.many [(.agg [(.int .i64), (.int .i64), .str]), (.one (.int .i64))]) fun (u12 : (Int × Int × ByteArray × Unit) × Int × Unit) =>
  newW (.cells #[(.int .i64 (0 : Int)), (.int .i64 (0 : Int)), (.string ByteArray.empty)] 23) fun (r13 : Nat) =>
  guardW ((#[(.int .i64 u12.1.1), (.int .i64 u12.1.2.1), (.string u12.1.2.2.1)] : Array Value).size = 3) <|
  stAW (⟨r13, 0, none⟩ : Addr) [(.int .i64 u12.1.1), (.int .i64 u12.1.2.1), (.string u12.1.2.2.1)] <|
  drewW <|
  splitW (u10.2.1 != (0 : Int)) (K (.bool false)) <|
  ldAW [(.int .i64), (.int .i64), .str] (⟨r11, 0, none⟩ : Addr) fun (u14 : (Int × Int × ByteArray × Unit)) =>
  ldAW [(.int .i64), (.int .i64), .str] (⟨r1, 0, none⟩ : Addr) fun (u15 : (Int × Int × ByteArray × Unit)) =>
  eqW Tryd.prog (eqS .neq 23 (.tmp 37) (.tmp 38) (.agg #[(.int .i64 u14.1), (.int .i64 u14.2.1), (.string u14.2.2.1)]) (.agg #[(.int .i64 u15.1), (.int .i64 u15.2.1), (.string u15.2.2.1)])) fun (b16 : Bool) =>
  splitW b16 (K (.bool false)) <|
  ldAW [(.int .i64), (.int .i64), .str] (⟨r1, 0, none⟩ : Addr) fun (u17 : (Int × Int × ByteArray × Unit)) =>
  ldAW [(.int .i64), (.int .i64), .str] (⟨r2, 0, none⟩ : Addr) fun (u18 : (Int × Int × ByteArray × Unit)) =>
  ldAW [(.int .i64), (.int .i64), .str] (⟨r1, 0, none⟩ : Addr) fun (u19 : (Int × Int × ByteArray × Unit)) =>
  ldAW [(.int .i64), (.int .i64), .str] (⟨r2, 0, none⟩ : Addr) fun (u20 : (Int × Int × ByteArray × Unit)) =>
  eqW Tryd.prog (eqS .eql 23 (.tmp 47) (.tmp 48) (.agg #[(.int .i64 u19.1), (.int .i64 u19.2.1), (.string u19.2.2.1)]) (.agg #[(.int .i64 u20.1), (.int .i64 u20.2.1), (.string u20.2.2.1)])) fun (b21 : Bool) =>
  callW Tryd.prog 18 [(.agg #[(.int .i64 u17.1), (.int .i64 u17.2.1), (.string u17.2.2.1)])] (.one (.one .str)) fun (u22 : ByteArray) =>
  heldW [[((⟨r2, 0, none⟩ : Addr).add 0, (.int .i64 u20.1)), ((⟨r2, 0, none⟩ : Addr).add 1, (.int .i64 u20.2.1)), ((⟨r2, 0, none⟩ : Addr).add 2, (.string u20.2.2.1))], [((⟨r1, 0, none⟩ : Addr).add 0, (.int .i64 u19.1)), ((⟨r1, 0, none⟩ : Addr).add 1, (.int .i64 u19.2.1)), ((⟨r1, 0, none⟩ : Addr).add 2, (.string u19.2.2.1))], [((⟨r2, 0, none⟩ : Addr).add 0, (.int .i64 u18.1)), ((⟨r2, 0, none⟩ : Addr).add 1, (.int .i64 u18.2.1)), ((⟨r2, 0, none⟩ : Addr).add 2, (.string u18.2.2.1))]] <|
  callW Tryd.prog 18 [(.agg #[(.int .i64 u18.1), (.int .i64 u18.2.1), (.string u18.2.2.1)])] (.one (.one .str)) fun (u23 : ByteArray) =>
  heldW [[((⟨r2, 0, none⟩ : Addr).add 0, (.int .i64 u20.1)), ((⟨r2, 0, none⟩ : Addr).add 1, (.int .i64 u20.2.1)), ((⟨r2, 0, none⟩ : Addr).add 2, (.string u20.2.2.1))], [((⟨r1, 0, none⟩ : Addr).add 0, (.int .i64 u19.1)), ((⟨r1, 0, none⟩ : Addr).add 1, (.int .i64 u19.2.1)), ((⟨r1, 0, none⟩ : Addr).add 2, (.string u19.2.2.1))]] <|
  splitW (!((u22.toList == u23.toList) == b21)) (K (.bool false)) <|
  splitW (u12.2.1 != (0 : Int)) (ldAW [(.int .i64), (.int .i64), .str] (⟨r13, 0, none⟩ : Addr) fun (u24 : (Int × Int × ByteArray × Unit)) =>
  eqW Tryd.prog (eqS .eql 23 (.tmp 54) (.tmp 55) (.agg #[(.int .i64 u24.1), (.int .i64 u24.2.1), (.string u24.2.2.1)]) (.agg #[(.int .i64 (0 : Int)), (.int .i64 (0 : Int)), (.string ByteArray.empty)])) fun (b25 : Bool) => K (.bool b25)) <|
  ldAW [(.int .i64), (.int .i64), .str] (⟨r13, 0, none⟩ : Addr) fun (u26 : (Int × Int × ByteArray × Unit)) =>
  callW Tryd.prog 19 [(.agg #[(.int .i64 u26.1), (.int .i64 u26.2.1), (.string u26.2.2.1)])] (.one (.one (.int .i64))) fun (u27 : Int) =>
  splitW (u27 == (0 : Int)) (ldAW [(.int .i64), (.int .i64), .str] (⟨r13, 0, none⟩ : Addr) fun (u28 : (Int × Int × ByteArray × Unit)) =>
  callW Tryd.prog 18 [(.agg #[(.int .i64 u28.1), (.int .i64 u28.2.1), (.string u28.2.2.1)])] (.one (.one .str)) fun (u29 : ByteArray) => K (.bool (u29.toList == x2.toList))) <| K (.bool false)
theorem eq6 (x0_0 : Int) (x0_1 : Int) (x0_2 : ByteArray) (x1_0 : Int) (x1_1 : Int) (x1_2 : ByteArray) (x2 : ByteArray) (K : Value → WP) : bodyW Tryd.prog Tryd.f6 an6 false [(.agg #[(.int .i64 x0_0), (.int .i64 x0_1), (.string x0_2)]), (.agg #[(.int .i64 x1_0), (.int .i64 x1_1), (.string x1_2)]), (.string x2)] K = S6 x0_0 x0_1 x0_2 x1_0 x1_1 x1_2 x2 K := by kernel_rfl
theorem calls6 (x0_0 : Int) (x0_1 : Int) (x0_2 : ByteArray) (x1_0 : Int) (x1_1 : Int) (x1_2 : ByteArray) (x2 : ByteArray) {K : Value → WP} {w : World} (h : S6 x0_0 x0_1 x0_2 x1_0 x1_1 x1_2 x2 K w) : Calls Tryd.prog 6 #[(.agg #[(.int .i64 x0_0), (.int .i64 x0_1), (.string x0_2)]), (.agg #[(.int .i64 x1_0), (.int .i64 x1_1), (.string x1_2)]), (.string x2)] w (Ret K) := callsR_of_bodyW mixed Tryd.func6 (of_decide_eq_true (by kernel_rfl)) (by rw [eq6]; exact h)

/-- shadowbook/shadowbooklaw16.ValueNames -/
def an7 : Ann := (.seq .nil (.seq (.seq .nil (.cond (.seq .nil .nil) .nil)) (.seq .nil (.seq .nil (.seq (.seq .nil (.block (.loop [(3, .sh (.one .bool)), (19, .sh (.one (.int .i64)))] [1, 2, 17, 18, 1000000] (.seq .nil (.seq (.cond .nil .nil) (.seq (.block (.seq .nil (.seq .nil .nil))) .nil)))))) (.seq (.seq .nil (.block (.loop [(3, .sh (.one .bool)), (36, .sh (.one (.int .i64)))] [1, 2, 34, 35, 1000000] (.seq .nil (.seq (.cond .nil .nil) (.seq (.block (.seq .nil .nil)) .nil)))))) (.join [(10, .sh (.one .bool))] [1, 2, 3, 1000000] .nil (.join [(0, .sh (.one .bool))] [1000000] .nil .nil))))))))
def S7  (K : Value → WP) : WP := 
  callW Tryd.prog 9 [] (.one (.one .bool)) fun (u1 : Bool) =>
  splitW (!u1) (K (.bool false)) <|
  callW Tryd.prog 15 [(.string (ByteArray.mk #[0, 2, 1, 3, 0, 0]))] (.many [(.one .slc), (.one (.int .i64))]) fun (u2 : (Option Addr × Nat × Nat) × Int × Unit) =>
  newW (.cells #[(.string (ByteArray.mk #[4])), (.string (ByteArray.mk #[2, 2])), (.string (ByteArray.mk #[1, 0])), (.string (ByteArray.mk #[3, 97])), (.string (ByteArray.mk #[3, 0, 1])), (.string (ByteArray.mk #[3, 97, 0]))] 9) fun (r3 : Nat) =>
  loopW (Bool × Int × Unit) (true, (0 : Int), ()) fun (y5 : Bool × Int × Unit) (I4 : (Bool × Int × Unit) → WP) =>
  splitW (decide (y5.2.1 < ((6 : Nat) : Int))) (guardW (0 ≤ y5.2.1 ∧ y5.2.1 < ((6 : Nat) : Int)) <|
  ptrW (some (⟨r3, 0, none⟩ : Addr)) fun (p6 : Addr) =>
  ldW .str (p6.add (Int.toNat y5.2.1 * 1)) fun (u7 : ByteArray) =>
  callW Tryd.prog 15 [(.string u7)] (.many [(.one .slc), (.one (.int .i64))]) fun (u8 : (Option Addr × Nat × Nat) × Int × Unit) =>
  splitW y5.1 (I4 ((u8.2.1 == (160 : Int)), (IntKind.wrap .i64 (y5.2.1 + (1 : Int))), ())) <| I4 (false, (IntKind.wrap .i64 (y5.2.1 + (1 : Int))), ())) <|
  newW (.cells #[(.string (ByteArray.mk #[])), (.string (ByteArray.mk #[48, 49])), (.string (ByteArray.mk #[43, 49])), (.string (ByteArray.mk #[45, 48])), (.string (ByteArray.mk #[110, 117, 108])), (.string (ByteArray.mk #[34, 97])), (.string (ByteArray.mk #[34, 92, 120, 52, 49, 34])), (.string (ByteArray.mk #[34, 92, 120, 70, 70, 34])), (.string (ByteArray.mk #[57, 50, 50, 51, 51, 55, 50, 48, 51, 54, 56, 53, 52, 55, 55, 53, 56, 48, 56])), (.string (ByteArray.mk #[34, 34, 34]))] 9) fun (r9 : Nat) =>
  loopW (Bool × Int × Unit) (y5.1, (0 : Int), ()) fun (y11 : Bool × Int × Unit) (I10 : (Bool × Int × Unit) → WP) =>
  splitW (decide (y11.2.1 < ((10 : Nat) : Int))) (guardW (0 ≤ y11.2.1 ∧ y11.2.1 < ((10 : Nat) : Int)) <|
  ptrW (some (⟨r9, 0, none⟩ : Addr)) fun (p12 : Addr) =>
  ldW .str (p12.add (Int.toNat y11.2.1 * 1)) fun (u13 : ByteArray) =>
  splitW y11.1 (callW Tryd.prog 20 [(.string u13)] (.one (.one .bool)) fun (u14 : Bool) => I10 (u14, (IntKind.wrap .i64 (y11.2.1 + (1 : Int))), ())) <| I10 (false, (IntKind.wrap .i64 (y11.2.1 + (1 : Int))), ())) <|
  joinW (Bool × Unit) (fun (J15 : (Bool × Unit) → WP) =>
  callW Tryd.prog 21 [(.string (ByteArray.mk #[110, 117, 108, 108])), (.agg #[(.int .i64 (0 : Int)), (.int .i64 (0 : Int)), (.string ByteArray.empty)])] (.one (.one .bool)) fun (u17 : Bool) =>
  splitW u17 (callW Tryd.prog 22 [(.bool true)] (.one (.agg [(.int .i64), (.int .i64), .str])) fun (u18 : (Int × Int × ByteArray × Unit)) =>
  callW Tryd.prog 21 [(.string (ByteArray.mk #[116, 114, 117, 101])), (.agg #[(.int .i64 u18.1), (.int .i64 u18.2.1), (.string u18.2.2.1)])] (.one (.one .bool)) fun (u19 : Bool) =>
  splitW u19 (callW Tryd.prog 22 [(.bool false)] (.one (.agg [(.int .i64), (.int .i64), .str])) fun (u20 : (Int × Int × ByteArray × Unit)) =>
  callW Tryd.prog 21 [(.string (ByteArray.mk #[102, 97, 108, 115, 101])), (.agg #[(.int .i64 u20.1), (.int .i64 u20.2.1), (.string u20.2.2.1)])] (.one (.one .bool)) fun (u21 : Bool) =>
  splitW u21 (callW Tryd.prog 23 [(.int .i64 (-9223372036854775808 : Int))] (.one (.agg [(.int .i64), (.int .i64), .str])) fun (u22 : (Int × Int × ByteArray × Unit)) =>
  callW Tryd.prog 21 [(.string (ByteArray.mk #[45, 57, 50, 50, 51, 51, 55, 50, 48, 51, 54, 56, 53, 52, 55, 55, 53, 56, 48, 56])), (.agg #[(.int .i64 u22.1), (.int .i64 u22.2.1), (.string u22.2.2.1)])] (.one (.one .bool)) fun (u23 : Bool) =>
  splitW u23 (callW Tryd.prog 24 [(.string (ByteArray.mk #[]))] (.one (.agg [(.int .i64), (.int .i64), .str])) fun (u24 : (Int × Int × ByteArray × Unit)) =>
  callW Tryd.prog 21 [(.string (ByteArray.mk #[34, 34])), (.agg #[(.int .i64 u24.1), (.int .i64 u24.2.1), (.string u24.2.2.1)])] (.one (.one .bool)) fun (u25 : Bool) =>
  splitW u25 (callW Tryd.prog 24 [(.string (ByteArray.mk #[97, 34, 92, 255]))] (.one (.agg [(.int .i64), (.int .i64), .str])) fun (u26 : (Int × Int × ByteArray × Unit)) =>
  callW Tryd.prog 21 [(.string (ByteArray.mk #[34, 97, 92, 120, 50, 50, 92, 120, 53, 99, 92, 120, 102, 102, 34])), (.agg #[(.int .i64 u26.1), (.int .i64 u26.2.1), (.string u26.2.2.1)])] (.one (.one .bool)) fun (u27 : Bool) => J15 (u27, ())) <| J15 (false, ())) <| J15 (false, ())) <| J15 (false, ())) <| J15 (false, ())) <| J15 (false, ())) fun (y16 : Bool × Unit) =>
  joinW (Bool × Unit) (fun (J28 : (Bool × Unit) → WP) =>
  splitW y11.1 (splitW y16.1 (splitW (u2.2.1 == (0 : Int)) (newW (.cells #[(.slice u2.1.1 u2.1.2.1 u2.1.2.2)] 27) fun (r30 : Nat) =>
  callW Tryd.prog 22 [(.bool true)] (.one (.agg [(.int .i64), (.int .i64), .str])) fun (u31 : (Int × Int × ByteArray × Unit)) =>
  callW Tryd.prog 24 [(.string (ByteArray.mk #[]))] (.one (.agg [(.int .i64), (.int .i64), .str])) fun (u32 : (Int × Int × ByteArray × Unit)) =>
  newW (.cells #[(.int .i64 (0 : Int)), (.int .i64 (0 : Int)), (.string ByteArray.empty), (.int .i64 u31.1), (.int .i64 u31.2.1), (.string u31.2.2.1), (.int .i64 u32.1), (.int .i64 u32.2.1), (.string u32.2.2.1)] 23) fun (r33 : Nat) =>
  newW (.cells #[(.slice (some (⟨r33, 0, none⟩ : Addr)) 3 3)] 27) fun (r34 : Nat) =>
  callW Tryd.prog 16 [(.slice (some (⟨r30, 0, none⟩ : Addr)) 1 1), (.slice (some (⟨r34, 0, none⟩ : Addr)) 1 1)] (.one (.one .bool)) fun (u35 : Bool) =>
  splitW u35 (callW Tryd.prog 19 [(.agg #[(.int .i64 (4 : Int)), (.int .i64 (0 : Int)), (.string ByteArray.empty)])] (.one (.one (.int .i64))) fun (u36 : Int) =>
  splitW (u36 == (160 : Int)) (callW Tryd.prog 19 [(.agg #[(.int .i64 (2 : Int)), (.int .i64 (2 : Int)), (.string ByteArray.empty)])] (.one (.one (.int .i64))) fun (u37 : Int) =>
  splitW (u37 == (160 : Int)) (callW Tryd.prog 19 [(.agg #[(.int .i64 (0 : Int)), (.int .i64 (1 : Int)), (.string ByteArray.empty)])] (.one (.one (.int .i64))) fun (u38 : Int) =>
  splitW (u38 == (160 : Int)) (newW (.cells #[(.int .i64 (9 : Int)), (.int .i64 (0 : Int)), (.string ByteArray.empty)] 23) fun (r39 : Nat) =>
  callW Tryd.prog 13 [(.slice (some (⟨r39, 0, none⟩ : Addr)) 1 1)] (.one (.one .str)) fun (u40 : ByteArray) =>
  splitW (u40.toList == (ByteArray.mk #[]).toList) (callW Tryd.prog 18 [(.agg #[(.int .i64 (9 : Int)), (.int .i64 (0 : Int)), (.string ByteArray.empty)])] (.one (.one .str)) fun (u41 : ByteArray) =>
  splitW (u41.toList == (ByteArray.mk #[]).toList) (callW Tryd.prog 23 [(.int .i64 (-5 : Int))] (.one (.agg [(.int .i64), (.int .i64), .str])) fun (u42 : (Int × Int × ByteArray × Unit)) =>
  callW Tryd.prog 10 [(.agg #[(.int .i64 (0 : Int)), (.int .i64 (0 : Int)), (.string ByteArray.empty)]), (.agg #[(.int .i64 u42.1), (.int .i64 u42.2.1), (.string u42.2.2.1)])] (.one (.one (.int .i64))) fun (u43 : Int) =>
  splitW (u43 == (-1 : Int)) (callW Tryd.prog 24 [(.string (ByteArray.mk #[98]))] (.one (.agg [(.int .i64), (.int .i64), .str])) fun (u44 : (Int × Int × ByteArray × Unit)) =>
  callW Tryd.prog 24 [(.string (ByteArray.mk #[97, 98]))] (.one (.agg [(.int .i64), (.int .i64), .str])) fun (u45 : (Int × Int × ByteArray × Unit)) =>
  callW Tryd.prog 10 [(.agg #[(.int .i64 u44.1), (.int .i64 u44.2.1), (.string u44.2.2.1)]), (.agg #[(.int .i64 u45.1), (.int .i64 u45.2.1), (.string u45.2.2.1)])] (.one (.one (.int .i64))) fun (u46 : Int) =>
  splitW (u46 == (1 : Int)) (newW (.cells #[(.int .i64 (0 : Int)), (.int .i64 (0 : Int)), (.string ByteArray.empty)] 23) fun (r47 : Nat) =>
  newW (.cells #[(.int .i64 (0 : Int)), (.int .i64 (0 : Int)), (.string ByteArray.empty), (.int .i64 (0 : Int)), (.int .i64 (0 : Int)), (.string ByteArray.empty)] 23) fun (r48 : Nat) =>
  callW Tryd.prog 11 [(.slice (some (⟨r47, 0, none⟩ : Addr)) 1 1), (.slice (some (⟨r48, 0, none⟩ : Addr)) 2 2)] (.one (.one (.int .i64))) fun (u49 : Int) =>
  splitW (u49 == (-1 : Int)) (callW Tryd.prog 11 [(.slice none 0 0), (.slice none 0 0)] (.one (.one (.int .i64))) fun (u50 : Int) => J28 ((u50 == (0 : Int)), ())) <| J28 (false, ())) <| J28 (false, ())) <| J28 (false, ())) <| J28 (false, ())) <| J28 (false, ())) <| J28 (false, ())) <| J28 (false, ())) <| J28 (false, ())) <| J28 (false, ())) <| J28 (false, ())) <| J28 (false, ())) <| J28 (false, ())) fun (y29 : Bool × Unit) => K (.bool y29.1)
theorem eq7  (K : Value → WP) : bodyW Tryd.prog Tryd.f7 an7 false [] K = S7  K := by kernel_rfl
theorem calls7  {K : Value → WP} {w : World} (h : S7  K w) : Calls Tryd.prog 7 #[] w (Ret K) := callsR_of_bodyW mixed Tryd.func7 (of_decide_eq_true (by kernel_rfl)) (by rw [eq7]; exact h)

/-- shadowbook/shadowbooklaw16.ValueCalls -/
def an8 : Ann := (.seq .nil (.seq (.seq .nil (.cond (.seq .nil .nil) .nil)) (.seq (.join [(48, .sh (.one .bool))] [0, 1, 2, 3, 1000000] .nil (.cond (.seq .nil .nil) .nil)) (.seq .nil (.seq .nil (.seq .nil (.seq .nil (.seq (.seq .nil (.block (.loop [(17, .sh (.one (.int .i64)))] [0, 1, 9, 10, 11, 12, 13, 14, 15, 16, 1000000] (.seq (.seq .nil (.cond .nil .nil)) (.seq (.block (.seq (.seq .nil (.cond (.seq .nil .nil) .nil)) (.seq .nil (.block (.loop [(18, .sh (.one (.int .i64)))] [0, 1, 9, 10, 11, 12, 13, 14, 15, 16, 17, 1000000] (.seq (.seq .nil (.cond .nil .nil)) (.seq (.block (.seq .nil (.cond (.seq .nil .nil) .nil))) .nil))))))) .nil))))) (.seq .nil .nil)))))))))
def S8 (a0 : Option Addr) (n0 c0 : Nat) (a1 : Option Addr) (n1 c1 : Nat) (x2 : ByteArray) (x3 : ByteArray) (K : Value → WP) : WP := 
  callW Tryd.prog 9 [] (.one (.one .bool)) fun (u1 : Bool) =>
  splitW (!u1) (K (.bool false)) <|
  joinW (Bool × Unit) (fun (J2 : (Bool × Unit) → WP) =>
  splitW (decide (((n0 : Nat) : Int) > (20 : Int))) (J2 (true, ())) <|
  splitW (decide (((n1 : Nat) : Int) > (20 : Int))) (J2 (true, ())) <|
  splitW (decide (((x2.size : Nat) : Int) > (400 : Int))) (J2 (true, ())) <|
  splitW (decide (((x3.size : Nat) : Int) > (400 : Int))) (J2 (true, ())) <|
  callW Tryd.prog 25 [(.slice a0 n0 c0)] (.one (.one .bool)) fun (u4 : Bool) =>
  splitW (!u4) (J2 (true, ())) <|
  callW Tryd.prog 25 [(.slice a1 n1 c1)] (.one (.one .bool)) fun (u5 : Bool) => J2 ((!u5), ())) fun (y3 : Bool × Unit) =>
  splitW y3.1 (K (.bool true)) <|
  callW Tryd.prog 15 [(.string x2)] (.many [(.one .slc), (.one (.int .i64))]) fun (u6 : (Option Addr × Nat × Nat) × Int × Unit) =>
  callW Tryd.prog 26 [(.string x2)] (.many [(.one .slc), (.one (.int .i64))]) fun (u7 : (Option Addr × Nat × Nat) × Int × Unit) =>
  callW Tryd.prog 17 [(.string x3)] (.many [(.agg [(.int .i64), (.int .i64), .str]), (.one (.int .i64))]) fun (u8 : (Int × Int × ByteArray × Unit) × Int × Unit) =>
  newW (.cells #[(.int .i64 (0 : Int)), (.int .i64 (0 : Int)), (.string ByteArray.empty)] 23) fun (r9 : Nat) =>
  guardW ((#[(.int .i64 u8.1.1), (.int .i64 u8.1.2.1), (.string u8.1.2.2.1)] : Array Value).size = 3) <|
  stAW (⟨r9, 0, none⟩ : Addr) [(.int .i64 u8.1.1), (.int .i64 u8.1.2.1), (.string u8.1.2.2.1)] <|
  callW Tryd.prog 27 [(.string x3)] (.many [(.agg [(.int .i64), (.int .i64), .str]), (.one (.int .i64))]) fun (u10 : (Int × Int × ByteArray × Unit) × Int × Unit) =>
  newW (.cells #[(.int .i64 (0 : Int)), (.int .i64 (0 : Int)), (.string ByteArray.empty)] 23) fun (r11 : Nat) =>
  guardW ((#[(.int .i64 u10.1.1), (.int .i64 u10.1.2.1), (.string u10.1.2.2.1)] : Array Value).size = 3) <|
  stAW (⟨r11, 0, none⟩ : Addr) [(.int .i64 u10.1.1), (.int .i64 u10.1.2.1), (.string u10.1.2.2.1)] <|
  loopW (Int × Unit) ((0 : Int), ()) fun (y13 : Int × Unit) (I12 : (Int × Unit) → WP) =>
  splitW (decide (y13.1 < ((n0 : Nat) : Int))) (drewW <|
  guardW (0 ≤ y13.1 ∧ y13.1 < ((n0 : Nat) : Int)) <|
  ptrW a0 fun (p14 : Addr) =>
  ldAW [(.int .i64), (.int .i64), .str] (p14.add (Int.toNat y13.1 * 3)) fun (u15 : (Int × Int × ByteArray × Unit)) =>
  guardW (0 ≤ y13.1 ∧ y13.1 < ((n0 : Nat) : Int)) <|
  ptrW a0 fun (p16 : Addr) =>
  ldAW [(.int .i64), (.int .i64), .str] (p16.add (Int.toNat y13.1 * 3)) fun (u17 : (Int × Int × ByteArray × Unit)) =>
  callW Tryd.prog 19 [(.agg #[(.int .i64 u15.1), (.int .i64 u15.2.1), (.string u15.2.2.1)])] (.one (.one (.int .i64))) fun (u18 : Int) =>
  heldW [[((p16.add (Int.toNat y13.1 * 3)).add 0, (.int .i64 u17.1)), ((p16.add (Int.toNat y13.1 * 3)).add 1, (.int .i64 u17.2.1)), ((p16.add (Int.toNat y13.1 * 3)).add 2, (.string u17.2.2.1))]] <|
  callW Tryd.prog 28 [(.agg #[(.int .i64 u17.1), (.int .i64 u17.2.1), (.string u17.2.2.1)])] (.one (.one (.int .i64))) fun (u19 : Int) =>
  splitW (u18 != u19) (K (.bool false)) <|
  guardW (0 ≤ y13.1 ∧ y13.1 < ((n0 : Nat) : Int)) <|
  ptrW a0 fun (p20 : Addr) =>
  ldAW [(.int .i64), (.int .i64), .str] (p20.add (Int.toNat y13.1 * 3)) fun (u21 : (Int × Int × ByteArray × Unit)) =>
  guardW (0 ≤ y13.1 ∧ y13.1 < ((n0 : Nat) : Int)) <|
  ptrW a0 fun (p22 : Addr) =>
  ldAW [(.int .i64), (.int .i64), .str] (p22.add (Int.toNat y13.1 * 3)) fun (u23 : (Int × Int × ByteArray × Unit)) =>
  callW Tryd.prog 18 [(.agg #[(.int .i64 u21.1), (.int .i64 u21.2.1), (.string u21.2.2.1)])] (.one (.one .str)) fun (u24 : ByteArray) =>
  heldW [[((p22.add (Int.toNat y13.1 * 3)).add 0, (.int .i64 u23.1)), ((p22.add (Int.toNat y13.1 * 3)).add 1, (.int .i64 u23.2.1)), ((p22.add (Int.toNat y13.1 * 3)).add 2, (.string u23.2.2.1))]] <|
  callW Tryd.prog 29 [(.agg #[(.int .i64 u23.1), (.int .i64 u23.2.1), (.string u23.2.2.1)])] (.one (.one .str)) fun (u25 : ByteArray) =>
  splitW (!(u24.toList == u25.toList)) (K (.bool false)) <|
  loopW (Int × Unit) ((0 : Int), ()) fun (y27 : Int × Unit) (I26 : (Int × Unit) → WP) =>
  splitW (decide (y27.1 < ((n1 : Nat) : Int))) (drewW <|
  guardW (0 ≤ y13.1 ∧ y13.1 < ((n0 : Nat) : Int)) <|
  ptrW a0 fun (p28 : Addr) =>
  ldAW [(.int .i64), (.int .i64), .str] (p28.add (Int.toNat y13.1 * 3)) fun (u29 : (Int × Int × ByteArray × Unit)) =>
  guardW (0 ≤ y27.1 ∧ y27.1 < ((n1 : Nat) : Int)) <|
  ptrW a1 fun (p30 : Addr) =>
  ldAW [(.int .i64), (.int .i64), .str] (p30.add (Int.toNat y27.1 * 3)) fun (u31 : (Int × Int × ByteArray × Unit)) =>
  guardW (0 ≤ y13.1 ∧ y13.1 < ((n0 : Nat) : Int)) <|
  ptrW a0 fun (p32 : Addr) =>
  ldAW [(.int .i64), (.int .i64), .str] (p32.add (Int.toNat y13.1 * 3)) fun (u33 : (Int × Int × ByteArray × Unit)) =>
  guardW (0 ≤ y27.1 ∧ y27.1 < ((n1 : Nat) : Int)) <|
  ptrW a1 fun (p34 : Addr) =>
  ldAW [(.int .i64), (.int .i64), .str] (p34.add (Int.toNat y27.1 * 3)) fun (u35 : (Int × Int × ByteArray × Unit)) =>
  callW Tryd.prog 10 [(.agg #[(.int .i64 u29.1), (.int .i64 u29.2.1), (.string u29.2.2.1)]), (.agg #[(.int .i64 u31.1), (.int .i64 u31.2.1), (.string u31.2.2.1)])] (.one (.one (.int .i64))) fun (u36 : Int) =>
  heldW [[((p34.add (Int.toNat y27.1 * 3)).add 0, (.int .i64 u35.1)), ((p34.add (Int.toNat y27.1 * 3)).add 1, (.int .i64 u35.2.1)), ((p34.add (Int.toNat y27.1 * 3)).add 2, (.string u35.2.2.1))], [((p32.add (Int.toNat y13.1 * 3)).add 0, (.int .i64 u33.1)), ((p32.add (Int.toNat y13.1 * 3)).add 1, (.int .i64 u33.2.1)), ((p32.add (Int.toNat y13.1 * 3)).add 2, (.string u33.2.2.1))]] <|
  callW Tryd.prog 30 [(.agg #[(.int .i64 u33.1), (.int .i64 u33.2.1), (.string u33.2.2.1)]), (.agg #[(.int .i64 u35.1), (.int .i64 u35.2.1), (.string u35.2.2.1)])] (.one (.one (.int .i64))) fun (u37 : Int) =>
  splitW (u36 != u37) (K (.bool false)) <| I26 ((IntKind.wrap .i64 (y27.1 + (1 : Int))), ())) <| I12 ((IntKind.wrap .i64 (y13.1 + (1 : Int))), ())) <|
  newW (.cells #[(.slice u6.1.1 u6.1.2.1 u6.1.2.2)] 27) fun (r38 : Nat) =>
  newW (.cells #[(.slice u7.1.1 u7.1.2.1 u7.1.2.2)] 27) fun (r39 : Nat) =>
  callW Tryd.prog 16 [(.slice (some (⟨r38, 0, none⟩ : Addr)) 1 1), (.slice (some (⟨r39, 0, none⟩ : Addr)) 1 1)] (.one (.one .bool)) fun (u40 : Bool) =>
  splitW u40 (splitW (u6.2.1 == u7.2.1) (ldAW [(.int .i64), (.int .i64), .str] (⟨r9, 0, none⟩ : Addr) fun (u41 : (Int × Int × ByteArray × Unit)) =>
  ldAW [(.int .i64), (.int .i64), .str] (⟨r11, 0, none⟩ : Addr) fun (u42 : (Int × Int × ByteArray × Unit)) =>
  eqW Tryd.prog (eqS .eql 23 (.tmp 135) (.tmp 136) (.agg #[(.int .i64 u41.1), (.int .i64 u41.2.1), (.string u41.2.2.1)]) (.agg #[(.int .i64 u42.1), (.int .i64 u42.2.1), (.string u42.2.2.1)])) fun (b43 : Bool) =>
  splitW b43 (splitW (u8.2.1 == u10.2.1) (callW Tryd.prog 11 [(.slice a0 n0 c0), (.slice a1 n1 c1)] (.one (.one (.int .i64))) fun (u44 : Int) =>
  callW Tryd.prog 31 [(.slice a0 n0 c0), (.slice a1 n1 c1)] (.one (.one (.int .i64))) fun (u45 : Int) =>
  splitW (u44 == u45) (callW Tryd.prog 13 [(.slice a0 n0 c0)] (.one (.one .str)) fun (u46 : ByteArray) =>
  callW Tryd.prog 32 [(.slice a0 n0 c0)] (.one (.one .str)) fun (u47 : ByteArray) => K (.bool (u46.toList == u47.toList))) <| K (.bool false)) <| K (.bool false)) <| K (.bool false)) <| K (.bool false)) <| K (.bool false)
theorem eq8 (a0 : Option Addr) (n0 c0 : Nat) (a1 : Option Addr) (n1 c1 : Nat) (x2 : ByteArray) (x3 : ByteArray) (K : Value → WP) : bodyW Tryd.prog Tryd.f8 an8 false [(.slice a0 n0 c0), (.slice a1 n1 c1), (.string x2), (.string x3)] K = S8 a0 n0 c0 a1 n1 c1 x2 x3 K := by kernel_rfl
theorem calls8 (a0 : Option Addr) (n0 c0 : Nat) (a1 : Option Addr) (n1 c1 : Nat) (x2 : ByteArray) (x3 : ByteArray) {K : Value → WP} {w : World} (h : S8 a0 n0 c0 a1 n1 c1 x2 x3 K w) : Calls Tryd.prog 8 #[(.slice a0 n0 c0), (.slice a1 n1 c1), (.string x2), (.string x3)] w (Ret K) := callsR_of_bodyW mixed Tryd.func8 (of_decide_eq_true (by kernel_rfl)) (by rw [eq8]; exact h)

/-- shadowbook/shadowbooklaw16.lives -/
def an9 : Ann := (.seq .nil (.seq .nil (.seq .nil .nil)))
def S9  (K : Value → WP) : WP := 
  callW Tryd.prog 23 [(.int .i64 (-1 : Int))] (.one (.agg [(.int .i64), (.int .i64), .str])) fun (u1 : (Int × Int × ByteArray × Unit)) =>
  newW (.cells #[(.int .i64 u1.1), (.int .i64 u1.2.1), (.string u1.2.2.1)] 23) fun (r2 : Nat) =>
  callW Tryd.prog 13 [(.slice (some (⟨r2, 0, none⟩ : Addr)) 1 1)] (.one (.one .str)) fun (u3 : ByteArray) =>
  callW Tryd.prog 23 [(.int .i64 (-1 : Int))] (.one (.agg [(.int .i64), (.int .i64), .str])) fun (u4 : (Int × Int × ByteArray × Unit)) =>
  callW Tryd.prog 18 [(.agg #[(.int .i64 u4.1), (.int .i64 u4.2.1), (.string u4.2.2.1)])] (.one (.one .str)) fun (u5 : ByteArray) =>
  splitW (u5.toList == (ByteArray.mk #[45, 49]).toList) (splitW (u3.toList == (ByteArray.mk #[1, 127, 255, 255, 255, 255, 255, 255, 255]).toList) (callW Tryd.prog 24 [(.string (ByteArray.mk #[97, 0]))] (.one (.agg [(.int .i64), (.int .i64), .str])) fun (u6 : (Int × Int × ByteArray × Unit)) =>
  callW Tryd.prog 18 [(.agg #[(.int .i64 u6.1), (.int .i64 u6.2.1), (.string u6.2.2.1)])] (.one (.one .str)) fun (u7 : ByteArray) =>
  splitW (u7.toList == (ByteArray.mk #[34, 97, 92, 120, 48, 48, 34]).toList) (callW Tryd.prog 24 [(.string (ByteArray.mk #[97, 0]))] (.one (.agg [(.int .i64), (.int .i64), .str])) fun (u8 : (Int × Int × ByteArray × Unit)) =>
  newW (.cells #[(.int .i64 u8.1), (.int .i64 u8.2.1), (.string u8.2.2.1)] 23) fun (r9 : Nat) =>
  callW Tryd.prog 13 [(.slice (some (⟨r9, 0, none⟩ : Addr)) 1 1)] (.one (.one .str)) fun (u10 : ByteArray) => K (.bool (u10.toList == (ByteArray.mk #[3, 97, 0, 255, 0, 0]).toList))) <| K (.bool false)) <| K (.bool false)) <| K (.bool false)
theorem eq9  (K : Value → WP) : bodyW Tryd.prog Tryd.f9 an9 false [] K = S9  K := by kernel_rfl
theorem calls9  {K : Value → WP} {w : World} (h : S9  K w) : Calls Tryd.prog 9 #[] w (Ret K) := callsR_of_bodyW mixed Tryd.func9 (of_decide_eq_true (by kernel_rfl)) (by rw [eq9]; exact h)

/-- shadowbook/value.Compare -/
def an10 : Ann := (.seq .nil (.seq .nil .nil))
def S10 (x0_0 : Int) (x0_1 : Int) (x0_2 : ByteArray) (x1_0 : Int) (x1_1 : Int) (x1_2 : ByteArray) (K : Value → WP) : WP := 
  newW (.cells #[(.int .i64 x0_0), (.int .i64 x0_1), (.string x0_2)] 23) fun (r1 : Nat) =>
  newW (.cells #[(.int .i64 x1_0), (.int .i64 x1_1), (.string x1_2)] 23) fun (r2 : Nat) =>
  drewW <|
  ldW (.int .i64) (⟨r1, 0, none⟩ : Addr) fun (u3 : Int) =>
  ldW (.int .i64) (⟨r2, 0, none⟩ : Addr) fun (u4 : Int) =>
  ldW (.int .i64) ((⟨r1, 0, none⟩ : Addr).add 1) fun (u5 : Int) =>
  ldW (.int .i64) ((⟨r2, 0, none⟩ : Addr).add 1) fun (u6 : Int) =>
  ldW .str ((⟨r1, 0, none⟩ : Addr).add 2) fun (u7 : ByteArray) =>
  ldW .str ((⟨r2, 0, none⟩ : Addr).add 2) fun (u8 : ByteArray) =>
  callW Tryd.prog 34 [(.int .i64 u3), (.int .i64 u4)] (.one (.one (.int .i64))) fun (u9 : Int) =>
  heldW [[(((⟨r2, 0, none⟩ : Addr).add 2), (.string u8))], [(((⟨r1, 0, none⟩ : Addr).add 2), (.string u7))], [(((⟨r2, 0, none⟩ : Addr).add 1), (.int .i64 u6))], [(((⟨r1, 0, none⟩ : Addr).add 1), (.int .i64 u5))]] <|
  callW Tryd.prog 35 [(.int .i64 u5), (.int .i64 u6)] (.one (.one (.int .i64))) fun (u10 : Int) =>
  heldW [[(((⟨r2, 0, none⟩ : Addr).add 2), (.string u8))], [(((⟨r1, 0, none⟩ : Addr).add 2), (.string u7))]] <|
  callW Tryd.prog 36 [(.string u7), (.string u8)] (.one (.one (.int .i64))) fun (u11 : Int) =>
  newW (.cells #[(.int .i64 u9), (.int .i64 u10), (.int .i64 u11)] 3) fun (r12 : Nat) =>
  callW Tryd.prog 33 [(.slice (some (⟨r12, 0, none⟩ : Addr)) 3 3)] (.one (.one (.int .i64))) fun (u13 : Int) => K (.int .i64 u13)
theorem eq10 (x0_0 : Int) (x0_1 : Int) (x0_2 : ByteArray) (x1_0 : Int) (x1_1 : Int) (x1_2 : ByteArray) (K : Value → WP) : bodyW Tryd.prog Tryd.f10 an10 false [(.agg #[(.int .i64 x0_0), (.int .i64 x0_1), (.string x0_2)]), (.agg #[(.int .i64 x1_0), (.int .i64 x1_1), (.string x1_2)])] K = S10 x0_0 x0_1 x0_2 x1_0 x1_1 x1_2 K := by kernel_rfl
theorem calls10 (x0_0 : Int) (x0_1 : Int) (x0_2 : ByteArray) (x1_0 : Int) (x1_1 : Int) (x1_2 : ByteArray) {K : Value → WP} {w : World} (h : S10 x0_0 x0_1 x0_2 x1_0 x1_1 x1_2 K w) : Calls Tryd.prog 10 #[(.agg #[(.int .i64 x0_0), (.int .i64 x0_1), (.string x0_2)]), (.agg #[(.int .i64 x1_0), (.int .i64 x1_1), (.string x1_2)])] w (Ret K) := callsR_of_bodyW mixed Tryd.func10 (of_decide_eq_true (by kernel_rfl)) (by rw [eq10]; exact h)

/-- shadowbook/value.Rows -/
def an11 : Ann := (.seq .nil (.seq .nil .nil))
def S11 (a0 : Option Addr) (n0 c0 : Nat) (a1 : Option Addr) (n1 c1 : Nat) (K : Value → WP) : WP := 
  callW Tryd.prog 37 [(.slice a0 n0 c0), (.slice a1 n1 c1), (.func (.func 10) #[] #[])] (.one (.one (.int .i64))) fun (u1 : Int) => K (.int .i64 u1)
theorem eq11 (a0 : Option Addr) (n0 c0 : Nat) (a1 : Option Addr) (n1 c1 : Nat) (K : Value → WP) : bodyW Tryd.prog Tryd.f11 an11 false [(.slice a0 n0 c0), (.slice a1 n1 c1)] K = S11 a0 n0 c0 a1 n1 c1 K := by kernel_rfl
theorem calls11 (a0 : Option Addr) (n0 c0 : Nat) (a1 : Option Addr) (n1 c1 : Nat) {K : Value → WP} {w : World} (h : S11 a0 n0 c0 a1 n1 c1 K w) : Calls Tryd.prog 11 #[(.slice a0 n0 c0), (.slice a1 n1 c1)] w (Ret K) := callsR_of_bodyW mixed Tryd.func11 (of_decide_eq_true (by kernel_rfl)) (by rw [eq11]; exact h)

/-- shadowbook/shadowbooklaw16.may -/
def an12 : Ann := (.seq .nil (.seq (.seq .nil (.block (.loop [(3, .sh (.one (.int .i64)))] [0, 1000000] (.seq (.seq .nil (.cond .nil .nil)) (.seq (.block (.seq .nil (.cond (.seq .nil .nil) .nil))) .nil))))) (.seq .nil .nil)))
def S12 (a0 : Option Addr) (n0 c0 : Nat) (K : Value → WP) : WP := 
  loopW (Int × Unit) ((0 : Int), ()) fun (y2 : Int × Unit) (I1 : (Int × Unit) → WP) =>
  splitW (decide (y2.1 < ((n0 : Nat) : Int))) (guardW (0 ≤ y2.1 ∧ y2.1 < ((n0 : Nat) : Int)) <|
  ptrW a0 fun (p3 : Addr) =>
  ldAW [(.int .i64), (.int .i64), .str] (p3.add (Int.toNat y2.1 * 3)) fun (u4 : (Int × Int × ByteArray × Unit)) =>
  callW Tryd.prog 19 [(.agg #[(.int .i64 u4.1), (.int .i64 u4.2.1), (.string u4.2.2.1)])] (.one (.one (.int .i64))) fun (u5 : Int) =>
  splitW (u5 != (0 : Int)) (K (.bool false)) <| I1 ((IntKind.wrap .i64 (y2.1 + (1 : Int))), ())) <|
  callW Tryd.prog 25 [(.slice a0 n0 c0)] (.one (.one .bool)) fun (u6 : Bool) => K (.bool u6)
theorem eq12 (a0 : Option Addr) (n0 c0 : Nat) (K : Value → WP) : bodyW Tryd.prog Tryd.f12 an12 false [(.slice a0 n0 c0)] K = S12 a0 n0 c0 K := by kernel_rfl
theorem calls12 (a0 : Option Addr) (n0 c0 : Nat) {K : Value → WP} {w : World} (h : S12 a0 n0 c0 K w) : Calls Tryd.prog 12 #[(.slice a0 n0 c0)] w (Ret K) := callsR_of_bodyW mixed Tryd.func12 (of_decide_eq_true (by kernel_rfl)) (by rw [eq12]; exact h)

/-- shadowbook/value.Key -/
def an13 : Ann := (.seq .nil (.seq .nil (.seq (.seq .nil (.block (.loop [(3, .sh (.one .slc)), (8, .sh (.one (.int .i64)))] [6, 7, 1000000] (.seq .nil (.seq (.cond .nil .nil) (.seq (.block (.seq .nil (.seq (.seq .nil (.cond (.seq .nil .nil) .nil)) .nil))) .nil)))))) (.seq .nil .nil))))
def S13 (a0 : Option Addr) (n0 c0 : Nat) (K : Value → WP) : WP := 
  loopW ((Option Addr × Nat × Nat) × Int × Unit) ((none, 0, 0), (0 : Int), ()) fun (y2 : (Option Addr × Nat × Nat) × Int × Unit) (I1 : ((Option Addr × Nat × Nat) × Int × Unit) → WP) =>
  splitW (decide (y2.2.1 < ((n0 : Nat) : Int))) (guardW (0 ≤ y2.2.1 ∧ y2.2.1 < ((n0 : Nat) : Int)) <|
  ptrW a0 fun (p3 : Addr) =>
  ldAW [(.int .i64), (.int .i64), .str] (p3.add (Int.toNat y2.2.1 * 3)) fun (u4 : (Int × Int × ByteArray × Unit)) =>
  newW (.cells #[(.int .i64 (0 : Int)), (.int .i64 (0 : Int)), (.string ByteArray.empty)] 23) fun (r5 : Nat) =>
  guardW ((#[(.int .i64 u4.1), (.int .i64 u4.2.1), (.string u4.2.2.1)] : Array Value).size = 3) <|
  stAW (⟨r5, 0, none⟩ : Addr) [(.int .i64 u4.1), (.int .i64 u4.2.1), (.string u4.2.2.1)] <|
  ldAW [(.int .i64), (.int .i64), .str] (⟨r5, 0, none⟩ : Addr) fun (u6 : (Int × Int × ByteArray × Unit)) =>
  callW Tryd.prog 19 [(.agg #[(.int .i64 u6.1), (.int .i64 u6.2.1), (.string u6.2.2.1)])] (.one (.one (.int .i64))) fun (u7 : Int) =>
  splitW (u7 != (0 : Int)) (K (.string (ByteArray.mk #[]))) <|
  ldAW [(.int .i64), (.int .i64), .str] (⟨r5, 0, none⟩ : Addr) fun (u8 : (Int × Int × ByteArray × Unit)) =>
  callW Tryd.prog 38 [(.slice y2.1.1 y2.1.2.1 y2.1.2.2), (.agg #[(.int .i64 u8.1), (.int .i64 u8.2.1), (.string u8.2.2.1)])] (.one (.one .slc)) fun (u9 : (Option Addr × Nat × Nat)) => I1 ((u9.1, u9.2.1, u9.2.2), (IntKind.wrap .i64 (y2.2.1 + (1 : Int))), ())) <|
  runW Tryd.prog (Go.convert 57 9 (.slice y2.1.1 y2.1.2.1 y2.1.2.2)) .str fun (u10 : ByteArray) => K (.string u10)
theorem eq13 (a0 : Option Addr) (n0 c0 : Nat) (K : Value → WP) : bodyW Tryd.prog Tryd.f13 an13 false [(.slice a0 n0 c0)] K = S13 a0 n0 c0 K := by kernel_rfl
theorem calls13 (a0 : Option Addr) (n0 c0 : Nat) {K : Value → WP} {w : World} (h : S13 a0 n0 c0 K w) : Calls Tryd.prog 13 #[(.slice a0 n0 c0)] w (Ret K) := callsR_of_bodyW mixed Tryd.func13 (of_decide_eq_true (by kernel_rfl)) (by rw [eq13]; exact h)

/-- shadowbook/shadowbookkit.Pick -/
def an14 : Ann := (.seq .nil (.seq (.seq .nil (.cond (.seq .nil .nil) .nil)) (.seq .nil (.seq (.seq .nil (.cond .nil .nil)) (.seq .nil .nil)))))
def S14 (x0 : Int) (x1 : Int) (K : Value → WP) : WP := 
  splitW (decide (x1 < (1 : Int))) (K (.int .i64 (0 : Int))) <|
  guardW (x1 ≠ 0) <|
  splitW (decide ((Int.tmod x0 x1) < (0 : Int))) (K (.int .i64 (IntKind.wrap .i64 ((Int.tmod x0 x1) + x1)))) <| K (.int .i64 (Int.tmod x0 x1))
theorem eq14 (x0 : Int) (x1 : Int) (K : Value → WP) : bodyW Tryd.prog Tryd.f14 an14 false [(.int .i64 x0), (.int .i64 x1)] K = S14 x0 x1 K := by kernel_rfl
theorem calls14 (x0 : Int) (x1 : Int) {K : Value → WP} {w : World} (h : S14 x0 x1 K w) : Calls Tryd.prog 14 #[(.int .i64 x0), (.int .i64 x1)] w (Ret K) := callsR_of_bodyW mixed Tryd.func14 (of_decide_eq_true (by kernel_rfl)) (by rw [eq14]; exact h)

/-- shadowbook/value.Unkey -/
def an15 : Ann := (.seq .nil (.seq .nil (.seq .nil (.seq (.block (.loop [(4, .sh (.one .slc))] [5, 1000000] (.seq (.seq .nil (.cond .nil .nil)) (.block (.seq .nil (.seq (.seq .nil (.cond (.seq .nil .nil) .nil)) .nil)))))) (.seq .nil .nil)))))
def S15 (x0 : ByteArray) (K : Value → WP) : WP := 
  newW (.cells #[(.string x0), (.bool false)] 61) fun (r1 : Nat) =>
  loopW ((Option Addr × Nat × Nat) × Unit) ((none, 0, 0), ()) fun (y3 : (Option Addr × Nat × Nat) × Unit) (I2 : ((Option Addr × Nat × Nat) × Unit) → WP) =>
  callW Tryd.prog 39 [(.pointer (some (⟨r1, 0, none⟩ : Addr)))] (.one (.one .bool)) fun (u4 : Bool) =>
  splitW u4 (callW Tryd.prog 40 [(.pointer (some (⟨r1, 0, none⟩ : Addr)))] (.one (.agg [(.int .i64), (.int .i64), .str])) fun (u5 : (Int × Int × ByteArray × Unit)) =>
  newW (.cells #[(.int .i64 (0 : Int)), (.int .i64 (0 : Int)), (.string ByteArray.empty)] 23) fun (r6 : Nat) =>
  guardW ((#[(.int .i64 u5.1), (.int .i64 u5.2.1), (.string u5.2.2.1)] : Array Value).size = 3) <|
  stAW (⟨r6, 0, none⟩ : Addr) [(.int .i64 u5.1), (.int .i64 u5.2.1), (.string u5.2.2.1)] <|
  ptrW (some (⟨r1, 0, none⟩ : Addr)) fun (p7 : Addr) =>
  ldW .bool (p7.add 1) fun (u8 : Bool) =>
  splitW u8 (K (.tuple #[(.slice none 0 0), (.int .i64 (160 : Int))])) <|
  ldAW [(.int .i64), (.int .i64), .str] (⟨r6, 0, none⟩ : Addr) fun (u9 : (Int × Int × ByteArray × Unit)) =>
  callW Tryd.prog 19 [(.agg #[(.int .i64 u9.1), (.int .i64 u9.2.1), (.string u9.2.2.1)])] (.one (.one (.int .i64))) fun (u10 : Int) =>
  splitW (u10 != (0 : Int)) (K (.tuple #[(.slice none 0 0), (.int .i64 (160 : Int))])) <|
  ldAW [(.int .i64), (.int .i64), .str] (⟨r6, 0, none⟩ : Addr) fun (u11 : (Int × Int × ByteArray × Unit)) =>
  newW (.cells #[(.int .i64 u11.1), (.int .i64 u11.2.1), (.string u11.2.2.1)] 23) fun (r12 : Nat) =>
  runW Tryd.prog (Builtin.append_ #[27, 27] 27 #[(.slice y3.1.1 y3.1.2.1 y3.1.2.2), (.slice (some (⟨r12, 0, none⟩ : Addr)) 1 1)]) .slc fun (u13 : (Option Addr × Nat × Nat)) => I2 ((u13.1, u13.2.1, u13.2.2), ())) <| K (.tuple #[(.slice y3.1.1 y3.1.2.1 y3.1.2.2), (.int .i64 (0 : Int))])
theorem eq15 (x0 : ByteArray) (K : Value → WP) : bodyW Tryd.prog Tryd.f15 an15 false [(.string x0)] K = S15 x0 K := by kernel_rfl
theorem calls15 (x0 : ByteArray) {K : Value → WP} {w : World} (h : S15 x0 K w) : Calls Tryd.prog 15 #[(.string x0)] w (Ret K) := callsR_of_bodyW mixed Tryd.func15 (of_decide_eq_true (by kernel_rfl)) (by rw [eq15]; exact h)

/-- shadowbook/shadowbookkit.SameRows -/
def an16 : Ann := (.seq .nil (.seq (.seq .nil (.cond (.seq .nil .nil) .nil)) (.seq (.seq .nil (.block (.loop [(5, .sh (.one (.int .i64)))] [0, 1, 1000000] (.seq (.seq .nil (.cond .nil .nil)) (.seq (.block (.seq (.seq .nil (.cond (.seq .nil .nil) .nil)) (.seq .nil (.block (.loop [(6, .sh (.one (.int .i64)))] [0, 1, 5, 1000000] (.seq (.seq .nil (.cond .nil .nil)) (.seq (.block (.seq .nil (.cond (.seq .nil .nil) .nil))) .nil))))))) .nil))))) (.seq .nil .nil))))
def S16 (a0 : Option Addr) (n0 c0 : Nat) (a1 : Option Addr) (n1 c1 : Nat) (K : Value → WP) : WP := 
  splitW (((n0 : Nat) : Int) != ((n1 : Nat) : Int)) (K (.bool false)) <|
  loopW (Int × Unit) ((0 : Int), ()) fun (y2 : Int × Unit) (I1 : (Int × Unit) → WP) =>
  splitW (decide (y2.1 < ((n0 : Nat) : Int))) (drewW <|
  guardW (0 ≤ y2.1 ∧ y2.1 < ((n0 : Nat) : Int)) <|
  ptrW a0 fun (p3 : Addr) =>
  ldW .slc (p3.add (Int.toNat y2.1 * 1)) fun (u4 : (Option Addr × Nat × Nat)) =>
  guardW (0 ≤ y2.1 ∧ y2.1 < ((n1 : Nat) : Int)) <|
  ptrW a1 fun (p5 : Addr) =>
  ldW .slc (p5.add (Int.toNat y2.1 * 1)) fun (u6 : (Option Addr × Nat × Nat)) =>
  splitW (((u4.2.1 : Nat) : Int) != ((u6.2.1 : Nat) : Int)) (K (.bool false)) <|
  loopW (Int × Unit) ((0 : Int), ()) fun (y8 : Int × Unit) (I7 : (Int × Unit) → WP) =>
  guardW (0 ≤ y2.1 ∧ y2.1 < ((n0 : Nat) : Int)) <|
  ptrW a0 fun (p9 : Addr) =>
  ldW .slc (p9.add (Int.toNat y2.1 * 1)) fun (u10 : (Option Addr × Nat × Nat)) =>
  splitW (decide (y8.1 < ((u10.2.1 : Nat) : Int))) (drewW <|
  guardW (0 ≤ y2.1 ∧ y2.1 < ((n0 : Nat) : Int)) <|
  ptrW a0 fun (p11 : Addr) =>
  ldW .slc (p11.add (Int.toNat y2.1 * 1)) fun (u12 : (Option Addr × Nat × Nat)) =>
  guardW (0 ≤ y8.1 ∧ y8.1 < ((u12.2.1 : Nat) : Int)) <|
  ptrW u12.1 fun (p13 : Addr) =>
  ldAW [(.int .i64), (.int .i64), .str] (p13.add (Int.toNat y8.1 * 3)) fun (u14 : (Int × Int × ByteArray × Unit)) =>
  guardW (0 ≤ y2.1 ∧ y2.1 < ((n1 : Nat) : Int)) <|
  ptrW a1 fun (p15 : Addr) =>
  ldW .slc (p15.add (Int.toNat y2.1 * 1)) fun (u16 : (Option Addr × Nat × Nat)) =>
  guardW (0 ≤ y8.1 ∧ y8.1 < ((u16.2.1 : Nat) : Int)) <|
  ptrW u16.1 fun (p17 : Addr) =>
  ldAW [(.int .i64), (.int .i64), .str] (p17.add (Int.toNat y8.1 * 3)) fun (u18 : (Int × Int × ByteArray × Unit)) =>
  eqW Tryd.prog (eqS .neq 23 (.tmp 44) (.tmp 51) (.agg #[(.int .i64 u14.1), (.int .i64 u14.2.1), (.string u14.2.2.1)]) (.agg #[(.int .i64 u18.1), (.int .i64 u18.2.1), (.string u18.2.2.1)])) fun (b19 : Bool) =>
  splitW b19 (K (.bool false)) <| I7 ((IntKind.wrap .i64 (y8.1 + (1 : Int))), ())) <| I1 ((IntKind.wrap .i64 (y2.1 + (1 : Int))), ())) <| K (.bool true)
theorem eq16 (a0 : Option Addr) (n0 c0 : Nat) (a1 : Option Addr) (n1 c1 : Nat) (K : Value → WP) : bodyW Tryd.prog Tryd.f16 an16 false [(.slice a0 n0 c0), (.slice a1 n1 c1)] K = S16 a0 n0 c0 a1 n1 c1 K := by kernel_rfl
theorem calls16 (a0 : Option Addr) (n0 c0 : Nat) (a1 : Option Addr) (n1 c1 : Nat) {K : Value → WP} {w : World} (h : S16 a0 n0 c0 a1 n1 c1 K w) : Calls Tryd.prog 16 #[(.slice a0 n0 c0), (.slice a1 n1 c1)] w (Ret K) := callsR_of_bodyW mixed Tryd.func16 (of_decide_eq_true (by kernel_rfl)) (by rw [eq16]; exact h)

/-- shadowbook/value.Read -/
def an17 : Ann := (.seq .nil (.seq (.seq .nil (.seq .nil (.cond (.seq .nil .nil) .nil))) (.seq .nil .nil)))
def S17 (x0 : ByteArray) (K : Value → WP) : WP := 
  newW (.cells #[(.int .i64 (0 : Int)), (.int .i64 (0 : Int)), (.string ByteArray.empty)] 23) fun (r1 : Nat) =>
  callW Tryd.prog 41 [(.string x0)] (.one (.agg [(.int .i64), (.int .i64), .str])) fun (u2 : (Int × Int × ByteArray × Unit)) =>
  newW (.cells #[(.int .i64 (0 : Int)), (.int .i64 (0 : Int)), (.string ByteArray.empty)] 23) fun (r3 : Nat) =>
  guardW ((#[(.int .i64 u2.1), (.int .i64 u2.2.1), (.string u2.2.2.1)] : Array Value).size = 3) <|
  stAW (⟨r3, 0, none⟩ : Addr) [(.int .i64 u2.1), (.int .i64 u2.2.1), (.string u2.2.2.1)] <|
  splitW (!(x0.toList == (ByteArray.mk #[]).toList)) (ldAW [(.int .i64), (.int .i64), .str] (⟨r3, 0, none⟩ : Addr) fun (u4 : (Int × Int × ByteArray × Unit)) =>
  callW Tryd.prog 18 [(.agg #[(.int .i64 u4.1), (.int .i64 u4.2.1), (.string u4.2.2.1)])] (.one (.one .str)) fun (u5 : ByteArray) =>
  splitW (u5.toList == x0.toList) (ldAW [(.int .i64), (.int .i64), .str] (⟨r3, 0, none⟩ : Addr) fun (u6 : (Int × Int × ByteArray × Unit)) =>
  guardW ((#[(.int .i64 u6.1), (.int .i64 u6.2.1), (.string u6.2.2.1)] : Array Value).size = 3) <|
  stAW (⟨r1, 0, none⟩ : Addr) [(.int .i64 u6.1), (.int .i64 u6.2.1), (.string u6.2.2.1)] <|
  ldAW [(.int .i64), (.int .i64), .str] (⟨r1, 0, none⟩ : Addr) fun (u7 : (Int × Int × ByteArray × Unit)) => K (.tuple #[(.agg #[(.int .i64 u7.1), (.int .i64 u7.2.1), (.string u7.2.2.1)]), (.int .i64 (0 : Int))])) <|
  guardW ((#[(.int .i64 (0 : Int)), (.int .i64 (0 : Int)), (.string ByteArray.empty)] : Array Value).size = 3) <|
  stAW (⟨r1, 0, none⟩ : Addr) [(.int .i64 (0 : Int)), (.int .i64 (0 : Int)), (.string ByteArray.empty)] <|
  ldAW [(.int .i64), (.int .i64), .str] (⟨r1, 0, none⟩ : Addr) fun (u8 : (Int × Int × ByteArray × Unit)) => K (.tuple #[(.agg #[(.int .i64 u8.1), (.int .i64 u8.2.1), (.string u8.2.2.1)]), (.int .i64 (160 : Int))])) <|
  guardW ((#[(.int .i64 (0 : Int)), (.int .i64 (0 : Int)), (.string ByteArray.empty)] : Array Value).size = 3) <|
  stAW (⟨r1, 0, none⟩ : Addr) [(.int .i64 (0 : Int)), (.int .i64 (0 : Int)), (.string ByteArray.empty)] <|
  ldAW [(.int .i64), (.int .i64), .str] (⟨r1, 0, none⟩ : Addr) fun (u9 : (Int × Int × ByteArray × Unit)) => K (.tuple #[(.agg #[(.int .i64 u9.1), (.int .i64 u9.2.1), (.string u9.2.2.1)]), (.int .i64 (160 : Int))])
theorem eq17 (x0 : ByteArray) (K : Value → WP) : bodyW Tryd.prog Tryd.f17 an17 false [(.string x0)] K = S17 x0 K := by kernel_rfl
theorem calls17 (x0 : ByteArray) {K : Value → WP} {w : World} (h : S17 x0 K w) : Calls Tryd.prog 17 #[(.string x0)] w (Ret K) := callsR_of_bodyW mixed Tryd.func17 (of_decide_eq_true (by kernel_rfl)) (by rw [eq17]; exact h)

/-- shadowbook/value.Text -/
def an18 : Ann := (.seq .nil (.seq (.seq .nil (.cond (.seq .nil .nil) .nil)) (.seq (.seq .nil (.block (.seq .nil (.cond (.seq .nil .nil) (.seq .nil (.cond (.seq .nil .nil) (.seq .nil (.cond (.seq .nil .nil) .nil)))))))) (.seq .nil .nil))))
def S18 (x0_0 : Int) (x0_1 : Int) (x0_2 : ByteArray) (K : Value → WP) : WP := 
  newW (.cells #[(.int .i64 x0_0), (.int .i64 x0_1), (.string x0_2)] 23) fun (r1 : Nat) =>
  ldAW [(.int .i64), (.int .i64), .str] (⟨r1, 0, none⟩ : Addr) fun (u2 : (Int × Int × ByteArray × Unit)) =>
  callW Tryd.prog 19 [(.agg #[(.int .i64 u2.1), (.int .i64 u2.2.1), (.string u2.2.2.1)])] (.one (.one (.int .i64))) fun (u3 : Int) =>
  splitW (u3 != (0 : Int)) (K (.string (ByteArray.mk #[]))) <|
  ldW (.int .i64) (⟨r1, 0, none⟩ : Addr) fun (u4 : Int) =>
  splitW (u4 == (0 : Int)) (K (.string (ByteArray.mk #[110, 117, 108, 108]))) <|
  splitW (u4 == (1 : Int)) (ldW (.int .i64) ((⟨r1, 0, none⟩ : Addr).add 1) fun (u5 : Int) =>
  callW Tryd.prog 42 [(.int .i64 u5), (.int .i64 (10 : Int))] (.one (.one .str)) fun (u6 : ByteArray) => K (.string u6)) <|
  splitW (u4 == (2 : Int)) (ldW (.int .i64) ((⟨r1, 0, none⟩ : Addr).add 1) fun (u7 : Int) =>
  callW Tryd.prog 43 [(.bool (u7 == (1 : Int)))] (.one (.one .str)) fun (u8 : ByteArray) => K (.string u8)) <|
  ldW .str ((⟨r1, 0, none⟩ : Addr).add 2) fun (u9 : ByteArray) =>
  callW Tryd.prog 44 [(.string u9)] (.one (.one .str)) fun (u10 : ByteArray) => K (.string u10)
theorem eq18 (x0_0 : Int) (x0_1 : Int) (x0_2 : ByteArray) (K : Value → WP) : bodyW Tryd.prog Tryd.f18 an18 false [(.agg #[(.int .i64 x0_0), (.int .i64 x0_1), (.string x0_2)])] K = S18 x0_0 x0_1 x0_2 K := by kernel_rfl
theorem calls18 (x0_0 : Int) (x0_1 : Int) (x0_2 : ByteArray) {K : Value → WP} {w : World} (h : S18 x0_0 x0_1 x0_2 K w) : Calls Tryd.prog 18 #[(.agg #[(.int .i64 x0_0), (.int .i64 x0_1), (.string x0_2)])] w (Ret K) := callsR_of_bodyW mixed Tryd.func18 (of_decide_eq_true (by kernel_rfl)) (by rw [eq18]; exact h)

/-- shadowbook/value.Check -/
def an19 : Ann := (.seq .nil (.seq .nil (.join [(3, .sh (.one .bool))] [1000000] (.seq .nil (.block (.seq .nil (.cond .nil (.seq .nil (.cond .nil (.seq .nil (.cond .nil (.seq .nil (.cond .nil .nil)))))))))) (.seq (.seq .nil (.cond (.seq .nil .nil) .nil)) (.seq .nil .nil)))))
def S19 (x0_0 : Int) (x0_1 : Int) (x0_2 : ByteArray) (K : Value → WP) : WP := 
  newW (.cells #[(.int .i64 x0_0), (.int .i64 x0_1), (.string x0_2)] 23) fun (r1 : Nat) =>
  joinW (Bool × Unit) (fun (J2 : (Bool × Unit) → WP) =>
  ldW (.int .i64) (⟨r1, 0, none⟩ : Addr) fun (u4 : Int) =>
  splitW (u4 == (0 : Int)) (ldAW [(.int .i64), (.int .i64), .str] (⟨r1, 0, none⟩ : Addr) fun (u5 : (Int × Int × ByteArray × Unit)) =>
  eqW Tryd.prog (eqS .eql 23 (.tmp 8) (.tmp 9) (.agg #[(.int .i64 u5.1), (.int .i64 u5.2.1), (.string u5.2.2.1)]) (.agg #[(.int .i64 (0 : Int)), (.int .i64 (0 : Int)), (.string ByteArray.empty)])) fun (b6 : Bool) => J2 (b6, ())) <|
  splitW (u4 == (1 : Int)) (ldW .str ((⟨r1, 0, none⟩ : Addr).add 2) fun (u7 : ByteArray) => J2 ((u7.toList == (ByteArray.mk #[]).toList), ())) <|
  splitW (u4 == (2 : Int)) (ldW .str ((⟨r1, 0, none⟩ : Addr).add 2) fun (u8 : ByteArray) =>
  splitW (u8.toList == (ByteArray.mk #[]).toList) (ldW (.int .i64) ((⟨r1, 0, none⟩ : Addr).add 1) fun (u9 : Int) => J2 (((iandn .i64 u9 (1 : Int)) == (0 : Int)), ())) <| J2 (false, ())) <|
  splitW (u4 == (3 : Int)) (ldW (.int .i64) ((⟨r1, 0, none⟩ : Addr).add 1) fun (u10 : Int) =>
  splitW (u10 == (0 : Int)) (ldW .str ((⟨r1, 0, none⟩ : Addr).add 2) fun (u11 : ByteArray) => J2 ((decide (((u11.size : Nat) : Int) ≤ (256 : Int))), ())) <| J2 (false, ())) <| J2 (false, ())) fun (y3 : Bool × Unit) =>
  splitW (!y3.1) (K (.int .i64 (160 : Int))) <| K (.int .i64 (0 : Int))
theorem eq19 (x0_0 : Int) (x0_1 : Int) (x0_2 : ByteArray) (K : Value → WP) : bodyW Tryd.prog Tryd.f19 an19 false [(.agg #[(.int .i64 x0_0), (.int .i64 x0_1), (.string x0_2)])] K = S19 x0_0 x0_1 x0_2 K := by kernel_rfl
theorem calls19 (x0_0 : Int) (x0_1 : Int) (x0_2 : ByteArray) {K : Value → WP} {w : World} (h : S19 x0_0 x0_1 x0_2 K w) : Calls Tryd.prog 19 #[(.agg #[(.int .i64 x0_0), (.int .i64 x0_1), (.string x0_2)])] w (Ret K) := callsR_of_bodyW mixed Tryd.func19 (of_decide_eq_true (by kernel_rfl)) (by rw [eq19]; exact h)

/-- shadowbook/shadowbooklaw16.fails -/
def an20 : Ann := (.seq .nil (.seq .nil (.seq .nil .nil)))
def S20 (x0 : ByteArray) (K : Value → WP) : WP := 
  callW Tryd.prog 17 [(.string x0)] (.many [(.agg [(.int .i64), (.int .i64), .str]), (.one (.int .i64))]) fun (u1 : (Int × Int × ByteArray × Unit) × Int × Unit) =>
  newW (.cells #[(.int .i64 (0 : Int)), (.int .i64 (0 : Int)), (.string ByteArray.empty)] 23) fun (r2 : Nat) =>
  guardW ((#[(.int .i64 u1.1.1), (.int .i64 u1.1.2.1), (.string u1.1.2.2.1)] : Array Value).size = 3) <|
  stAW (⟨r2, 0, none⟩ : Addr) [(.int .i64 u1.1.1), (.int .i64 u1.1.2.1), (.string u1.1.2.2.1)] <|
  splitW (u1.2.1 == (160 : Int)) (ldAW [(.int .i64), (.int .i64), .str] (⟨r2, 0, none⟩ : Addr) fun (u3 : (Int × Int × ByteArray × Unit)) =>
  eqW Tryd.prog (eqS .eql 23 (.tmp 13) (.tmp 14) (.agg #[(.int .i64 u3.1), (.int .i64 u3.2.1), (.string u3.2.2.1)]) (.agg #[(.int .i64 (0 : Int)), (.int .i64 (0 : Int)), (.string ByteArray.empty)])) fun (b4 : Bool) => K (.bool b4)) <| K (.bool false)
theorem eq20 (x0 : ByteArray) (K : Value → WP) : bodyW Tryd.prog Tryd.f20 an20 false [(.string x0)] K = S20 x0 K := by kernel_rfl
theorem calls20 (x0 : ByteArray) {K : Value → WP} {w : World} (h : S20 x0 K w) : Calls Tryd.prog 20 #[(.string x0)] w (Ret K) := callsR_of_bodyW mixed Tryd.func20 (of_decide_eq_true (by kernel_rfl)) (by rw [eq20]; exact h)

/-- shadowbook/shadowbooklaw16.reads -/
def an21 : Ann := (.seq .nil (.seq .nil (.seq .nil .nil)))
def S21 (x0 : ByteArray) (x1_0 : Int) (x1_1 : Int) (x1_2 : ByteArray) (K : Value → WP) : WP := 
  newW (.cells #[(.int .i64 x1_0), (.int .i64 x1_1), (.string x1_2)] 23) fun (r1 : Nat) =>
  callW Tryd.prog 17 [(.string x0)] (.many [(.agg [(.int .i64), (.int .i64), .str]), (.one (.int .i64))]) fun (u2 : (Int × Int × ByteArray × Unit) × Int × Unit) =>
  newW (.cells #[(.int .i64 (0 : Int)), (.int .i64 (0 : Int)), (.string ByteArray.empty)] 23) fun (r3 : Nat) =>
  guardW ((#[(.int .i64 u2.1.1), (.int .i64 u2.1.2.1), (.string u2.1.2.2.1)] : Array Value).size = 3) <|
  stAW (⟨r3, 0, none⟩ : Addr) [(.int .i64 u2.1.1), (.int .i64 u2.1.2.1), (.string u2.1.2.2.1)] <|
  splitW (u2.2.1 == (0 : Int)) (ldAW [(.int .i64), (.int .i64), .str] (⟨r3, 0, none⟩ : Addr) fun (u4 : (Int × Int × ByteArray × Unit)) =>
  ldAW [(.int .i64), (.int .i64), .str] (⟨r1, 0, none⟩ : Addr) fun (u5 : (Int × Int × ByteArray × Unit)) =>
  eqW Tryd.prog (eqS .eql 23 (.tmp 15) (.tmp 16) (.agg #[(.int .i64 u4.1), (.int .i64 u4.2.1), (.string u4.2.2.1)]) (.agg #[(.int .i64 u5.1), (.int .i64 u5.2.1), (.string u5.2.2.1)])) fun (b6 : Bool) =>
  splitW b6 (ldAW [(.int .i64), (.int .i64), .str] (⟨r1, 0, none⟩ : Addr) fun (u7 : (Int × Int × ByteArray × Unit)) =>
  callW Tryd.prog 18 [(.agg #[(.int .i64 u7.1), (.int .i64 u7.2.1), (.string u7.2.2.1)])] (.one (.one .str)) fun (u8 : ByteArray) => K (.bool (u8.toList == x0.toList))) <| K (.bool false)) <| K (.bool false)
theorem eq21 (x0 : ByteArray) (x1_0 : Int) (x1_1 : Int) (x1_2 : ByteArray) (K : Value → WP) : bodyW Tryd.prog Tryd.f21 an21 false [(.string x0), (.agg #[(.int .i64 x1_0), (.int .i64 x1_1), (.string x1_2)])] K = S21 x0 x1_0 x1_1 x1_2 K := by kernel_rfl
theorem calls21 (x0 : ByteArray) (x1_0 : Int) (x1_1 : Int) (x1_2 : ByteArray) {K : Value → WP} {w : World} (h : S21 x0 x1_0 x1_1 x1_2 K w) : Calls Tryd.prog 21 #[(.string x0), (.agg #[(.int .i64 x1_0), (.int .i64 x1_1), (.string x1_2)])] w (Ret K) := callsR_of_bodyW mixed Tryd.func21 (of_decide_eq_true (by kernel_rfl)) (by rw [eq21]; exact h)

/-- shadowbook/shadowbookkit.Bool -/
def an22 : Ann := (.seq .nil (.seq (.seq .nil (.cond (.seq .nil .nil) .nil)) (.seq .nil .nil)))
def S22 (x0 : Bool) (K : Value → WP) : WP := 
  newW (.cells #[(.int .i64 (0 : Int)), (.int .i64 (0 : Int)), (.string ByteArray.empty)] 23) fun (r1 : Nat) =>
  splitW x0 (guardW ((#[(.int .i64 (2 : Int)), (.int .i64 (1 : Int)), (.string ByteArray.empty)] : Array Value).size = 3) <|
  stAW (⟨r1, 0, none⟩ : Addr) [(.int .i64 (2 : Int)), (.int .i64 (1 : Int)), (.string ByteArray.empty)] <|
  ldAW [(.int .i64), (.int .i64), .str] (⟨r1, 0, none⟩ : Addr) fun (u2 : (Int × Int × ByteArray × Unit)) => K (.agg #[(.int .i64 u2.1), (.int .i64 u2.2.1), (.string u2.2.2.1)])) <|
  guardW ((#[(.int .i64 (2 : Int)), (.int .i64 (0 : Int)), (.string ByteArray.empty)] : Array Value).size = 3) <|
  stAW (⟨r1, 0, none⟩ : Addr) [(.int .i64 (2 : Int)), (.int .i64 (0 : Int)), (.string ByteArray.empty)] <|
  ldAW [(.int .i64), (.int .i64), .str] (⟨r1, 0, none⟩ : Addr) fun (u3 : (Int × Int × ByteArray × Unit)) => K (.agg #[(.int .i64 u3.1), (.int .i64 u3.2.1), (.string u3.2.2.1)])
theorem eq22 (x0 : Bool) (K : Value → WP) : bodyW Tryd.prog Tryd.f22 an22 false [(.bool x0)] K = S22 x0 K := by kernel_rfl
theorem calls22 (x0 : Bool) {K : Value → WP} {w : World} (h : S22 x0 K w) : Calls Tryd.prog 22 #[(.bool x0)] w (Ret K) := callsR_of_bodyW mixed Tryd.func22 (of_decide_eq_true (by kernel_rfl)) (by rw [eq22]; exact h)

/-- shadowbook/shadowbookkit.Num -/
def an23 : Ann := (.seq .nil (.seq .nil .nil))
def S23 (x0 : Int) (K : Value → WP) : WP := 
  newW (.cells #[(.int .i64 (0 : Int)), (.int .i64 (0 : Int)), (.string ByteArray.empty)] 23) fun (r1 : Nat) =>
  guardW ((#[(.int .i64 (1 : Int)), (.int .i64 x0), (.string ByteArray.empty)] : Array Value).size = 3) <|
  stAW (⟨r1, 0, none⟩ : Addr) [(.int .i64 (1 : Int)), (.int .i64 x0), (.string ByteArray.empty)] <|
  ldAW [(.int .i64), (.int .i64), .str] (⟨r1, 0, none⟩ : Addr) fun (u2 : (Int × Int × ByteArray × Unit)) => K (.agg #[(.int .i64 u2.1), (.int .i64 u2.2.1), (.string u2.2.2.1)])
theorem eq23 (x0 : Int) (K : Value → WP) : bodyW Tryd.prog Tryd.f23 an23 false [(.int .i64 x0)] K = S23 x0 K := by kernel_rfl
theorem calls23 (x0 : Int) {K : Value → WP} {w : World} (h : S23 x0 K w) : Calls Tryd.prog 23 #[(.int .i64 x0)] w (Ret K) := callsR_of_bodyW mixed Tryd.func23 (of_decide_eq_true (by kernel_rfl)) (by rw [eq23]; exact h)

/-- shadowbook/shadowbookkit.Str -/
def an24 : Ann := (.seq .nil (.seq .nil .nil))
def S24 (x0 : ByteArray) (K : Value → WP) : WP := 
  newW (.cells #[(.int .i64 (0 : Int)), (.int .i64 (0 : Int)), (.string ByteArray.empty)] 23) fun (r1 : Nat) =>
  guardW ((#[(.int .i64 (3 : Int)), (.int .i64 (0 : Int)), (.string x0)] : Array Value).size = 3) <|
  stAW (⟨r1, 0, none⟩ : Addr) [(.int .i64 (3 : Int)), (.int .i64 (0 : Int)), (.string x0)] <|
  ldAW [(.int .i64), (.int .i64), .str] (⟨r1, 0, none⟩ : Addr) fun (u2 : (Int × Int × ByteArray × Unit)) => K (.agg #[(.int .i64 u2.1), (.int .i64 u2.2.1), (.string u2.2.2.1)])
theorem eq24 (x0 : ByteArray) (K : Value → WP) : bodyW Tryd.prog Tryd.f24 an24 false [(.string x0)] K = S24 x0 K := by kernel_rfl
theorem calls24 (x0 : ByteArray) {K : Value → WP} {w : World} (h : S24 x0 K w) : Calls Tryd.prog 24 #[(.string x0)] w (Ret K) := callsR_of_bodyW mixed Tryd.func24 (of_decide_eq_true (by kernel_rfl)) (by rw [eq24]; exact h)

/-- shadowbook/shadowbookkit.LightRow -/
def an25 : Ann := (.seq .nil (.seq (.seq .nil (.block (.loop [(3, .sh (.one (.int .i64)))] [0, 1000000] (.seq (.seq .nil (.cond .nil .nil)) (.seq (.block (.seq .nil (.cond (.seq .nil .nil) .nil))) .nil))))) (.seq .nil .nil)))
def S25 (a0 : Option Addr) (n0 c0 : Nat) (K : Value → WP) : WP := 
  loopW (Int × Unit) ((0 : Int), ()) fun (y2 : Int × Unit) (I1 : (Int × Unit) → WP) =>
  splitW (decide (y2.1 < ((n0 : Nat) : Int))) (guardW (0 ≤ y2.1 ∧ y2.1 < ((n0 : Nat) : Int)) <|
  ptrW a0 fun (p3 : Addr) =>
  ldW .str ((p3.add (Int.toNat y2.1 * 3)).add 2) fun (u4 : ByteArray) =>
  splitW (decide (((u4.size : Nat) : Int) > (300 : Int))) (K (.bool false)) <| I1 ((IntKind.wrap .i64 (y2.1 + (1 : Int))), ())) <| K (.bool (decide (((n0 : Nat) : Int) ≤ (20 : Int))))
theorem eq25 (a0 : Option Addr) (n0 c0 : Nat) (K : Value → WP) : bodyW Tryd.prog Tryd.f25 an25 false [(.slice a0 n0 c0)] K = S25 a0 n0 c0 K := by kernel_rfl
theorem calls25 (a0 : Option Addr) (n0 c0 : Nat) {K : Value → WP} {w : World} (h : S25 a0 n0 c0 K w) : Calls Tryd.prog 25 #[(.slice a0 n0 c0)] w (Ret K) := callsR_of_bodyW mixed Tryd.func25 (of_decide_eq_true (by kernel_rfl)) (by rw [eq25]; exact h)

/-- shadowbook/shadowbookref16.Unkey -/
def an26 : Ann := (.seq .nil (.seq .nil (.seq (.block (.loop [(0, .sh (.one .str)), (4, .sh (.one .slc))] [1000000] (.seq (.seq .nil (.cond .nil .nil)) (.block (.seq .nil (.seq (.seq .nil (.cond (.seq .nil .nil) .nil)) (.seq .nil .nil))))))) (.seq .nil .nil))))
def S26 (x0 : ByteArray) (K : Value → WP) : WP := 
  loopW (ByteArray × (Option Addr × Nat × Nat) × Unit) (x0, (none, 0, 0), ()) fun (y2 : ByteArray × (Option Addr × Nat × Nat) × Unit) (I1 : (ByteArray × (Option Addr × Nat × Nat) × Unit) → WP) =>
  splitW (decide (((y2.1.size : Nat) : Int) > (0 : Int))) (callW Tryd.prog 45 [(.string y2.1)] (.many [(.agg [(.int .i64), (.int .i64), .str]), (.one (.int .i64))]) fun (u3 : (Int × Int × ByteArray × Unit) × Int × Unit) =>
  newW (.cells #[(.int .i64 (0 : Int)), (.int .i64 (0 : Int)), (.string ByteArray.empty)] 23) fun (r4 : Nat) =>
  guardW ((#[(.int .i64 u3.1.1), (.int .i64 u3.1.2.1), (.string u3.1.2.2.1)] : Array Value).size = 3) <|
  stAW (⟨r4, 0, none⟩ : Addr) [(.int .i64 u3.1.1), (.int .i64 u3.1.2.1), (.string u3.1.2.2.1)] <|
  splitW (u3.2.1 == (0 : Int)) (K (.tuple #[(.slice none 0 0), (.int .i64 (160 : Int))])) <|
  ldAW [(.int .i64), (.int .i64), .str] (⟨r4, 0, none⟩ : Addr) fun (u5 : (Int × Int × ByteArray × Unit)) =>
  callW Tryd.prog 28 [(.agg #[(.int .i64 u5.1), (.int .i64 u5.2.1), (.string u5.2.2.1)])] (.one (.one (.int .i64))) fun (u6 : Int) =>
  splitW (u6 != (0 : Int)) (K (.tuple #[(.slice none 0 0), (.int .i64 (160 : Int))])) <|
  ldAW [(.int .i64), (.int .i64), .str] (⟨r4, 0, none⟩ : Addr) fun (u7 : (Int × Int × ByteArray × Unit)) =>
  newW (.cells #[(.int .i64 u7.1), (.int .i64 u7.2.1), (.string u7.2.2.1)] 23) fun (r8 : Nat) =>
  runW Tryd.prog (Builtin.append_ #[27, 27] 27 #[(.slice y2.2.1.1 y2.2.1.2.1 y2.2.1.2.2), (.slice (some (⟨r8, 0, none⟩ : Addr)) 1 1)]) .slc fun (u9 : (Option Addr × Nat × Nat)) =>
  guardW (0 ≤ u3.2.1 ∧ u3.2.1 ≤ ((y2.1.size : Nat) : Int)) <| I1 ((ByteArray.extract y2.1 (Int.toNat u3.2.1) y2.1.size), (u9.1, u9.2.1, u9.2.2), ())) <| K (.tuple #[(.slice y2.2.1.1 y2.2.1.2.1 y2.2.1.2.2), (.int .i64 (0 : Int))])
theorem eq26 (x0 : ByteArray) (K : Value → WP) : bodyW Tryd.prog Tryd.f26 an26 false [(.string x0)] K = S26 x0 K := by kernel_rfl
theorem calls26 (x0 : ByteArray) {K : Value → WP} {w : World} (h : S26 x0 K w) : Calls Tryd.prog 26 #[(.string x0)] w (Ret K) := callsR_of_bodyW mixed Tryd.func26 (of_decide_eq_true (by kernel_rfl)) (by rw [eq26]; exact h)

/-- shadowbook/shadowbookref16.Read -/
def an27 : Ann := (.seq .nil (.seq (.seq .nil (.cond (.seq .nil .nil) .nil)) (.seq .nil (.seq (.seq .nil (.cond (.seq .nil .nil) .nil)) (.seq .nil .nil)))))
def S27 (x0 : ByteArray) (K : Value → WP) : WP := 
  newW (.cells #[(.int .i64 (0 : Int)), (.int .i64 (0 : Int)), (.string ByteArray.empty)] 23) fun (r1 : Nat) =>
  splitW (x0.toList == (ByteArray.mk #[110, 117, 108, 108]).toList) (guardW ((#[(.int .i64 (0 : Int)), (.int .i64 (0 : Int)), (.string ByteArray.empty)] : Array Value).size = 3) <|
  stAW (⟨r1, 0, none⟩ : Addr) [(.int .i64 (0 : Int)), (.int .i64 (0 : Int)), (.string ByteArray.empty)] <|
  ldAW [(.int .i64), (.int .i64), .str] (⟨r1, 0, none⟩ : Addr) fun (u2 : (Int × Int × ByteArray × Unit)) => K (.tuple #[(.agg #[(.int .i64 u2.1), (.int .i64 u2.2.1), (.string u2.2.2.1)]), (.int .i64 (0 : Int))])) <|
  callW Tryd.prog 46 [(.string x0)] (.one (.agg [(.int .i64), (.int .i64), .str])) fun (u3 : (Int × Int × ByteArray × Unit)) =>
  newW (.cells #[(.int .i64 (0 : Int)), (.int .i64 (0 : Int)), (.string ByteArray.empty)] 23) fun (r4 : Nat) =>
  guardW ((#[(.int .i64 u3.1), (.int .i64 u3.2.1), (.string u3.2.2.1)] : Array Value).size = 3) <|
  stAW (⟨r4, 0, none⟩ : Addr) [(.int .i64 u3.1), (.int .i64 u3.2.1), (.string u3.2.2.1)] <|
  splitW (x0.toList == (ByteArray.mk #[]).toList) (guardW ((#[(.int .i64 (0 : Int)), (.int .i64 (0 : Int)), (.string ByteArray.empty)] : Array Value).size = 3) <|
  stAW (⟨r1, 0, none⟩ : Addr) [(.int .i64 (0 : Int)), (.int .i64 (0 : Int)), (.string ByteArray.empty)] <|
  ldAW [(.int .i64), (.int .i64), .str] (⟨r1, 0, none⟩ : Addr) fun (u5 : (Int × Int × ByteArray × Unit)) => K (.tuple #[(.agg #[(.int .i64 u5.1), (.int .i64 u5.2.1), (.string u5.2.2.1)]), (.int .i64 (160 : Int))])) <|
  ldAW [(.int .i64), (.int .i64), .str] (⟨r4, 0, none⟩ : Addr) fun (u6 : (Int × Int × ByteArray × Unit)) =>
  callW Tryd.prog 29 [(.agg #[(.int .i64 u6.1), (.int .i64 u6.2.1), (.string u6.2.2.1)])] (.one (.one .str)) fun (u7 : ByteArray) =>
  splitW (!(u7.toList == x0.toList)) (guardW ((#[(.int .i64 (0 : Int)), (.int .i64 (0 : Int)), (.string ByteArray.empty)] : Array Value).size = 3) <|
  stAW (⟨r1, 0, none⟩ : Addr) [(.int .i64 (0 : Int)), (.int .i64 (0 : Int)), (.string ByteArray.empty)] <|
  ldAW [(.int .i64), (.int .i64), .str] (⟨r1, 0, none⟩ : Addr) fun (u8 : (Int × Int × ByteArray × Unit)) => K (.tuple #[(.agg #[(.int .i64 u8.1), (.int .i64 u8.2.1), (.string u8.2.2.1)]), (.int .i64 (160 : Int))])) <|
  ldAW [(.int .i64), (.int .i64), .str] (⟨r4, 0, none⟩ : Addr) fun (u9 : (Int × Int × ByteArray × Unit)) =>
  guardW ((#[(.int .i64 u9.1), (.int .i64 u9.2.1), (.string u9.2.2.1)] : Array Value).size = 3) <|
  stAW (⟨r1, 0, none⟩ : Addr) [(.int .i64 u9.1), (.int .i64 u9.2.1), (.string u9.2.2.1)] <|
  ldAW [(.int .i64), (.int .i64), .str] (⟨r1, 0, none⟩ : Addr) fun (u10 : (Int × Int × ByteArray × Unit)) => K (.tuple #[(.agg #[(.int .i64 u10.1), (.int .i64 u10.2.1), (.string u10.2.2.1)]), (.int .i64 (0 : Int))])
theorem eq27 (x0 : ByteArray) (K : Value → WP) : bodyW Tryd.prog Tryd.f27 an27 false [(.string x0)] K = S27 x0 K := by kernel_rfl
theorem calls27 (x0 : ByteArray) {K : Value → WP} {w : World} (h : S27 x0 K w) : Calls Tryd.prog 27 #[(.string x0)] w (Ret K) := callsR_of_bodyW mixed Tryd.func27 (of_decide_eq_true (by kernel_rfl)) (by rw [eq27]; exact h)

/-- shadowbook/shadowbookref16.Check -/
def an28 : Ann := (.seq .nil (.seq .nil (.join [(3, .sh (.one .bool))] [1000000] (.seq .nil (.block (.seq .nil (.cond .nil (.seq .nil (.cond .nil (.seq .nil (.cond .nil (.seq .nil (.cond .nil .nil)))))))))) (.seq (.seq .nil (.cond (.seq .nil .nil) .nil)) (.seq .nil .nil)))))
def S28 (x0_0 : Int) (x0_1 : Int) (x0_2 : ByteArray) (K : Value → WP) : WP := 
  newW (.cells #[(.int .i64 x0_0), (.int .i64 x0_1), (.string x0_2)] 23) fun (r1 : Nat) =>
  joinW (Bool × Unit) (fun (J2 : (Bool × Unit) → WP) =>
  ldW (.int .i64) (⟨r1, 0, none⟩ : Addr) fun (u4 : Int) =>
  splitW (u4 == (0 : Int)) (ldW (.int .i64) ((⟨r1, 0, none⟩ : Addr).add 1) fun (u5 : Int) =>
  splitW (u5 == (0 : Int)) (ldW .str ((⟨r1, 0, none⟩ : Addr).add 2) fun (u6 : ByteArray) => J2 ((u6.toList == (ByteArray.mk #[]).toList), ())) <| J2 (false, ())) <|
  splitW (u4 == (1 : Int)) (ldW .str ((⟨r1, 0, none⟩ : Addr).add 2) fun (u7 : ByteArray) => J2 ((u7.toList == (ByteArray.mk #[]).toList), ())) <|
  splitW (u4 == (2 : Int)) (ldW .str ((⟨r1, 0, none⟩ : Addr).add 2) fun (u8 : ByteArray) =>
  splitW (u8.toList == (ByteArray.mk #[]).toList) (ldW (.int .i64) ((⟨r1, 0, none⟩ : Addr).add 1) fun (u9 : Int) =>
  splitW (u9 == (0 : Int)) (J2 (true, ())) <|
  ldW (.int .i64) ((⟨r1, 0, none⟩ : Addr).add 1) fun (u10 : Int) => J2 ((u10 == (1 : Int)), ())) <| J2 (false, ())) <|
  splitW (u4 == (3 : Int)) (ldW (.int .i64) ((⟨r1, 0, none⟩ : Addr).add 1) fun (u11 : Int) =>
  splitW (u11 == (0 : Int)) (ldW .str ((⟨r1, 0, none⟩ : Addr).add 2) fun (u12 : ByteArray) => J2 ((decide (((u12.size : Nat) : Int) ≤ (256 : Int))), ())) <| J2 (false, ())) <| J2 (false, ())) fun (y3 : Bool × Unit) =>
  splitW (!y3.1) (K (.int .i64 (160 : Int))) <| K (.int .i64 (0 : Int))
theorem eq28 (x0_0 : Int) (x0_1 : Int) (x0_2 : ByteArray) (K : Value → WP) : bodyW Tryd.prog Tryd.f28 an28 false [(.agg #[(.int .i64 x0_0), (.int .i64 x0_1), (.string x0_2)])] K = S28 x0_0 x0_1 x0_2 K := by kernel_rfl
theorem calls28 (x0_0 : Int) (x0_1 : Int) (x0_2 : ByteArray) {K : Value → WP} {w : World} (h : S28 x0_0 x0_1 x0_2 K w) : Calls Tryd.prog 28 #[(.agg #[(.int .i64 x0_0), (.int .i64 x0_1), (.string x0_2)])] w (Ret K) := callsR_of_bodyW mixed Tryd.func28 (of_decide_eq_true (by kernel_rfl)) (by rw [eq28]; exact h)

/-- shadowbook/shadowbookref16.Text -/
def an29 : Ann := (.seq .nil (.seq (.seq .nil (.cond (.seq .nil .nil) .nil)) (.seq (.seq .nil (.block (.seq .nil (.cond (.seq .nil .nil) (.seq .nil (.cond (.seq .nil .nil) (.seq .nil (.cond (.seq (.seq .nil (.cond (.seq .nil .nil) .nil)) (.seq .nil .nil)) .nil)))))))) (.seq .nil (.seq .nil (.seq (.seq .nil (.block (.loop [(4, .sh (.one .slc)), (5, .sh (.one (.int .i64)))] [1, 3, 1000000] (.seq (.seq .nil (.cond .nil .nil)) (.join [(4, .sh (.one .slc))] [1, 3, 5, 1000000] (.block (.seq .nil (.join [(49, .sh (.one .bool))] [1, 3, 4, 5, 6, 1000000] .nil (.cond .nil .nil)))) .nil))))) (.seq .nil .nil)))))))
def S29 (x0_0 : Int) (x0_1 : Int) (x0_2 : ByteArray) (K : Value → WP) : WP := 
  newW (.cells #[(.int .i64 x0_0), (.int .i64 x0_1), (.string x0_2)] 23) fun (r1 : Nat) =>
  ldAW [(.int .i64), (.int .i64), .str] (⟨r1, 0, none⟩ : Addr) fun (u2 : (Int × Int × ByteArray × Unit)) =>
  callW Tryd.prog 28 [(.agg #[(.int .i64 u2.1), (.int .i64 u2.2.1), (.string u2.2.2.1)])] (.one (.one (.int .i64))) fun (u3 : Int) =>
  splitW (u3 != (0 : Int)) (K (.string (ByteArray.mk #[]))) <|
  ldW (.int .i64) (⟨r1, 0, none⟩ : Addr) fun (u4 : Int) =>
  splitW (u4 == (0 : Int)) (K (.string (ByteArray.mk #[110, 117, 108, 108]))) <|
  splitW (u4 == (1 : Int)) (ldW (.int .i64) ((⟨r1, 0, none⟩ : Addr).add 1) fun (u5 : Int) =>
  callW Tryd.prog 47 [(.int .i64 u5)] (.one (.one .str)) fun (u6 : ByteArray) => K (.string u6)) <|
  splitW (u4 == (2 : Int)) (ldW (.int .i64) ((⟨r1, 0, none⟩ : Addr).add 1) fun (u7 : Int) =>
  splitW (u7 == (1 : Int)) (K (.string (ByteArray.mk #[116, 114, 117, 101]))) <| K (.string (ByteArray.mk #[102, 97, 108, 115, 101]))) <|
  newW (.cells #[(.int .u8 (34 : Int))] 5) fun (r8 : Nat) =>
  loopW ((Option Addr × Nat × Nat) × Int × Unit) (((some (⟨r8, 0, none⟩ : Addr)), 1, 1), (0 : Int), ()) fun (y10 : (Option Addr × Nat × Nat) × Int × Unit) (I9 : ((Option Addr × Nat × Nat) × Int × Unit) → WP) =>
  ldW .str ((⟨r1, 0, none⟩ : Addr).add 2) fun (u11 : ByteArray) =>
  splitW (decide (y10.2.1 < ((u11.size : Nat) : Int))) (joinW ((Option Addr × Nat × Nat) × Unit) (fun (J12 : ((Option Addr × Nat × Nat) × Unit) → WP) =>
  ldW .str ((⟨r1, 0, none⟩ : Addr).add 2) fun (u14 : ByteArray) =>
  guardW (0 ≤ y10.2.1 ∧ y10.2.1 < ((u14.size : Nat) : Int)) <|
  joinW (Bool × Unit) (fun (J15 : (Bool × Unit) → WP) =>
  splitW (decide ((bt u14 y10.2.1) ≥ (32 : Int))) (splitW (decide ((bt u14 y10.2.1) ≤ (126 : Int))) (splitW ((bt u14 y10.2.1) != (34 : Int)) (J15 (((bt u14 y10.2.1) != (92 : Int)), ())) <| J15 (false, ())) <| J15 (false, ())) <| J15 (false, ())) fun (y16 : Bool × Unit) =>
  splitW y16.1 (newW (.cells #[(.int .u8 (bt u14 y10.2.1))] 5) fun (r17 : Nat) =>
  runW Tryd.prog (Builtin.append_ #[57, 57] 57 #[(.slice y10.1.1 y10.1.2.1 y10.1.2.2), (.slice (some (⟨r17, 0, none⟩ : Addr)) 1 1)]) .slc fun (u18 : (Option Addr × Nat × Nat)) => J12 ((u18.1, u18.2.1, u18.2.2), ())) <|
  drewW <|
  guardW (0 ≤ (ishr .u8 (bt u14 y10.2.1) (4 : Int)) ∧ (ishr .u8 (bt u14 y10.2.1) (4 : Int)) < (((ByteArray.mk #[48, 49, 50, 51, 52, 53, 54, 55, 56, 57, 97, 98, 99, 100, 101, 102]).size : Nat) : Int)) <|
  guardW (0 ≤ (iand .u8 (bt u14 y10.2.1) (15 : Int)) ∧ (iand .u8 (bt u14 y10.2.1) (15 : Int)) < (((ByteArray.mk #[48, 49, 50, 51, 52, 53, 54, 55, 56, 57, 97, 98, 99, 100, 101, 102]).size : Nat) : Int)) <|
  newW (.cells #[(.int .u8 (92 : Int)), (.int .u8 (120 : Int)), (.int .u8 (bt (ByteArray.mk #[48, 49, 50, 51, 52, 53, 54, 55, 56, 57, 97, 98, 99, 100, 101, 102]) (ishr .u8 (bt u14 y10.2.1) (4 : Int)))), (.int .u8 (bt (ByteArray.mk #[48, 49, 50, 51, 52, 53, 54, 55, 56, 57, 97, 98, 99, 100, 101, 102]) (iand .u8 (bt u14 y10.2.1) (15 : Int))))] 5) fun (r19 : Nat) =>
  runW Tryd.prog (Builtin.append_ #[57, 57] 57 #[(.slice y10.1.1 y10.1.2.1 y10.1.2.2), (.slice (some (⟨r19, 0, none⟩ : Addr)) 4 4)]) .slc fun (u20 : (Option Addr × Nat × Nat)) => J12 ((u20.1, u20.2.1, u20.2.2), ())) fun (y13 : (Option Addr × Nat × Nat) × Unit) => I9 ((y13.1.1, y13.1.2.1, y13.1.2.2), (IntKind.wrap .i64 (y10.2.1 + (1 : Int))), ())) <|
  newW (.cells #[(.int .u8 (34 : Int))] 5) fun (r21 : Nat) =>
  runW Tryd.prog (Builtin.append_ #[57, 57] 57 #[(.slice y10.1.1 y10.1.2.1 y10.1.2.2), (.slice (some (⟨r21, 0, none⟩ : Addr)) 1 1)]) .slc fun (u22 : (Option Addr × Nat × Nat)) =>
  runW Tryd.prog (Go.convert 57 9 (.slice u22.1 u22.2.1 u22.2.2)) .str fun (u23 : ByteArray) => K (.string u23)
theorem eq29 (x0_0 : Int) (x0_1 : Int) (x0_2 : ByteArray) (K : Value → WP) : bodyW Tryd.prog Tryd.f29 an29 false [(.agg #[(.int .i64 x0_0), (.int .i64 x0_1), (.string x0_2)])] K = S29 x0_0 x0_1 x0_2 K := by kernel_rfl
theorem calls29 (x0_0 : Int) (x0_1 : Int) (x0_2 : ByteArray) {K : Value → WP} {w : World} (h : S29 x0_0 x0_1 x0_2 K w) : Calls Tryd.prog 29 #[(.agg #[(.int .i64 x0_0), (.int .i64 x0_1), (.string x0_2)])] w (Ret K) := callsR_of_bodyW mixed Tryd.func29 (of_decide_eq_true (by kernel_rfl)) (by rw [eq29]; exact h)

/-- shadowbook/shadowbookref16.Compare -/
def an30 : Ann := (.seq .nil (.seq (.block (.seq .nil (.cond (.seq .nil .nil) (.seq .nil (.cond (.seq .nil .nil) .nil))))) (.seq .nil .nil)))
def S30 (x0_0 : Int) (x0_1 : Int) (x0_2 : ByteArray) (x1_0 : Int) (x1_1 : Int) (x1_2 : ByteArray) (K : Value → WP) : WP := 
  newW (.cells #[(.int .i64 x0_0), (.int .i64 x0_1), (.string x0_2)] 23) fun (r1 : Nat) =>
  newW (.cells #[(.int .i64 x1_0), (.int .i64 x1_1), (.string x1_2)] 23) fun (r2 : Nat) =>
  ldW (.int .i64) (⟨r1, 0, none⟩ : Addr) fun (u3 : Int) =>
  ldW (.int .i64) (⟨r2, 0, none⟩ : Addr) fun (u4 : Int) =>
  splitW (u3 != u4) (ldW (.int .i64) (⟨r1, 0, none⟩ : Addr) fun (u5 : Int) =>
  ldW (.int .i64) (⟨r2, 0, none⟩ : Addr) fun (u6 : Int) =>
  callW Tryd.prog 48 [(.bool (decide (u5 < u6))), (.bool true)] (.one (.one (.int .i64))) fun (u7 : Int) => K (.int .i64 u7)) <|
  ldW (.int .i64) ((⟨r1, 0, none⟩ : Addr).add 1) fun (u8 : Int) =>
  ldW (.int .i64) ((⟨r2, 0, none⟩ : Addr).add 1) fun (u9 : Int) =>
  splitW (u8 != u9) (ldW (.int .i64) ((⟨r1, 0, none⟩ : Addr).add 1) fun (u10 : Int) =>
  ldW (.int .i64) ((⟨r2, 0, none⟩ : Addr).add 1) fun (u11 : Int) =>
  callW Tryd.prog 48 [(.bool (decide (u10 < u11))), (.bool true)] (.one (.one (.int .i64))) fun (u12 : Int) => K (.int .i64 u12)) <|
  ldW .str ((⟨r1, 0, none⟩ : Addr).add 2) fun (u13 : ByteArray) =>
  ldW .str ((⟨r2, 0, none⟩ : Addr).add 2) fun (u14 : ByteArray) =>
  ldW .str ((⟨r1, 0, none⟩ : Addr).add 2) fun (u15 : ByteArray) =>
  ldW .str ((⟨r2, 0, none⟩ : Addr).add 2) fun (u16 : ByteArray) =>
  callW Tryd.prog 48 [(.bool (Op.bytesLess u13.toList u14.toList)), (.bool (!((Op.bytesLess u15.toList u16.toList) || (u15.toList == u16.toList))))] (.one (.one (.int .i64))) fun (u17 : Int) => K (.int .i64 u17)
theorem eq30 (x0_0 : Int) (x0_1 : Int) (x0_2 : ByteArray) (x1_0 : Int) (x1_1 : Int) (x1_2 : ByteArray) (K : Value → WP) : bodyW Tryd.prog Tryd.f30 an30 false [(.agg #[(.int .i64 x0_0), (.int .i64 x0_1), (.string x0_2)]), (.agg #[(.int .i64 x1_0), (.int .i64 x1_1), (.string x1_2)])] K = S30 x0_0 x0_1 x0_2 x1_0 x1_1 x1_2 K := by kernel_rfl
theorem calls30 (x0_0 : Int) (x0_1 : Int) (x0_2 : ByteArray) (x1_0 : Int) (x1_1 : Int) (x1_2 : ByteArray) {K : Value → WP} {w : World} (h : S30 x0_0 x0_1 x0_2 x1_0 x1_1 x1_2 K w) : Calls Tryd.prog 30 #[(.agg #[(.int .i64 x0_0), (.int .i64 x0_1), (.string x0_2)]), (.agg #[(.int .i64 x1_0), (.int .i64 x1_1), (.string x1_2)])] w (Ret K) := callsR_of_bodyW mixed Tryd.func30 (of_decide_eq_true (by kernel_rfl)) (by rw [eq30]; exact h)

/-- shadowbook/shadowbookref16.Rows -/
def an31 : Ann := (.seq .nil (.seq (.seq .nil (.block (.loop [(5, .sh (.one (.int .i64)))] [0, 1, 1000000] (.seq (.seq .nil (.cond .nil .nil)) (.seq (.block (.seq .nil (.seq .nil (.cond (.seq .nil .nil) .nil)))) .nil))))) (.seq .nil .nil)))
def S31 (a0 : Option Addr) (n0 c0 : Nat) (a1 : Option Addr) (n1 c1 : Nat) (K : Value → WP) : WP := 
  loopW (Int × Unit) ((0 : Int), ()) fun (y2 : Int × Unit) (I1 : (Int × Unit) → WP) =>
  splitW (decide (y2.1 < ((n0 : Nat) : Int))) (splitW (decide (y2.1 < ((n1 : Nat) : Int))) (drewW <|
  guardW (0 ≤ y2.1 ∧ y2.1 < ((n0 : Nat) : Int)) <|
  ptrW a0 fun (p3 : Addr) =>
  ldAW [(.int .i64), (.int .i64), .str] (p3.add (Int.toNat y2.1 * 3)) fun (u4 : (Int × Int × ByteArray × Unit)) =>
  guardW (0 ≤ y2.1 ∧ y2.1 < ((n1 : Nat) : Int)) <|
  ptrW a1 fun (p5 : Addr) =>
  ldAW [(.int .i64), (.int .i64), .str] (p5.add (Int.toNat y2.1 * 3)) fun (u6 : (Int × Int × ByteArray × Unit)) =>
  callW Tryd.prog 30 [(.agg #[(.int .i64 u4.1), (.int .i64 u4.2.1), (.string u4.2.2.1)]), (.agg #[(.int .i64 u6.1), (.int .i64 u6.2.1), (.string u6.2.2.1)])] (.one (.one (.int .i64))) fun (u7 : Int) =>
  splitW (u7 != (0 : Int)) (K (.int .i64 u7)) <| I1 ((IntKind.wrap .i64 (y2.1 + (1 : Int))), ())) <|
  callW Tryd.prog 48 [(.bool (decide (((n0 : Nat) : Int) < ((n1 : Nat) : Int)))), (.bool (decide (((n0 : Nat) : Int) > ((n1 : Nat) : Int))))] (.one (.one (.int .i64))) fun (u8 : Int) => K (.int .i64 u8)) <|
  callW Tryd.prog 48 [(.bool (decide (((n0 : Nat) : Int) < ((n1 : Nat) : Int)))), (.bool (decide (((n0 : Nat) : Int) > ((n1 : Nat) : Int))))] (.one (.one (.int .i64))) fun (u9 : Int) => K (.int .i64 u9)
theorem eq31 (a0 : Option Addr) (n0 c0 : Nat) (a1 : Option Addr) (n1 c1 : Nat) (K : Value → WP) : bodyW Tryd.prog Tryd.f31 an31 false [(.slice a0 n0 c0), (.slice a1 n1 c1)] K = S31 a0 n0 c0 a1 n1 c1 K := by kernel_rfl
theorem calls31 (a0 : Option Addr) (n0 c0 : Nat) (a1 : Option Addr) (n1 c1 : Nat) {K : Value → WP} {w : World} (h : S31 a0 n0 c0 a1 n1 c1 K w) : Calls Tryd.prog 31 #[(.slice a0 n0 c0), (.slice a1 n1 c1)] w (Ret K) := callsR_of_bodyW mixed Tryd.func31 (of_decide_eq_true (by kernel_rfl)) (by rw [eq31]; exact h)

/-- shadowbook/shadowbookref16.Key -/
def an32 : Ann := (.seq .nil (.seq .nil (.seq (.seq .nil (.block (.loop [(3, .sh (.one .str)), (4, .sh (.one (.int .i64)))] [0, 1000000] (.seq (.seq .nil (.cond .nil .nil)) (.seq (.block (.seq (.seq .nil (.cond (.seq .nil .nil) .nil)) .nil)) .nil))))) (.seq .nil .nil))))
def S32 (a0 : Option Addr) (n0 c0 : Nat) (K : Value → WP) : WP := 
  loopW (ByteArray × Int × Unit) ((ByteArray.mk #[]), (0 : Int), ()) fun (y2 : ByteArray × Int × Unit) (I1 : (ByteArray × Int × Unit) → WP) =>
  splitW (decide (y2.2.1 < ((n0 : Nat) : Int))) (guardW (0 ≤ y2.2.1 ∧ y2.2.1 < ((n0 : Nat) : Int)) <|
  ptrW a0 fun (p3 : Addr) =>
  ldAW [(.int .i64), (.int .i64), .str] (p3.add (Int.toNat y2.2.1 * 3)) fun (u4 : (Int × Int × ByteArray × Unit)) =>
  callW Tryd.prog 28 [(.agg #[(.int .i64 u4.1), (.int .i64 u4.2.1), (.string u4.2.2.1)])] (.one (.one (.int .i64))) fun (u5 : Int) =>
  splitW (u5 != (0 : Int)) (K (.string (ByteArray.mk #[]))) <|
  guardW (0 ≤ y2.2.1 ∧ y2.2.1 < ((n0 : Nat) : Int)) <|
  ptrW a0 fun (p6 : Addr) =>
  ldAW [(.int .i64), (.int .i64), .str] (p6.add (Int.toNat y2.2.1 * 3)) fun (u7 : (Int × Int × ByteArray × Unit)) =>
  callW Tryd.prog 49 [(.agg #[(.int .i64 u7.1), (.int .i64 u7.2.1), (.string u7.2.2.1)])] (.one (.one .str)) fun (u8 : ByteArray) =>
  guardW (((y2.1.size + u8.size : Nat) : Int) ≤ IntKind.i64.max) <| I1 ((y2.1 ++ u8), (IntKind.wrap .i64 (y2.2.1 + (1 : Int))), ())) <| K (.string y2.1)
theorem eq32 (a0 : Option Addr) (n0 c0 : Nat) (K : Value → WP) : bodyW Tryd.prog Tryd.f32 an32 false [(.slice a0 n0 c0)] K = S32 a0 n0 c0 K := by kernel_rfl
theorem calls32 (a0 : Option Addr) (n0 c0 : Nat) {K : Value → WP} {w : World} (h : S32 a0 n0 c0 K w) : Calls Tryd.prog 32 #[(.slice a0 n0 c0)] w (Ret K) := callsR_of_bodyW mixed Tryd.func32 (of_decide_eq_true (by kernel_rfl)) (by rw [eq32]; exact h)

/-- cmp.Or[int] -/
def an33 : Ann := (.seq .nil (.seq .nil (.seq (.seq .nil (.block (.loop [(8, .sh (.one (.int .i64)))] [3, 6, 7, 1000000] (.seq .nil (.seq (.cond .nil .nil) (.seq (.block (.seq .nil (.seq .nil (.cond (.seq .nil .nil) .nil)))) .nil)))))) (.seq .nil .nil))))
def S33 (a0 : Option Addr) (n0 c0 : Nat) (K : Value → WP) : WP := 
  loopW (Int × Unit) ((0 : Int), ()) fun (y2 : Int × Unit) (I1 : (Int × Unit) → WP) =>
  splitW (decide (y2.1 < ((n0 : Nat) : Int))) (guardW (0 ≤ y2.1 ∧ y2.1 < ((n0 : Nat) : Int)) <|
  ptrW a0 fun (p3 : Addr) =>
  ldW (.int .i64) (p3.add (Int.toNat y2.1 * 1)) fun (u4 : Int) =>
  splitW (u4 != (0 : Int)) (K (.int .i64 u4)) <| I1 ((IntKind.wrap .i64 (y2.1 + (1 : Int))), ())) <| K (.int .i64 (0 : Int))
theorem eq33 (a0 : Option Addr) (n0 c0 : Nat) (K : Value → WP) : bodyW Tryd.prog Tryd.f33 an33 false [(.slice a0 n0 c0)] K = S33 a0 n0 c0 K := by kernel_rfl
theorem calls33 (a0 : Option Addr) (n0 c0 : Nat) {K : Value → WP} {w : World} (h : S33 a0 n0 c0 K w) : Calls Tryd.prog 33 #[(.slice a0 n0 c0)] w (Ret K) := callsR_of_bodyW mixed Tryd.func33 (of_decide_eq_true (by kernel_rfl)) (by rw [eq33]; exact h)

/-- cmp.Compare[int] -/
def an34 : Ann := (.seq .nil (.seq .nil (.seq .nil (.seq (.seq .nil (.cond (.seq (.seq .nil (.cond (.seq .nil .nil) .nil)) (.seq .nil .nil)) .nil)) (.seq (.seq .nil (.cond (.seq .nil .nil) .nil)) (.seq (.seq .nil (.cond (.seq .nil .nil) .nil)) (.seq (.seq .nil (.cond (.seq .nil .nil) .nil)) (.seq .nil .nil))))))))
def S34 (x0 : Int) (x1 : Int) (K : Value → WP) : WP := 
  callW Tryd.prog 50 [(.int .i64 x0)] (.one (.one .bool)) fun (u1 : Bool) =>
  callW Tryd.prog 50 [(.int .i64 x1)] (.one (.one .bool)) fun (u2 : Bool) =>
  splitW u1 (splitW u2 (K (.int .i64 (0 : Int))) <| K (.int .i64 (-1 : Int))) <|
  splitW u2 (K (.int .i64 (1 : Int))) <|
  splitW (decide (x0 < x1)) (K (.int .i64 (-1 : Int))) <|
  splitW (decide (x0 > x1)) (K (.int .i64 (1 : Int))) <| K (.int .i64 (0 : Int))
theorem eq34 (x0 : Int) (x1 : Int) (K : Value → WP) : bodyW Tryd.prog Tryd.f34 an34 false [(.int .i64 x0), (.int .i64 x1)] K = S34 x0 x1 K := by kernel_rfl
theorem calls34 (x0 : Int) (x1 : Int) {K : Value → WP} {w : World} (h : S34 x0 x1 K w) : Calls Tryd.prog 34 #[(.int .i64 x0), (.int .i64 x1)] w (Ret K) := callsR_of_bodyW mixed Tryd.func34 (of_decide_eq_true (by kernel_rfl)) (by rw [eq34]; exact h)

/-- cmp.Compare[int64] -/
def an35 : Ann := (.seq .nil (.seq .nil (.seq .nil (.seq (.seq .nil (.cond (.seq (.seq .nil (.cond (.seq .nil .nil) .nil)) (.seq .nil .nil)) .nil)) (.seq (.seq .nil (.cond (.seq .nil .nil) .nil)) (.seq (.seq .nil (.cond (.seq .nil .nil) .nil)) (.seq (.seq .nil (.cond (.seq .nil .nil) .nil)) (.seq .nil .nil))))))))
def S35 (x0 : Int) (x1 : Int) (K : Value → WP) : WP := 
  callW Tryd.prog 51 [(.int .i64 x0)] (.one (.one .bool)) fun (u1 : Bool) =>
  callW Tryd.prog 51 [(.int .i64 x1)] (.one (.one .bool)) fun (u2 : Bool) =>
  splitW u1 (splitW u2 (K (.int .i64 (0 : Int))) <| K (.int .i64 (-1 : Int))) <|
  splitW u2 (K (.int .i64 (1 : Int))) <|
  splitW (decide (x0 < x1)) (K (.int .i64 (-1 : Int))) <|
  splitW (decide (x0 > x1)) (K (.int .i64 (1 : Int))) <| K (.int .i64 (0 : Int))
theorem eq35 (x0 : Int) (x1 : Int) (K : Value → WP) : bodyW Tryd.prog Tryd.f35 an35 false [(.int .i64 x0), (.int .i64 x1)] K = S35 x0 x1 K := by kernel_rfl
theorem calls35 (x0 : Int) (x1 : Int) {K : Value → WP} {w : World} (h : S35 x0 x1 K w) : Calls Tryd.prog 35 #[(.int .i64 x0), (.int .i64 x1)] w (Ret K) := callsR_of_bodyW mixed Tryd.func35 (of_decide_eq_true (by kernel_rfl)) (by rw [eq35]; exact h)

/-- slices.CompareFunc[[]shadowbook/api.Cell,[]shadowbook/api.Cell,shadowbook/api.Cell,shadowbook/api.Cell] -/
def an37 : Ann := (.seq .nil (.seq (.seq .nil (.block (.loop [(13, .sh (.one (.int .i64)))] [0, 1, 2, 11, 12, 1000000] (.seq .nil (.seq (.cond .nil .nil) (.seq (.block (.seq .nil (.seq (.seq .nil (.cond (.seq .nil .nil) .nil)) (.seq .nil (.seq .nil (.seq .nil (.cond (.seq .nil .nil) .nil))))))) .nil)))))) (.seq (.seq .nil (.cond (.seq .nil .nil) .nil)) (.seq .nil .nil))))
def S37 (a0 : Option Addr) (n0 c0 : Nat) (a1 : Option Addr) (n1 c1 : Nat) (x2 : Value) (K : Value → WP) : WP := 
  loopW (Int × Unit) ((0 : Int), ()) fun (y2 : Int × Unit) (I1 : (Int × Unit) → WP) =>
  splitW (decide (y2.1 < ((n0 : Nat) : Int))) (guardW (0 ≤ y2.1 ∧ y2.1 < ((n0 : Nat) : Int)) <|
  ptrW a0 fun (p3 : Addr) =>
  ldAW [(.int .i64), (.int .i64), .str] (p3.add (Int.toNat y2.1 * 3)) fun (u4 : (Int × Int × ByteArray × Unit)) =>
  newW (.cells #[(.int .i64 (0 : Int)), (.int .i64 (0 : Int)), (.string ByteArray.empty)] 23) fun (r5 : Nat) =>
  guardW ((#[(.int .i64 u4.1), (.int .i64 u4.2.1), (.string u4.2.2.1)] : Array Value).size = 3) <|
  stAW (⟨r5, 0, none⟩ : Addr) [(.int .i64 u4.1), (.int .i64 u4.2.1), (.string u4.2.2.1)] <|
  splitW (decide (y2.1 ≥ ((n1 : Nat) : Int))) (K (.int .i64 (1 : Int))) <|
  guardW (0 ≤ y2.1 ∧ y2.1 < ((n1 : Nat) : Int)) <|
  ptrW a1 fun (p6 : Addr) =>
  ldAW [(.int .i64), (.int .i64), .str] (p6.add (Int.toNat y2.1 * 3)) fun (u7 : (Int × Int × ByteArray × Unit)) =>
  newW (.cells #[(.int .i64 (0 : Int)), (.int .i64 (0 : Int)), (.string ByteArray.empty)] 23) fun (r8 : Nat) =>
  guardW ((#[(.int .i64 u7.1), (.int .i64 u7.2.1), (.string u7.2.2.1)] : Array Value).size = 3) <|
  stAW (⟨r8, 0, none⟩ : Addr) [(.int .i64 u7.1), (.int .i64 u7.2.1), (.string u7.2.2.1)] <|
  ldAW [(.int .i64), (.int .i64), .str] (⟨r5, 0, none⟩ : Addr) fun (u9 : (Int × Int × ByteArray × Unit)) =>
  ldAW [(.int .i64), (.int .i64), .str] (⟨r8, 0, none⟩ : Addr) fun (u10 : (Int × Int × ByteArray × Unit)) =>
  callVW Tryd.prog x2 [(.agg #[(.int .i64 u9.1), (.int .i64 u9.2.1), (.string u9.2.2.1)]), (.agg #[(.int .i64 u10.1), (.int .i64 u10.2.1), (.string u10.2.2.1)])] (.one (.one (.int .i64))) fun (u11 : Int) =>
  splitW (u11 != (0 : Int)) (K (.int .i64 u11)) <| I1 ((IntKind.wrap .i64 (y2.1 + (1 : Int))), ())) <|
  splitW (decide (((n0 : Nat) : Int) < ((n1 : Nat) : Int))) (K (.int .i64 (-1 : Int))) <| K (.int .i64 (0 : Int))
theorem eq37 (a0 : Option Addr) (n0 c0 : Nat) (a1 : Option Addr) (n1 c1 : Nat) (x2 : Value) (K : Value → WP) : bodyW Tryd.prog Tryd.f37 an37 false [(.slice a0 n0 c0), (.slice a1 n1 c1), x2] K = S37 a0 n0 c0 a1 n1 c1 x2 K := by kernel_rfl
theorem calls37 (a0 : Option Addr) (n0 c0 : Nat) (a1 : Option Addr) (n1 c1 : Nat) (x2 : Value) {K : Value → WP} {w : World} (h : S37 a0 n0 c0 a1 n1 c1 x2 K w) : Calls Tryd.prog 37 #[(.slice a0 n0 c0), (.slice a1 n1 c1), x2] w (Ret K) := callsR_of_bodyW mixed Tryd.func37 (of_decide_eq_true (by kernel_rfl)) (by rw [eq37]; exact h)

/-- shadowbook/value.key -/
def an38 : Ann := (.seq .nil (.seq .nil (.seq (.seq .nil (.block (.seq .nil (.cond (.seq .nil (.seq .nil (.block (.loop [(0, .sh (.one .slc)), (6, .sh (.one (.int .i64)))] [5, 1000000] (.seq (.seq .nil (.cond .nil .nil)) (.seq (.block .nil) .nil)))))) (.seq .nil (.cond .nil (.seq .nil (.cond (.seq (.seq .nil (.block (.loop [(0, .sh (.one .slc)), (49, .sh (.one (.int .i64)))] [47, 48, 1000000] (.seq .nil (.seq (.cond .nil .nil) (.seq (.block (.seq .nil (.seq .nil (.seq .nil (.cond .nil .nil))))) .nil)))))) .nil) .nil)))))))) (.seq .nil .nil))))
def S38 (a0 : Option Addr) (n0 c0 : Nat) (x1_0 : Int) (x1_1 : Int) (x1_2 : ByteArray) (K : Value → WP) : WP := 
  newW (.cells #[(.int .i64 x1_0), (.int .i64 x1_1), (.string x1_2)] 23) fun (r1 : Nat) =>
  ldW (.int .i64) (⟨r1, 0, none⟩ : Addr) fun (u2 : Int) =>
  newW (.cells #[(.int .u8 (IntKind.wrap .u8 u2))] 5) fun (r3 : Nat) =>
  runW Tryd.prog (Builtin.append_ #[57, 57] 57 #[(.slice a0 n0 c0), (.slice (some (⟨r3, 0, none⟩ : Addr)) 1 1)]) .slc fun (u4 : (Option Addr × Nat × Nat)) =>
  ldW (.int .i64) (⟨r1, 0, none⟩ : Addr) fun (u5 : Int) =>
  splitW (u5 == (1 : Int)) (ldW (.int .i64) ((⟨r1, 0, none⟩ : Addr).add 1) fun (u6 : Int) =>
  loopW ((Option Addr × Nat × Nat) × Int × Unit) ((u4.1, u4.2.1, u4.2.2), (7 : Int), ()) fun (y8 : (Option Addr × Nat × Nat) × Int × Unit) (I7 : ((Option Addr × Nat × Nat) × Int × Unit) → WP) =>
  splitW (decide (y8.2.1 ≥ (0 : Int))) (guardW (0 ≤ (IntKind.wrap .i64 ((8 : Int) * y8.2.1))) <|
  newW (.cells #[(.int .u8 (IntKind.wrap .u8 (ishr .u64 (ixor .u64 (IntKind.wrap .u64 u6) (9223372036854775808 : Int)) (IntKind.wrap .i64 ((8 : Int) * y8.2.1)))))] 5) fun (r9 : Nat) =>
  runW Tryd.prog (Builtin.append_ #[57, 57] 57 #[(.slice y8.1.1 y8.1.2.1 y8.1.2.2), (.slice (some (⟨r9, 0, none⟩ : Addr)) 1 1)]) .slc fun (u10 : (Option Addr × Nat × Nat)) => I7 ((u10.1, u10.2.1, u10.2.2), (IntKind.wrap .i64 (y8.2.1 - (1 : Int))), ())) <| K (.slice y8.1.1 y8.1.2.1 y8.1.2.2)) <|
  splitW (u5 == (2 : Int)) (ldW (.int .i64) ((⟨r1, 0, none⟩ : Addr).add 1) fun (u11 : Int) =>
  newW (.cells #[(.int .u8 (IntKind.wrap .u8 u11))] 5) fun (r12 : Nat) =>
  runW Tryd.prog (Builtin.append_ #[57, 57] 57 #[(.slice u4.1 u4.2.1 u4.2.2), (.slice (some (⟨r12, 0, none⟩ : Addr)) 1 1)]) .slc fun (u13 : (Option Addr × Nat × Nat)) => K (.slice u13.1 u13.2.1 u13.2.2)) <|
  splitW (u5 == (3 : Int)) (ldW .str ((⟨r1, 0, none⟩ : Addr).add 2) fun (u14 : ByteArray) =>
  runW Tryd.prog (Go.convert 9 57 (.string u14)) .slc fun (u15 : (Option Addr × Nat × Nat)) =>
  loopW ((Option Addr × Nat × Nat) × Int × Unit) ((u4.1, u4.2.1, u4.2.2), (0 : Int), ()) fun (y17 : (Option Addr × Nat × Nat) × Int × Unit) (I16 : ((Option Addr × Nat × Nat) × Int × Unit) → WP) =>
  splitW (decide (y17.2.1 < ((u15.2.1 : Nat) : Int))) (guardW (0 ≤ y17.2.1 ∧ y17.2.1 < ((u15.2.1 : Nat) : Int)) <|
  ptrW u15.1 fun (p18 : Addr) =>
  ldW (.int .u8) (p18.add (Int.toNat y17.2.1 * 1)) fun (u19 : Int) =>
  newW (.cells #[(.int .u8 u19)] 5) fun (r20 : Nat) =>
  runW Tryd.prog (Builtin.append_ #[57, 57] 57 #[(.slice y17.1.1 y17.1.2.1 y17.1.2.2), (.slice (some (⟨r20, 0, none⟩ : Addr)) 1 1)]) .slc fun (u21 : (Option Addr × Nat × Nat)) =>
  splitW (u19 == (0 : Int)) (newW (.cells #[(.int .u8 (255 : Int))] 5) fun (r22 : Nat) =>
  runW Tryd.prog (Builtin.append_ #[57, 57] 57 #[(.slice u21.1 u21.2.1 u21.2.2), (.slice (some (⟨r22, 0, none⟩ : Addr)) 1 1)]) .slc fun (u23 : (Option Addr × Nat × Nat)) => I16 ((u23.1, u23.2.1, u23.2.2), (IntKind.wrap .i64 (y17.2.1 + (1 : Int))), ())) <| I16 ((u21.1, u21.2.1, u21.2.2), (IntKind.wrap .i64 (y17.2.1 + (1 : Int))), ())) <|
  newW (.cells #[(.int .u8 (0 : Int)), (.int .u8 (0 : Int))] 5) fun (r24 : Nat) =>
  runW Tryd.prog (Builtin.append_ #[57, 57] 57 #[(.slice y17.1.1 y17.1.2.1 y17.1.2.2), (.slice (some (⟨r24, 0, none⟩ : Addr)) 2 2)]) .slc fun (u25 : (Option Addr × Nat × Nat)) => K (.slice u25.1 u25.2.1 u25.2.2)) <| K (.slice u4.1 u4.2.1 u4.2.2)
theorem eq38 (a0 : Option Addr) (n0 c0 : Nat) (x1_0 : Int) (x1_1 : Int) (x1_2 : ByteArray) (K : Value → WP) : bodyW Tryd.prog Tryd.f38 an38 false [(.slice a0 n0 c0), (.agg #[(.int .i64 x1_0), (.int .i64 x1_1), (.string x1_2)])] K = S38 a0 n0 c0 x1_0 x1_1 x1_2 K := by kernel_rfl
theorem calls38 (a0 : Option Addr) (n0 c0 : Nat) (x1_0 : Int) (x1_1 : Int) (x1_2 : ByteArray) {K : Value → WP} {w : World} (h : S38 a0 n0 c0 x1_0 x1_1 x1_2 K w) : Calls Tryd.prog 38 #[(.slice a0 n0 c0), (.agg #[(.int .i64 x1_0), (.int .i64 x1_1), (.string x1_2)])] w (Ret K) := callsR_of_bodyW mixed Tryd.func38 (of_decide_eq_true (by kernel_rfl)) (by rw [eq38]; exact h)

/-- (*shadowbook/value.cursor).more -/
def an39 : Ann := (.seq .nil (.seq .nil .nil))
def S39 (x0 : Option Addr) (K : Value → WP) : WP := 
  ptrW x0 fun (p1 : Addr) =>
  ldW .bool (p1.add 1) fun (u2 : Bool) =>
  splitW (!u2) (ptrW x0 fun (p3 : Addr) =>
  ldW .str p3 fun (u4 : ByteArray) => K (.bool (!(u4.toList == (ByteArray.mk #[]).toList)))) <| K (.bool false)
theorem eq39 (x0 : Option Addr) (K : Value → WP) : bodyW Tryd.prog Tryd.f39 an39 false [(.pointer x0)] K = S39 x0 K := by kernel_rfl
theorem calls39 (x0 : Option Addr) {K : Value → WP} {w : World} (h : S39 x0 K w) : Calls Tryd.prog 39 #[(.pointer x0)] w (Ret K) := callsR_of_bodyW mixed Tryd.func39 (of_decide_eq_true (by kernel_rfl)) (by rw [eq39]; exact h)

/-- (*shadowbook/value.cursor).cell -/
def an40 : Ann := (.seq .nil (.seq .nil (.seq (.seq .nil (.block (.seq .nil (.cond (.seq .nil (.seq (.seq .nil (.block (.loop [(4, .sh (.one (.int .u64))), (20, .sh (.one (.int .i64)))] [2, 3, 18, 19, 1000000] (.seq .nil (.seq (.cond .nil .nil) (.seq (.block (.seq .nil .nil)) .nil)))))) .nil)) (.seq .nil (.cond .nil (.seq .nil (.cond .nil .nil)))))))) (.seq .nil .nil))))
def S40 (x0 : Option Addr) (K : Value → WP) : WP := 
  newW (.cells #[(.int .i64 (0 : Int)), (.int .i64 (0 : Int)), (.string ByteArray.empty)] 23) fun (r1 : Nat) =>
  callW Tryd.prog 53 [(.pointer x0), (.int .i64 (1 : Int))] (.one (.one .str)) fun (u2 : ByteArray) =>
  guardW (0 ≤ (0 : Int) ∧ (0 : Int) < ((u2.size : Nat) : Int)) <|
  newW (.cells #[(.int .i64 (0 : Int)), (.int .i64 (0 : Int)), (.string ByteArray.empty)] 23) fun (r3 : Nat) =>
  guardW ((#[(.int .i64 (IntKind.wrap .i64 (bt u2 (0 : Int)))), (.int .i64 (0 : Int)), (.string ByteArray.empty)] : Array Value).size = 3) <|
  stAW (⟨r3, 0, none⟩ : Addr) [(.int .i64 (IntKind.wrap .i64 (bt u2 (0 : Int)))), (.int .i64 (0 : Int)), (.string ByteArray.empty)] <|
  ldW (.int .i64) (⟨r3, 0, none⟩ : Addr) fun (u4 : Int) =>
  splitW (u4 == (1 : Int)) (callW Tryd.prog 53 [(.pointer x0), (.int .i64 (8 : Int))] (.one (.one .str)) fun (u5 : ByteArray) =>
  runW Tryd.prog (Go.convert 9 57 (.string u5)) .slc fun (u6 : (Option Addr × Nat × Nat)) =>
  loopW (Int × Int × Unit) ((0 : Int), (0 : Int), ()) fun (y8 : Int × Int × Unit) (I7 : (Int × Int × Unit) → WP) =>
  splitW (decide (y8.2.1 < ((u6.2.1 : Nat) : Int))) (guardW (0 ≤ y8.2.1 ∧ y8.2.1 < ((u6.2.1 : Nat) : Int)) <|
  ptrW u6.1 fun (p9 : Addr) =>
  ldW (.int .u8) (p9.add (Int.toNat y8.2.1 * 1)) fun (u10 : Int) => I7 ((ior .u64 (ishl .u64 y8.1 (8 : Int)) (IntKind.wrap .u64 u10)), (IntKind.wrap .i64 (y8.2.1 + (1 : Int))), ())) <|
  stW ((⟨r3, 0, none⟩ : Addr).add 1) (.int .i64 (IntKind.wrap .i64 (ixor .u64 y8.1 (9223372036854775808 : Int)))) <|
  ldAW [(.int .i64), (.int .i64), .str] (⟨r3, 0, none⟩ : Addr) fun (u11 : (Int × Int × ByteArray × Unit)) =>
  guardW ((#[(.int .i64 u11.1), (.int .i64 u11.2.1), (.string u11.2.2.1)] : Array Value).size = 3) <|
  stAW (⟨r1, 0, none⟩ : Addr) [(.int .i64 u11.1), (.int .i64 u11.2.1), (.string u11.2.2.1)] <|
  ldAW [(.int .i64), (.int .i64), .str] (⟨r1, 0, none⟩ : Addr) fun (u12 : (Int × Int × ByteArray × Unit)) => K (.agg #[(.int .i64 u12.1), (.int .i64 u12.2.1), (.string u12.2.2.1)])) <|
  splitW (u4 == (2 : Int)) (callW Tryd.prog 53 [(.pointer x0), (.int .i64 (1 : Int))] (.one (.one .str)) fun (u13 : ByteArray) =>
  guardW (0 ≤ (0 : Int) ∧ (0 : Int) < ((u13.size : Nat) : Int)) <|
  stW ((⟨r3, 0, none⟩ : Addr).add 1) (.int .i64 (IntKind.wrap .i64 (bt u13 (0 : Int)))) <|
  ldAW [(.int .i64), (.int .i64), .str] (⟨r3, 0, none⟩ : Addr) fun (u14 : (Int × Int × ByteArray × Unit)) =>
  guardW ((#[(.int .i64 u14.1), (.int .i64 u14.2.1), (.string u14.2.2.1)] : Array Value).size = 3) <|
  stAW (⟨r1, 0, none⟩ : Addr) [(.int .i64 u14.1), (.int .i64 u14.2.1), (.string u14.2.2.1)] <|
  ldAW [(.int .i64), (.int .i64), .str] (⟨r1, 0, none⟩ : Addr) fun (u15 : (Int × Int × ByteArray × Unit)) => K (.agg #[(.int .i64 u15.1), (.int .i64 u15.2.1), (.string u15.2.2.1)])) <|
  splitW (u4 == (3 : Int)) (callW Tryd.prog 54 [(.pointer x0)] (.one (.one .str)) fun (u16 : ByteArray) =>
  stW ((⟨r3, 0, none⟩ : Addr).add 2) (.string u16) <|
  ldAW [(.int .i64), (.int .i64), .str] (⟨r3, 0, none⟩ : Addr) fun (u17 : (Int × Int × ByteArray × Unit)) =>
  guardW ((#[(.int .i64 u17.1), (.int .i64 u17.2.1), (.string u17.2.2.1)] : Array Value).size = 3) <|
  stAW (⟨r1, 0, none⟩ : Addr) [(.int .i64 u17.1), (.int .i64 u17.2.1), (.string u17.2.2.1)] <|
  ldAW [(.int .i64), (.int .i64), .str] (⟨r1, 0, none⟩ : Addr) fun (u18 : (Int × Int × ByteArray × Unit)) => K (.agg #[(.int .i64 u18.1), (.int .i64 u18.2.1), (.string u18.2.2.1)])) <|
  ldAW [(.int .i64), (.int .i64), .str] (⟨r3, 0, none⟩ : Addr) fun (u19 : (Int × Int × ByteArray × Unit)) =>
  guardW ((#[(.int .i64 u19.1), (.int .i64 u19.2.1), (.string u19.2.2.1)] : Array Value).size = 3) <|
  stAW (⟨r1, 0, none⟩ : Addr) [(.int .i64 u19.1), (.int .i64 u19.2.1), (.string u19.2.2.1)] <|
  ldAW [(.int .i64), (.int .i64), .str] (⟨r1, 0, none⟩ : Addr) fun (u20 : (Int × Int × ByteArray × Unit)) => K (.agg #[(.int .i64 u20.1), (.int .i64 u20.2.1), (.string u20.2.2.1)])
theorem eq40 (x0 : Option Addr) (K : Value → WP) : bodyW Tryd.prog Tryd.f40 an40 false [(.pointer x0)] K = S40 x0 K := by kernel_rfl
theorem calls40 (x0 : Option Addr) {K : Value → WP} {w : World} (h : S40 x0 K w) : Calls Tryd.prog 40 #[(.pointer x0)] w (Ret K) := callsR_of_bodyW mixed Tryd.func40 (of_decide_eq_true (by kernel_rfl)) (by rw [eq40]; exact h)

/-- shadowbook/value.candidate -/
def an41 : Ann := (.seq .nil (.seq (.block (.seq .nil (.cond (.seq .nil .nil) (.seq .nil (.cond (.seq .nil .nil) (.seq .nil (.cond (.seq .nil .nil) (.seq .nil (.cond (.seq .nil .nil) .nil))))))))) (.seq .nil (.seq .nil .nil))))
def S41 (x0 : ByteArray) (K : Value → WP) : WP := 
  newW (.cells #[(.int .i64 (0 : Int)), (.int .i64 (0 : Int)), (.string ByteArray.empty)] 23) fun (r1 : Nat) =>
  splitW (x0.toList == (ByteArray.mk #[110, 117, 108, 108]).toList) (guardW ((#[(.int .i64 (0 : Int)), (.int .i64 (0 : Int)), (.string ByteArray.empty)] : Array Value).size = 3) <|
  stAW (⟨r1, 0, none⟩ : Addr) [(.int .i64 (0 : Int)), (.int .i64 (0 : Int)), (.string ByteArray.empty)] <|
  ldAW [(.int .i64), (.int .i64), .str] (⟨r1, 0, none⟩ : Addr) fun (u2 : (Int × Int × ByteArray × Unit)) => K (.agg #[(.int .i64 u2.1), (.int .i64 u2.2.1), (.string u2.2.2.1)])) <|
  splitW (x0.toList == (ByteArray.mk #[116, 114, 117, 101]).toList) (guardW ((#[(.int .i64 (2 : Int)), (.int .i64 (1 : Int)), (.string ByteArray.empty)] : Array Value).size = 3) <|
  stAW (⟨r1, 0, none⟩ : Addr) [(.int .i64 (2 : Int)), (.int .i64 (1 : Int)), (.string ByteArray.empty)] <|
  ldAW [(.int .i64), (.int .i64), .str] (⟨r1, 0, none⟩ : Addr) fun (u3 : (Int × Int × ByteArray × Unit)) => K (.agg #[(.int .i64 u3.1), (.int .i64 u3.2.1), (.string u3.2.2.1)])) <|
  splitW (x0.toList == (ByteArray.mk #[102, 97, 108, 115, 101]).toList) (guardW ((#[(.int .i64 (2 : Int)), (.int .i64 (0 : Int)), (.string ByteArray.empty)] : Array Value).size = 3) <|
  stAW (⟨r1, 0, none⟩ : Addr) [(.int .i64 (2 : Int)), (.int .i64 (0 : Int)), (.string ByteArray.empty)] <|
  ldAW [(.int .i64), (.int .i64), .str] (⟨r1, 0, none⟩ : Addr) fun (u4 : (Int × Int × ByteArray × Unit)) => K (.agg #[(.int .i64 u4.1), (.int .i64 u4.2.1), (.string u4.2.2.1)])) <|
  splitW (decide (((x0.size : Nat) : Int) ≥ (2 : Int))) (guardW (0 ≤ (0 : Int) ∧ (0 : Int) < ((x0.size : Nat) : Int)) <|
  splitW ((bt x0 (0 : Int)) == (34 : Int)) (guardW (0 ≤ (1 : Int) ∧ (1 : Int) ≤ (IntKind.wrap .i64 (((x0.size : Nat) : Int) - (1 : Int))) ∧ (IntKind.wrap .i64 (((x0.size : Nat) : Int) - (1 : Int))) ≤ ((x0.size : Nat) : Int)) <|
  callW Tryd.prog 55 [(.string (ByteArray.extract x0 (Int.toNat (1 : Int)) (Int.toNat (IntKind.wrap .i64 (((x0.size : Nat) : Int) - (1 : Int))))))] (.one (.one .str)) fun (u5 : ByteArray) =>
  guardW ((#[(.int .i64 (3 : Int)), (.int .i64 (0 : Int)), (.string u5)] : Array Value).size = 3) <|
  stAW (⟨r1, 0, none⟩ : Addr) [(.int .i64 (3 : Int)), (.int .i64 (0 : Int)), (.string u5)] <|
  ldAW [(.int .i64), (.int .i64), .str] (⟨r1, 0, none⟩ : Addr) fun (u6 : (Int × Int × ByteArray × Unit)) => K (.agg #[(.int .i64 u6.1), (.int .i64 u6.2.1), (.string u6.2.2.1)])) <|
  callW Tryd.prog 56 [(.string x0), (.int .i64 (10 : Int)), (.int .i64 (64 : Int))] (.many [(.one (.int .i64)), (.one .any)]) fun (u7 : Int × Value × Unit) =>
  guardW ((#[(.int .i64 (1 : Int)), (.int .i64 u7.1), (.string ByteArray.empty)] : Array Value).size = 3) <|
  stAW (⟨r1, 0, none⟩ : Addr) [(.int .i64 (1 : Int)), (.int .i64 u7.1), (.string ByteArray.empty)] <|
  ldAW [(.int .i64), (.int .i64), .str] (⟨r1, 0, none⟩ : Addr) fun (u8 : (Int × Int × ByteArray × Unit)) => K (.agg #[(.int .i64 u8.1), (.int .i64 u8.2.1), (.string u8.2.2.1)])) <|
  callW Tryd.prog 56 [(.string x0), (.int .i64 (10 : Int)), (.int .i64 (64 : Int))] (.many [(.one (.int .i64)), (.one .any)]) fun (u9 : Int × Value × Unit) =>
  guardW ((#[(.int .i64 (1 : Int)), (.int .i64 u9.1), (.string ByteArray.empty)] : Array Value).size = 3) <|
  stAW (⟨r1, 0, none⟩ : Addr) [(.int .i64 (1 : Int)), (.int .i64 u9.1), (.string ByteArray.empty)] <|
  ldAW [(.int .i64), (.int .i64), .str] (⟨r1, 0, none⟩ : Addr) fun (u10 : (Int × Int × ByteArray × Unit)) => K (.agg #[(.int .i64 u10.1), (.int .i64 u10.2.1), (.string u10.2.2.1)])
theorem eq41 (x0 : ByteArray) (K : Value → WP) : bodyW Tryd.prog Tryd.f41 an41 false [(.string x0)] K = S41 x0 K := by kernel_rfl
theorem calls41 (x0 : ByteArray) {K : Value → WP} {w : World} (h : S41 x0 K w) : Calls Tryd.prog 41 #[(.string x0)] w (Ret K) := callsR_of_bodyW mixed Tryd.func41 (of_decide_eq_true (by kernel_rfl)) (by rw [eq41]; exact h)

/-- strconv.FormatBool -/
def an43 : Ann := (.seq .nil (.seq .nil .nil))
def S43 (x0 : Bool) (K : Value → WP) : WP := 
  callW Tryd.prog 58 [(.bool x0)] (.one (.one .str)) fun (u1 : ByteArray) => K (.string u1)
theorem eq43 (x0 : Bool) (K : Value → WP) : bodyW Tryd.prog Tryd.f43 an43 false [(.bool x0)] K = S43 x0 K := by kernel_rfl
theorem calls43 (x0 : Bool) {K : Value → WP} {w : World} (h : S43 x0 K w) : Calls Tryd.prog 43 #[(.bool x0)] w (Ret K) := callsR_of_bodyW mixed Tryd.func43 (of_decide_eq_true (by kernel_rfl)) (by rw [eq43]; exact h)

/-- shadowbook/value.quoted -/
def an44 : Ann := (.seq .nil (.seq .nil (.seq (.seq .nil (.block (.loop [(3, .sh (.one .slc)), (10, .sh (.one (.int .i64)))] [8, 9, 1000000] (.seq .nil (.seq (.cond .nil .nil) (.seq (.block (.seq .nil (.join [(3, .sh (.one .slc))] [5, 8, 9, 10, 1000000] (.join [(27, .sh (.one .bool))] [3, 5, 8, 9, 10, 1000000] .nil (.cond (.seq .nil .nil) .nil)) .nil))) .nil)))))) (.seq .nil .nil))))
def S44 (x0 : ByteArray) (K : Value → WP) : WP := 
  newW (.cells #[(.int .u8 (34 : Int))] 5) fun (r1 : Nat) =>
  runW Tryd.prog (Go.convert 9 57 (.string x0)) .slc fun (u2 : (Option Addr × Nat × Nat)) =>
  loopW ((Option Addr × Nat × Nat) × Int × Unit) (((some (⟨r1, 0, none⟩ : Addr)), 1, 1), (0 : Int), ()) fun (y4 : (Option Addr × Nat × Nat) × Int × Unit) (I3 : ((Option Addr × Nat × Nat) × Int × Unit) → WP) =>
  splitW (decide (y4.2.1 < ((u2.2.1 : Nat) : Int))) (guardW (0 ≤ y4.2.1 ∧ y4.2.1 < ((u2.2.1 : Nat) : Int)) <|
  ptrW u2.1 fun (p5 : Addr) =>
  ldW (.int .u8) (p5.add (Int.toNat y4.2.1 * 1)) fun (u6 : Int) =>
  joinW ((Option Addr × Nat × Nat) × Unit) (fun (J7 : ((Option Addr × Nat × Nat) × Unit) → WP) =>
  joinW (Bool × Unit) (fun (J9 : (Bool × Unit) → WP) =>
  splitW (decide (u6 ≥ (32 : Int))) (splitW (decide (u6 ≤ (126 : Int))) (splitW (u6 != (34 : Int)) (J9 ((u6 != (92 : Int)), ())) <| J9 (false, ())) <| J9 (false, ())) <| J9 (false, ())) fun (y10 : Bool × Unit) =>
  splitW y10.1 (newW (.cells #[(.int .u8 u6)] 5) fun (r11 : Nat) =>
  runW Tryd.prog (Builtin.append_ #[57, 57] 57 #[(.slice y4.1.1 y4.1.2.1 y4.1.2.2), (.slice (some (⟨r11, 0, none⟩ : Addr)) 1 1)]) .slc fun (u12 : (Option Addr × Nat × Nat)) => I3 ((u12.1, u12.2.1, u12.2.2), (IntKind.wrap .i64 (y4.2.1 + (1 : Int))), ())) <| J7 ((y4.1.1, y4.1.2.1, y4.1.2.2), ())) fun (y8 : (Option Addr × Nat × Nat) × Unit) =>
  drewW <|
  guardW (0 ≤ (ishr .u8 u6 (4 : Int)) ∧ (ishr .u8 u6 (4 : Int)) < (((ByteArray.mk #[48, 49, 50, 51, 52, 53, 54, 55, 56, 57, 97, 98, 99, 100, 101, 102]).size : Nat) : Int)) <|
  guardW (0 ≤ (iand .u8 u6 (15 : Int)) ∧ (iand .u8 u6 (15 : Int)) < (((ByteArray.mk #[48, 49, 50, 51, 52, 53, 54, 55, 56, 57, 97, 98, 99, 100, 101, 102]).size : Nat) : Int)) <|
  newW (.cells #[(.int .u8 (92 : Int)), (.int .u8 (120 : Int)), (.int .u8 (bt (ByteArray.mk #[48, 49, 50, 51, 52, 53, 54, 55, 56, 57, 97, 98, 99, 100, 101, 102]) (ishr .u8 u6 (4 : Int)))), (.int .u8 (bt (ByteArray.mk #[48, 49, 50, 51, 52, 53, 54, 55, 56, 57, 97, 98, 99, 100, 101, 102]) (iand .u8 u6 (15 : Int))))] 5) fun (r13 : Nat) =>
  runW Tryd.prog (Builtin.append_ #[57, 57] 57 #[(.slice y8.1.1 y8.1.2.1 y8.1.2.2), (.slice (some (⟨r13, 0, none⟩ : Addr)) 4 4)]) .slc fun (u14 : (Option Addr × Nat × Nat)) => I3 ((u14.1, u14.2.1, u14.2.2), (IntKind.wrap .i64 (y4.2.1 + (1 : Int))), ())) <|
  newW (.cells #[(.int .u8 (34 : Int))] 5) fun (r15 : Nat) =>
  runW Tryd.prog (Builtin.append_ #[57, 57] 57 #[(.slice y4.1.1 y4.1.2.1 y4.1.2.2), (.slice (some (⟨r15, 0, none⟩ : Addr)) 1 1)]) .slc fun (u16 : (Option Addr × Nat × Nat)) =>
  runW Tryd.prog (Go.convert 57 9 (.slice u16.1 u16.2.1 u16.2.2)) .str fun (u17 : ByteArray) => K (.string u17)
theorem eq44 (x0 : ByteArray) (K : Value → WP) : bodyW Tryd.prog Tryd.f44 an44 false [(.string x0)] K = S44 x0 K := by kernel_rfl
theorem calls44 (x0 : ByteArray) {K : Value → WP} {w : World} (h : S44 x0 K w) : Calls Tryd.prog 44 #[(.string x0)] w (Ret K) := callsR_of_bodyW mixed Tryd.func44 (of_decide_eq_true (by kernel_rfl)) (by rw [eq44]; exact h)

/-- shadowbook/shadowbookref16.first -/
def an45 : Ann := (.seq .nil (.seq .nil (.seq (.seq .nil (.block (.seq .nil (.cond (.seq .nil .nil) (.seq .nil (.cond (.seq (.seq .nil (.cond (.seq .nil .nil) .nil)) (.seq .nil (.seq (.seq .nil (.block (.loop [(5, .sh (.one (.int .u64))), (6, .sh (.one (.int .i64)))] [0, 2, 4, 1000000] (.seq (.seq .nil (.cond .nil .nil)) (.seq (.block .nil) .nil))))) (.seq .nil (.seq .nil .nil))))) (.seq .nil (.cond (.seq (.seq .nil (.cond (.seq .nil .nil) .nil)) (.seq .nil (.seq .nil .nil))) (.seq .nil (.cond (.seq .nil (.block (.loop [(7, .sh (.one (.int .i64)))] [0, 2, 4, 1000000] (.seq (.seq .nil (.cond .nil .nil)) (.seq (.block (.seq (.seq .nil (.cond (.seq .nil .nil) .nil)) (.seq (.seq .nil (.cond (.seq .nil .nil) .nil)) (.seq .nil (.seq (.seq .nil (.cond (.seq .nil .nil) .nil)) (.seq (.seq .nil (.cond (.seq .nil .nil) .nil)) .nil)))))) .nil))))) .nil)))))))))) (.seq .nil .nil))))
def S45 (x0 : ByteArray) (K : Value → WP) : WP := 
  newW (.cells #[(.int .i64 (0 : Int)), (.int .i64 (0 : Int)), (.string ByteArray.empty)] 23) fun (r1 : Nat) =>
  guardW (0 ≤ (0 : Int) ∧ (0 : Int) < ((x0.size : Nat) : Int)) <|
  newW (.cells #[(.int .i64 (0 : Int)), (.int .i64 (0 : Int)), (.string ByteArray.empty)] 23) fun (r2 : Nat) =>
  guardW ((#[(.int .i64 (IntKind.wrap .i64 (bt x0 (0 : Int)))), (.int .i64 (0 : Int)), (.string ByteArray.empty)] : Array Value).size = 3) <|
  stAW (⟨r2, 0, none⟩ : Addr) [(.int .i64 (IntKind.wrap .i64 (bt x0 (0 : Int)))), (.int .i64 (0 : Int)), (.string ByteArray.empty)] <|
  ldW (.int .i64) (⟨r2, 0, none⟩ : Addr) fun (u3 : Int) =>
  splitW (u3 == (0 : Int)) (ldAW [(.int .i64), (.int .i64), .str] (⟨r2, 0, none⟩ : Addr) fun (u4 : (Int × Int × ByteArray × Unit)) =>
  guardW ((#[(.int .i64 u4.1), (.int .i64 u4.2.1), (.string u4.2.2.1)] : Array Value).size = 3) <|
  stAW (⟨r1, 0, none⟩ : Addr) [(.int .i64 u4.1), (.int .i64 u4.2.1), (.string u4.2.2.1)] <|
  ldAW [(.int .i64), (.int .i64), .str] (⟨r1, 0, none⟩ : Addr) fun (u5 : (Int × Int × ByteArray × Unit)) => K (.tuple #[(.agg #[(.int .i64 u5.1), (.int .i64 u5.2.1), (.string u5.2.2.1)]), (.int .i64 (1 : Int))])) <|
  splitW (u3 == (1 : Int)) (splitW (decide (((x0.size : Nat) : Int) < (9 : Int))) (ldAW [(.int .i64), (.int .i64), .str] (⟨r2, 0, none⟩ : Addr) fun (u6 : (Int × Int × ByteArray × Unit)) =>
  guardW ((#[(.int .i64 u6.1), (.int .i64 u6.2.1), (.string u6.2.2.1)] : Array Value).size = 3) <|
  stAW (⟨r1, 0, none⟩ : Addr) [(.int .i64 u6.1), (.int .i64 u6.2.1), (.string u6.2.2.1)] <|
  ldAW [(.int .i64), (.int .i64), .str] (⟨r1, 0, none⟩ : Addr) fun (u7 : (Int × Int × ByteArray × Unit)) => K (.tuple #[(.agg #[(.int .i64 u7.1), (.int .i64 u7.2.1), (.string u7.2.2.1)]), (.int .i64 (0 : Int))])) <|
  loopW (Int × Int × Unit) ((0 : Int), (1 : Int), ()) fun (y9 : Int × Int × Unit) (I8 : (Int × Int × Unit) → WP) =>
  splitW (decide (y9.2.1 < (9 : Int))) (guardW (0 ≤ y9.2.1 ∧ y9.2.1 < ((x0.size : Nat) : Int)) <| I8 ((ior .u64 (ishl .u64 y9.1 (8 : Int)) (IntKind.wrap .u64 (bt x0 y9.2.1))), (IntKind.wrap .i64 (y9.2.1 + (1 : Int))), ())) <|
  stW ((⟨r2, 0, none⟩ : Addr).add 1) (.int .i64 (IntKind.wrap .i64 (IntKind.wrap .u64 (y9.1 - (9223372036854775808 : Int))))) <|
  ldAW [(.int .i64), (.int .i64), .str] (⟨r2, 0, none⟩ : Addr) fun (u10 : (Int × Int × ByteArray × Unit)) =>
  guardW ((#[(.int .i64 u10.1), (.int .i64 u10.2.1), (.string u10.2.2.1)] : Array Value).size = 3) <|
  stAW (⟨r1, 0, none⟩ : Addr) [(.int .i64 u10.1), (.int .i64 u10.2.1), (.string u10.2.2.1)] <|
  ldAW [(.int .i64), (.int .i64), .str] (⟨r1, 0, none⟩ : Addr) fun (u11 : (Int × Int × ByteArray × Unit)) => K (.tuple #[(.agg #[(.int .i64 u11.1), (.int .i64 u11.2.1), (.string u11.2.2.1)]), (.int .i64 (9 : Int))])) <|
  splitW (u3 == (2 : Int)) (splitW (decide (((x0.size : Nat) : Int) < (2 : Int))) (ldAW [(.int .i64), (.int .i64), .str] (⟨r2, 0, none⟩ : Addr) fun (u12 : (Int × Int × ByteArray × Unit)) =>
  guardW ((#[(.int .i64 u12.1), (.int .i64 u12.2.1), (.string u12.2.2.1)] : Array Value).size = 3) <|
  stAW (⟨r1, 0, none⟩ : Addr) [(.int .i64 u12.1), (.int .i64 u12.2.1), (.string u12.2.2.1)] <|
  ldAW [(.int .i64), (.int .i64), .str] (⟨r1, 0, none⟩ : Addr) fun (u13 : (Int × Int × ByteArray × Unit)) => K (.tuple #[(.agg #[(.int .i64 u13.1), (.int .i64 u13.2.1), (.string u13.2.2.1)]), (.int .i64 (0 : Int))])) <|
  guardW (0 ≤ (1 : Int) ∧ (1 : Int) < ((x0.size : Nat) : Int)) <|
  splitW (decide ((bt x0 (1 : Int)) > (1 : Int))) (ldAW [(.int .i64), (.int .i64), .str] (⟨r2, 0, none⟩ : Addr) fun (u14 : (Int × Int × ByteArray × Unit)) =>
  guardW ((#[(.int .i64 u14.1), (.int .i64 u14.2.1), (.string u14.2.2.1)] : Array Value).size = 3) <|
  stAW (⟨r1, 0, none⟩ : Addr) [(.int .i64 u14.1), (.int .i64 u14.2.1), (.string u14.2.2.1)] <|
  ldAW [(.int .i64), (.int .i64), .str] (⟨r1, 0, none⟩ : Addr) fun (u15 : (Int × Int × ByteArray × Unit)) => K (.tuple #[(.agg #[(.int .i64 u15.1), (.int .i64 u15.2.1), (.string u15.2.2.1)]), (.int .i64 (0 : Int))])) <|
  guardW (0 ≤ (1 : Int) ∧ (1 : Int) < ((x0.size : Nat) : Int)) <|
  stW ((⟨r2, 0, none⟩ : Addr).add 1) (.int .i64 (IntKind.wrap .i64 (bt x0 (1 : Int)))) <|
  ldAW [(.int .i64), (.int .i64), .str] (⟨r2, 0, none⟩ : Addr) fun (u16 : (Int × Int × ByteArray × Unit)) =>
  guardW ((#[(.int .i64 u16.1), (.int .i64 u16.2.1), (.string u16.2.2.1)] : Array Value).size = 3) <|
  stAW (⟨r1, 0, none⟩ : Addr) [(.int .i64 u16.1), (.int .i64 u16.2.1), (.string u16.2.2.1)] <|
  ldAW [(.int .i64), (.int .i64), .str] (⟨r1, 0, none⟩ : Addr) fun (u17 : (Int × Int × ByteArray × Unit)) => K (.tuple #[(.agg #[(.int .i64 u17.1), (.int .i64 u17.2.1), (.string u17.2.2.1)]), (.int .i64 (2 : Int))])) <|
  splitW (u3 == (3 : Int)) (loopW (Int × Unit) ((1 : Int), ()) fun (y19 : Int × Unit) (I18 : (Int × Unit) → WP) =>
  splitW (decide (y19.1 < ((x0.size : Nat) : Int))) (guardW (0 ≤ y19.1 ∧ y19.1 < ((x0.size : Nat) : Int)) <|
  splitW ((bt x0 y19.1) != (0 : Int)) (drewW <|
  ldW .str ((⟨r2, 0, none⟩ : Addr).add 2) fun (u20 : ByteArray) =>
  guardW (0 ≤ y19.1 ∧ y19.1 ≤ (IntKind.wrap .i64 (y19.1 + (1 : Int))) ∧ (IntKind.wrap .i64 (y19.1 + (1 : Int))) ≤ ((x0.size : Nat) : Int)) <|
  guardW (((u20.size + (ByteArray.extract x0 (Int.toNat y19.1) (Int.toNat (IntKind.wrap .i64 (y19.1 + (1 : Int))))).size : Nat) : Int) ≤ IntKind.i64.max) <|
  stW ((⟨r2, 0, none⟩ : Addr).add 2) (.string (u20 ++ (ByteArray.extract x0 (Int.toNat y19.1) (Int.toNat (IntKind.wrap .i64 (y19.1 + (1 : Int))))))) <| I18 ((IntKind.wrap .i64 (y19.1 + (1 : Int))), ())) <|
  splitW ((IntKind.wrap .i64 (y19.1 + (1 : Int))) == ((x0.size : Nat) : Int)) (ldAW [(.int .i64), (.int .i64), .str] (⟨r2, 0, none⟩ : Addr) fun (u21 : (Int × Int × ByteArray × Unit)) =>
  guardW ((#[(.int .i64 u21.1), (.int .i64 u21.2.1), (.string u21.2.2.1)] : Array Value).size = 3) <|
  stAW (⟨r1, 0, none⟩ : Addr) [(.int .i64 u21.1), (.int .i64 u21.2.1), (.string u21.2.2.1)] <|
  ldAW [(.int .i64), (.int .i64), .str] (⟨r1, 0, none⟩ : Addr) fun (u22 : (Int × Int × ByteArray × Unit)) => K (.tuple #[(.agg #[(.int .i64 u22.1), (.int .i64 u22.2.1), (.string u22.2.2.1)]), (.int .i64 (0 : Int))])) <|
  guardW (0 ≤ (IntKind.wrap .i64 (y19.1 + (1 : Int))) ∧ (IntKind.wrap .i64 (y19.1 + (1 : Int))) < ((x0.size : Nat) : Int)) <|
  splitW ((bt x0 (IntKind.wrap .i64 (y19.1 + (1 : Int)))) == (0 : Int)) (ldAW [(.int .i64), (.int .i64), .str] (⟨r2, 0, none⟩ : Addr) fun (u23 : (Int × Int × ByteArray × Unit)) =>
  guardW ((#[(.int .i64 u23.1), (.int .i64 u23.2.1), (.string u23.2.2.1)] : Array Value).size = 3) <|
  stAW (⟨r1, 0, none⟩ : Addr) [(.int .i64 u23.1), (.int .i64 u23.2.1), (.string u23.2.2.1)] <|
  ldAW [(.int .i64), (.int .i64), .str] (⟨r1, 0, none⟩ : Addr) fun (u24 : (Int × Int × ByteArray × Unit)) => K (.tuple #[(.agg #[(.int .i64 u24.1), (.int .i64 u24.2.1), (.string u24.2.2.1)]), (.int .i64 (IntKind.wrap .i64 ((IntKind.wrap .i64 (y19.1 + (1 : Int))) + (1 : Int))))])) <|
  guardW (0 ≤ (IntKind.wrap .i64 (y19.1 + (1 : Int))) ∧ (IntKind.wrap .i64 (y19.1 + (1 : Int))) < ((x0.size : Nat) : Int)) <|
  splitW ((bt x0 (IntKind.wrap .i64 (y19.1 + (1 : Int)))) != (255 : Int)) (ldAW [(.int .i64), (.int .i64), .str] (⟨r2, 0, none⟩ : Addr) fun (u25 : (Int × Int × ByteArray × Unit)) =>
  guardW ((#[(.int .i64 u25.1), (.int .i64 u25.2.1), (.string u25.2.2.1)] : Array Value).size = 3) <|
  stAW (⟨r1, 0, none⟩ : Addr) [(.int .i64 u25.1), (.int .i64 u25.2.1), (.string u25.2.2.1)] <|
  ldAW [(.int .i64), (.int .i64), .str] (⟨r1, 0, none⟩ : Addr) fun (u26 : (Int × Int × ByteArray × Unit)) => K (.tuple #[(.agg #[(.int .i64 u26.1), (.int .i64 u26.2.1), (.string u26.2.2.1)]), (.int .i64 (0 : Int))])) <|
  ldW .str ((⟨r2, 0, none⟩ : Addr).add 2) fun (u27 : ByteArray) =>
  guardW (((u27.size + (ByteArray.mk #[0]).size : Nat) : Int) ≤ IntKind.i64.max) <|
  stW ((⟨r2, 0, none⟩ : Addr).add 2) (.string (u27 ++ (ByteArray.mk #[0]))) <| I18 ((IntKind.wrap .i64 ((IntKind.wrap .i64 (y19.1 + (1 : Int))) + (1 : Int))), ())) <|
  ldAW [(.int .i64), (.int .i64), .str] (⟨r2, 0, none⟩ : Addr) fun (u28 : (Int × Int × ByteArray × Unit)) =>
  guardW ((#[(.int .i64 u28.1), (.int .i64 u28.2.1), (.string u28.2.2.1)] : Array Value).size = 3) <|
  stAW (⟨r1, 0, none⟩ : Addr) [(.int .i64 u28.1), (.int .i64 u28.2.1), (.string u28.2.2.1)] <|
  ldAW [(.int .i64), (.int .i64), .str] (⟨r1, 0, none⟩ : Addr) fun (u29 : (Int × Int × ByteArray × Unit)) => K (.tuple #[(.agg #[(.int .i64 u29.1), (.int .i64 u29.2.1), (.string u29.2.2.1)]), (.int .i64 (0 : Int))])) <|
  ldAW [(.int .i64), (.int .i64), .str] (⟨r2, 0, none⟩ : Addr) fun (u30 : (Int × Int × ByteArray × Unit)) =>
  guardW ((#[(.int .i64 u30.1), (.int .i64 u30.2.1), (.string u30.2.2.1)] : Array Value).size = 3) <|
  stAW (⟨r1, 0, none⟩ : Addr) [(.int .i64 u30.1), (.int .i64 u30.2.1), (.string u30.2.2.1)] <|
  ldAW [(.int .i64), (.int .i64), .str] (⟨r1, 0, none⟩ : Addr) fun (u31 : (Int × Int × ByteArray × Unit)) => K (.tuple #[(.agg #[(.int .i64 u31.1), (.int .i64 u31.2.1), (.string u31.2.2.1)]), (.int .i64 (0 : Int))])
theorem eq45 (x0 : ByteArray) (K : Value → WP) : bodyW Tryd.prog Tryd.f45 an45 false [(.string x0)] K = S45 x0 K := by kernel_rfl
theorem calls45 (x0 : ByteArray) {K : Value → WP} {w : World} (h : S45 x0 K w) : Calls Tryd.prog 45 #[(.string x0)] w (Ret K) := callsR_of_bodyW mixed Tryd.func45 (of_decide_eq_true (by kernel_rfl)) (by rw [eq45]; exact h)

/-- shadowbook/shadowbookref16.candidate -/
def an46 : Ann := (.seq .nil (.seq (.seq .nil (.cond (.seq .nil (.seq (.seq .nil (.cond .nil .nil)) (.seq .nil .nil))) .nil)) (.join [] [0, 2, 1000000] (.join [(27, .sh (.one .bool))] [0, 2, 1000000] .nil (.cond (.seq .nil (.seq (.seq .nil (.block (.loop [(5, .sh (.one (.int .i64)))] [0, 2, 4, 1000000] (.seq (.seq .nil (.cond .nil .nil)) (.join [(5, .sh (.one (.int .i64)))] [0, 2, 4, 1000000] (.block (.join [(62, .sh (.one .bool))] [0, 2, 4, 5, 1000000] .nil (.cond (.seq .nil .nil) .nil))) .nil))))) (.seq .nil .nil))) .nil)) (.seq .nil (.join [(7, .sh (.one .bool))] [0, 2, 6, 1000000] .nil (.seq (.seq .nil (.block (.loop [(6, .sh (.one (.int .u64))), (8, .sh (.one (.int .i64)))] [0, 2, 7, 1000000] (.seq (.seq .nil (.cond .nil .nil)) (.seq (.block (.seq .nil (.seq .nil (.cond .nil .nil)))) .nil))))) (.seq (.seq .nil (.cond .nil .nil)) (.seq .nil .nil))))))))
def S46 (x0 : ByteArray) (K : Value → WP) : WP := 
  newW (.cells #[(.int .i64 (0 : Int)), (.int .i64 (0 : Int)), (.string ByteArray.empty)] 23) fun (r1 : Nat) =>
  splitW (x0.toList == (ByteArray.mk #[116, 114, 117, 101]).toList) (newW (.cells #[(.int .i64 (0 : Int)), (.int .i64 (0 : Int)), (.string ByteArray.empty)] 23) fun (r2 : Nat) =>
  guardW ((#[(.int .i64 (2 : Int)), (.int .i64 (0 : Int)), (.string ByteArray.empty)] : Array Value).size = 3) <|
  stAW (⟨r2, 0, none⟩ : Addr) [(.int .i64 (2 : Int)), (.int .i64 (0 : Int)), (.string ByteArray.empty)] <|
  splitW (x0.toList == (ByteArray.mk #[116, 114, 117, 101]).toList) (stW ((⟨r2, 0, none⟩ : Addr).add 1) (.int .i64 (1 : Int)) <|
  ldAW [(.int .i64), (.int .i64), .str] (⟨r2, 0, none⟩ : Addr) fun (u3 : (Int × Int × ByteArray × Unit)) =>
  guardW ((#[(.int .i64 u3.1), (.int .i64 u3.2.1), (.string u3.2.2.1)] : Array Value).size = 3) <|
  stAW (⟨r1, 0, none⟩ : Addr) [(.int .i64 u3.1), (.int .i64 u3.2.1), (.string u3.2.2.1)] <|
  ldAW [(.int .i64), (.int .i64), .str] (⟨r1, 0, none⟩ : Addr) fun (u4 : (Int × Int × ByteArray × Unit)) => K (.agg #[(.int .i64 u4.1), (.int .i64 u4.2.1), (.string u4.2.2.1)])) <|
  ldAW [(.int .i64), (.int .i64), .str] (⟨r2, 0, none⟩ : Addr) fun (u5 : (Int × Int × ByteArray × Unit)) =>
  guardW ((#[(.int .i64 u5.1), (.int .i64 u5.2.1), (.string u5.2.2.1)] : Array Value).size = 3) <|
  stAW (⟨r1, 0, none⟩ : Addr) [(.int .i64 u5.1), (.int .i64 u5.2.1), (.string u5.2.2.1)] <|
  ldAW [(.int .i64), (.int .i64), .str] (⟨r1, 0, none⟩ : Addr) fun (u6 : (Int × Int × ByteArray × Unit)) => K (.agg #[(.int .i64 u6.1), (.int .i64 u6.2.1), (.string u6.2.2.1)])) <|
  splitW (x0.toList == (ByteArray.mk #[102, 97, 108, 115, 101]).toList) (newW (.cells #[(.int .i64 (0 : Int)), (.int .i64 (0 : Int)), (.string ByteArray.empty)] 23) fun (r7 : Nat) =>
  guardW ((#[(.int .i64 (2 : Int)), (.int .i64 (0 : Int)), (.string ByteArray.empty)] : Array Value).size = 3) <|
  stAW (⟨r7, 0, none⟩ : Addr) [(.int .i64 (2 : Int)), (.int .i64 (0 : Int)), (.string ByteArray.empty)] <|
  splitW (x0.toList == (ByteArray.mk #[116, 114, 117, 101]).toList) (stW ((⟨r7, 0, none⟩ : Addr).add 1) (.int .i64 (1 : Int)) <|
  ldAW [(.int .i64), (.int .i64), .str] (⟨r7, 0, none⟩ : Addr) fun (u8 : (Int × Int × ByteArray × Unit)) =>
  guardW ((#[(.int .i64 u8.1), (.int .i64 u8.2.1), (.string u8.2.2.1)] : Array Value).size = 3) <|
  stAW (⟨r1, 0, none⟩ : Addr) [(.int .i64 u8.1), (.int .i64 u8.2.1), (.string u8.2.2.1)] <|
  ldAW [(.int .i64), (.int .i64), .str] (⟨r1, 0, none⟩ : Addr) fun (u9 : (Int × Int × ByteArray × Unit)) => K (.agg #[(.int .i64 u9.1), (.int .i64 u9.2.1), (.string u9.2.2.1)])) <|
  ldAW [(.int .i64), (.int .i64), .str] (⟨r7, 0, none⟩ : Addr) fun (u10 : (Int × Int × ByteArray × Unit)) =>
  guardW ((#[(.int .i64 u10.1), (.int .i64 u10.2.1), (.string u10.2.2.1)] : Array Value).size = 3) <|
  stAW (⟨r1, 0, none⟩ : Addr) [(.int .i64 u10.1), (.int .i64 u10.2.1), (.string u10.2.2.1)] <|
  ldAW [(.int .i64), (.int .i64), .str] (⟨r1, 0, none⟩ : Addr) fun (u11 : (Int × Int × ByteArray × Unit)) => K (.agg #[(.int .i64 u11.1), (.int .i64 u11.2.1), (.string u11.2.2.1)])) <|
  joinW (Unit) (fun (J12 : (Unit) → WP) =>
  joinW (Bool × Unit) (fun (J14 : (Bool × Unit) → WP) =>
  splitW (decide (((x0.size : Nat) : Int) ≥ (2 : Int))) (guardW (0 ≤ (0 : Int) ∧ (0 : Int) < ((x0.size : Nat) : Int)) <| J14 (((bt x0 (0 : Int)) == (34 : Int)), ())) <| J14 (false, ())) fun (y15 : Bool × Unit) =>
  splitW y15.1 (newW (.cells #[(.int .i64 (0 : Int)), (.int .i64 (0 : Int)), (.string ByteArray.empty)] 23) fun (r16 : Nat) =>
  guardW ((#[(.int .i64 (3 : Int)), (.int .i64 (0 : Int)), (.string ByteArray.empty)] : Array Value).size = 3) <|
  stAW (⟨r16, 0, none⟩ : Addr) [(.int .i64 (3 : Int)), (.int .i64 (0 : Int)), (.string ByteArray.empty)] <|
  loopW (Int × Unit) ((1 : Int), ()) fun (y18 : Int × Unit) (I17 : (Int × Unit) → WP) =>
  splitW (decide (y18.1 < (IntKind.wrap .i64 (((x0.size : Nat) : Int) - (1 : Int))))) (joinW (Int × Unit) (fun (J19 : (Int × Unit) → WP) =>
  joinW (Bool × Unit) (fun (J21 : (Bool × Unit) → WP) =>
  guardW (0 ≤ y18.1 ∧ y18.1 < ((x0.size : Nat) : Int)) <|
  splitW ((bt x0 y18.1) == (92 : Int)) (splitW (decide ((IntKind.wrap .i64 (y18.1 + (3 : Int))) < ((x0.size : Nat) : Int))) (guardW (0 ≤ (IntKind.wrap .i64 (y18.1 + (2 : Int))) ∧ (IntKind.wrap .i64 (y18.1 + (2 : Int))) < ((x0.size : Nat) : Int)) <|
  callW Tryd.prog 59 [(.int .u8 (bt x0 (IntKind.wrap .i64 (y18.1 + (2 : Int)))))] (.one (.one (.int .i64))) fun (u23 : Int) =>
  splitW (decide (u23 ≥ (0 : Int))) (guardW (0 ≤ (IntKind.wrap .i64 (y18.1 + (3 : Int))) ∧ (IntKind.wrap .i64 (y18.1 + (3 : Int))) < ((x0.size : Nat) : Int)) <|
  callW Tryd.prog 59 [(.int .u8 (bt x0 (IntKind.wrap .i64 (y18.1 + (3 : Int)))))] (.one (.one (.int .i64))) fun (u24 : Int) => J21 ((decide (u24 ≥ (0 : Int))), ())) <| J21 (false, ())) <| J21 (false, ())) <| J21 (false, ())) fun (y22 : Bool × Unit) =>
  splitW y22.1 (drewW <|
  ldW .str ((⟨r16, 0, none⟩ : Addr).add 2) fun (u25 : ByteArray) =>
  guardW (0 ≤ (IntKind.wrap .i64 (y18.1 + (2 : Int))) ∧ (IntKind.wrap .i64 (y18.1 + (2 : Int))) < ((x0.size : Nat) : Int)) <|
  guardW (0 ≤ (IntKind.wrap .i64 (y18.1 + (3 : Int))) ∧ (IntKind.wrap .i64 (y18.1 + (3 : Int))) < ((x0.size : Nat) : Int)) <|
  callW Tryd.prog 59 [(.int .u8 (bt x0 (IntKind.wrap .i64 (y18.1 + (2 : Int)))))] (.one (.one (.int .i64))) fun (u26 : Int) =>
  heldW [[(((⟨r16, 0, none⟩ : Addr).add 2), (.string u25))]] <|
  callW Tryd.prog 59 [(.int .u8 (bt x0 (IntKind.wrap .i64 (y18.1 + (3 : Int)))))] (.one (.one (.int .i64))) fun (u27 : Int) =>
  heldW [[(((⟨r16, 0, none⟩ : Addr).add 2), (.string u25))]] <|
  newW (.cells #[(.int .u8 (IntKind.wrap .u8 (IntKind.wrap .i64 ((IntKind.wrap .i64 ((16 : Int) * u26)) + u27))))] 5) fun (r28 : Nat) =>
  heldW [[(((⟨r16, 0, none⟩ : Addr).add 2), (.string u25))]] <|
  runW Tryd.prog (Go.convert 57 9 (.slice (some (⟨r28, 0, none⟩ : Addr)) 1 1)) .str fun (u29 : ByteArray) =>
  heldW [[(((⟨r16, 0, none⟩ : Addr).add 2), (.string u25))]] <|
  guardW (((u25.size + u29.size : Nat) : Int) ≤ IntKind.i64.max) <|
  stW ((⟨r16, 0, none⟩ : Addr).add 2) (.string (u25 ++ u29)) <| J19 ((IntKind.wrap .i64 (y18.1 + (3 : Int))), ())) <|
  drewW <|
  ldW .str ((⟨r16, 0, none⟩ : Addr).add 2) fun (u30 : ByteArray) =>
  guardW (0 ≤ y18.1 ∧ y18.1 ≤ (IntKind.wrap .i64 (y18.1 + (1 : Int))) ∧ (IntKind.wrap .i64 (y18.1 + (1 : Int))) ≤ ((x0.size : Nat) : Int)) <|
  guardW (((u30.size + (ByteArray.extract x0 (Int.toNat y18.1) (Int.toNat (IntKind.wrap .i64 (y18.1 + (1 : Int))))).size : Nat) : Int) ≤ IntKind.i64.max) <|
  stW ((⟨r16, 0, none⟩ : Addr).add 2) (.string (u30 ++ (ByteArray.extract x0 (Int.toNat y18.1) (Int.toNat (IntKind.wrap .i64 (y18.1 + (1 : Int))))))) <| J19 (y18.1, ())) fun (y20 : Int × Unit) => I17 ((IntKind.wrap .i64 (y20.1 + (1 : Int))), ())) <|
  ldAW [(.int .i64), (.int .i64), .str] (⟨r16, 0, none⟩ : Addr) fun (u31 : (Int × Int × ByteArray × Unit)) =>
  guardW ((#[(.int .i64 u31.1), (.int .i64 u31.2.1), (.string u31.2.2.1)] : Array Value).size = 3) <|
  stAW (⟨r1, 0, none⟩ : Addr) [(.int .i64 u31.1), (.int .i64 u31.2.1), (.string u31.2.2.1)] <|
  ldAW [(.int .i64), (.int .i64), .str] (⟨r1, 0, none⟩ : Addr) fun (u32 : (Int × Int × ByteArray × Unit)) => K (.agg #[(.int .i64 u32.1), (.int .i64 u32.2.1), (.string u32.2.2.1)])) <| J12 ()) fun (y13 : Unit) =>
  joinW (Bool × Unit) (fun (J33 : (Bool × Unit) → WP) =>
  splitW (!(x0.toList == (ByteArray.mk #[]).toList)) (guardW (0 ≤ (0 : Int) ∧ (0 : Int) < ((x0.size : Nat) : Int)) <| J33 (((bt x0 (0 : Int)) == (45 : Int)), ())) <| J33 (false, ())) fun (y34 : Bool × Unit) =>
  loopW (Int × Int × Unit) ((0 : Int), (0 : Int), ()) fun (y36 : Int × Int × Unit) (I35 : (Int × Int × Unit) → WP) =>
  splitW (decide (y36.2.1 < ((x0.size : Nat) : Int))) (guardW (0 ≤ y36.2.1 ∧ y36.2.1 < ((x0.size : Nat) : Int)) <|
  splitW (y36.2.1 == (0 : Int)) (splitW y34.1 (I35 ((0 : Int), (IntKind.wrap .i64 (y36.2.1 + (1 : Int))), ())) <| I35 ((IntKind.wrap .u64 ((IntKind.wrap .u64 ((IntKind.wrap .u64 ((10 : Int) * y36.1)) + (IntKind.wrap .u64 (bt x0 y36.2.1)))) - (48 : Int))), (IntKind.wrap .i64 (y36.2.1 + (1 : Int))), ())) <| I35 ((IntKind.wrap .u64 ((IntKind.wrap .u64 ((IntKind.wrap .u64 ((10 : Int) * y36.1)) + (IntKind.wrap .u64 (bt x0 y36.2.1)))) - (48 : Int))), (IntKind.wrap .i64 (y36.2.1 + (1 : Int))), ())) <|
  splitW y34.1 (guardW ((#[(.int .i64 (1 : Int)), (.int .i64 (IntKind.wrap .i64 (IntKind.wrap .u64 (0 - y36.1)))), (.string ByteArray.empty)] : Array Value).size = 3) <|
  stAW (⟨r1, 0, none⟩ : Addr) [(.int .i64 (1 : Int)), (.int .i64 (IntKind.wrap .i64 (IntKind.wrap .u64 (0 - y36.1)))), (.string ByteArray.empty)] <|
  ldAW [(.int .i64), (.int .i64), .str] (⟨r1, 0, none⟩ : Addr) fun (u37 : (Int × Int × ByteArray × Unit)) => K (.agg #[(.int .i64 u37.1), (.int .i64 u37.2.1), (.string u37.2.2.1)])) <|
  guardW ((#[(.int .i64 (1 : Int)), (.int .i64 (IntKind.wrap .i64 y36.1)), (.string ByteArray.empty)] : Array Value).size = 3) <|
  stAW (⟨r1, 0, none⟩ : Addr) [(.int .i64 (1 : Int)), (.int .i64 (IntKind.wrap .i64 y36.1)), (.string ByteArray.empty)] <|
  ldAW [(.int .i64), (.int .i64), .str] (⟨r1, 0, none⟩ : Addr) fun (u38 : (Int × Int × ByteArray × Unit)) => K (.agg #[(.int .i64 u38.1), (.int .i64 u38.2.1), (.string u38.2.2.1)])
theorem eq46 (x0 : ByteArray) (K : Value → WP) : bodyW Tryd.prog Tryd.f46 an46 false [(.string x0)] K = S46 x0 K := by kernel_rfl
theorem calls46 (x0 : ByteArray) {K : Value → WP} {w : World} (h : S46 x0 K w) : Calls Tryd.prog 46 #[(.string x0)] w (Ret K) := callsR_of_bodyW mixed Tryd.func46 (of_decide_eq_true (by kernel_rfl)) (by rw [eq46]; exact h)

/-- shadowbook/shadowbookref16.digits -/
def an47 : Ann := (.seq .nil (.seq (.seq .nil (.cond (.seq (.seq .nil (.cond (.seq .nil .nil) .nil)) (.seq .nil .nil)) .nil)) (.seq (.seq .nil (.cond (.seq .nil .nil) .nil)) (.seq .nil .nil))))
def S47 (x0 : Int) (K : Value → WP) : WP := 
  splitW (decide (x0 < (0 : Int))) (splitW (x0 == (IntKind.wrap .i64 (0 - x0))) (K (.string (ByteArray.mk #[45, 57, 50, 50, 51, 51, 55, 50, 48, 51, 54, 56, 53, 52, 55, 55, 53, 56, 48, 56]))) <|
  callW Tryd.prog 47 [(.int .i64 (IntKind.wrap .i64 (0 - x0)))] (.one (.one .str)) fun (u1 : ByteArray) =>
  guardW ((((ByteArray.mk #[45]).size + u1.size : Nat) : Int) ≤ IntKind.i64.max) <| K (.string ((ByteArray.mk #[45]) ++ u1))) <|
  splitW (decide (x0 < (10 : Int))) (guardW (0 ≤ x0 ∧ x0 ≤ (IntKind.wrap .i64 (x0 + (1 : Int))) ∧ (IntKind.wrap .i64 (x0 + (1 : Int))) ≤ (((ByteArray.mk #[48, 49, 50, 51, 52, 53, 54, 55, 56, 57]).size : Nat) : Int)) <| K (.string (ByteArray.extract (ByteArray.mk #[48, 49, 50, 51, 52, 53, 54, 55, 56, 57]) (Int.toNat x0) (Int.toNat (IntKind.wrap .i64 (x0 + (1 : Int))))))) <|
  callW Tryd.prog 47 [(.int .i64 (IntKind.wrap .i64 (Int.tdiv x0 (10 : Int))))] (.one (.one .str)) fun (u2 : ByteArray) =>
  callW Tryd.prog 47 [(.int .i64 (Int.tmod x0 (10 : Int)))] (.one (.one .str)) fun (u3 : ByteArray) =>
  guardW (((u2.size + u3.size : Nat) : Int) ≤ IntKind.i64.max) <| K (.string (u2 ++ u3))
theorem eq47 (x0 : Int) (K : Value → WP) : bodyW Tryd.prog Tryd.f47 an47 false [(.int .i64 x0)] K = S47 x0 K := by kernel_rfl
theorem calls47 (x0 : Int) {K : Value → WP} {w : World} (h : S47 x0 K w) : Calls Tryd.prog 47 #[(.int .i64 x0)] w (Ret K) := callsR_of_bodyW mixed Tryd.func47 (of_decide_eq_true (by kernel_rfl)) (by rw [eq47]; exact h)

/-- shadowbook/shadowbookref16.sign -/
def an48 : Ann := (.seq .nil (.seq (.block (.seq .nil (.cond (.seq .nil .nil) (.seq .nil (.cond (.seq .nil .nil) .nil))))) (.seq .nil .nil)))
def S48 (x0 : Bool) (x1 : Bool) (K : Value → WP) : WP := 
  splitW x0 (K (.int .i64 (-1 : Int))) <|
  splitW x1 (K (.int .i64 (1 : Int))) <| K (.int .i64 (0 : Int))
theorem eq48 (x0 : Bool) (x1 : Bool) (K : Value → WP) : bodyW Tryd.prog Tryd.f48 an48 false [(.bool x0), (.bool x1)] K = S48 x0 x1 K := by kernel_rfl
theorem calls48 (x0 : Bool) (x1 : Bool) {K : Value → WP} {w : World} (h : S48 x0 x1 K w) : Calls Tryd.prog 48 #[(.bool x0), (.bool x1)] w (Ret K) := callsR_of_bodyW mixed Tryd.func48 (of_decide_eq_true (by kernel_rfl)) (by rw [eq48]; exact h)

/-- shadowbook/shadowbookref16.key -/
def an49 : Ann := (.seq .nil (.seq .nil (.seq (.seq .nil (.block (.seq .nil (.cond (.seq .nil (.seq .nil (.block (.loop [(3, .sh (.one .slc)), (5, .sh (.one (.int .i64)))] [4, 1000000] (.seq (.seq .nil (.cond .nil .nil)) (.seq (.block .nil) .nil)))))) (.seq .nil (.cond .nil (.seq .nil (.cond (.seq (.seq .nil (.block (.loop [(3, .sh (.one .slc)), (6, .sh (.one (.int .i64)))] [1, 1000000] (.seq (.seq .nil (.cond .nil .nil)) (.seq (.block (.seq .nil (.seq .nil (.cond .nil .nil)))) .nil))))) .nil) .nil)))))))) (.seq .nil .nil))))
def S49 (x0_0 : Int) (x0_1 : Int) (x0_2 : ByteArray) (K : Value → WP) : WP := 
  newW (.cells #[(.int .i64 x0_0), (.int .i64 x0_1), (.string x0_2)] 23) fun (r1 : Nat) =>
  ldW (.int .i64) (⟨r1, 0, none⟩ : Addr) fun (u2 : Int) =>
  newW (.cells #[(.int .u8 (IntKind.wrap .u8 u2))] 5) fun (r3 : Nat) =>
  ldW (.int .i64) (⟨r1, 0, none⟩ : Addr) fun (u4 : Int) =>
  splitW (u4 == (1 : Int)) (ldW (.int .i64) ((⟨r1, 0, none⟩ : Addr).add 1) fun (u5 : Int) =>
  loopW ((Option Addr × Nat × Nat) × Int × Unit) (((some (⟨r3, 0, none⟩ : Addr)), 1, 1), (7 : Int), ()) fun (y7 : (Option Addr × Nat × Nat) × Int × Unit) (I6 : ((Option Addr × Nat × Nat) × Int × Unit) → WP) =>
  splitW (decide (y7.2.1 ≥ (0 : Int))) (guardW (0 ≤ (IntKind.wrap .u64 (IntKind.wrap .i64 ((8 : Int) * y7.2.1)))) <|
  newW (.cells #[(.int .u8 (IntKind.wrap .u8 (ishr .u64 (IntKind.wrap .u64 ((IntKind.wrap .u64 u5) + (9223372036854775808 : Int))) (IntKind.wrap .u64 (IntKind.wrap .i64 ((8 : Int) * y7.2.1))))))] 5) fun (r8 : Nat) =>
  runW Tryd.prog (Builtin.append_ #[57, 57] 57 #[(.slice y7.1.1 y7.1.2.1 y7.1.2.2), (.slice (some (⟨r8, 0, none⟩ : Addr)) 1 1)]) .slc fun (u9 : (Option Addr × Nat × Nat)) => I6 ((u9.1, u9.2.1, u9.2.2), (IntKind.wrap .i64 (y7.2.1 - (1 : Int))), ())) <|
  runW Tryd.prog (Go.convert 57 9 (.slice y7.1.1 y7.1.2.1 y7.1.2.2)) .str fun (u10 : ByteArray) => K (.string u10)) <|
  splitW (u4 == (2 : Int)) (ldW (.int .i64) ((⟨r1, 0, none⟩ : Addr).add 1) fun (u11 : Int) =>
  newW (.cells #[(.int .u8 (IntKind.wrap .u8 u11))] 5) fun (r12 : Nat) =>
  runW Tryd.prog (Builtin.append_ #[57, 57] 57 #[(.slice (some (⟨r3, 0, none⟩ : Addr)) 1 1), (.slice (some (⟨r12, 0, none⟩ : Addr)) 1 1)]) .slc fun (u13 : (Option Addr × Nat × Nat)) =>
  runW Tryd.prog (Go.convert 57 9 (.slice u13.1 u13.2.1 u13.2.2)) .str fun (u14 : ByteArray) => K (.string u14)) <|
  splitW (u4 == (3 : Int)) (loopW ((Option Addr × Nat × Nat) × Int × Unit) (((some (⟨r3, 0, none⟩ : Addr)), 1, 1), (0 : Int), ()) fun (y16 : (Option Addr × Nat × Nat) × Int × Unit) (I15 : ((Option Addr × Nat × Nat) × Int × Unit) → WP) =>
  ldW .str ((⟨r1, 0, none⟩ : Addr).add 2) fun (u17 : ByteArray) =>
  splitW (decide (y16.2.1 < ((u17.size : Nat) : Int))) (ldW .str ((⟨r1, 0, none⟩ : Addr).add 2) fun (u18 : ByteArray) =>
  guardW (0 ≤ y16.2.1 ∧ y16.2.1 < ((u18.size : Nat) : Int)) <|
  newW (.cells #[(.int .u8 (bt u18 y16.2.1))] 5) fun (r19 : Nat) =>
  runW Tryd.prog (Builtin.append_ #[57, 57] 57 #[(.slice y16.1.1 y16.1.2.1 y16.1.2.2), (.slice (some (⟨r19, 0, none⟩ : Addr)) 1 1)]) .slc fun (u20 : (Option Addr × Nat × Nat)) =>
  ldW .str ((⟨r1, 0, none⟩ : Addr).add 2) fun (u21 : ByteArray) =>
  guardW (0 ≤ y16.2.1 ∧ y16.2.1 < ((u21.size : Nat) : Int)) <|
  splitW ((bt u21 y16.2.1) == (0 : Int)) (newW (.cells #[(.int .u8 (255 : Int))] 5) fun (r22 : Nat) =>
  runW Tryd.prog (Builtin.append_ #[57, 57] 57 #[(.slice u20.1 u20.2.1 u20.2.2), (.slice (some (⟨r22, 0, none⟩ : Addr)) 1 1)]) .slc fun (u23 : (Option Addr × Nat × Nat)) => I15 ((u23.1, u23.2.1, u23.2.2), (IntKind.wrap .i64 (y16.2.1 + (1 : Int))), ())) <| I15 ((u20.1, u20.2.1, u20.2.2), (IntKind.wrap .i64 (y16.2.1 + (1 : Int))), ())) <|
  newW (.cells #[(.int .u8 (0 : Int)), (.int .u8 (0 : Int))] 5) fun (r24 : Nat) =>
  runW Tryd.prog (Builtin.append_ #[57, 57] 57 #[(.slice y16.1.1 y16.1.2.1 y16.1.2.2), (.slice (some (⟨r24, 0, none⟩ : Addr)) 2 2)]) .slc fun (u25 : (Option Addr × Nat × Nat)) =>
  runW Tryd.prog (Go.convert 57 9 (.slice u25.1 u25.2.1 u25.2.2)) .str fun (u26 : ByteArray) => K (.string u26)) <|
  runW Tryd.prog (Go.convert 57 9 (.slice (some (⟨r3, 0, none⟩ : Addr)) 1 1)) .str fun (u27 : ByteArray) => K (.string u27)
theorem eq49 (x0_0 : Int) (x0_1 : Int) (x0_2 : ByteArray) (K : Value → WP) : bodyW Tryd.prog Tryd.f49 an49 false [(.agg #[(.int .i64 x0_0), (.int .i64 x0_1), (.string x0_2)])] K = S49 x0_0 x0_1 x0_2 K := by kernel_rfl
theorem calls49 (x0_0 : Int) (x0_1 : Int) (x0_2 : ByteArray) {K : Value → WP} {w : World} (h : S49 x0_0 x0_1 x0_2 K w) : Calls Tryd.prog 49 #[(.agg #[(.int .i64 x0_0), (.int .i64 x0_1), (.string x0_2)])] w (Ret K) := callsR_of_bodyW mixed Tryd.func49 (of_decide_eq_true (by kernel_rfl)) (by rw [eq49]; exact h)

/-- cmp.isNaN[int] -/
def an50 : Ann := (.seq .nil (.seq .nil .nil))
def S50 (x0 : Int) (K : Value → WP) : WP := 
  K (.bool (x0 != x0))
theorem eq50 (x0 : Int) (K : Value → WP) : bodyW Tryd.prog Tryd.f50 an50 false [(.int .i64 x0)] K = S50 x0 K := by kernel_rfl
theorem calls50 (x0 : Int) {K : Value → WP} {w : World} (h : S50 x0 K w) : Calls Tryd.prog 50 #[(.int .i64 x0)] w (Ret K) := callsR_of_bodyW mixed Tryd.func50 (of_decide_eq_true (by kernel_rfl)) (by rw [eq50]; exact h)

/-- cmp.isNaN[int64] -/
def an51 : Ann := (.seq .nil (.seq .nil .nil))
def S51 (x0 : Int) (K : Value → WP) : WP := 
  K (.bool (x0 != x0))
theorem eq51 (x0 : Int) (K : Value → WP) : bodyW Tryd.prog Tryd.f51 an51 false [(.int .i64 x0)] K = S51 x0 K := by kernel_rfl
theorem calls51 (x0 : Int) {K : Value → WP} {w : World} (h : S51 x0 K w) : Calls Tryd.prog 51 #[(.int .i64 x0)] w (Ret K) := callsR_of_bodyW mixed Tryd.func51 (of_decide_eq_true (by kernel_rfl)) (by rw [eq51]; exact h)

/-- (*shadowbook/value.cursor).take -/
def an53 : Ann := (.seq .nil (.seq (.seq .nil (.cond (.seq .nil (.seq .nil .nil)) .nil)) (.seq .nil (.seq .nil (.seq .nil .nil)))))
def S53 (x0 : Option Addr) (x1 : Int) (K : Value → WP) : WP := 
  ptrW x0 fun (p1 : Addr) =>
  ldW .str p1 fun (u2 : ByteArray) =>
  splitW (decide (((u2.size : Nat) : Int) < x1)) (ptrW x0 fun (p3 : Addr) =>
  stW (p3.add 1) (.bool true) <|
  callW Tryd.prog 61 [(.string (ByteArray.mk #[0])), (.int .i64 x1)] (.one (.one .str)) fun (u4 : ByteArray) => K (.string u4)) <|
  ptrW x0 fun (p5 : Addr) =>
  ldW .str p5 fun (u6 : ByteArray) =>
  guardW (0 ≤ x1 ∧ x1 ≤ ((u6.size : Nat) : Int)) <|
  ptrW x0 fun (p7 : Addr) =>
  ldW .str p7 fun (u8 : ByteArray) =>
  guardW (0 ≤ x1 ∧ x1 ≤ ((u8.size : Nat) : Int)) <|
  ptrW x0 fun (p9 : Addr) =>
  stW p9 (.string (ByteArray.extract u8 (Int.toNat x1) u8.size)) <| K (.string (ByteArray.extract u6 0 (Int.toNat x1)))
theorem eq53 (x0 : Option Addr) (x1 : Int) (K : Value → WP) : bodyW Tryd.prog Tryd.f53 an53 false [(.pointer x0), (.int .i64 x1)] K = S53 x0 x1 K := by kernel_rfl
theorem calls53 (x0 : Option Addr) (x1 : Int) {K : Value → WP} {w : World} (h : S53 x0 x1 K w) : Calls Tryd.prog 53 #[(.pointer x0), (.int .i64 x1)] w (Ret K) := callsR_of_bodyW mixed Tryd.func53 (of_decide_eq_true (by kernel_rfl)) (by rw [eq53]; exact h)

/-- (*shadowbook/value.cursor).text -/
def an54 : Ann := (.seq .nil (.seq .nil (.seq (.block (.loop [] [0, 3, 1000000] (.seq (.seq .nil (.cond .nil .nil)) (.block (.seq .nil (.seq (.seq .nil (.cond (.seq .nil .nil) .nil)) (.seq .nil (.block (.seq .nil (.cond (.seq .nil .nil) (.seq .nil (.cond .nil .nil)))))))))))) (.seq .nil .nil))))
def S54 (x0 : Option Addr) (K : Value → WP) : WP := 
  newW (.cells #[(.pointer none), (.slice none 0 0)] 85) fun (r1 : Nat) =>
  loopW (Unit) () fun (y3 : Unit) (I2 : (Unit) → WP) =>
  ptrW x0 fun (p4 : Addr) =>
  ldW .bool (p4.add 1) fun (u5 : Bool) =>
  splitW (!u5) (callW Tryd.prog 53 [(.pointer x0), (.int .i64 (1 : Int))] (.one (.one .str)) fun (u6 : ByteArray) =>
  guardW (0 ≤ (0 : Int) ∧ (0 : Int) < ((u6.size : Nat) : Int)) <|
  splitW ((bt u6 (0 : Int)) != (0 : Int)) (callW Tryd.prog 62 [(.pointer (some (⟨r1, 0, none⟩ : Addr))), (.int .u8 (bt u6 (0 : Int)))] (.one (.one .any)) fun (u7 : Value) => I2 ()) <|
  callW Tryd.prog 53 [(.pointer x0), (.int .i64 (1 : Int))] (.one (.one .str)) fun (u8 : ByteArray) =>
  guardW (0 ≤ (0 : Int) ∧ (0 : Int) < ((u8.size : Nat) : Int)) <|
  splitW ((bt u8 (0 : Int)) == (0 : Int)) (callW Tryd.prog 63 [(.pointer (some (⟨r1, 0, none⟩ : Addr)))] (.one (.one .str)) fun (u9 : ByteArray) => K (.string u9)) <|
  splitW ((bt u8 (0 : Int)) == (255 : Int)) (callW Tryd.prog 62 [(.pointer (some (⟨r1, 0, none⟩ : Addr))), (.int .u8 (0 : Int))] (.one (.one .any)) fun (u10 : Value) => I2 ()) <|
  ptrW x0 fun (p11 : Addr) =>
  stW (p11.add 1) (.bool true) <| I2 ()) <| K (.string (ByteArray.mk #[]))
theorem eq54 (x0 : Option Addr) (K : Value → WP) : bodyW Tryd.prog Tryd.f54 an54 false [(.pointer x0)] K = S54 x0 K := by kernel_rfl
theorem calls54 (x0 : Option Addr) {K : Value → WP} {w : World} (h : S54 x0 K w) : Calls Tryd.prog 54 #[(.pointer x0)] w (Ret K) := callsR_of_bodyW mixed Tryd.func54 (of_decide_eq_true (by kernel_rfl)) (by rw [eq54]; exact h)

/-- shadowbook/value.unquoted -/
def an55 : Ann := (.seq .nil (.seq .nil (.seq (.block (.loop [(0, .sh (.one .str))] [3, 1000000] (.seq (.seq .nil (.cond .nil .nil)) (.block (.join [(0, .sh (.one .str))] [3, 1000000] (.join [(15, .sh (.one .bool))] [0, 3, 1000000] .nil (.cond (.seq .nil (.seq .nil (.cond (.seq .nil (.seq .nil .nil)) .nil))) .nil)) (.seq .nil .nil)))))) (.seq .nil .nil))))
def S55 (x0 : ByteArray) (K : Value → WP) : WP := 
  newW (.cells #[(.pointer none), (.slice none 0 0)] 85) fun (r1 : Nat) =>
  loopW (ByteArray × Unit) (x0, ()) fun (y3 : ByteArray × Unit) (I2 : (ByteArray × Unit) → WP) =>
  splitW (!(y3.1.toList == (ByteArray.mk #[]).toList)) (joinW (ByteArray × Unit) (fun (J4 : (ByteArray × Unit) → WP) =>
  joinW (Bool × Unit) (fun (J6 : (Bool × Unit) → WP) =>
  splitW (decide (((y3.1.size : Nat) : Int) ≥ (4 : Int))) (guardW (0 ≤ (0 : Int) ∧ (0 : Int) < ((y3.1.size : Nat) : Int)) <| J6 (((bt y3.1 (0 : Int)) == (92 : Int)), ())) <| J6 (false, ())) fun (y7 : Bool × Unit) =>
  splitW y7.1 (drewW <|
  guardW (0 ≤ (2 : Int) ∧ (2 : Int) < ((y3.1.size : Nat) : Int)) <|
  guardW (0 ≤ (3 : Int) ∧ (3 : Int) < ((y3.1.size : Nat) : Int)) <|
  callW Tryd.prog 64 [(.string (ByteArray.mk #[48, 49, 50, 51, 52, 53, 54, 55, 56, 57, 97, 98, 99, 100, 101, 102])), (.int .u8 (bt y3.1 (2 : Int)))] (.one (.one (.int .i64))) fun (u8 : Int) =>
  callW Tryd.prog 64 [(.string (ByteArray.mk #[48, 49, 50, 51, 52, 53, 54, 55, 56, 57, 97, 98, 99, 100, 101, 102])), (.int .u8 (bt y3.1 (3 : Int)))] (.one (.one (.int .i64))) fun (u9 : Int) =>
  splitW (decide (u8 ≥ (0 : Int))) (splitW (decide (u9 ≥ (0 : Int))) (callW Tryd.prog 62 [(.pointer (some (⟨r1, 0, none⟩ : Addr))), (.int .u8 (IntKind.wrap .u8 (ior .i64 (ishl .i64 u8 (4 : Int)) u9)))] (.one (.one .any)) fun (u10 : Value) =>
  guardW (0 ≤ (4 : Int) ∧ (4 : Int) ≤ ((y3.1.size : Nat) : Int)) <| I2 ((ByteArray.extract y3.1 (Int.toNat (4 : Int)) y3.1.size), ())) <| J4 (y3.1, ())) <| J4 (y3.1, ())) <| J4 (y3.1, ())) fun (y5 : ByteArray × Unit) =>
  guardW (0 ≤ (0 : Int) ∧ (0 : Int) < ((y5.1.size : Nat) : Int)) <|
  callW Tryd.prog 62 [(.pointer (some (⟨r1, 0, none⟩ : Addr))), (.int .u8 (bt y5.1 (0 : Int)))] (.one (.one .any)) fun (u11 : Value) =>
  guardW (0 ≤ (1 : Int) ∧ (1 : Int) ≤ ((y5.1.size : Nat) : Int)) <| I2 ((ByteArray.extract y5.1 (Int.toNat (1 : Int)) y5.1.size), ())) <|
  callW Tryd.prog 63 [(.pointer (some (⟨r1, 0, none⟩ : Addr)))] (.one (.one .str)) fun (u12 : ByteArray) => K (.string u12)
theorem eq55 (x0 : ByteArray) (K : Value → WP) : bodyW Tryd.prog Tryd.f55 an55 false [(.string x0)] K = S55 x0 K := by kernel_rfl
theorem calls55 (x0 : ByteArray) {K : Value → WP} {w : World} (h : S55 x0 K w) : Calls Tryd.prog 55 #[(.string x0)] w (Ret K) := callsR_of_bodyW mixed Tryd.func55 (of_decide_eq_true (by kernel_rfl)) (by rw [eq55]; exact h)

/-- internal/strconv.FormatBool -/
def an58 : Ann := (.seq .nil (.seq (.seq .nil (.cond (.seq .nil .nil) .nil)) (.seq .nil .nil)))
def S58 (x0 : Bool) (K : Value → WP) : WP := 
  splitW x0 (K (.string (ByteArray.mk #[116, 114, 117, 101]))) <| K (.string (ByteArray.mk #[102, 97, 108, 115, 101]))
theorem eq58 (x0 : Bool) (K : Value → WP) : bodyW Tryd.prog Tryd.f58 an58 false [(.bool x0)] K = S58 x0 K := by kernel_rfl
theorem calls58 (x0 : Bool) {K : Value → WP} {w : World} (h : S58 x0 K w) : Calls Tryd.prog 58 #[(.bool x0)] w (Ret K) := callsR_of_bodyW mixed Tryd.func58 (of_decide_eq_true (by kernel_rfl)) (by rw [eq58]; exact h)

/-- shadowbook/shadowbookref16.hex -/
def an59 : Ann := (.seq .nil (.seq (.block (.join [(3, .sh (.one .bool))] [0, 1000000] .nil (.cond (.seq .nil .nil) (.seq .nil (.cond (.seq .nil .nil) .nil))))) (.seq .nil .nil)))
def S59 (x0 : Int) (K : Value → WP) : WP := 
  joinW (Bool × Unit) (fun (J1 : (Bool × Unit) → WP) =>
  splitW (decide (x0 ≥ (48 : Int))) (J1 ((decide (x0 ≤ (57 : Int))), ())) <| J1 (false, ())) fun (y2 : Bool × Unit) =>
  splitW y2.1 (K (.int .i64 (IntKind.wrap .i64 (IntKind.wrap .u8 (x0 - (48 : Int)))))) <|
  splitW (decide (x0 ≥ (97 : Int))) (splitW (decide (x0 ≤ (102 : Int))) (K (.int .i64 (IntKind.wrap .i64 ((IntKind.wrap .i64 (IntKind.wrap .u8 (x0 - (97 : Int)))) + (10 : Int))))) <| K (.int .i64 (-1 : Int))) <| K (.int .i64 (-1 : Int))
theorem eq59 (x0 : Int) (K : Value → WP) : bodyW Tryd.prog Tryd.f59 an59 false [(.int .u8 x0)] K = S59 x0 K := by kernel_rfl
theorem calls59 (x0 : Int) {K : Value → WP} {w : World} (h : S59 x0 K w) : Calls Tryd.prog 59 #[(.int .u8 x0)] w (Ret K) := callsR_of_bodyW mixed Tryd.func59 (of_decide_eq_true (by kernel_rfl)) (by rw [eq59]; exact h)

end Go.Proofs.YtlpniinmomhkcaaDoor.V
