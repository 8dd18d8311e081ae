/- The shallow forms of the functions, by a program of mine (wip/tool/gen.py). -/
import Derived.Test.YtiiemgndnpflbaaVE
import Derived.Test.YtiiemgndnpflbaaChecked
set_option linter.unusedVariables false
set_option maxRecDepth 100000
namespace Go.Proofs.Ytiiemgndnpflbaa.V
open Go Go.Proofs
theorem mixed : Try.prog.follows .mixedOrders = true := by kernel_rfl

/-- shadowbook/shadowbooklaw11.SuperTorn -/
def an3 : Ann := (.seq .nil (.seq (.seq .nil (.cond (.seq .nil .nil) .nil)) (.seq (.seq .nil (.cond (.seq .nil .nil) .nil)) (.seq .nil (.seq .nil (.seq (.seq .nil (.cond (.seq .nil .nil) .nil)) (.seq .nil (.seq (.seq .nil (.cond (.seq .nil .nil) .nil)) (.seq .nil (.seq (.seq .nil (.block (.loop [(17, .sh (.one (.int .i64)))] [3, 4, 5, 9, 11, 16, 1000000] (.seq (.seq .nil (.cond .nil .nil)) (.seq (.block (.seq .nil (.cond .nil .nil))) .nil))))) (.seq .nil (.seq .nil (.seq (.block (.seq .nil (.cond (.seq .nil .nil) (.seq .nil (.cond (.seq .nil .nil) .nil))))) (.seq .nil .nil))))))))))))))
def S3 (x0_0 : Int) (x0_1 : Int) (x0_2 : Int) (x0_3 : Int) (a0_4 : Option Addr) (n0_4 c0_4 : Nat) (x1_0 : Int) (x1_1 : Int) (x1_2 : Int) (x1_3 : Int) (a1_4 : Option Addr) (n1_4 c1_4 : Nat) (x2 : ByteArray) (x3 : Int) (K : Value → WP) : WP := 
  newW (.cells #[(.int .u64 x0_0), (.int .i64 x0_1), (.int .i64 x0_2), (.int .u32 x0_3), (.slice a0_4 n0_4 c0_4)] 28) fun (r1 : Nat) =>
  newW (.cells #[(.int .u64 x1_0), (.int .i64 x1_1), (.int .i64 x1_2), (.int .u32 x1_3), (.slice a1_4 n1_4 c1_4)] 28) fun (r2 : Nat) =>
  callW Try.prog 8 [] (.one (.one .bool)) fun (u3 : Bool) =>
  splitW (!u3) (K (.bool false)) <|
  ldW .slc ((⟨r1, 0, none⟩ : Addr).add 4) fun (u4 : (Option Addr × Nat × Nat)) =>
  splitW (decide (((u4.2.1 : Nat) : Int) > (40 : Int))) (K (.bool true)) <|
  ldW .slc ((⟨r2, 0, none⟩ : Addr).add 4) fun (u5 : (Option Addr × Nat × Nat)) =>
  splitW (decide (((u5.2.1 : Nat) : Int) > (40 : Int))) (K (.bool true)) <|
  ldAW [(.int .u64), (.int .i64), (.int .i64), (.int .u32), .slc] (⟨r1, 0, none⟩ : Addr) fun (u6 : (Int × Int × Int × Int × (Option Addr × Nat × Nat) × Unit)) =>
  callW Try.prog 9 [(.agg #[(.int .u64 u6.1), (.int .i64 u6.2.1), (.int .i64 u6.2.2.1), (.int .u32 u6.2.2.2.1), (.slice u6.2.2.2.2.1.1 u6.2.2.2.2.1.2.1 u6.2.2.2.2.1.2.2)])] (.many [(.one .str), (.one (.int .i64))]) fun (u7 : ByteArray × Int × Unit) =>
  ldAW [(.int .u64), (.int .i64), (.int .i64), (.int .u32), .slc] (⟨r2, 0, none⟩ : Addr) fun (u8 : (Int × Int × Int × Int × (Option Addr × Nat × Nat) × Unit)) =>
  callW Try.prog 9 [(.agg #[(.int .u64 u8.1), (.int .i64 u8.2.1), (.int .i64 u8.2.2.1), (.int .u32 u8.2.2.2.1), (.slice u8.2.2.2.2.1.1 u8.2.2.2.2.1.2.1 u8.2.2.2.2.1.2.2)])] (.many [(.one .str), (.one (.int .i64))]) fun (u9 : ByteArray × Int × Unit) =>
  splitW (u7.2.1 != (0 : Int)) (K (.bool true)) <|
  splitW (u9.2.1 != (0 : Int)) (K (.bool true)) <|
  splitW (((u7.1.size : Nat) : Int) != ((u9.1.size : Nat) : Int)) (K (.bool true)) <|
  splitW (((x2.size : Nat) : Int) != ((u9.1.size : Nat) : Int)) (K (.bool true)) <|
  ldW (.int .u64) (⟨r2, 0, none⟩ : Addr) fun (u10 : Int) =>
  ldW (.int .u64) (⟨r1, 0, none⟩ : Addr) fun (u11 : Int) =>
  splitW (decide (u10 ≤ u11)) (K (.bool true)) <|
  callW Try.prog 10 [(.string u7.1), (.string x2)] (.many [(.one (.int .i64)), (.agg [(.int .u64), (.int .i64), (.int .i64), (.int .u32), .slc]), (.one (.int .i64))]) fun (u12 : Int × (Int × Int × Int × Int × (Option Addr × Nat × Nat) × Unit) × Int × Unit) =>
  newW (.cells #[(.int .u64 (0 : Int)), (.int .i64 (0 : Int)), (.int .i64 (0 : Int)), (.int .u32 (0 : Int)), (.slice none 0 0)] 28) fun (r13 : Nat) =>
  guardW ((#[(.int .u64 u12.2.1.1), (.int .i64 u12.2.1.2.1), (.int .i64 u12.2.1.2.2.1), (.int .u32 u12.2.1.2.2.2.1), (.slice u12.2.1.2.2.2.2.1.1 u12.2.1.2.2.2.2.1.2.1 u12.2.1.2.2.2.2.1.2.2)] : Array Value).size = 5) <|
  stAW (⟨r13, 0, none⟩ : Addr) [(.int .u64 u12.2.1.1), (.int .i64 u12.2.1.2.1), (.int .i64 u12.2.1.2.2.1), (.int .u32 u12.2.1.2.2.2.1), (.slice u12.2.1.2.2.2.2.1.1 u12.2.1.2.2.2.2.1.2.1 u12.2.1.2.2.2.2.1.2.2)] <|
  splitW (u12.2.2.1 != (0 : Int)) (K (.bool (u12.2.2.1 == (0 : Int)))) <|
  splitW (u12.1 != (0 : Int)) (K (.bool (u12.2.2.1 == (0 : Int)))) <|
  runW Try.prog (Go.convert 9 35 (.string x2)) .slc fun (u14 : (Option Addr × Nat × Nat)) =>
  loopW (Int × Unit) ((0 : Int), ()) fun (y16 : Int × Unit) (I15 : (Int × Unit) → WP) =>
  splitW (decide (y16.1 < (IntKind.wrap .i64 (Int.tdiv ((u9.1.size : Nat) : Int) (64 : Int))))) (guardW (0 ≤ (IntKind.wrap .u64 y16.1)) <|
  splitW ((Int.tmod (ishr .u64 x3 (IntKind.wrap .u64 y16.1)) (2 : Int)) == (1 : Int)) (drewW <|
  guardW (0 ≤ (IntKind.wrap .i64 (y16.1 * (64 : Int))) ∧ (IntKind.wrap .i64 (y16.1 * (64 : Int))) ≤ (IntKind.wrap .i64 ((IntKind.wrap .i64 (y16.1 + (1 : Int))) * (64 : Int))) ∧ (IntKind.wrap .i64 ((IntKind.wrap .i64 (y16.1 + (1 : Int))) * (64 : Int))) ≤ ((u14.2.2 : Nat) : Int)) <|
  guardW (0 ≤ (IntKind.wrap .i64 (y16.1 * (64 : Int))) ∧ (IntKind.wrap .i64 (y16.1 * (64 : Int))) ≤ ((u9.1.size : Nat) : Int)) <|
  runW Try.prog (Builtin.copy_ #[35, 9] 3 #[(.slice (cutAddr u14.1 (Int.toNat (IntKind.wrap .i64 (y16.1 * (64 : Int)))) u14.2.2 1) ((Int.toNat (IntKind.wrap .i64 ((IntKind.wrap .i64 (y16.1 + (1 : Int))) * (64 : Int)))) - (Int.toNat (IntKind.wrap .i64 (y16.1 * (64 : Int))))) (u14.2.2 - (Int.toNat (IntKind.wrap .i64 (y16.1 * (64 : Int)))))), (.string (ByteArray.extract u9.1 (Int.toNat (IntKind.wrap .i64 (y16.1 * (64 : Int)))) u9.1.size))]) (.int .i64) fun (u17 : Int) => I15 ((IntKind.wrap .i64 (y16.1 + (1 : Int))), ())) <| I15 ((IntKind.wrap .i64 (y16.1 + (1 : Int))), ())) <|
  runW Try.prog (Go.convert 35 9 (.slice u14.1 u14.2.1 u14.2.2)) .str fun (u18 : ByteArray) =>
  callW Try.prog 10 [(.string u7.1), (.string u18)] (.many [(.one (.int .i64)), (.agg [(.int .u64), (.int .i64), (.int .i64), (.int .u32), .slc]), (.one (.int .i64))]) fun (u19 : Int × (Int × Int × Int × Int × (Option Addr × Nat × Nat) × Unit) × Int × Unit) =>
  newW (.cells #[(.int .u64 (0 : Int)), (.int .i64 (0 : Int)), (.int .i64 (0 : Int)), (.int .u32 (0 : Int)), (.slice none 0 0)] 28) fun (r20 : Nat) =>
  guardW ((#[(.int .u64 u19.2.1.1), (.int .i64 u19.2.1.2.1), (.int .i64 u19.2.1.2.2.1), (.int .u32 u19.2.1.2.2.2.1), (.slice u19.2.1.2.2.2.2.1.1 u19.2.1.2.2.2.2.1.2.1 u19.2.1.2.2.2.2.1.2.2)] : Array Value).size = 5) <|
  stAW (⟨r20, 0, none⟩ : Addr) [(.int .u64 u19.2.1.1), (.int .i64 u19.2.1.2.1), (.int .i64 u19.2.1.2.2.1), (.int .u32 u19.2.1.2.2.2.1), (.slice u19.2.1.2.2.2.2.1.1 u19.2.1.2.2.2.2.1.2.1 u19.2.1.2.2.2.2.1.2.2)] <|
  runW Try.prog (Go.convert 35 9 (.slice u14.1 u14.2.1 u14.2.2)) .str fun (u21 : ByteArray) =>
  callW Try.prog 11 [(.string u21)] (.many [(.agg [(.int .u64), (.int .i64), (.int .i64), (.int .u32), .slc]), (.one (.int .i64))]) fun (u22 : (Int × Int × Int × Int × (Option Addr × Nat × Nat) × Unit) × Int × Unit) =>
  newW (.cells #[(.int .u64 (0 : Int)), (.int .i64 (0 : Int)), (.int .i64 (0 : Int)), (.int .u32 (0 : Int)), (.slice none 0 0)] 28) fun (r23 : Nat) =>
  guardW ((#[(.int .u64 u22.1.1), (.int .i64 u22.1.2.1), (.int .i64 u22.1.2.2.1), (.int .u32 u22.1.2.2.2.1), (.slice u22.1.2.2.2.2.1.1 u22.1.2.2.2.2.1.2.1 u22.1.2.2.2.2.1.2.2)] : Array Value).size = 5) <|
  stAW (⟨r23, 0, none⟩ : Addr) [(.int .u64 u22.1.1), (.int .i64 u22.1.2.1), (.int .i64 u22.1.2.2.1), (.int .u32 u22.1.2.2.2.1), (.slice u22.1.2.2.2.2.1.1 u22.1.2.2.2.2.1.2.1 u22.1.2.2.2.2.1.2.2)] <|
  runW Try.prog (Go.convert 35 9 (.slice u14.1 u14.2.1 u14.2.2)) .str fun (u24 : ByteArray) =>
  splitW (u24.toList == u9.1.toList) (splitW (u19.2.2.1 == (0 : Int)) (splitW (u19.1 == (1 : Int)) (ldAW [(.int .u64), (.int .i64), (.int .i64), (.int .u32), .slc] (⟨r20, 0, none⟩ : Addr) fun (u25 : (Int × Int × Int × Int × (Option Addr × Nat × Nat) × Unit)) =>
  ldAW [(.int .u64), (.int .i64), (.int .i64), (.int .u32), .slc] (⟨r2, 0, none⟩ : Addr) fun (u26 : (Int × Int × Int × Int × (Option Addr × Nat × Nat) × Unit)) =>
  callW Try.prog 12 [(.agg #[(.int .u64 u25.1), (.int .i64 u25.2.1), (.int .i64 u25.2.2.1), (.int .u32 u25.2.2.2.1), (.slice u25.2.2.2.2.1.1 u25.2.2.2.2.1.2.1 u25.2.2.2.2.1.2.2)]), (.agg #[(.int .u64 u26.1), (.int .i64 u26.2.1), (.int .i64 u26.2.2.1), (.int .u32 u26.2.2.2.1), (.slice u26.2.2.2.2.1.1 u26.2.2.2.2.1.2.1 u26.2.2.2.2.1.2.2)])] (.one (.one .bool)) fun (u27 : Bool) => K (.bool u27)) <| K (.bool false)) <| K (.bool false)) <|
  splitW (u22.2.1 != (0 : Int)) (splitW (u19.2.2.1 == (0 : Int)) (splitW (u19.1 == (0 : Int)) (ldAW [(.int .u64), (.int .i64), (.int .i64), (.int .u32), .slc] (⟨r20, 0, none⟩ : Addr) fun (u28 : (Int × Int × Int × Int × (Option Addr × Nat × Nat) × Unit)) =>
  ldAW [(.int .u64), (.int .i64), (.int .i64), (.int .u32), .slc] (⟨r1, 0, none⟩ : Addr) fun (u29 : (Int × Int × Int × Int × (Option Addr × Nat × Nat) × Unit)) =>
  callW Try.prog 12 [(.agg #[(.int .u64 u28.1), (.int .i64 u28.2.1), (.int .i64 u28.2.2.1), (.int .u32 u28.2.2.2.1), (.slice u28.2.2.2.2.1.1 u28.2.2.2.2.1.2.1 u28.2.2.2.2.1.2.2)]), (.agg #[(.int .u64 u29.1), (.int .i64 u29.2.1), (.int .i64 u29.2.2.1), (.int .u32 u29.2.2.2.1), (.slice u29.2.2.2.2.1.1 u29.2.2.2.2.1.2.1 u29.2.2.2.2.1.2.2)])] (.one (.one .bool)) fun (u30 : Bool) => K (.bool u30)) <| K (.bool false)) <| K (.bool false)) <| K (.bool (u19.2.2.1 == (0 : Int)))
theorem eq3 (x0_0 : Int) (x0_1 : Int) (x0_2 : Int) (x0_3 : Int) (a0_4 : Option Addr) (n0_4 c0_4 : Nat) (x1_0 : Int) (x1_1 : Int) (x1_2 : Int) (x1_3 : Int) (a1_4 : Option Addr) (n1_4 c1_4 : Nat) (x2 : ByteArray) (x3 : Int) (K : Value → WP) : bodyW Try.prog Try.f3 an3 false [(.agg #[(.int .u64 x0_0), (.int .i64 x0_1), (.int .i64 x0_2), (.int .u32 x0_3), (.slice a0_4 n0_4 c0_4)]), (.agg #[(.int .u64 x1_0), (.int .i64 x1_1), (.int .i64 x1_2), (.int .u32 x1_3), (.slice a1_4 n1_4 c1_4)]), (.string x2), (.int .u64 x3)] K = S3 x0_0 x0_1 x0_2 x0_3 a0_4 n0_4 c0_4 x1_0 x1_1 x1_2 x1_3 a1_4 n1_4 c1_4 x2 x3 K := by kernel_rfl
theorem calls3 (x0_0 : Int) (x0_1 : Int) (x0_2 : Int) (x0_3 : Int) (a0_4 : Option Addr) (n0_4 c0_4 : Nat) (x1_0 : Int) (x1_1 : Int) (x1_2 : Int) (x1_3 : Int) (a1_4 : Option Addr) (n1_4 c1_4 : Nat) (x2 : ByteArray) (x3 : Int) {K : Value → WP} {w : World} (h : S3 x0_0 x0_1 x0_2 x0_3 a0_4 n0_4 c0_4 x1_0 x1_1 x1_2 x1_3 a1_4 n1_4 c1_4 x2 x3 K w) : Calls Try.prog 3 #[(.agg #[(.int .u64 x0_0), (.int .i64 x0_1), (.int .i64 x0_2), (.int .u32 x0_3), (.slice a0_4 n0_4 c0_4)]), (.agg #[(.int .u64 x1_0), (.int .i64 x1_1), (.int .i64 x1_2), (.int .u32 x1_3), (.slice a1_4 n1_4 c1_4)]), (.string x2), (.int .u64 x3)] w (Ret K) := callsR_of_bodyW mixed Try.func3 (of_decide_eq_true (by kernel_rfl)) (by rw [eq3]; exact h)

/-- shadowbook/shadowbooklaw11.SuperBack -/
def an4 : Ann := (.seq .nil (.seq (.seq .nil (.cond (.seq .nil .nil) .nil)) (.seq (.seq .nil (.cond (.seq .nil .nil) .nil)) (.seq .nil (.join [] [1, 1000000] (.seq .nil (.cond (.seq .nil (.seq .nil (.cond (.seq .nil .nil) .nil))) .nil)) (.seq .nil (.seq (.seq .nil (.cond (.seq .nil .nil) .nil)) (.seq .nil (.seq .nil (.seq .nil .nil))))))))))
def S4 (x0_0 : Int) (x0_1 : Int) (x0_2 : Int) (x0_3 : Int) (a0_4 : Option Addr) (n0_4 c0_4 : Nat) (x1 : ByteArray) (K : Value → WP) : WP := 
  newW (.cells #[(.int .u64 x0_0), (.int .i64 x0_1), (.int .i64 x0_2), (.int .u32 x0_3), (.slice a0_4 n0_4 c0_4)] 28) fun (r1 : Nat) =>
  callW Try.prog 8 [] (.one (.one .bool)) fun (u2 : Bool) =>
  splitW (!u2) (K (.bool false)) <|
  ldW .slc ((⟨r1, 0, none⟩ : Addr).add 4) fun (u3 : (Option Addr × Nat × Nat)) =>
  splitW (decide (((u3.2.1 : Nat) : Int) > (40 : Int))) (K (.bool true)) <|
  splitW (decide (((x1.size : Nat) : Int) > (600 : Int))) (K (.bool true)) <|
  ldAW [(.int .u64), (.int .i64), (.int .i64), (.int .u32), .slc] (⟨r1, 0, none⟩ : Addr) fun (u4 : (Int × Int × Int × Int × (Option Addr × Nat × Nat) × Unit)) =>
  callW Try.prog 9 [(.agg #[(.int .u64 u4.1), (.int .i64 u4.2.1), (.int .i64 u4.2.2.1), (.int .u32 u4.2.2.2.1), (.slice u4.2.2.2.2.1.1 u4.2.2.2.2.1.2.1 u4.2.2.2.2.1.2.2)])] (.many [(.one .str), (.one (.int .i64))]) fun (u5 : ByteArray × Int × Unit) =>
  joinW (Unit) (fun (J6 : (Unit) → WP) =>
  splitW (u5.2.1 == (0 : Int)) (callW Try.prog 11 [(.string u5.1)] (.many [(.agg [(.int .u64), (.int .i64), (.int .i64), (.int .u32), .slc]), (.one (.int .i64))]) fun (u8 : (Int × Int × Int × Int × (Option Addr × Nat × Nat) × Unit) × Int × Unit) =>
  newW (.cells #[(.int .u64 (0 : Int)), (.int .i64 (0 : Int)), (.int .i64 (0 : Int)), (.int .u32 (0 : Int)), (.slice none 0 0)] 28) fun (r9 : Nat) =>
  guardW ((#[(.int .u64 u8.1.1), (.int .i64 u8.1.2.1), (.int .i64 u8.1.2.2.1), (.int .u32 u8.1.2.2.2.1), (.slice u8.1.2.2.2.2.1.1 u8.1.2.2.2.2.1.2.1 u8.1.2.2.2.2.1.2.2)] : Array Value).size = 5) <|
  stAW (⟨r9, 0, none⟩ : Addr) [(.int .u64 u8.1.1), (.int .i64 u8.1.2.1), (.int .i64 u8.1.2.2.1), (.int .u32 u8.1.2.2.2.1), (.slice u8.1.2.2.2.2.1.1 u8.1.2.2.2.2.1.2.1 u8.1.2.2.2.2.1.2.2)] <|
  splitW (u8.2.1 != (0 : Int)) (K (.bool false)) <|
  ldAW [(.int .u64), (.int .i64), (.int .i64), (.int .u32), .slc] (⟨r1, 0, none⟩ : Addr) fun (u10 : (Int × Int × Int × Int × (Option Addr × Nat × Nat) × Unit)) =>
  ldAW [(.int .u64), (.int .i64), (.int .i64), (.int .u32), .slc] (⟨r9, 0, none⟩ : Addr) fun (u11 : (Int × Int × Int × Int × (Option Addr × Nat × Nat) × Unit)) =>
  callW Try.prog 12 [(.agg #[(.int .u64 u10.1), (.int .i64 u10.2.1), (.int .i64 u10.2.2.1), (.int .u32 u10.2.2.2.1), (.slice u10.2.2.2.2.1.1 u10.2.2.2.2.1.2.1 u10.2.2.2.2.1.2.2)]), (.agg #[(.int .u64 u11.1), (.int .i64 u11.2.1), (.int .i64 u11.2.2.1), (.int .u32 u11.2.2.2.1), (.slice u11.2.2.2.2.1.1 u11.2.2.2.2.1.2.1 u11.2.2.2.2.1.2.2)])] (.one (.one .bool)) fun (u12 : Bool) =>
  splitW (!u12) (K (.bool false)) <|
  ldW (.int .i64) ((⟨r1, 0, none⟩ : Addr).add 1) fun (u13 : Int) =>
  splitW (((u5.1.size : Nat) : Int) != u13) (K (.bool false)) <| J6 ()) <| J6 ()) fun (y7 : Unit) =>
  callW Try.prog 11 [(.string x1)] (.many [(.agg [(.int .u64), (.int .i64), (.int .i64), (.int .u32), .slc]), (.one (.int .i64))]) fun (u14 : (Int × Int × Int × Int × (Option Addr × Nat × Nat) × Unit) × Int × Unit) =>
  newW (.cells #[(.int .u64 (0 : Int)), (.int .i64 (0 : Int)), (.int .i64 (0 : Int)), (.int .u32 (0 : Int)), (.slice none 0 0)] 28) fun (r15 : Nat) =>
  guardW ((#[(.int .u64 u14.1.1), (.int .i64 u14.1.2.1), (.int .i64 u14.1.2.2.1), (.int .u32 u14.1.2.2.2.1), (.slice u14.1.2.2.2.2.1.1 u14.1.2.2.2.2.1.2.1 u14.1.2.2.2.2.1.2.2)] : Array Value).size = 5) <|
  stAW (⟨r15, 0, none⟩ : Addr) [(.int .u64 u14.1.1), (.int .i64 u14.1.2.1), (.int .i64 u14.1.2.2.1), (.int .u32 u14.1.2.2.2.1), (.slice u14.1.2.2.2.2.1.1 u14.1.2.2.2.2.1.2.1 u14.1.2.2.2.2.1.2.2)] <|
  splitW (u14.2.1 != (0 : Int)) (ldW .slc ((⟨r15, 0, none⟩ : Addr).add 4) fun (u16 : (Option Addr × Nat × Nat)) => K (.bool (((u16.2.1 : Nat) : Int) == (0 : Int)))) <|
  ldAW [(.int .u64), (.int .i64), (.int .i64), (.int .u32), .slc] (⟨r15, 0, none⟩ : Addr) fun (u17 : (Int × Int × Int × Int × (Option Addr × Nat × Nat) × Unit)) =>
  callW Try.prog 9 [(.agg #[(.int .u64 u17.1), (.int .i64 u17.2.1), (.int .i64 u17.2.2.1), (.int .u32 u17.2.2.2.1), (.slice u17.2.2.2.2.1.1 u17.2.2.2.2.1.2.1 u17.2.2.2.2.1.2.2)])] (.many [(.one .str), (.one (.int .i64))]) fun (u18 : ByteArray × Int × Unit) =>
  drewW <|
  ldW .slc ((⟨r15, 0, none⟩ : Addr).add 4) fun (u19 : (Option Addr × Nat × Nat)) =>
  ldW (.int .i64) ((⟨r15, 0, none⟩ : Addr).add 1) fun (u20 : Int) =>
  callW Try.prog 13 [(.int .i64 u20)] (.one (.one (.int .i64))) fun (u21 : Int) =>
  heldW [[(((⟨r15, 0, none⟩ : Addr).add 4), (.slice u19.1 u19.2.1 u19.2.2))]] <|
  splitW (u18.2.1 == (0 : Int)) (splitW (u18.1.toList == x1.toList) (ldAW [(.int .i64), (.int .i64)] ((⟨r15, 0, none⟩ : Addr).add 1) fun (u22 : (Int × Int × Unit)) =>
  callW Try.prog 14 [(.agg #[(.int .i64 u22.1), (.int .i64 u22.2.1)])] (.one (.one (.int .i64))) fun (u23 : Int) =>
  splitW (((u19.2.1 : Nat) : Int) == u23) (ldW (.int .i64) (((⟨r15, 0, none⟩ : Addr).add 1).add 1) fun (u24 : Int) =>
  splitW (decide ((IntKind.wrap .i64 (((u19.2.1 : Nat) : Int) * u21)) ≥ (IntKind.wrap .i64 ((2 : Int) * u24)))) (ldW (.int .i64) (((⟨r15, 0, none⟩ : Addr).add 1).add 1) fun (u25 : Int) => K (.bool (decide ((IntKind.wrap .i64 ((IntKind.wrap .i64 (((u19.2.1 : Nat) : Int) - (1 : Int))) * u21)) < (IntKind.wrap .i64 ((2 : Int) * u25)))))) <| K (.bool false)) <| K (.bool false)) <| K (.bool false)) <| K (.bool false)
theorem eq4 (x0_0 : Int) (x0_1 : Int) (x0_2 : Int) (x0_3 : Int) (a0_4 : Option Addr) (n0_4 c0_4 : Nat) (x1 : ByteArray) (K : Value → WP) : bodyW Try.prog Try.f4 an4 false [(.agg #[(.int .u64 x0_0), (.int .i64 x0_1), (.int .i64 x0_2), (.int .u32 x0_3), (.slice a0_4 n0_4 c0_4)]), (.string x1)] K = S4 x0_0 x0_1 x0_2 x0_3 a0_4 n0_4 c0_4 x1 K := by kernel_rfl
theorem calls4 (x0_0 : Int) (x0_1 : Int) (x0_2 : Int) (x0_3 : Int) (a0_4 : Option Addr) (n0_4 c0_4 : Nat) (x1 : ByteArray) {K : Value → WP} {w : World} (h : S4 x0_0 x0_1 x0_2 x0_3 a0_4 n0_4 c0_4 x1 K w) : Calls Try.prog 4 #[(.agg #[(.int .u64 x0_0), (.int .i64 x0_1), (.int .i64 x0_2), (.int .u32 x0_3), (.slice a0_4 n0_4 c0_4)]), (.string x1)] w (Ret K) := callsR_of_bodyW mixed Try.func4 (of_decide_eq_true (by kernel_rfl)) (by rw [eq4]; exact h)

/-- shadowbook/shadowbooklaw11.SuperNames -/
def an5 : Ann := (.seq .nil (.seq (.seq .nil (.cond (.seq .nil .nil) .nil)) (.seq .nil (.seq .nil (.seq .nil (.seq .nil (.seq .nil (.seq .nil (.seq .nil (.seq .nil (.seq (.seq .nil (.block (.loop [(17, .sh (.one (.int .i64)))] [1, 2, 3, 5, 6, 7, 8, 10, 11, 12, 13, 14, 15, 16, 1000000] (.seq (.seq .nil (.cond .nil .nil)) (.seq (.block .nil) .nil))))) (.seq .nil (.seq .nil (.seq .nil (.seq .nil (.join [(0, .sh (.one .bool))] [1000000] (.cuts [⟨0, 1, 0, 0, some 98, [2]⟩, ⟨1, 2, 1, 0, some 99, [98]⟩, ⟨2, 4, 2, 0, some 100, [99]⟩, ⟨3, 8, 4, 316912650057057350374175801312, some 101, [1, 100]⟩, ⟨4, 16, 4, 0, some 102, [100]⟩, ⟨5, 32, 28, 0, some 103, [101, 102, 100]⟩, ⟨6, 64, 36, 0, some 104, [100, 103]⟩, ⟨7, 128, 96, 0, some 105, [104]⟩, ⟨8, 256, 128, 0, some 106, [5, 105]⟩, ⟨9, 512, 384, 0, some 107, [106, 105]⟩, ⟨10, 1024, 640, 0, some 108, [105, 107]⟩, ⟨11, 2048, 1152, 0, some 109, [108]⟩, ⟨12, 4096, 2048, 0, some 110, [3, 109]⟩, ⟨13, 8192, 6144, 0, some 111, [110, 109]⟩, ⟨14, 16384, 10240, 0, some 112, [109, 111]⟩, ⟨15, 32768, 18432, 0, some 113, [112]⟩, ⟨16, 65536, 32768, 0, some 114, [8, 113]⟩, ⟨17, 131072, 98304, 0, some 115, [114, 113]⟩, ⟨18, 262144, 163840, 0, some 116, [113, 115]⟩, ⟨19, 524288, 294912, 0, some 117, [116]⟩, ⟨20, 1048576, 524288, 0, some 118, [6, 117]⟩, ⟨21, 2097152, 1572864, 0, some 119, [118, 117]⟩, ⟨22, 4194304, 2621440, 0, some 120, [117, 119]⟩, ⟨23, 8388608, 4718592, 0, some 121, [120]⟩, ⟨24, 16777216, 8388608, 0, some 122, [7, 121]⟩, ⟨25, 33554432, 25165824, 316912650057057350374108692480, some 123, [122, 121]⟩, ⟨26, 67108864, 41943040, 0, some 124, [123, 121]⟩, ⟨27, 134217728, 75497472, 0, some 125, [121, 124]⟩, ⟨28, 268435456, 142606336, 0, some 126, [125]⟩, ⟨29, 536870912, 268435456, 0, some 127, [10, 126]⟩, ⟨30, 1073741824, 805306368, 0, some 128, [127, 126]⟩, ⟨31, 2147483648, 1342177280, 0, some 129, [126, 128]⟩, ⟨32, 4294967296, 2415919104, 0, some 130, [129]⟩, ⟨33, 8589934592, 4294967296, 316912650057057350356995932160, some 131, [11, 130]⟩, ⟨34, 17179869184, 12884901888, 0, some 132, [131, 130]⟩, ⟨35, 34359738368, 21474836480, 0, some 133, [132, 130]⟩, ⟨36, 68719476736, 38654705664, 0, some 134, [130, 133]⟩, ⟨37, 137438953472, 85899345920, 0, some 135, [134]⟩, ⟨38, 274877906944, 137438953472, 316912650057057349824419987456, some 136, [12, 135]⟩, ⟨39, 549755813888, 412316860416, 0, some 137, [136, 135]⟩, ⟨40, 1099511627776, 687194767360, 0, some 138, [137, 135]⟩, ⟨41, 2199023255552, 1236950581248, 0, some 139, [135, 138]⟩, ⟨42, 4398046511104, 2748779069440, 0, some 140, [139]⟩, ⟨43, 8796093022208, 4398046511104, 316912650057057332781989756928, some 141, [13, 140]⟩, ⟨44, 17592186044416, 13194139533312, 0, some 142, [141, 140]⟩, ⟨45, 35184372088832, 21990232555520, 0, some 143, [142, 140]⟩, ⟨46, 70368744177664, 39582418599936, 0, some 144, [140, 143]⟩, ⟨47, 140737488355328, 87960930222080, 0, some 145, [144]⟩, ⟨48, 281474976710656, 140737488355328, 316912650057056787424222380032, some 146, [14, 145]⟩, ⟨49, 562949953421312, 422212465065984, 0, some 147, [146, 145]⟩, ⟨50, 1125899906842624, 703687441776640, 0, some 148, [147, 145]⟩, ⟨51, 2251799813685248, 1266637395197952, 0, some 149, [145, 148]⟩, ⟨52, 4503599627370496, 2814749767106560, 0, some 150, [149]⟩, ⟨53, 9007199254740992, 4503599627370496, 316912650057039335975666319360, some 151, [15, 150]⟩, ⟨54, 18014398509481984, 13510798882111488, 0, some 152, [151, 150]⟩, ⟨55, 36028797018963968, 22517998136852480, 0, some 153, [152, 150]⟩, ⟨56, 72057594037927936, 40532396646334464, 0, some 154, [150, 153]⟩, ⟨57, 144115188075855872, 90071992547409920, 0, some 155, [154]⟩, ⟨58, 288230376151711744, 144115188075855872, 316912650056480889621872377856, some 156, [16, 155]⟩, ⟨59, 576460752303423488, 432345564227567616, 0, some 157, [156, 155]⟩, ⟨60, 1152921504606846976, 720575940379279360, 0, some 158, [157, 155]⟩, ⟨61, 2305843009213693952, 1297036692682702848, 0, some 159, [155, 158]⟩, ⟨62, 4611686018427387904, 2882303761517117440, 0, some 160, [159]⟩, ⟨63, 9223372036854775808, 4611686018427387904, 0, some 161, [21, 160]⟩, ⟨64, 18446744073709551616, 13835058055282163712, 0, some 162, [161, 160]⟩, ⟨65, 36893488147419103232, 23058430092136939520, 0, some 163, [160, 162]⟩, ⟨66, 73786976294838206464, 41505174165846491136, 0, some 164, [163]⟩, ⟨67, 147573952589676412928, 73786976294838206464, 0, some 165, [25, 164]⟩, ⟨68, 295147905179352825856, 221360928884514619392, 0, some 166, [165, 164]⟩, ⟨69, 590295810358705651712, 368934881474191032320, 0, some 167, [164, 166]⟩, ⟨70, 1180591620717411303424, 664082786653543858176, 0, some 168, [167]⟩, ⟨71, 2361183241434822606848, 1180591620717411303424, 0, some 169, [168]⟩, ⟨72, 4722366482869645213696, 3541774862152233910272, 0, some 170, [169, 168]⟩, ⟨73, 9444732965739290427392, 5902958103587056517120, 0, some 171, [168, 170]⟩, ⟨74, 18889465931478580854784, 11805916207174113034240, 0, some 172, [171]⟩, ⟨75, 37778931862957161709568, 18889465931478580854784, 0, some 173, [172]⟩, ⟨76, 75557863725914323419136, 56668397794435742564352, 0, some 174, [173, 172]⟩, ⟨77, 151115727451828646838272, 94447329657392904273920, 0, some 175, [172, 174]⟩, ⟨78, 302231454903657293676544, 188894659314785808547840, 0, some 176, [175]⟩, ⟨79, 604462909807314587353088, 302231454903657293676544, 0, some 177, [176]⟩, ⟨80, 1208925819614629174706176, 906694364710971881029632, 0, some 178, [177, 176]⟩, ⟨81, 2417851639229258349412352, 1511157274518286468382720, 0, some 179, [176, 178]⟩, ⟨82, 4835703278458516698824704, 3022314549036572936765440, 0, some 180, [179]⟩, ⟨83, 9671406556917033397649408, 4835703278458516698824704, 0, some 181, [180]⟩, ⟨84, 19342813113834066795298816, 14507109835375550096474112, 0, some 182, [181, 180]⟩, ⟨85, 38685626227668133590597632, 24178516392292583494123520, 0, some 183, [182, 180]⟩, ⟨86, 77371252455336267181195264, 43521329506126650289422336, 0, some 184, [180, 183]⟩, ⟨87, 154742504910672534362390528, 96714065569170333976494080, 0, some 185, [184]⟩, ⟨88, 309485009821345068724781056, 154742504910672534362390528, 0, some 186, [185]⟩, ⟨89, 618970019642690137449562112, 464227514732017603087171584, 0, some 187, [186, 185]⟩, ⟨90, 1237940039285380274899124224, 773712524553362671811952640, 0, some 188, [187, 185]⟩, ⟨91, 2475880078570760549798248448, 1392682544196052809261514752, 0, some 189, [185, 188]⟩, ⟨92, 4951760157141521099596496896, 3094850098213450687247810560, 0, some 190, [189]⟩, ⟨93, 9903520314283042199192993792, 4951760157141521099596496896, 0, some 191, [190]⟩, ⟨94, 19807040628566084398385987584, 14855280471424563298789490688, 0, some 192, [191, 190]⟩, ⟨95, 39614081257132168796771975168, 24758800785707605497982484480, 0, some 193, [192, 190]⟩, ⟨96, 79228162514264337593543950336, 44565841414273689896368472064, 0, some 194, [190, 193]⟩, ⟨97, 158456325028528675187087900672, 158456325028528675187087900671, 0, some 0, [194]⟩] [⟨4095, [(109, .sh (.one .bool))], [3, 6, 7, 8, 10, 11, 12, 13, 14, 15, 16, 21, 25, 1000000]⟩, ⟨16777215, [(121, .sh (.one .bool))], [7, 10, 11, 12, 13, 14, 15, 16, 21, 25, 1000000]⟩, ⟨274877906943, [(135, .sh (.one .bool))], [12, 13, 14, 15, 16, 21, 25, 1000000]⟩, ⟨9007199254740991, [(150, .sh (.one .bool))], [15, 16, 21, 25, 1000000]⟩, ⟨147573952589676412927, [(164, .sh (.one .bool))], [25, 1000000]⟩, ⟨604462909807314587353087, [(176, .sh (.one .bool))], [1000000]⟩, ⟨9903520314283042199192993791, [(190, .sh (.one .bool))], [1000000]⟩]) .nil))))))))))))))))
def S5  (K : Value → WP) : WP := 
  callW Try.prog 8 [] (.one (.one .bool)) fun (u1 : Bool) =>
  splitW (!u1) (K (.bool false)) <|
  callW Try.prog 16 [(.int .u64 (9 : Int)), (.int .u32 (7 : Int))] (.one (.agg [(.int .u64), (.int .i64), (.int .i64), (.int .u32), .slc])) fun (u2 : (Int × Int × Int × Int × (Option Addr × Nat × Nat) × Unit)) =>
  callW Try.prog 15 [(.agg #[(.int .u64 u2.1), (.int .i64 u2.2.1), (.int .i64 u2.2.2.1), (.int .u32 u2.2.2.2.1), (.slice u2.2.2.2.2.1.1 u2.2.2.2.2.1.2.1 u2.2.2.2.2.1.2.2)])] (.one (.one .str)) fun (u3 : ByteArray) =>
  callW Try.prog 11 [(.string u3)] (.many [(.agg [(.int .u64), (.int .i64), (.int .i64), (.int .u32), .slc]), (.one (.int .i64))]) fun (u4 : (Int × Int × Int × Int × (Option Addr × Nat × Nat) × Unit) × Int × Unit) =>
  newW (.cells #[(.int .u64 (0 : Int)), (.int .i64 (0 : Int)), (.int .i64 (0 : Int)), (.int .u32 (0 : Int)), (.slice none 0 0)] 28) fun (r5 : Nat) =>
  guardW ((#[(.int .u64 u4.1.1), (.int .i64 u4.1.2.1), (.int .i64 u4.1.2.2.1), (.int .u32 u4.1.2.2.2.1), (.slice u4.1.2.2.2.2.1.1 u4.1.2.2.2.2.1.2.1 u4.1.2.2.2.2.1.2.2)] : Array Value).size = 5) <|
  stAW (⟨r5, 0, none⟩ : Addr) [(.int .u64 u4.1.1), (.int .i64 u4.1.2.1), (.int .i64 u4.1.2.2.1), (.int .u32 u4.1.2.2.2.1), (.slice u4.1.2.2.2.2.1.1 u4.1.2.2.2.2.1.2.1 u4.1.2.2.2.2.1.2.2)] <|
  callW Try.prog 17 [] (.one (.one .str)) fun (u6 : ByteArray) =>
  callW Try.prog 17 [] (.one (.one .str)) fun (u7 : ByteArray) =>
  callW Try.prog 10 [(.string u6), (.string u7)] (.many [(.one (.int .i64)), (.agg [(.int .u64), (.int .i64), (.int .i64), (.int .u32), .slc]), (.one (.int .i64))]) fun (u8 : Int × (Int × Int × Int × Int × (Option Addr × Nat × Nat) × Unit) × Int × Unit) =>
  newW (.cells #[(.int .u64 (0 : Int)), (.int .i64 (0 : Int)), (.int .i64 (0 : Int)), (.int .u32 (0 : Int)), (.slice none 0 0)] 28) fun (r9 : Nat) =>
  guardW ((#[(.int .u64 u8.2.1.1), (.int .i64 u8.2.1.2.1), (.int .i64 u8.2.1.2.2.1), (.int .u32 u8.2.1.2.2.2.1), (.slice u8.2.1.2.2.2.2.1.1 u8.2.1.2.2.2.2.1.2.1 u8.2.1.2.2.2.2.1.2.2)] : Array Value).size = 5) <|
  stAW (⟨r9, 0, none⟩ : Addr) [(.int .u64 u8.2.1.1), (.int .i64 u8.2.1.2.1), (.int .i64 u8.2.1.2.2.1), (.int .u32 u8.2.1.2.2.2.1), (.slice u8.2.1.2.2.2.2.1.1 u8.2.1.2.2.2.2.1.2.1 u8.2.1.2.2.2.2.1.2.2)] <|
  callW Try.prog 16 [(.int .u64 (4 : Int)), (.int .u32 (3 : Int))] (.one (.agg [(.int .u64), (.int .i64), (.int .i64), (.int .u32), .slc])) fun (u10 : (Int × Int × Int × Int × (Option Addr × Nat × Nat) × Unit)) =>
  callW Try.prog 15 [(.agg #[(.int .u64 u10.1), (.int .i64 u10.2.1), (.int .i64 u10.2.2.1), (.int .u32 u10.2.2.2.1), (.slice u10.2.2.2.2.1.1 u10.2.2.2.2.1.2.1 u10.2.2.2.2.1.2.2)])] (.one (.one .str)) fun (u11 : ByteArray) =>
  callW Try.prog 16 [(.int .u64 (4 : Int)), (.int .u32 (5 : Int))] (.one (.agg [(.int .u64), (.int .i64), (.int .i64), (.int .u32), .slc])) fun (u12 : (Int × Int × Int × Int × (Option Addr × Nat × Nat) × Unit)) =>
  callW Try.prog 15 [(.agg #[(.int .u64 u12.1), (.int .i64 u12.2.1), (.int .i64 u12.2.2.1), (.int .u32 u12.2.2.2.1), (.slice u12.2.2.2.2.1.1 u12.2.2.2.2.1.2.1 u12.2.2.2.2.1.2.2)])] (.one (.one .str)) fun (u13 : ByteArray) =>
  callW Try.prog 10 [(.string u11), (.string u13)] (.many [(.one (.int .i64)), (.agg [(.int .u64), (.int .i64), (.int .i64), (.int .u32), .slc]), (.one (.int .i64))]) fun (u14 : Int × (Int × Int × Int × Int × (Option Addr × Nat × Nat) × Unit) × Int × Unit) =>
  newW (.cells #[(.int .u64 (0 : Int)), (.int .i64 (0 : Int)), (.int .i64 (0 : Int)), (.int .u32 (0 : Int)), (.slice none 0 0)] 28) fun (r15 : Nat) =>
  guardW ((#[(.int .u64 u14.2.1.1), (.int .i64 u14.2.1.2.1), (.int .i64 u14.2.1.2.2.1), (.int .u32 u14.2.1.2.2.2.1), (.slice u14.2.1.2.2.2.2.1.1 u14.2.1.2.2.2.2.1.2.1 u14.2.1.2.2.2.2.1.2.2)] : Array Value).size = 5) <|
  stAW (⟨r15, 0, none⟩ : Addr) [(.int .u64 u14.2.1.1), (.int .i64 u14.2.1.2.1), (.int .i64 u14.2.1.2.2.1), (.int .u32 u14.2.1.2.2.2.1), (.slice u14.2.1.2.2.2.2.1.1 u14.2.1.2.2.2.2.1.2.1 u14.2.1.2.2.2.2.1.2.2)] <|
  callW Try.prog 17 [] (.one (.one .str)) fun (u16 : ByteArray) =>
  callW Try.prog 11 [(.string u16)] (.many [(.agg [(.int .u64), (.int .i64), (.int .i64), (.int .u32), .slc]), (.one (.int .i64))]) fun (u17 : (Int × Int × Int × Int × (Option Addr × Nat × Nat) × Unit) × Int × Unit) =>
  newW (.cells #[(.int .u64 (0 : Int)), (.int .i64 (0 : Int)), (.int .i64 (0 : Int)), (.int .u32 (0 : Int)), (.slice none 0 0)] 28) fun (r18 : Nat) =>
  guardW ((#[(.int .u64 u17.1.1), (.int .i64 u17.1.2.1), (.int .i64 u17.1.2.2.1), (.int .u32 u17.1.2.2.2.1), (.slice u17.1.2.2.2.2.1.1 u17.1.2.2.2.2.1.2.1 u17.1.2.2.2.2.1.2.2)] : Array Value).size = 5) <|
  stAW (⟨r18, 0, none⟩ : Addr) [(.int .u64 u17.1.1), (.int .i64 u17.1.2.1), (.int .i64 u17.1.2.2.1), (.int .u32 u17.1.2.2.2.1), (.slice u17.1.2.2.2.2.1.1 u17.1.2.2.2.2.1.2.1 u17.1.2.2.2.2.1.2.2)] <|
  callW Try.prog 16 [(.int .u64 (1 : Int)), (.int .u32 (0 : Int))] (.one (.agg [(.int .u64), (.int .i64), (.int .i64), (.int .u32), .slc])) fun (u19 : (Int × Int × Int × Int × (Option Addr × Nat × Nat) × Unit)) =>
  callW Try.prog 16 [(.int .u64 (1 : Int)), (.int .u32 (0 : Int))] (.one (.agg [(.int .u64), (.int .i64), (.int .i64), (.int .u32), .slc])) fun (u20 : (Int × Int × Int × Int × (Option Addr × Nat × Nat) × Unit)) =>
  callW Try.prog 16 [(.int .u64 (1 : Int)), (.int .u32 (8 : Int))] (.one (.agg [(.int .u64), (.int .i64), (.int .i64), (.int .u32), .slc])) fun (u21 : (Int × Int × Int × Int × (Option Addr × Nat × Nat) × Unit)) =>
  callW Try.prog 16 [(.int .u64 (1 : Int)), (.int .u32 (2 : Int))] (.one (.agg [(.int .u64), (.int .i64), (.int .i64), (.int .u32), .slc])) fun (u22 : (Int × Int × Int × Int × (Option Addr × Nat × Nat) × Unit)) =>
  callW Try.prog 16 [(.int .u64 (0 : Int)), (.int .u32 (0 : Int))] (.one (.agg [(.int .u64), (.int .i64), (.int .i64), (.int .u32), .slc])) fun (u23 : (Int × Int × Int × Int × (Option Addr × Nat × Nat) × Unit)) =>
  newW (.cells #[(.int .u64 (0 : Int)), (.int .i64 (0 : Int)), (.int .i64 (0 : Int)), (.int .u32 (0 : Int)), (.slice none 0 0)] 28) fun (r24 : Nat) =>
  newW (.cells #[(.int .u64 (0 : Int)), (.int .i64 (0 : Int)), (.int .i64 (0 : Int)), (.int .u32 (0 : Int)), (.slice none 0 0)] 28) fun (r25 : Nat) =>
  newW (.cells #[(.int .u64 (0 : Int)), (.int .i64 (0 : Int)), (.int .i64 (0 : Int)), (.int .u32 (0 : Int)), (.slice none 0 0)] 28) fun (r26 : Nat) =>
  newW (.cells #[(.int .u64 (0 : Int)), (.int .i64 (0 : Int)), (.int .i64 (0 : Int)), (.int .u32 (0 : Int)), (.slice none 0 0)] 28) fun (r27 : Nat) =>
  newW (.cells #[(.int .u64 (0 : Int)), (.int .i64 (0 : Int)), (.int .i64 (0 : Int)), (.int .u32 (0 : Int)), (.slice none 0 0)] 28) fun (r28 : Nat) =>
  guardW ((#[(.int .u64 u19.1), (.int .i64 u19.2.1), (.int .i64 u19.2.2.1), (.int .u32 u19.2.2.2.1), (.slice u19.2.2.2.2.1.1 u19.2.2.2.2.1.2.1 u19.2.2.2.2.1.2.2)] : Array Value).size = 5) <|
  stAW (⟨r24, 0, none⟩ : Addr) [(.int .u64 u19.1), (.int .i64 u19.2.1), (.int .i64 u19.2.2.1), (.int .u32 u19.2.2.2.1), (.slice u19.2.2.2.2.1.1 u19.2.2.2.2.1.2.1 u19.2.2.2.2.1.2.2)] <|
  guardW ((#[(.int .u64 u20.1), (.int .i64 u20.2.1), (.int .i64 u20.2.2.1), (.int .u32 u20.2.2.2.1), (.slice u20.2.2.2.2.1.1 u20.2.2.2.2.1.2.1 u20.2.2.2.2.1.2.2)] : Array Value).size = 5) <|
  stAW (⟨r25, 0, none⟩ : Addr) [(.int .u64 u20.1), (.int .i64 u20.2.1), (.int .i64 u20.2.2.1), (.int .u32 u20.2.2.2.1), (.slice u20.2.2.2.2.1.1 u20.2.2.2.2.1.2.1 u20.2.2.2.2.1.2.2)] <|
  guardW ((#[(.int .u64 u21.1), (.int .i64 u21.2.1), (.int .i64 u21.2.2.1), (.int .u32 u21.2.2.2.1), (.slice u21.2.2.2.2.1.1 u21.2.2.2.2.1.2.1 u21.2.2.2.2.1.2.2)] : Array Value).size = 5) <|
  stAW (⟨r26, 0, none⟩ : Addr) [(.int .u64 u21.1), (.int .i64 u21.2.1), (.int .i64 u21.2.2.1), (.int .u32 u21.2.2.2.1), (.slice u21.2.2.2.2.1.1 u21.2.2.2.2.1.2.1 u21.2.2.2.2.1.2.2)] <|
  guardW ((#[(.int .u64 u22.1), (.int .i64 u22.2.1), (.int .i64 u22.2.2.1), (.int .u32 u22.2.2.2.1), (.slice u22.2.2.2.2.1.1 u22.2.2.2.2.1.2.1 u22.2.2.2.2.1.2.2)] : Array Value).size = 5) <|
  stAW (⟨r27, 0, none⟩ : Addr) [(.int .u64 u22.1), (.int .i64 u22.2.1), (.int .i64 u22.2.2.1), (.int .u32 u22.2.2.2.1), (.slice u22.2.2.2.2.1.1 u22.2.2.2.2.1.2.1 u22.2.2.2.2.1.2.2)] <|
  guardW ((#[(.int .u64 u23.1), (.int .i64 u23.2.1), (.int .i64 u23.2.2.1), (.int .u32 u23.2.2.2.1), (.slice u23.2.2.2.2.1.1 u23.2.2.2.2.1.2.1 u23.2.2.2.2.1.2.2)] : Array Value).size = 5) <|
  stAW (⟨r28, 0, none⟩ : Addr) [(.int .u64 u23.1), (.int .i64 u23.2.1), (.int .i64 u23.2.2.1), (.int .u32 u23.2.2.2.1), (.slice u23.2.2.2.2.1.1 u23.2.2.2.2.1.2.1 u23.2.2.2.2.1.2.2)] <|
  newW (.cells #[(.int .u32 (2 : Int)), (.int .u32 (2 : Int))] 25) fun (r29 : Nat) =>
  stW ((⟨r24, 0, none⟩ : Addr).add 4) (.slice (some (⟨r29, 0, none⟩ : Addr)) 2 2) <|
  newW (.cells #[(.int .u32 (8 : Int))] 25) fun (r30 : Nat) =>
  stW ((⟨r25, 0, none⟩ : Addr).add 4) (.slice (some (⟨r30, 0, none⟩ : Addr)) 1 1) <|
  newW (.cells #[(.int .u64 (0 : Int)), (.int .i64 (0 : Int)), (.int .i64 (0 : Int)), (.int .u32 (0 : Int)), (.slice none 0 0)] 28) fun (r31 : Nat) =>
  guardW ((#[(.int .u64 (1 : Int)), (.int .i64 (128 : Int)), (.int .i64 (1400 : Int)), (.int .u32 (0 : Int)), (.slice none 0 0)] : Array Value).size = 5) <|
  stAW (⟨r31, 0, none⟩ : Addr) [(.int .u64 (1 : Int)), (.int .i64 (128 : Int)), (.int .i64 (1400 : Int)), (.int .u32 (0 : Int)), (.slice none 0 0)] <|
  loopW (Int × Unit) ((0 : Int), ()) fun (y33 : Int × Unit) (I32 : (Int × Unit) → WP) =>
  splitW (decide (y33.1 < (25 : Int))) (ldW .slc ((⟨r31, 0, none⟩ : Addr).add 4) fun (u34 : (Option Addr × Nat × Nat)) =>
  newW (.cells #[(.int .u32 (IntKind.wrap .u32 (IntKind.wrap .i64 ((2 : Int) + y33.1))))] 25) fun (r35 : Nat) =>
  runW Try.prog (Builtin.append_ #[26, 26] 26 #[(.slice u34.1 u34.2.1 u34.2.2), (.slice (some (⟨r35, 0, none⟩ : Addr)) 1 1)]) .slc fun (u36 : (Option Addr × Nat × Nat)) =>
  stW ((⟨r31, 0, none⟩ : Addr).add 4) (.slice u36.1 u36.2.1 u36.2.2) <| I32 ((IntKind.wrap .i64 (y33.1 + (1 : Int))), ())) <|
  callW Try.prog 18 [(.int .i64 (128 : Int)), (.agg #[(.int .u8 (9 : Int)), (.int .u64 (0 : Int)), (.string ByteArray.empty)])] (.many [(.one .str), (.one (.int .i64))]) fun (u37 : ByteArray × Int × Unit) =>
  callW Try.prog 11 [(.string u37.1)] (.many [(.agg [(.int .u64), (.int .i64), (.int .i64), (.int .u32), .slc]), (.one (.int .i64))]) fun (u38 : (Int × Int × Int × Int × (Option Addr × Nat × Nat) × Unit) × Int × Unit) =>
  newW (.cells #[(.int .u64 (0 : Int)), (.int .i64 (0 : Int)), (.int .i64 (0 : Int)), (.int .u32 (0 : Int)), (.slice none 0 0)] 28) fun (r39 : Nat) =>
  guardW ((#[(.int .u64 u38.1.1), (.int .i64 u38.1.2.1), (.int .i64 u38.1.2.2.1), (.int .u32 u38.1.2.2.2.1), (.slice u38.1.2.2.2.2.1.1 u38.1.2.2.2.2.1.2.1 u38.1.2.2.2.2.1.2.2)] : Array Value).size = 5) <|
  stAW (⟨r39, 0, none⟩ : Addr) [(.int .u64 u38.1.1), (.int .i64 u38.1.2.1), (.int .i64 u38.1.2.2.1), (.int .u32 u38.1.2.2.2.1), (.slice u38.1.2.2.2.2.1.1 u38.1.2.2.2.2.1.2.1 u38.1.2.2.2.2.1.2.2)] <|
  callW Try.prog 18 [(.int .i64 (128 : Int)), (.agg #[(.int .u8 (1 : Int)), (.int .u64 (1 : Int)), (.string (ByteArray.mk #[115, 104, 111, 114, 116]))])] (.many [(.one .str), (.one (.int .i64))]) fun (u40 : ByteArray × Int × Unit) =>
  callW Try.prog 11 [(.string u40.1)] (.many [(.agg [(.int .u64), (.int .i64), (.int .i64), (.int .u32), .slc]), (.one (.int .i64))]) fun (u41 : (Int × Int × Int × Int × (Option Addr × Nat × Nat) × Unit) × Int × Unit) =>
  newW (.cells #[(.int .u64 (0 : Int)), (.int .i64 (0 : Int)), (.int .i64 (0 : Int)), (.int .u32 (0 : Int)), (.slice none 0 0)] 28) fun (r42 : Nat) =>
  guardW ((#[(.int .u64 u41.1.1), (.int .i64 u41.1.2.1), (.int .i64 u41.1.2.2.1), (.int .u32 u41.1.2.2.2.1), (.slice u41.1.2.2.2.2.1.1 u41.1.2.2.2.2.1.2.1 u41.1.2.2.2.2.1.2.2)] : Array Value).size = 5) <|
  stAW (⟨r42, 0, none⟩ : Addr) [(.int .u64 u41.1.1), (.int .i64 u41.1.2.1), (.int .i64 u41.1.2.2.1), (.int .u32 u41.1.2.2.2.1), (.slice u41.1.2.2.2.2.1.1 u41.1.2.2.2.2.1.2.1 u41.1.2.2.2.2.1.2.2)] <|
  joinW (Bool × Unit) (fun (J43 : (Bool × Unit) → WP) =>
  drewW <|
  joinW (Bool × Unit) (fun (J45 : (Bool × Unit) → WP) =>
  splitW (u4.2.1 == (0 : Int)) (ldAW [(.int .u64), (.int .i64), (.int .i64), (.int .u32), .slc] (⟨r5, 0, none⟩ : Addr) fun (u47 : (Int × Int × Int × Int × (Option Addr × Nat × Nat) × Unit)) =>
  callW Try.prog 16 [(.int .u64 (9 : Int)), (.int .u32 (7 : Int))] (.one (.agg [(.int .u64), (.int .i64), (.int .i64), (.int .u32), .slc])) fun (u48 : (Int × Int × Int × Int × (Option Addr × Nat × Nat) × Unit)) =>
  heldW [[((⟨r5, 0, none⟩ : Addr).add 0, (.int .u64 u47.1)), ((⟨r5, 0, none⟩ : Addr).add 1, (.int .i64 u47.2.1)), ((⟨r5, 0, none⟩ : Addr).add 2, (.int .i64 u47.2.2.1)), ((⟨r5, 0, none⟩ : Addr).add 3, (.int .u32 u47.2.2.2.1)), ((⟨r5, 0, none⟩ : Addr).add 4, (.slice u47.2.2.2.2.1.1 u47.2.2.2.2.1.2.1 u47.2.2.2.2.1.2.2))]] <|
  callW Try.prog 12 [(.agg #[(.int .u64 u47.1), (.int .i64 u47.2.1), (.int .i64 u47.2.2.1), (.int .u32 u47.2.2.2.1), (.slice u47.2.2.2.2.1.1 u47.2.2.2.2.1.2.1 u47.2.2.2.2.1.2.2)]), (.agg #[(.int .u64 u48.1), (.int .i64 u48.2.1), (.int .i64 u48.2.2.1), (.int .u32 u48.2.2.2.1), (.slice u48.2.2.2.2.1.1 u48.2.2.2.2.1.2.1 u48.2.2.2.2.1.2.2)])] (.one (.one .bool)) fun (u49 : Bool) =>
  splitW u49 (splitW (u8.2.2.1 == (10 : Int)) (J45 (true, ())) <| J45 (false, ())) <| J45 (false, ())) <| J45 (false, ())) fun (y46 : Bool × Unit) =>
  joinW (Bool × Unit) (fun (J50 : (Bool × Unit) → WP) =>
  splitW y46.1 (splitW (u8.1 == (-1 : Int)) (splitW (u14.2.2.1 == (0 : Int)) (splitW (u14.1 == (0 : Int)) (J50 (true, ())) <| J50 (false, ())) <| J50 (false, ())) <| J50 (false, ())) <| J50 (false, ())) fun (y51 : Bool × Unit) =>
  joinW (Bool × Unit) (fun (J52 : (Bool × Unit) → WP) =>
  splitW y51.1 (ldW (.int .u32) ((⟨r15, 0, none⟩ : Addr).add 3) fun (u54 : Int) =>
  splitW (u54 == (3 : Int)) (splitW (u17.2.1 == (10 : Int)) (ldAW [(.int .u64), (.int .i64), (.int .i64), (.int .u32), .slc] (⟨r24, 0, none⟩ : Addr) fun (u55 : (Int × Int × Int × Int × (Option Addr × Nat × Nat) × Unit)) =>
  callW Try.prog 19 [(.agg #[(.int .u64 u55.1), (.int .i64 u55.2.1), (.int .i64 u55.2.2.1), (.int .u32 u55.2.2.2.1), (.slice u55.2.2.2.2.1.1 u55.2.2.2.2.1.2.1 u55.2.2.2.2.1.2.2)])] (.one (.one (.int .i64))) fun (u56 : Int) =>
  splitW (u56 == (2 : Int)) (J52 (true, ())) <| J52 (false, ())) <| J52 (false, ())) <| J52 (false, ())) <| J52 (false, ())) fun (y53 : Bool × Unit) =>
  joinW (Bool × Unit) (fun (J57 : (Bool × Unit) → WP) =>
  splitW y53.1 (ldAW [(.int .u64), (.int .i64), (.int .i64), (.int .u32), .slc] (⟨r25, 0, none⟩ : Addr) fun (u59 : (Int × Int × Int × Int × (Option Addr × Nat × Nat) × Unit)) =>
  callW Try.prog 19 [(.agg #[(.int .u64 u59.1), (.int .i64 u59.2.1), (.int .i64 u59.2.2.1), (.int .u32 u59.2.2.2.1), (.slice u59.2.2.2.2.1.1 u59.2.2.2.2.1.2.1 u59.2.2.2.2.1.2.2)])] (.one (.one (.int .i64))) fun (u60 : Int) =>
  splitW (u60 == (2 : Int)) (ldAW [(.int .u64), (.int .i64), (.int .i64), (.int .u32), .slc] (⟨r26, 0, none⟩ : Addr) fun (u61 : (Int × Int × Int × Int × (Option Addr × Nat × Nat) × Unit)) =>
  callW Try.prog 19 [(.agg #[(.int .u64 u61.1), (.int .i64 u61.2.1), (.int .i64 u61.2.2.1), (.int .u32 u61.2.2.2.1), (.slice u61.2.2.2.2.1.1 u61.2.2.2.2.1.2.1 u61.2.2.2.2.1.2.2)])] (.one (.one (.int .i64))) fun (u62 : Int) =>
  splitW (u62 == (2 : Int)) (ldAW [(.int .u64), (.int .i64), (.int .i64), (.int .u32), .slc] (⟨r27, 0, none⟩ : Addr) fun (u63 : (Int × Int × Int × Int × (Option Addr × Nat × Nat) × Unit)) =>
  callW Try.prog 19 [(.agg #[(.int .u64 u63.1), (.int .i64 u63.2.1), (.int .i64 u63.2.2.1), (.int .u32 u63.2.2.2.1), (.slice u63.2.2.2.2.1.1 u63.2.2.2.2.1.2.1 u63.2.2.2.2.1.2.2)])] (.one (.one (.int .i64))) fun (u64 : Int) =>
  splitW (u64 == (2 : Int)) (J57 (true, ())) <| J57 (false, ())) <| J57 (false, ())) <| J57 (false, ())) <| J57 (false, ())) fun (y58 : Bool × Unit) =>
  joinW (Bool × Unit) (fun (J65 : (Bool × Unit) → WP) =>
  splitW y58.1 (ldAW [(.int .u64), (.int .i64), (.int .i64), (.int .u32), .slc] (⟨r28, 0, none⟩ : Addr) fun (u67 : (Int × Int × Int × Int × (Option Addr × Nat × Nat) × Unit)) =>
  callW Try.prog 19 [(.agg #[(.int .u64 u67.1), (.int .i64 u67.2.1), (.int .i64 u67.2.2.1), (.int .u32 u67.2.2.2.1), (.slice u67.2.2.2.2.1.1 u67.2.2.2.2.1.2.1 u67.2.2.2.2.1.2.2)])] (.one (.one (.int .i64))) fun (u68 : Int) =>
  splitW (u68 == (2 : Int)) (ldAW [(.int .u64), (.int .i64), (.int .i64), (.int .u32), .slc] (⟨r31, 0, none⟩ : Addr) fun (u69 : (Int × Int × Int × Int × (Option Addr × Nat × Nat) × Unit)) =>
  callW Try.prog 19 [(.agg #[(.int .u64 u69.1), (.int .i64 u69.2.1), (.int .i64 u69.2.2.1), (.int .u32 u69.2.2.2.1), (.slice u69.2.2.2.2.1.1 u69.2.2.2.2.1.2.1 u69.2.2.2.2.1.2.2)])] (.one (.one (.int .i64))) fun (u70 : Int) =>
  splitW (u70 == (3 : Int)) (splitW (u38.2.1 == (11 : Int)) (J65 (true, ())) <| J65 (false, ())) <| J65 (false, ())) <| J65 (false, ())) <| J65 (false, ())) fun (y66 : Bool × Unit) =>
  joinW (Bool × Unit) (fun (J71 : (Bool × Unit) → WP) =>
  splitW y66.1 (splitW (u41.2.1 == (4 : Int)) (callW Try.prog 20 [(.int .i64 (0 : Int))] (.one (.one (.int .i64))) fun (u73 : Int) =>
  splitW (u73 == (1 : Int)) (callW Try.prog 20 [(.int .i64 (1 : Int))] (.one (.one (.int .i64))) fun (u74 : Int) =>
  splitW (u74 == (0 : Int)) (J71 (true, ())) <| J71 (false, ())) <| J71 (false, ())) <| J71 (false, ())) <| J71 (false, ())) fun (y72 : Bool × Unit) =>
  joinW (Bool × Unit) (fun (J75 : (Bool × Unit) → WP) =>
  splitW y72.1 (callW Try.prog 20 [(.int .i64 (7 : Int))] (.one (.one (.int .i64))) fun (u77 : Int) =>
  splitW (u77 == (0 : Int)) (callW Try.prog 14 [(.agg #[(.int .i64 (128 : Int)), (.int .i64 (8 : Int))])] (.one (.one (.int .i64))) fun (u78 : Int) =>
  splitW (u78 == (1 : Int)) (callW Try.prog 14 [(.agg #[(.int .i64 (128 : Int)), (.int .i64 (57 : Int))])] (.one (.one (.int .i64))) fun (u79 : Int) =>
  splitW (u79 == (2 : Int)) (J75 (true, ())) <| J75 (false, ())) <| J75 (false, ())) <| J75 (false, ())) <| J75 (false, ())) fun (y76 : Bool × Unit) =>
  splitW y76.1 (callW Try.prog 14 [(.agg #[(.int .i64 (0 : Int)), (.int .i64 (0 : Int))])] (.one (.one (.int .i64))) fun (u80 : Int) => J43 ((u80 == (0 : Int)), ())) <| J43 (false, ())) fun (y44 : Bool × Unit) => K (.bool y44.1)
theorem eq5  (K : Value → WP) : bodyW Try.prog Try.f5 an5 false [] K = S5  K := by kernel_rfl
theorem calls5  {K : Value → WP} {w : World} (h : S5  K w) : Calls Try.prog 5 #[] w (Ret K) := callsR_of_bodyW mixed Try.func5 (of_decide_eq_true (by kernel_rfl)) (by rw [eq5]; exact h)

/-- shadowbook/shadowbooklaw11.SuperCalls -/
def an6 : Ann := (.seq .nil (.seq (.seq .nil (.cond (.seq .nil .nil) .nil)) (.seq (.seq .nil (.cond (.seq .nil .nil) .nil)) (.seq .nil (.seq .nil (.seq .nil (.seq .nil (.seq .nil (.seq .nil (.join [(10, .sh (.one .bool))] [1000000] .nil .nil))))))))))
def S6 (x0_0 : Int) (x0_1 : Int) (x0_2 : Int) (x0_3 : Int) (a0_4 : Option Addr) (n0_4 c0_4 : Nat) (x1 : ByteArray) (x2 : ByteArray) (x3_0 : Int) (x3_1 : Int) (x4 : Int) (K : Value → WP) : WP := 
  newW (.cells #[(.int .u64 x0_0), (.int .i64 x0_1), (.int .i64 x0_2), (.int .u32 x0_3), (.slice a0_4 n0_4 c0_4)] 28) fun (r1 : Nat) =>
  newW (.cells #[(.int .i64 x3_0), (.int .i64 x3_1)] 24) fun (r2 : Nat) =>
  callW Try.prog 8 [] (.one (.one .bool)) fun (u3 : Bool) =>
  splitW (!u3) (K (.bool false)) <|
  ldW .slc ((⟨r1, 0, none⟩ : Addr).add 4) fun (u4 : (Option Addr × Nat × Nat)) =>
  splitW (decide (((u4.2.1 : Nat) : Int) > (40 : Int))) (K (.bool true)) <|
  splitW (decide (((x1.size : Nat) : Int) > (600 : Int))) (K (.bool true)) <|
  splitW (decide (((x2.size : Nat) : Int) > (600 : Int))) (K (.bool true)) <|
  ldAW [(.int .u64), (.int .i64), (.int .i64), (.int .u32), .slc] (⟨r1, 0, none⟩ : Addr) fun (u5 : (Int × Int × Int × Int × (Option Addr × Nat × Nat) × Unit)) =>
  callW Try.prog 9 [(.agg #[(.int .u64 u5.1), (.int .i64 u5.2.1), (.int .i64 u5.2.2.1), (.int .u32 u5.2.2.2.1), (.slice u5.2.2.2.2.1.1 u5.2.2.2.2.1.2.1 u5.2.2.2.2.1.2.2)])] (.many [(.one .str), (.one (.int .i64))]) fun (u6 : ByteArray × Int × Unit) =>
  ldAW [(.int .u64), (.int .i64), (.int .i64), (.int .u32), .slc] (⟨r1, 0, none⟩ : Addr) fun (u7 : (Int × Int × Int × Int × (Option Addr × Nat × Nat) × Unit)) =>
  callW Try.prog 21 [(.agg #[(.int .u64 u7.1), (.int .i64 u7.2.1), (.int .i64 u7.2.2.1), (.int .u32 u7.2.2.2.1), (.slice u7.2.2.2.2.1.1 u7.2.2.2.2.1.2.1 u7.2.2.2.2.1.2.2)])] (.many [(.one .str), (.one (.int .i64))]) fun (u8 : ByteArray × Int × Unit) =>
  callW Try.prog 11 [(.string x1)] (.many [(.agg [(.int .u64), (.int .i64), (.int .i64), (.int .u32), .slc]), (.one (.int .i64))]) fun (u9 : (Int × Int × Int × Int × (Option Addr × Nat × Nat) × Unit) × Int × Unit) =>
  newW (.cells #[(.int .u64 (0 : Int)), (.int .i64 (0 : Int)), (.int .i64 (0 : Int)), (.int .u32 (0 : Int)), (.slice none 0 0)] 28) fun (r10 : Nat) =>
  guardW ((#[(.int .u64 u9.1.1), (.int .i64 u9.1.2.1), (.int .i64 u9.1.2.2.1), (.int .u32 u9.1.2.2.2.1), (.slice u9.1.2.2.2.2.1.1 u9.1.2.2.2.2.1.2.1 u9.1.2.2.2.2.1.2.2)] : Array Value).size = 5) <|
  stAW (⟨r10, 0, none⟩ : Addr) [(.int .u64 u9.1.1), (.int .i64 u9.1.2.1), (.int .i64 u9.1.2.2.1), (.int .u32 u9.1.2.2.2.1), (.slice u9.1.2.2.2.2.1.1 u9.1.2.2.2.2.1.2.1 u9.1.2.2.2.2.1.2.2)] <|
  callW Try.prog 22 [(.string x1)] (.many [(.agg [(.int .u64), (.int .i64), (.int .i64), (.int .u32), .slc]), (.one (.int .i64))]) fun (u11 : (Int × Int × Int × Int × (Option Addr × Nat × Nat) × Unit) × Int × Unit) =>
  newW (.cells #[(.int .u64 (0 : Int)), (.int .i64 (0 : Int)), (.int .i64 (0 : Int)), (.int .u32 (0 : Int)), (.slice none 0 0)] 28) fun (r12 : Nat) =>
  guardW ((#[(.int .u64 u11.1.1), (.int .i64 u11.1.2.1), (.int .i64 u11.1.2.2.1), (.int .u32 u11.1.2.2.2.1), (.slice u11.1.2.2.2.2.1.1 u11.1.2.2.2.2.1.2.1 u11.1.2.2.2.2.1.2.2)] : Array Value).size = 5) <|
  stAW (⟨r12, 0, none⟩ : Addr) [(.int .u64 u11.1.1), (.int .i64 u11.1.2.1), (.int .i64 u11.1.2.2.1), (.int .u32 u11.1.2.2.2.1), (.slice u11.1.2.2.2.2.1.1 u11.1.2.2.2.2.1.2.1 u11.1.2.2.2.2.1.2.2)] <|
  callW Try.prog 10 [(.string x1), (.string x2)] (.many [(.one (.int .i64)), (.agg [(.int .u64), (.int .i64), (.int .i64), (.int .u32), .slc]), (.one (.int .i64))]) fun (u13 : Int × (Int × Int × Int × Int × (Option Addr × Nat × Nat) × Unit) × Int × Unit) =>
  newW (.cells #[(.int .u64 (0 : Int)), (.int .i64 (0 : Int)), (.int .i64 (0 : Int)), (.int .u32 (0 : Int)), (.slice none 0 0)] 28) fun (r14 : Nat) =>
  guardW ((#[(.int .u64 u13.2.1.1), (.int .i64 u13.2.1.2.1), (.int .i64 u13.2.1.2.2.1), (.int .u32 u13.2.1.2.2.2.1), (.slice u13.2.1.2.2.2.2.1.1 u13.2.1.2.2.2.2.1.2.1 u13.2.1.2.2.2.2.1.2.2)] : Array Value).size = 5) <|
  stAW (⟨r14, 0, none⟩ : Addr) [(.int .u64 u13.2.1.1), (.int .i64 u13.2.1.2.1), (.int .i64 u13.2.1.2.2.1), (.int .u32 u13.2.1.2.2.2.1), (.slice u13.2.1.2.2.2.2.1.1 u13.2.1.2.2.2.2.1.2.1 u13.2.1.2.2.2.2.1.2.2)] <|
  callW Try.prog 23 [(.string x1), (.string x2)] (.many [(.one (.int .i64)), (.agg [(.int .u64), (.int .i64), (.int .i64), (.int .u32), .slc]), (.one (.int .i64))]) fun (u15 : Int × (Int × Int × Int × Int × (Option Addr × Nat × Nat) × Unit) × Int × Unit) =>
  newW (.cells #[(.int .u64 (0 : Int)), (.int .i64 (0 : Int)), (.int .i64 (0 : Int)), (.int .u32 (0 : Int)), (.slice none 0 0)] 28) fun (r16 : Nat) =>
  guardW ((#[(.int .u64 u15.2.1.1), (.int .i64 u15.2.1.2.1), (.int .i64 u15.2.1.2.2.1), (.int .u32 u15.2.1.2.2.2.1), (.slice u15.2.1.2.2.2.2.1.1 u15.2.1.2.2.2.2.1.2.1 u15.2.1.2.2.2.2.1.2.2)] : Array Value).size = 5) <|
  stAW (⟨r16, 0, none⟩ : Addr) [(.int .u64 u15.2.1.1), (.int .i64 u15.2.1.2.1), (.int .i64 u15.2.1.2.2.1), (.int .u32 u15.2.1.2.2.2.1), (.slice u15.2.1.2.2.2.2.1.1 u15.2.1.2.2.2.2.1.2.1 u15.2.1.2.2.2.2.1.2.2)] <|
  joinW (Bool × Unit) (fun (J17 : (Bool × Unit) → WP) =>
  drewW <|
  splitW (u6.1.toList == u8.1.toList) (splitW (u6.2.1 == u8.2.1) (ldAW [(.int .u64), (.int .i64), (.int .i64), (.int .u32), .slc] (⟨r10, 0, none⟩ : Addr) fun (u19 : (Int × Int × Int × Int × (Option Addr × Nat × Nat) × Unit)) =>
  ldAW [(.int .u64), (.int .i64), (.int .i64), (.int .u32), .slc] (⟨r12, 0, none⟩ : Addr) fun (u20 : (Int × Int × Int × Int × (Option Addr × Nat × Nat) × Unit)) =>
  callW Try.prog 12 [(.agg #[(.int .u64 u19.1), (.int .i64 u19.2.1), (.int .i64 u19.2.2.1), (.int .u32 u19.2.2.2.1), (.slice u19.2.2.2.2.1.1 u19.2.2.2.2.1.2.1 u19.2.2.2.2.1.2.2)]), (.agg #[(.int .u64 u20.1), (.int .i64 u20.2.1), (.int .i64 u20.2.2.1), (.int .u32 u20.2.2.2.1), (.slice u20.2.2.2.2.1.1 u20.2.2.2.2.1.2.1 u20.2.2.2.2.1.2.2)])] (.one (.one .bool)) fun (u21 : Bool) =>
  splitW u21 (splitW (u9.2.1 == u11.2.1) (splitW (u13.1 == u15.1) (ldAW [(.int .u64), (.int .i64), (.int .i64), (.int .u32), .slc] (⟨r14, 0, none⟩ : Addr) fun (u22 : (Int × Int × Int × Int × (Option Addr × Nat × Nat) × Unit)) =>
  ldAW [(.int .u64), (.int .i64), (.int .i64), (.int .u32), .slc] (⟨r16, 0, none⟩ : Addr) fun (u23 : (Int × Int × Int × Int × (Option Addr × Nat × Nat) × Unit)) =>
  callW Try.prog 12 [(.agg #[(.int .u64 u22.1), (.int .i64 u22.2.1), (.int .i64 u22.2.2.1), (.int .u32 u22.2.2.2.1), (.slice u22.2.2.2.2.1.1 u22.2.2.2.2.1.2.1 u22.2.2.2.2.1.2.2)]), (.agg #[(.int .u64 u23.1), (.int .i64 u23.2.1), (.int .i64 u23.2.2.1), (.int .u32 u23.2.2.2.1), (.slice u23.2.2.2.2.1.1 u23.2.2.2.2.1.2.1 u23.2.2.2.2.1.2.2)])] (.one (.one .bool)) fun (u24 : Bool) =>
  splitW u24 (splitW (u13.2.2.1 == u15.2.2.1) (ldAW [(.int .u64), (.int .i64), (.int .i64), (.int .u32), .slc] (⟨r1, 0, none⟩ : Addr) fun (u25 : (Int × Int × Int × Int × (Option Addr × Nat × Nat) × Unit)) =>
  ldAW [(.int .u64), (.int .i64), (.int .i64), (.int .u32), .slc] (⟨r1, 0, none⟩ : Addr) fun (u26 : (Int × Int × Int × Int × (Option Addr × Nat × Nat) × Unit)) =>
  callW Try.prog 19 [(.agg #[(.int .u64 u25.1), (.int .i64 u25.2.1), (.int .i64 u25.2.2.1), (.int .u32 u25.2.2.2.1), (.slice u25.2.2.2.2.1.1 u25.2.2.2.2.1.2.1 u25.2.2.2.2.1.2.2)])] (.one (.one (.int .i64))) fun (u27 : Int) =>
  heldW [[((⟨r1, 0, none⟩ : Addr).add 0, (.int .u64 u26.1)), ((⟨r1, 0, none⟩ : Addr).add 1, (.int .i64 u26.2.1)), ((⟨r1, 0, none⟩ : Addr).add 2, (.int .i64 u26.2.2.1)), ((⟨r1, 0, none⟩ : Addr).add 3, (.int .u32 u26.2.2.2.1)), ((⟨r1, 0, none⟩ : Addr).add 4, (.slice u26.2.2.2.2.1.1 u26.2.2.2.2.1.2.1 u26.2.2.2.2.1.2.2))]] <|
  callW Try.prog 24 [(.agg #[(.int .u64 u26.1), (.int .i64 u26.2.1), (.int .i64 u26.2.2.1), (.int .u32 u26.2.2.2.1), (.slice u26.2.2.2.2.1.1 u26.2.2.2.2.1.2.1 u26.2.2.2.2.1.2.2)])] (.one (.one (.int .i64))) fun (u28 : Int) =>
  splitW (u27 == u28) (ldAW [(.int .i64), (.int .i64)] (⟨r2, 0, none⟩ : Addr) fun (u29 : (Int × Int × Unit)) =>
  ldAW [(.int .i64), (.int .i64)] (⟨r2, 0, none⟩ : Addr) fun (u30 : (Int × Int × Unit)) =>
  callW Try.prog 14 [(.agg #[(.int .i64 u29.1), (.int .i64 u29.2.1)])] (.one (.one (.int .i64))) fun (u31 : Int) =>
  heldW [[((⟨r2, 0, none⟩ : Addr).add 0, (.int .i64 u30.1)), ((⟨r2, 0, none⟩ : Addr).add 1, (.int .i64 u30.2.1))]] <|
  callW Try.prog 25 [(.agg #[(.int .i64 u30.1), (.int .i64 u30.2.1)])] (.one (.one (.int .i64))) fun (u32 : Int) =>
  splitW (u31 == u32) (callW Try.prog 20 [(.int .i64 x4)] (.one (.one (.int .i64))) fun (u33 : Int) =>
  callW Try.prog 26 [(.int .i64 x4)] (.one (.one (.int .i64))) fun (u34 : Int) => J17 ((u33 == u34), ())) <| J17 (false, ())) <| J17 (false, ())) <| J17 (false, ())) <| J17 (false, ())) <| J17 (false, ())) <| J17 (false, ())) <| J17 (false, ())) <| J17 (false, ())) <| J17 (false, ())) fun (y18 : Bool × Unit) => K (.bool y18.1)
theorem eq6 (x0_0 : Int) (x0_1 : Int) (x0_2 : Int) (x0_3 : Int) (a0_4 : Option Addr) (n0_4 c0_4 : Nat) (x1 : ByteArray) (x2 : ByteArray) (x3_0 : Int) (x3_1 : Int) (x4 : Int) (K : Value → WP) : bodyW Try.prog Try.f6 an6 false [(.agg #[(.int .u64 x0_0), (.int .i64 x0_1), (.int .i64 x0_2), (.int .u32 x0_3), (.slice a0_4 n0_4 c0_4)]), (.string x1), (.string x2), (.agg #[(.int .i64 x3_0), (.int .i64 x3_1)]), (.int .i64 x4)] K = S6 x0_0 x0_1 x0_2 x0_3 a0_4 n0_4 c0_4 x1 x2 x3_0 x3_1 x4 K := by kernel_rfl
theorem calls6 (x0_0 : Int) (x0_1 : Int) (x0_2 : Int) (x0_3 : Int) (a0_4 : Option Addr) (n0_4 c0_4 : Nat) (x1 : ByteArray) (x2 : ByteArray) (x3_0 : Int) (x3_1 : Int) (x4 : Int) {K : Value → WP} {w : World} (h : S6 x0_0 x0_1 x0_2 x0_3 a0_4 n0_4 c0_4 x1 x2 x3_0 x3_1 x4 K w) : Calls Try.prog 6 #[(.agg #[(.int .u64 x0_0), (.int .i64 x0_1), (.int .i64 x0_2), (.int .u32 x0_3), (.slice a0_4 n0_4 c0_4)]), (.string x1), (.string x2), (.agg #[(.int .i64 x3_0), (.int .i64 x3_1)]), (.int .i64 x4)] w (Ret K) := callsR_of_bodyW mixed Try.func6 (of_decide_eq_true (by kernel_rfl)) (by rw [eq6]; exact h)

/-- shadowbook/shadowbooklaw11.SuperTurns -/
def an7 : Ann := (.seq .nil (.seq (.seq .nil (.cond (.seq .nil .nil) .nil)) (.seq (.seq .nil (.cond (.seq .nil .nil) .nil)) (.seq .nil (.seq (.seq .nil (.cond (.seq .nil .nil) .nil)) (.seq .nil (.seq .nil (.seq (.seq .nil (.block (.loop [(8, .sh (.one (.int .i64))), (9, .sh (.one (.int .i64)))] [1, 2, 7, 1000000] (.seq (.seq .nil (.cond .nil .nil)) (.seq (.block (.seq .nil (.seq (.seq .nil (.cond (.seq .nil .nil) .nil)) (.seq .nil (.seq .nil (.seq .nil (.seq (.seq .nil (.cond .nil .nil)) (.seq .nil (.seq (.seq .nil (.cond (.seq .nil .nil) .nil)) (.seq .nil .nil)))))))))) .nil))))) (.seq .nil (.seq .nil .nil))))))))))
def S7 (x0_0 : Int) (x0_1 : Int) (x0_2 : Int) (x0_3 : Int) (a0_4 : Option Addr) (n0_4 c0_4 : Nat) (a1 : Option Addr) (n1 c1 : Nat) (K : Value → WP) : WP := 
  newW (.cells #[(.int .u64 x0_0), (.int .i64 x0_1), (.int .i64 x0_2), (.int .u32 x0_3), (.slice a0_4 n0_4 c0_4)] 28) fun (r1 : Nat) =>
  callW Try.prog 8 [] (.one (.one .bool)) fun (u2 : Bool) =>
  splitW (!u2) (K (.bool false)) <|
  ldW .slc ((⟨r1, 0, none⟩ : Addr).add 4) fun (u3 : (Option Addr × Nat × Nat)) =>
  splitW (decide (((u3.2.1 : Nat) : Int) > (40 : Int))) (K (.bool true)) <|
  splitW (decide (((n1 : Nat) : Int) > (20 : Int))) (K (.bool true)) <|
  ldW (.int .u64) (⟨r1, 0, none⟩ : Addr) fun (u4 : Int) =>
  splitW (decide (u4 > (1152921504606846976 : Int))) (K (.bool true)) <|
  ldAW [(.int .u64), (.int .i64), (.int .i64), (.int .u32), .slc] (⟨r1, 0, none⟩ : Addr) fun (u5 : (Int × Int × Int × Int × (Option Addr × Nat × Nat) × Unit)) =>
  callW Try.prog 9 [(.agg #[(.int .u64 u5.1), (.int .i64 u5.2.1), (.int .i64 u5.2.2.1), (.int .u32 u5.2.2.2.1), (.slice u5.2.2.2.2.1.1 u5.2.2.2.2.1.2.1 u5.2.2.2.2.1.2.2)])] (.many [(.one .str), (.one (.int .i64))]) fun (u6 : ByteArray × Int × Unit) =>
  splitW (u6.2.1 != (0 : Int)) (K (.bool true)) <|
  newW (.cells #[(.string u6.1), (.string (ByteArray.mk #[]))] 9) fun (r7 : Nat) =>
  loopW (Int × Int × Unit) ((0 : Int), (0 : Int), ()) fun (y9 : Int × Int × Unit) (I8 : (Int × Int × Unit) → WP) =>
  splitW (decide (y9.2.1 < ((n1 : Nat) : Int))) (drewW <|
  guardW (0 ≤ (0 : Int) ∧ (0 : Int) < ((2 : Nat) : Int)) <|
  ptrW (some (⟨r7, 0, none⟩ : Addr)) fun (p10 : Addr) =>
  ldW .str (p10.add (Int.toNat (0 : Int) * 1)) fun (u11 : ByteArray) =>
  guardW (0 ≤ (1 : Int) ∧ (1 : Int) < ((2 : Nat) : Int)) <|
  ptrW (some (⟨r7, 0, none⟩ : Addr)) fun (p12 : Addr) =>
  ldW .str (p12.add (Int.toNat (1 : Int) * 1)) fun (u13 : ByteArray) =>
  bothW (callW Try.prog 10 [(.string u11), (.string u13)] (.many [(.one (.int .i64)), (.agg [(.int .u64), (.int .i64), (.int .i64), (.int .u32), .slc]), (.one (.int .i64))]) fun (u14 : Int × (Int × Int × Int × Int × (Option Addr × Nat × Nat) × Unit) × Int × Unit) =>
  newW (.cells #[(.int .u64 (0 : Int)), (.int .i64 (0 : Int)), (.int .i64 (0 : Int)), (.int .u32 (0 : Int)), (.slice none 0 0)] 28) fun (r15 : Nat) =>
  heldW [[((p12.add (Int.toNat (1 : Int) * 1)), (.string u13))], [((p10.add (Int.toNat (0 : Int) * 1)), (.string u11))]] <|
  guardW ((#[(.int .u64 u14.2.1.1), (.int .i64 u14.2.1.2.1), (.int .i64 u14.2.1.2.2.1), (.int .u32 u14.2.1.2.2.2.1), (.slice u14.2.1.2.2.2.2.1.1 u14.2.1.2.2.2.2.1.2.1 u14.2.1.2.2.2.2.1.2.2)] : Array Value).size = 5) <|
  stAW (⟨r15, 0, none⟩ : Addr) [(.int .u64 u14.2.1.1), (.int .i64 u14.2.1.2.1), (.int .i64 u14.2.1.2.2.1), (.int .u32 u14.2.1.2.2.2.1), (.slice u14.2.1.2.2.2.2.1.1 u14.2.1.2.2.2.2.1.2.1 u14.2.1.2.2.2.2.1.2.2)] <|
  splitW (u14.2.2.1 != (0 : Int)) (K (.bool false)) <|
  splitW (u14.1 != y9.1) (K (.bool false)) <|
  ldW (.int .u64) (⟨r15, 0, none⟩ : Addr) fun (u16 : Int) =>
  ldW (.int .u64) (⟨r1, 0, none⟩ : Addr) fun (u17 : Int) =>
  splitW (u16 != u17) (K (.bool false)) <|
  ldW (.int .u32) ((⟨r15, 0, none⟩ : Addr).add 3) fun (u18 : Int) =>
  ldW (.int .u32) ((⟨r1, 0, none⟩ : Addr).add 3) fun (u19 : Int) =>
  splitW (u18 != u19) (K (.bool false)) <|
  ldAW [(.int .u64), (.int .i64), (.int .i64), (.int .u32), .slc] (⟨r1, 0, none⟩ : Addr) fun (u20 : (Int × Int × Int × Int × (Option Addr × Nat × Nat) × Unit)) =>
  newW (.cells #[(.int .u64 (0 : Int)), (.int .i64 (0 : Int)), (.int .i64 (0 : Int)), (.int .u32 (0 : Int)), (.slice none 0 0)] 28) fun (r21 : Nat) =>
  guardW ((#[(.int .u64 u20.1), (.int .i64 u20.2.1), (.int .i64 u20.2.2.1), (.int .u32 u20.2.2.2.1), (.slice u20.2.2.2.2.1.1 u20.2.2.2.2.1.2.1 u20.2.2.2.2.1.2.2)] : Array Value).size = 5) <|
  stAW (⟨r21, 0, none⟩ : Addr) [(.int .u64 u20.1), (.int .i64 u20.2.1), (.int .i64 u20.2.2.1), (.int .u32 u20.2.2.2.1), (.slice u20.2.2.2.2.1.1 u20.2.2.2.2.1.2.1 u20.2.2.2.2.1.2.2)] <|
  drewW <|
  ldW (.int .u64) (⟨r1, 0, none⟩ : Addr) fun (u22 : Int) =>
  guardW (0 ≤ y9.2.1 ∧ y9.2.1 < ((n1 : Nat) : Int)) <|
  ptrW a1 fun (p23 : Addr) =>
  ldW (.int .u32) (p23.add (Int.toNat y9.2.1 * 1)) fun (u24 : Int) =>
  stW (⟨r21, 0, none⟩ : Addr) (.int .u64 (IntKind.wrap .u64 (u22 + (1 : Int)))) <|
  heldW [[((p23.add (Int.toNat y9.2.1 * 1)), (.int .u32 u24))]] <|
  stW ((⟨r21, 0, none⟩ : Addr).add 3) (.int .u32 u24) <|
  ldAW [(.int .u64), (.int .i64), (.int .i64), (.int .u32), .slc] (⟨r21, 0, none⟩ : Addr) fun (u25 : (Int × Int × Int × Int × (Option Addr × Nat × Nat) × Unit)) =>
  callW Try.prog 9 [(.agg #[(.int .u64 u25.1), (.int .i64 u25.2.1), (.int .i64 u25.2.2.1), (.int .u32 u25.2.2.2.1), (.slice u25.2.2.2.2.1.1 u25.2.2.2.2.1.2.1 u25.2.2.2.2.1.2.2)])] (.many [(.one .str), (.one (.int .i64))]) fun (u26 : ByteArray × Int × Unit) =>
  splitW (u26.2.1 != (0 : Int)) (I8 (y9.1, (IntKind.wrap .i64 (y9.2.1 + (1 : Int))), ())) <|
  callW Try.prog 20 [(.int .i64 u14.1)] (.one (.one (.int .i64))) fun (u27 : Int) =>
  splitW (u27 != (IntKind.wrap .i64 ((1 : Int) - u14.1))) (K (.bool false)) <|
  guardW (0 ≤ u27 ∧ u27 < ((2 : Nat) : Int)) <|
  ptrW (some (⟨r7, 0, none⟩ : Addr)) fun (p28 : Addr) =>
  stW (p28.add (Int.toNat u27 * 1)) (.string u26.1) <|
  ldAW [(.int .u64), (.int .i64), (.int .i64), (.int .u32), .slc] (⟨r21, 0, none⟩ : Addr) fun (u29 : (Int × Int × Int × Int × (Option Addr × Nat × Nat) × Unit)) =>
  guardW ((#[(.int .u64 u29.1), (.int .i64 u29.2.1), (.int .i64 u29.2.2.1), (.int .u32 u29.2.2.2.1), (.slice u29.2.2.2.2.1.1 u29.2.2.2.2.1.2.1 u29.2.2.2.2.1.2.2)] : Array Value).size = 5) <|
  stAW (⟨r1, 0, none⟩ : Addr) [(.int .u64 u29.1), (.int .i64 u29.2.1), (.int .i64 u29.2.2.1), (.int .u32 u29.2.2.2.1), (.slice u29.2.2.2.2.1.1 u29.2.2.2.2.1.2.1 u29.2.2.2.2.1.2.2)] <| I8 (u27, (IntKind.wrap .i64 (y9.2.1 + (1 : Int))), ())) <|
  newW (.cells #[(.int .u64 (0 : Int)), (.int .i64 (0 : Int)), (.int .i64 (0 : Int)), (.int .u32 (0 : Int)), (.slice none 0 0)] 28) fun (r30 : Nat) =>
  heldW [[((p12.add (Int.toNat (1 : Int) * 1)), (.string u13))], [((p10.add (Int.toNat (0 : Int) * 1)), (.string u11))]] <|
  callW Try.prog 10 [(.string u11), (.string u13)] (.many [(.one (.int .i64)), (.agg [(.int .u64), (.int .i64), (.int .i64), (.int .u32), .slc]), (.one (.int .i64))]) fun (u31 : Int × (Int × Int × Int × Int × (Option Addr × Nat × Nat) × Unit) × Int × Unit) =>
  guardW ((#[(.int .u64 u31.2.1.1), (.int .i64 u31.2.1.2.1), (.int .i64 u31.2.1.2.2.1), (.int .u32 u31.2.1.2.2.2.1), (.slice u31.2.1.2.2.2.2.1.1 u31.2.1.2.2.2.2.1.2.1 u31.2.1.2.2.2.2.1.2.2)] : Array Value).size = 5) <|
  stAW (⟨r30, 0, none⟩ : Addr) [(.int .u64 u31.2.1.1), (.int .i64 u31.2.1.2.1), (.int .i64 u31.2.1.2.2.1), (.int .u32 u31.2.1.2.2.2.1), (.slice u31.2.1.2.2.2.2.1.1 u31.2.1.2.2.2.2.1.2.1 u31.2.1.2.2.2.2.1.2.2)] <|
  splitW (u31.2.2.1 != (0 : Int)) (K (.bool false)) <|
  splitW (u31.1 != y9.1) (K (.bool false)) <|
  ldW (.int .u64) (⟨r30, 0, none⟩ : Addr) fun (u32 : Int) =>
  ldW (.int .u64) (⟨r1, 0, none⟩ : Addr) fun (u33 : Int) =>
  splitW (u32 != u33) (K (.bool false)) <|
  ldW (.int .u32) ((⟨r30, 0, none⟩ : Addr).add 3) fun (u34 : Int) =>
  ldW (.int .u32) ((⟨r1, 0, none⟩ : Addr).add 3) fun (u35 : Int) =>
  splitW (u34 != u35) (K (.bool false)) <|
  ldAW [(.int .u64), (.int .i64), (.int .i64), (.int .u32), .slc] (⟨r1, 0, none⟩ : Addr) fun (u36 : (Int × Int × Int × Int × (Option Addr × Nat × Nat) × Unit)) =>
  newW (.cells #[(.int .u64 (0 : Int)), (.int .i64 (0 : Int)), (.int .i64 (0 : Int)), (.int .u32 (0 : Int)), (.slice none 0 0)] 28) fun (r37 : Nat) =>
  guardW ((#[(.int .u64 u36.1), (.int .i64 u36.2.1), (.int .i64 u36.2.2.1), (.int .u32 u36.2.2.2.1), (.slice u36.2.2.2.2.1.1 u36.2.2.2.2.1.2.1 u36.2.2.2.2.1.2.2)] : Array Value).size = 5) <|
  stAW (⟨r37, 0, none⟩ : Addr) [(.int .u64 u36.1), (.int .i64 u36.2.1), (.int .i64 u36.2.2.1), (.int .u32 u36.2.2.2.1), (.slice u36.2.2.2.2.1.1 u36.2.2.2.2.1.2.1 u36.2.2.2.2.1.2.2)] <|
  drewW <|
  ldW (.int .u64) (⟨r1, 0, none⟩ : Addr) fun (u38 : Int) =>
  guardW (0 ≤ y9.2.1 ∧ y9.2.1 < ((n1 : Nat) : Int)) <|
  ptrW a1 fun (p39 : Addr) =>
  ldW (.int .u32) (p39.add (Int.toNat y9.2.1 * 1)) fun (u40 : Int) =>
  stW (⟨r37, 0, none⟩ : Addr) (.int .u64 (IntKind.wrap .u64 (u38 + (1 : Int)))) <|
  heldW [[((p39.add (Int.toNat y9.2.1 * 1)), (.int .u32 u40))]] <|
  stW ((⟨r37, 0, none⟩ : Addr).add 3) (.int .u32 u40) <|
  ldAW [(.int .u64), (.int .i64), (.int .i64), (.int .u32), .slc] (⟨r37, 0, none⟩ : Addr) fun (u41 : (Int × Int × Int × Int × (Option Addr × Nat × Nat) × Unit)) =>
  callW Try.prog 9 [(.agg #[(.int .u64 u41.1), (.int .i64 u41.2.1), (.int .i64 u41.2.2.1), (.int .u32 u41.2.2.2.1), (.slice u41.2.2.2.2.1.1 u41.2.2.2.2.1.2.1 u41.2.2.2.2.1.2.2)])] (.many [(.one .str), (.one (.int .i64))]) fun (u42 : ByteArray × Int × Unit) =>
  splitW (u42.2.1 != (0 : Int)) (I8 (y9.1, (IntKind.wrap .i64 (y9.2.1 + (1 : Int))), ())) <|
  callW Try.prog 20 [(.int .i64 u31.1)] (.one (.one (.int .i64))) fun (u43 : Int) =>
  splitW (u43 != (IntKind.wrap .i64 ((1 : Int) - u31.1))) (K (.bool false)) <|
  guardW (0 ≤ u43 ∧ u43 < ((2 : Nat) : Int)) <|
  ptrW (some (⟨r7, 0, none⟩ : Addr)) fun (p44 : Addr) =>
  stW (p44.add (Int.toNat u43 * 1)) (.string u42.1) <|
  ldAW [(.int .u64), (.int .i64), (.int .i64), (.int .u32), .slc] (⟨r37, 0, none⟩ : Addr) fun (u45 : (Int × Int × Int × Int × (Option Addr × Nat × Nat) × Unit)) =>
  guardW ((#[(.int .u64 u45.1), (.int .i64 u45.2.1), (.int .i64 u45.2.2.1), (.int .u32 u45.2.2.2.1), (.slice u45.2.2.2.2.1.1 u45.2.2.2.2.1.2.1 u45.2.2.2.2.1.2.2)] : Array Value).size = 5) <|
  stAW (⟨r1, 0, none⟩ : Addr) [(.int .u64 u45.1), (.int .i64 u45.2.1), (.int .i64 u45.2.2.1), (.int .u32 u45.2.2.2.1), (.slice u45.2.2.2.2.1.1 u45.2.2.2.2.1.2.1 u45.2.2.2.2.1.2.2)] <| I8 (u43, (IntKind.wrap .i64 (y9.2.1 + (1 : Int))), ())) <|
  drewW <|
  guardW (0 ≤ (0 : Int) ∧ (0 : Int) < ((2 : Nat) : Int)) <|
  ptrW (some (⟨r7, 0, none⟩ : Addr)) fun (p46 : Addr) =>
  ldW .str (p46.add (Int.toNat (0 : Int) * 1)) fun (u47 : ByteArray) =>
  guardW (0 ≤ (1 : Int) ∧ (1 : Int) < ((2 : Nat) : Int)) <|
  ptrW (some (⟨r7, 0, none⟩ : Addr)) fun (p48 : Addr) =>
  ldW .str (p48.add (Int.toNat (1 : Int) * 1)) fun (u49 : ByteArray) =>
  bothW (callW Try.prog 10 [(.string u47), (.string u49)] (.many [(.one (.int .i64)), (.agg [(.int .u64), (.int .i64), (.int .i64), (.int .u32), .slc]), (.one (.int .i64))]) fun (u50 : Int × (Int × Int × Int × Int × (Option Addr × Nat × Nat) × Unit) × Int × Unit) =>
  newW (.cells #[(.int .u64 (0 : Int)), (.int .i64 (0 : Int)), (.int .i64 (0 : Int)), (.int .u32 (0 : Int)), (.slice none 0 0)] 28) fun (r51 : Nat) =>
  heldW [[((p48.add (Int.toNat (1 : Int) * 1)), (.string u49))], [((p46.add (Int.toNat (0 : Int) * 1)), (.string u47))]] <|
  guardW ((#[(.int .u64 u50.2.1.1), (.int .i64 u50.2.1.2.1), (.int .i64 u50.2.1.2.2.1), (.int .u32 u50.2.1.2.2.2.1), (.slice u50.2.1.2.2.2.2.1.1 u50.2.1.2.2.2.2.1.2.1 u50.2.1.2.2.2.2.1.2.2)] : Array Value).size = 5) <|
  stAW (⟨r51, 0, none⟩ : Addr) [(.int .u64 u50.2.1.1), (.int .i64 u50.2.1.2.1), (.int .i64 u50.2.1.2.2.1), (.int .u32 u50.2.1.2.2.2.1), (.slice u50.2.1.2.2.2.2.1.1 u50.2.1.2.2.2.2.1.2.1 u50.2.1.2.2.2.2.1.2.2)] <|
  splitW (u50.2.2.1 == (0 : Int)) (splitW (u50.1 == y9.1) (ldAW [(.int .u64), (.int .i64), (.int .i64), (.int .u32), .slc] (⟨r51, 0, none⟩ : Addr) fun (u52 : (Int × Int × Int × Int × (Option Addr × Nat × Nat) × Unit)) =>
  ldAW [(.int .u64), (.int .i64), (.int .i64), (.int .u32), .slc] (⟨r1, 0, none⟩ : Addr) fun (u53 : (Int × Int × Int × Int × (Option Addr × Nat × Nat) × Unit)) =>
  callW Try.prog 12 [(.agg #[(.int .u64 u52.1), (.int .i64 u52.2.1), (.int .i64 u52.2.2.1), (.int .u32 u52.2.2.2.1), (.slice u52.2.2.2.2.1.1 u52.2.2.2.2.1.2.1 u52.2.2.2.2.1.2.2)]), (.agg #[(.int .u64 u53.1), (.int .i64 u53.2.1), (.int .i64 u53.2.2.1), (.int .u32 u53.2.2.2.1), (.slice u53.2.2.2.2.1.1 u53.2.2.2.2.1.2.1 u53.2.2.2.2.1.2.2)])] (.one (.one .bool)) fun (u54 : Bool) => K (.bool u54)) <| K (.bool false)) <| K (.bool false)) <|
  newW (.cells #[(.int .u64 (0 : Int)), (.int .i64 (0 : Int)), (.int .i64 (0 : Int)), (.int .u32 (0 : Int)), (.slice none 0 0)] 28) fun (r55 : Nat) =>
  heldW [[((p48.add (Int.toNat (1 : Int) * 1)), (.string u49))], [((p46.add (Int.toNat (0 : Int) * 1)), (.string u47))]] <|
  callW Try.prog 10 [(.string u47), (.string u49)] (.many [(.one (.int .i64)), (.agg [(.int .u64), (.int .i64), (.int .i64), (.int .u32), .slc]), (.one (.int .i64))]) fun (u56 : Int × (Int × Int × Int × Int × (Option Addr × Nat × Nat) × Unit) × Int × Unit) =>
  guardW ((#[(.int .u64 u56.2.1.1), (.int .i64 u56.2.1.2.1), (.int .i64 u56.2.1.2.2.1), (.int .u32 u56.2.1.2.2.2.1), (.slice u56.2.1.2.2.2.2.1.1 u56.2.1.2.2.2.2.1.2.1 u56.2.1.2.2.2.2.1.2.2)] : Array Value).size = 5) <|
  stAW (⟨r55, 0, none⟩ : Addr) [(.int .u64 u56.2.1.1), (.int .i64 u56.2.1.2.1), (.int .i64 u56.2.1.2.2.1), (.int .u32 u56.2.1.2.2.2.1), (.slice u56.2.1.2.2.2.2.1.1 u56.2.1.2.2.2.2.1.2.1 u56.2.1.2.2.2.2.1.2.2)] <|
  splitW (u56.2.2.1 == (0 : Int)) (splitW (u56.1 == y9.1) (ldAW [(.int .u64), (.int .i64), (.int .i64), (.int .u32), .slc] (⟨r55, 0, none⟩ : Addr) fun (u57 : (Int × Int × Int × Int × (Option Addr × Nat × Nat) × Unit)) =>
  ldAW [(.int .u64), (.int .i64), (.int .i64), (.int .u32), .slc] (⟨r1, 0, none⟩ : Addr) fun (u58 : (Int × Int × Int × Int × (Option Addr × Nat × Nat) × Unit)) =>
  callW Try.prog 12 [(.agg #[(.int .u64 u57.1), (.int .i64 u57.2.1), (.int .i64 u57.2.2.1), (.int .u32 u57.2.2.2.1), (.slice u57.2.2.2.2.1.1 u57.2.2.2.2.1.2.1 u57.2.2.2.2.1.2.2)]), (.agg #[(.int .u64 u58.1), (.int .i64 u58.2.1), (.int .i64 u58.2.2.1), (.int .u32 u58.2.2.2.1), (.slice u58.2.2.2.2.1.1 u58.2.2.2.2.1.2.1 u58.2.2.2.2.1.2.2)])] (.one (.one .bool)) fun (u59 : Bool) => K (.bool u59)) <| K (.bool false)) <| K (.bool false)
theorem eq7 (x0_0 : Int) (x0_1 : Int) (x0_2 : Int) (x0_3 : Int) (a0_4 : Option Addr) (n0_4 c0_4 : Nat) (a1 : Option Addr) (n1 c1 : Nat) (K : Value → WP) : bodyW Try.prog Try.f7 an7 false [(.agg #[(.int .u64 x0_0), (.int .i64 x0_1), (.int .i64 x0_2), (.int .u32 x0_3), (.slice a0_4 n0_4 c0_4)]), (.slice a1 n1 c1)] K = S7 x0_0 x0_1 x0_2 x0_3 a0_4 n0_4 c0_4 a1 n1 c1 K := by kernel_rfl
theorem calls7 (x0_0 : Int) (x0_1 : Int) (x0_2 : Int) (x0_3 : Int) (a0_4 : Option Addr) (n0_4 c0_4 : Nat) (a1 : Option Addr) (n1 c1 : Nat) {K : Value → WP} {w : World} (h : S7 x0_0 x0_1 x0_2 x0_3 a0_4 n0_4 c0_4 a1 n1 c1 K w) : Calls Try.prog 7 #[(.agg #[(.int .u64 x0_0), (.int .i64 x0_1), (.int .i64 x0_2), (.int .u32 x0_3), (.slice a0_4 n0_4 c0_4)]), (.slice a1 n1 c1)] w (Ret K) := callsR_of_bodyW mixed Try.func7 (of_decide_eq_true (by kernel_rfl)) (by rw [eq7]; exact h)

/-- shadowbook/shadowbooklaw11.lives -/
def an8 : Ann := (.seq .nil (.seq .nil (.seq .nil (.seq .nil .nil))))
def S8  (K : Value → WP) : WP := 
  callW Try.prog 16 [(.int .u64 (4 : Int)), (.int .u32 (0 : Int))] (.one (.agg [(.int .u64), (.int .i64), (.int .i64), (.int .u32), .slc])) fun (u1 : (Int × Int × Int × Int × (Option Addr × Nat × Nat) × Unit)) =>
  callW Try.prog 15 [(.agg #[(.int .u64 u1.1), (.int .i64 u1.2.1), (.int .i64 u1.2.2.1), (.int .u32 u1.2.2.2.1), (.slice u1.2.2.2.2.1.1 u1.2.2.2.2.1.2.1 u1.2.2.2.2.1.2.2)])] (.one (.one .str)) fun (u2 : ByteArray) =>
  callW Try.prog 16 [(.int .u64 (5 : Int)), (.int .u32 (3 : Int))] (.one (.agg [(.int .u64), (.int .i64), (.int .i64), (.int .u32), .slc])) fun (u3 : (Int × Int × Int × Int × (Option Addr × Nat × Nat) × Unit)) =>
  callW Try.prog 15 [(.agg #[(.int .u64 u3.1), (.int .i64 u3.2.1), (.int .i64 u3.2.2.1), (.int .u32 u3.2.2.2.1), (.slice u3.2.2.2.2.1.1 u3.2.2.2.2.1.2.1 u3.2.2.2.2.1.2.2)])] (.one (.one .str)) fun (u4 : ByteArray) =>
  callW Try.prog 10 [(.string u2), (.string u4)] (.many [(.one (.int .i64)), (.agg [(.int .u64), (.int .i64), (.int .i64), (.int .u32), .slc]), (.one (.int .i64))]) fun (u5 : Int × (Int × Int × Int × Int × (Option Addr × Nat × Nat) × Unit) × Int × Unit) =>
  newW (.cells #[(.int .u64 (0 : Int)), (.int .i64 (0 : Int)), (.int .i64 (0 : Int)), (.int .u32 (0 : Int)), (.slice none 0 0)] 28) fun (r6 : Nat) =>
  guardW ((#[(.int .u64 u5.2.1.1), (.int .i64 u5.2.1.2.1), (.int .i64 u5.2.1.2.2.1), (.int .u32 u5.2.1.2.2.2.1), (.slice u5.2.1.2.2.2.2.1.1 u5.2.1.2.2.2.2.1.2.1 u5.2.1.2.2.2.2.1.2.2)] : Array Value).size = 5) <|
  stAW (⟨r6, 0, none⟩ : Addr) [(.int .u64 u5.2.1.1), (.int .i64 u5.2.1.2.1), (.int .i64 u5.2.1.2.2.1), (.int .u32 u5.2.1.2.2.2.1), (.slice u5.2.1.2.2.2.2.1.1 u5.2.1.2.2.2.2.1.2.1 u5.2.1.2.2.2.2.1.2.2)] <|
  callW Try.prog 16 [(.int .u64 (4 : Int)), (.int .u32 (0 : Int))] (.one (.agg [(.int .u64), (.int .i64), (.int .i64), (.int .u32), .slc])) fun (u7 : (Int × Int × Int × Int × (Option Addr × Nat × Nat) × Unit)) =>
  callW Try.prog 15 [(.agg #[(.int .u64 u7.1), (.int .i64 u7.2.1), (.int .i64 u7.2.2.1), (.int .u32 u7.2.2.2.1), (.slice u7.2.2.2.2.1.1 u7.2.2.2.2.1.2.1 u7.2.2.2.2.1.2.2)])] (.one (.one .str)) fun (u8 : ByteArray) =>
  callW Try.prog 17 [] (.one (.one .str)) fun (u9 : ByteArray) =>
  callW Try.prog 10 [(.string u8), (.string u9)] (.many [(.one (.int .i64)), (.agg [(.int .u64), (.int .i64), (.int .i64), (.int .u32), .slc]), (.one (.int .i64))]) fun (u10 : Int × (Int × Int × Int × Int × (Option Addr × Nat × Nat) × Unit) × Int × Unit) =>
  newW (.cells #[(.int .u64 (0 : Int)), (.int .i64 (0 : Int)), (.int .i64 (0 : Int)), (.int .u32 (0 : Int)), (.slice none 0 0)] 28) fun (r11 : Nat) =>
  guardW ((#[(.int .u64 u10.2.1.1), (.int .i64 u10.2.1.2.1), (.int .i64 u10.2.1.2.2.1), (.int .u32 u10.2.1.2.2.2.1), (.slice u10.2.1.2.2.2.2.1.1 u10.2.1.2.2.2.2.1.2.1 u10.2.1.2.2.2.2.1.2.2)] : Array Value).size = 5) <|
  stAW (⟨r11, 0, none⟩ : Addr) [(.int .u64 u10.2.1.1), (.int .i64 u10.2.1.2.1), (.int .i64 u10.2.1.2.2.1), (.int .u32 u10.2.1.2.2.2.1), (.slice u10.2.1.2.2.2.2.1.1 u10.2.1.2.2.2.2.1.2.1 u10.2.1.2.2.2.2.1.2.2)] <|
  splitW (u5.2.2.1 == (0 : Int)) (splitW (u5.1 == (1 : Int)) (splitW (u10.2.2.1 == (0 : Int)) (K (.bool (u10.1 == (0 : Int)))) <| K (.bool false)) <| K (.bool false)) <| K (.bool false)
theorem eq8  (K : Value → WP) : bodyW Try.prog Try.f8 an8 false [] K = S8  K := by kernel_rfl
theorem calls8  {K : Value → WP} {w : World} (h : S8  K w) : Calls Try.prog 8 #[] w (Ret K) := callsR_of_bodyW mixed Try.func8 (of_decide_eq_true (by kernel_rfl)) (by rw [eq8]; exact h)

/-- shadowbook/super.Put -/
def an9 : Ann := (.seq .nil (.seq (.seq .nil (.seq .nil (.cond (.seq .nil .nil) .nil))) (.seq .nil (.seq (.seq .nil (.block (.loop [(5, .sh (.one .slc)), (28, .sh (.one (.int .i64)))] [1, 26, 27, 1000000] (.seq .nil (.seq (.cond .nil .nil) (.seq (.block (.seq .nil .nil)) .nil)))))) (.seq .nil (.seq (.seq .nil (.block (.loop [(5, .sh (.one .slc)), (45, .sh (.one (.int .i64)))] [1, 43, 44, 1000000] (.seq .nil (.seq (.cond .nil .nil) (.seq (.block (.seq .nil .nil)) .nil)))))) (.seq .nil .nil)))))))
def S9 (x0_0 : Int) (x0_1 : Int) (x0_2 : Int) (x0_3 : Int) (a0_4 : Option Addr) (n0_4 c0_4 : Nat) (K : Value → WP) : WP := 
  newW (.cells #[(.int .u64 x0_0), (.int .i64 x0_1), (.int .i64 x0_2), (.int .u32 x0_3), (.slice a0_4 n0_4 c0_4)] 28) fun (r1 : Nat) =>
  ldAW [(.int .u64), (.int .i64), (.int .i64), (.int .u32), .slc] (⟨r1, 0, none⟩ : Addr) fun (u2 : (Int × Int × Int × Int × (Option Addr × Nat × Nat) × Unit)) =>
  callW Try.prog 19 [(.agg #[(.int .u64 u2.1), (.int .i64 u2.2.1), (.int .i64 u2.2.2.1), (.int .u32 u2.2.2.2.1), (.slice u2.2.2.2.2.1.1 u2.2.2.2.2.1.2.1 u2.2.2.2.2.1.2.2)])] (.one (.one (.int .i64))) fun (u3 : Int) =>
  splitW (u3 != (0 : Int)) (K (.tuple #[(.string (ByteArray.mk #[])), (.int .i64 u3)])) <|
  ldW (.int .i64) ((⟨r1, 0, none⟩ : Addr).add 1) fun (u4 : Int) =>
  ldW (.int .i64) (((⟨r1, 0, none⟩ : Addr).add 1).add 1) fun (u5 : Int) =>
  ldW (.int .u32) ((⟨r1, 0, none⟩ : Addr).add 3) fun (u6 : Int) =>
  newW (.cells #[(.int .u64 (IntKind.wrap .u64 u4)), (.int .u64 (IntKind.wrap .u64 u5)), (.int .u64 (IntKind.wrap .u64 u6))] 22) fun (r7 : Nat) =>
  loopW ((Option Addr × Nat × Nat) × Int × Unit) ((none, 0, 0), (0 : Int), ()) fun (y9 : (Option Addr × Nat × Nat) × Int × Unit) (I8 : ((Option Addr × Nat × Nat) × Int × Unit) → WP) =>
  splitW (decide (y9.2.1 < ((3 : Nat) : Int))) (guardW (0 ≤ y9.2.1 ∧ y9.2.1 < ((3 : Nat) : Int)) <|
  ptrW (some (⟨r7, 0, none⟩ : Addr)) fun (p10 : Addr) =>
  ldW (.int .u64) (p10.add (Int.toNat y9.2.1 * 1)) fun (u11 : Int) =>
  callW Try.prog 27 [(.slice y9.1.1 y9.1.2.1 y9.1.2.2), (.int .u64 u11), (.int .i64 (4 : Int))] (.one (.one .slc)) fun (u12 : (Option Addr × Nat × Nat)) => I8 ((u12.1, u12.2.1, u12.2.2), (IntKind.wrap .i64 (y9.2.1 + (1 : Int))), ())) <|
  ldW .slc ((⟨r1, 0, none⟩ : Addr).add 4) fun (u13 : (Option Addr × Nat × Nat)) =>
  callW Try.prog 27 [(.slice y9.1.1 y9.1.2.1 y9.1.2.2), (.int .u64 (IntKind.wrap .u64 ((u13.2.1 : Nat) : Int))), (.int .i64 (2 : Int))] (.one (.one .slc)) fun (u14 : (Option Addr × Nat × Nat)) =>
  ldW .slc ((⟨r1, 0, none⟩ : Addr).add 4) fun (u15 : (Option Addr × Nat × Nat)) =>
  loopW ((Option Addr × Nat × Nat) × Int × Unit) ((u14.1, u14.2.1, u14.2.2), (0 : Int), ()) fun (y17 : (Option Addr × Nat × Nat) × Int × Unit) (I16 : ((Option Addr × Nat × Nat) × Int × Unit) → WP) =>
  splitW (decide (y17.2.1 < ((u15.2.1 : Nat) : Int))) (guardW (0 ≤ y17.2.1 ∧ y17.2.1 < ((u15.2.1 : Nat) : Int)) <|
  ptrW u15.1 fun (p18 : Addr) =>
  ldW (.int .u32) (p18.add (Int.toNat y17.2.1 * 1)) fun (u19 : Int) =>
  callW Try.prog 27 [(.slice y17.1.1 y17.1.2.1 y17.1.2.2), (.int .u64 (IntKind.wrap .u64 u19)), (.int .i64 (4 : Int))] (.one (.one .slc)) fun (u20 : (Option Addr × Nat × Nat)) => I16 ((u20.1, u20.2.1, u20.2.2), (IntKind.wrap .i64 (y17.2.1 + (1 : Int))), ())) <|
  ldW (.int .i64) ((⟨r1, 0, none⟩ : Addr).add 1) fun (u21 : Int) =>
  ldW (.int .u64) (⟨r1, 0, none⟩ : Addr) fun (u22 : Int) =>
  runW Try.prog (Go.convert 35 9 (.slice y17.1.1 y17.1.2.1 y17.1.2.2)) .str fun (u23 : ByteArray) =>
  callW Try.prog 28 [(.int .i64 u21), (.agg #[(.int .u8 (1 : Int)), (.int .u64 u22), (.string u23)])] (.many [(.one .str), (.one (.int .i64))]) fun (u24 : ByteArray × Int × Unit) => K (.tuple #[(.string u24.1), (.int .i64 u24.2.1)])
theorem eq9 (x0_0 : Int) (x0_1 : Int) (x0_2 : Int) (x0_3 : Int) (a0_4 : Option Addr) (n0_4 c0_4 : Nat) (K : Value → WP) : bodyW Try.prog Try.f9 an9 false [(.agg #[(.int .u64 x0_0), (.int .i64 x0_1), (.int .i64 x0_2), (.int .u32 x0_3), (.slice a0_4 n0_4 c0_4)])] K = S9 x0_0 x0_1 x0_2 x0_3 a0_4 n0_4 c0_4 K := by kernel_rfl
theorem calls9 (x0_0 : Int) (x0_1 : Int) (x0_2 : Int) (x0_3 : Int) (a0_4 : Option Addr) (n0_4 c0_4 : Nat) {K : Value → WP} {w : World} (h : S9 x0_0 x0_1 x0_2 x0_3 a0_4 n0_4 c0_4 K w) : Calls Try.prog 9 #[(.agg #[(.int .u64 x0_0), (.int .i64 x0_1), (.int .i64 x0_2), (.int .u32 x0_3), (.slice a0_4 n0_4 c0_4)])] w (Ret K) := callsR_of_bodyW mixed Try.func9 (of_decide_eq_true (by kernel_rfl)) (by rw [eq9]; exact h)

/-- shadowbook/super.Choose -/
def an10 : Ann := (.seq .nil (.seq .nil (.seq (.seq .nil (.block (.loop [(4, .sh (.one (.int .i64))), (14, .sh (.one (.int .i64)))] [5, 13, 1000000] (.seq .nil (.seq (.cond .nil .nil) (.seq (.block (.seq .nil (.seq .nil (.seq .nil (.cond .nil .nil))))) .nil)))))) (.seq (.seq .nil (.cond (.seq .nil .nil) .nil)) (.seq .nil .nil)))))
def S10 (x0 : ByteArray) (x1 : ByteArray) (K : Value → WP) : WP := 
  newW (.cells #[(.int .u64 (0 : Int)), (.int .i64 (0 : Int)), (.int .i64 (0 : Int)), (.int .u32 (0 : Int)), (.slice none 0 0)] 28) fun (r1 : Nat) =>
  loopW (Int × Int × Unit) ((-1 : Int), (0 : Int), ()) fun (y3 : Int × Int × Unit) (I2 : (Int × Int × Unit) → WP) =>
  splitW (decide (y3.2.1 < (2 : Int))) (guardW (0 ≤ y3.2.1 ∧ y3.2.1 < ((2 : Nat) : Int) ∧ 2 = (#[(.string x0), (.string x1)] : Array Value).size) <|
  callW Try.prog 11 [((#[(.string x0), (.string x1)] : Array Value).getD (Int.toNat y3.2.1) undef)] (.many [(.agg [(.int .u64), (.int .i64), (.int .i64), (.int .u32), .slc]), (.one (.int .i64))]) fun (u4 : (Int × Int × Int × Int × (Option Addr × Nat × Nat) × Unit) × Int × Unit) =>
  newW (.cells #[(.int .u64 (0 : Int)), (.int .i64 (0 : Int)), (.int .i64 (0 : Int)), (.int .u32 (0 : Int)), (.slice none 0 0)] 28) fun (r5 : Nat) =>
  guardW ((#[(.int .u64 u4.1.1), (.int .i64 u4.1.2.1), (.int .i64 u4.1.2.2.1), (.int .u32 u4.1.2.2.2.1), (.slice u4.1.2.2.2.2.1.1 u4.1.2.2.2.2.1.2.1 u4.1.2.2.2.2.1.2.2)] : Array Value).size = 5) <|
  stAW (⟨r5, 0, none⟩ : Addr) [(.int .u64 u4.1.1), (.int .i64 u4.1.2.1), (.int .i64 u4.1.2.2.1), (.int .u32 u4.1.2.2.2.1), (.slice u4.1.2.2.2.2.1.1 u4.1.2.2.2.2.1.2.1 u4.1.2.2.2.2.1.2.2)] <|
  splitW (u4.2.1 == (0 : Int)) (splitW (decide (y3.1 < (0 : Int))) (drewW <|
  ldAW [(.int .u64), (.int .i64), (.int .i64), (.int .u32), .slc] (⟨r5, 0, none⟩ : Addr) fun (u6 : (Int × Int × Int × Int × (Option Addr × Nat × Nat) × Unit)) =>
  guardW ((#[(.int .u64 u6.1), (.int .i64 u6.2.1), (.int .i64 u6.2.2.1), (.int .u32 u6.2.2.2.1), (.slice u6.2.2.2.2.1.1 u6.2.2.2.2.1.2.1 u6.2.2.2.2.1.2.2)] : Array Value).size = 5) <|
  stAW (⟨r1, 0, none⟩ : Addr) [(.int .u64 u6.1), (.int .i64 u6.2.1), (.int .i64 u6.2.2.1), (.int .u32 u6.2.2.2.1), (.slice u6.2.2.2.2.1.1 u6.2.2.2.2.1.2.1 u6.2.2.2.2.1.2.2)] <| I2 (y3.2.1, (IntKind.wrap .i64 (y3.2.1 + (1 : Int))), ())) <|
  ldW (.int .u64) (⟨r5, 0, none⟩ : Addr) fun (u7 : Int) =>
  ldW (.int .u64) (⟨r1, 0, none⟩ : Addr) fun (u8 : Int) =>
  splitW (decide (u7 > u8)) (drewW <|
  ldAW [(.int .u64), (.int .i64), (.int .i64), (.int .u32), .slc] (⟨r5, 0, none⟩ : Addr) fun (u9 : (Int × Int × Int × Int × (Option Addr × Nat × Nat) × Unit)) =>
  guardW ((#[(.int .u64 u9.1), (.int .i64 u9.2.1), (.int .i64 u9.2.2.1), (.int .u32 u9.2.2.2.1), (.slice u9.2.2.2.2.1.1 u9.2.2.2.2.1.2.1 u9.2.2.2.2.1.2.2)] : Array Value).size = 5) <|
  stAW (⟨r1, 0, none⟩ : Addr) [(.int .u64 u9.1), (.int .i64 u9.2.1), (.int .i64 u9.2.2.1), (.int .u32 u9.2.2.2.1), (.slice u9.2.2.2.2.1.1 u9.2.2.2.2.1.2.1 u9.2.2.2.2.1.2.2)] <| I2 (y3.2.1, (IntKind.wrap .i64 (y3.2.1 + (1 : Int))), ())) <| I2 (y3.1, (IntKind.wrap .i64 (y3.2.1 + (1 : Int))), ())) <| I2 (y3.1, (IntKind.wrap .i64 (y3.2.1 + (1 : Int))), ())) <|
  splitW (decide (y3.1 < (0 : Int))) (guardW ((#[(.int .u64 (0 : Int)), (.int .i64 (0 : Int)), (.int .i64 (0 : Int)), (.int .u32 (0 : Int)), (.slice none 0 0)] : Array Value).size = 5) <|
  stAW (⟨r1, 0, none⟩ : Addr) [(.int .u64 (0 : Int)), (.int .i64 (0 : Int)), (.int .i64 (0 : Int)), (.int .u32 (0 : Int)), (.slice none 0 0)] <|
  ldAW [(.int .u64), (.int .i64), (.int .i64), (.int .u32), .slc] (⟨r1, 0, none⟩ : Addr) fun (u10 : (Int × Int × Int × Int × (Option Addr × Nat × Nat) × Unit)) => K (.tuple #[(.int .i64 (-1 : Int)), (.agg #[(.int .u64 u10.1), (.int .i64 u10.2.1), (.int .i64 u10.2.2.1), (.int .u32 u10.2.2.2.1), (.slice u10.2.2.2.2.1.1 u10.2.2.2.2.1.2.1 u10.2.2.2.2.1.2.2)]), (.int .i64 (10 : Int))])) <|
  drewW <|
  ldAW [(.int .u64), (.int .i64), (.int .i64), (.int .u32), .slc] (⟨r1, 0, none⟩ : Addr) fun (u11 : (Int × Int × Int × Int × (Option Addr × Nat × Nat) × Unit)) =>
  guardW ((#[(.int .u64 u11.1), (.int .i64 u11.2.1), (.int .i64 u11.2.2.1), (.int .u32 u11.2.2.2.1), (.slice u11.2.2.2.2.1.1 u11.2.2.2.2.1.2.1 u11.2.2.2.2.1.2.2)] : Array Value).size = 5) <|
  stAW (⟨r1, 0, none⟩ : Addr) [(.int .u64 u11.1), (.int .i64 u11.2.1), (.int .i64 u11.2.2.1), (.int .u32 u11.2.2.2.1), (.slice u11.2.2.2.2.1.1 u11.2.2.2.2.1.2.1 u11.2.2.2.2.1.2.2)] <|
  ldAW [(.int .u64), (.int .i64), (.int .i64), (.int .u32), .slc] (⟨r1, 0, none⟩ : Addr) fun (u12 : (Int × Int × Int × Int × (Option Addr × Nat × Nat) × Unit)) => K (.tuple #[(.int .i64 y3.1), (.agg #[(.int .u64 u12.1), (.int .i64 u12.2.1), (.int .i64 u12.2.2.1), (.int .u32 u12.2.2.2.1), (.slice u12.2.2.2.2.1.1 u12.2.2.2.2.1.2.1 u12.2.2.2.2.1.2.2)]), (.int .i64 (0 : Int))])
theorem eq10 (x0 : ByteArray) (x1 : ByteArray) (K : Value → WP) : bodyW Try.prog Try.f10 an10 false [(.string x0), (.string x1)] K = S10 x0 x1 K := by kernel_rfl
theorem calls10 (x0 : ByteArray) (x1 : ByteArray) {K : Value → WP} {w : World} (h : S10 x0 x1 K w) : Calls Try.prog 10 #[(.string x0), (.string x1)] w (Ret K) := callsR_of_bodyW mixed Try.func10 (of_decide_eq_true (by kernel_rfl)) (by rw [eq10]; exact h)

/-- shadowbook/super.Get -/
def an11 : Ann := (.seq .nil (.seq .nil (.seq (.seq .nil (.cond (.seq .nil .nil) .nil)) (.seq .nil (.seq .nil (.seq (.seq .nil (.block (.loop [(27, .sh (.one (.int .i64)))] [0, 2, 4, 5, 6, 1000000] (.seq .nil (.seq (.cond .nil .nil) (.seq (.block (.seq .nil .nil)) .nil)))))) (.seq .nil (.seq .nil (.seq (.seq .nil (.block (.loop [(57, .sh (.one (.int .u64)))] [0, 2, 5, 56, 1000000] (.seq .nil (.seq (.cond .nil .nil) (.seq (.block (.seq .nil (.seq (.seq .nil (.cond (.seq .nil .nil) .nil)) .nil))) .nil)))))) (.seq (.seq .nil (.seq .nil (.cond (.seq .nil .nil) .nil))) (.seq .nil .nil)))))))))))
def S11 (x0 : ByteArray) (K : Value → WP) : WP := 
  newW (.cells #[(.int .u64 (0 : Int)), (.int .i64 (0 : Int)), (.int .i64 (0 : Int)), (.int .u32 (0 : Int)), (.slice none 0 0)] 28) fun (r1 : Nat) =>
  callW Try.prog 29 [(.string x0), (.int .u8 (1 : Int))] (.many [(.agg [(.int .u8), (.int .u64), .str]), (.one (.int .i64))]) fun (u2 : (Int × Int × ByteArray × Unit) × Int × Unit) =>
  newW (.cells #[(.int .u8 (0 : Int)), (.int .u64 (0 : Int)), (.string ByteArray.empty)] 49) fun (r3 : Nat) =>
  guardW ((#[(.int .u8 u2.1.1), (.int .u64 u2.1.2.1), (.string u2.1.2.2.1)] : Array Value).size = 3) <|
  stAW (⟨r3, 0, none⟩ : Addr) [(.int .u8 u2.1.1), (.int .u64 u2.1.2.1), (.string u2.1.2.2.1)] <|
  splitW (u2.2.1 != (0 : Int)) (ldAW [(.int .u64), (.int .i64), (.int .i64), (.int .u32), .slc] (⟨r1, 0, none⟩ : Addr) fun (u4 : (Int × Int × Int × Int × (Option Addr × Nat × Nat) × Unit)) =>
  guardW ((#[(.int .u64 u4.1), (.int .i64 u4.2.1), (.int .i64 u4.2.2.1), (.int .u32 u4.2.2.2.1), (.slice u4.2.2.2.2.1.1 u4.2.2.2.2.1.2.1 u4.2.2.2.2.1.2.2)] : Array Value).size = 5) <|
  stAW (⟨r1, 0, none⟩ : Addr) [(.int .u64 u4.1), (.int .i64 u4.2.1), (.int .i64 u4.2.2.1), (.int .u32 u4.2.2.2.1), (.slice u4.2.2.2.2.1.1 u4.2.2.2.2.1.2.1 u4.2.2.2.2.1.2.2)] <|
  ldAW [(.int .u64), (.int .i64), (.int .i64), (.int .u32), .slc] (⟨r1, 0, none⟩ : Addr) fun (u5 : (Int × Int × Int × Int × (Option Addr × Nat × Nat) × Unit)) => K (.tuple #[(.agg #[(.int .u64 u5.1), (.int .i64 u5.2.1), (.int .i64 u5.2.2.1), (.int .u32 u5.2.2.2.1), (.slice u5.2.2.2.2.1.1 u5.2.2.2.2.1.2.1 u5.2.2.2.2.1.2.2)]), (.int .i64 u2.2.1)])) <|
  ldW .str ((⟨r3, 0, none⟩ : Addr).add 2) fun (u6 : ByteArray) =>
  runW Try.prog (Go.convert 9 35 (.string u6)) .slc fun (u7 : (Option Addr × Nat × Nat)) =>
  callW Try.prog 30 [(.slice u7.1 u7.2.1 u7.2.2)] (.one (.one .ptr)) fun (u8 : Option Addr) =>
  newW (.cells #[(.int .u64 (0 : Int)), (.int .u64 (0 : Int)), (.int .u64 (0 : Int))] 61) fun (r9 : Nat) =>
  loopW (Int × Unit) ((0 : Int), ()) fun (y11 : Int × Unit) (I10 : (Int × Unit) → WP) =>
  splitW (decide (y11.1 < (3 : Int))) (callW Try.prog 31 [(.pointer u8), (.int .i64 (4 : Int))] (.many [(.one (.int .u64)), (.one (.int .i64))]) fun (u12 : Int × Int × Unit) =>
  guardW (0 ≤ y11.1 ∧ y11.1 < ((3 : Nat) : Int)) <|
  stW ((⟨r9, 0, none⟩ : Addr).add (Int.toNat y11.1 * 1)) (.int .u64 u12.1) <| I10 ((IntKind.wrap .i64 (y11.1 + (1 : Int))), ())) <|
  callW Try.prog 31 [(.pointer u8), (.int .i64 (2 : Int))] (.many [(.one (.int .u64)), (.one (.int .i64))]) fun (u13 : Int × Int × Unit) =>
  ldW (.int .u64) ((⟨r3, 0, none⟩ : Addr).add 1) fun (u14 : Int) =>
  guardW (0 ≤ (0 : Int) ∧ (0 : Int) < ((3 : Nat) : Int)) <|
  ldW (.int .u64) ((⟨r9, 0, none⟩ : Addr).add (Int.toNat (0 : Int) * 1)) fun (u15 : Int) =>
  guardW (0 ≤ (1 : Int) ∧ (1 : Int) < ((3 : Nat) : Int)) <|
  ldW (.int .u64) ((⟨r9, 0, none⟩ : Addr).add (Int.toNat (1 : Int) * 1)) fun (u16 : Int) =>
  guardW (0 ≤ (2 : Int) ∧ (2 : Int) < ((3 : Nat) : Int)) <|
  ldW (.int .u64) ((⟨r9, 0, none⟩ : Addr).add (Int.toNat (2 : Int) * 1)) fun (u17 : Int) =>
  guardW ((#[(.int .u64 u14), (.int .i64 (IntKind.wrap .i64 u15)), (.int .i64 (IntKind.wrap .i64 u16)), (.int .u32 (IntKind.wrap .u32 u17)), (.slice none 0 0)] : Array Value).size = 5) <|
  stAW (⟨r1, 0, none⟩ : Addr) [(.int .u64 u14), (.int .i64 (IntKind.wrap .i64 u15)), (.int .i64 (IntKind.wrap .i64 u16)), (.int .u32 (IntKind.wrap .u32 u17)), (.slice none 0 0)] <|
  loopW (Int × Unit) ((0 : Int), ()) fun (y19 : Int × Unit) (I18 : (Int × Unit) → WP) =>
  splitW (decide (y19.1 < u13.1)) (callW Try.prog 31 [(.pointer u8), (.int .i64 (4 : Int))] (.many [(.one (.int .u64)), (.one (.int .i64))]) fun (u20 : Int × Int × Unit) =>
  splitW (u20.2.1 != (0 : Int)) (guardW ((#[(.int .u64 (0 : Int)), (.int .i64 (0 : Int)), (.int .i64 (0 : Int)), (.int .u32 (0 : Int)), (.slice none 0 0)] : Array Value).size = 5) <|
  stAW (⟨r1, 0, none⟩ : Addr) [(.int .u64 (0 : Int)), (.int .i64 (0 : Int)), (.int .i64 (0 : Int)), (.int .u32 (0 : Int)), (.slice none 0 0)] <|
  ldAW [(.int .u64), (.int .i64), (.int .i64), (.int .u32), .slc] (⟨r1, 0, none⟩ : Addr) fun (u21 : (Int × Int × Int × Int × (Option Addr × Nat × Nat) × Unit)) => K (.tuple #[(.agg #[(.int .u64 u21.1), (.int .i64 u21.2.1), (.int .i64 u21.2.2.1), (.int .u32 u21.2.2.2.1), (.slice u21.2.2.2.2.1.1 u21.2.2.2.2.1.2.1 u21.2.2.2.2.1.2.2)]), (.int .i64 (4 : Int))])) <|
  ldW .slc ((⟨r1, 0, none⟩ : Addr).add 4) fun (u22 : (Option Addr × Nat × Nat)) =>
  newW (.cells #[(.int .u32 (IntKind.wrap .u32 u20.1))] 25) fun (r23 : Nat) =>
  runW Try.prog (Builtin.append_ #[26, 26] 26 #[(.slice u22.1 u22.2.1 u22.2.2), (.slice (some (⟨r23, 0, none⟩ : Addr)) 1 1)]) .slc fun (u24 : (Option Addr × Nat × Nat)) =>
  stW ((⟨r1, 0, none⟩ : Addr).add 4) (.slice u24.1 u24.2.1 u24.2.2) <| I18 ((IntKind.wrap .u64 (y19.1 + (1 : Int))), ())) <|
  ldAW [(.int .u64), (.int .i64), (.int .i64), (.int .u32), .slc] (⟨r1, 0, none⟩ : Addr) fun (u25 : (Int × Int × Int × Int × (Option Addr × Nat × Nat) × Unit)) =>
  callW Try.prog 9 [(.agg #[(.int .u64 u25.1), (.int .i64 u25.2.1), (.int .i64 u25.2.2.1), (.int .u32 u25.2.2.2.1), (.slice u25.2.2.2.2.1.1 u25.2.2.2.2.1.2.1 u25.2.2.2.2.1.2.2)])] (.many [(.one .str), (.one (.int .i64))]) fun (u26 : ByteArray × Int × Unit) =>
  splitW (u26.2.1 != (0 : Int)) (guardW ((#[(.int .u64 (0 : Int)), (.int .i64 (0 : Int)), (.int .i64 (0 : Int)), (.int .u32 (0 : Int)), (.slice none 0 0)] : Array Value).size = 5) <|
  stAW (⟨r1, 0, none⟩ : Addr) [(.int .u64 (0 : Int)), (.int .i64 (0 : Int)), (.int .i64 (0 : Int)), (.int .u32 (0 : Int)), (.slice none 0 0)] <|
  ldAW [(.int .u64), (.int .i64), (.int .i64), (.int .u32), .slc] (⟨r1, 0, none⟩ : Addr) fun (u27 : (Int × Int × Int × Int × (Option Addr × Nat × Nat) × Unit)) => K (.tuple #[(.agg #[(.int .u64 u27.1), (.int .i64 u27.2.1), (.int .i64 u27.2.2.1), (.int .u32 u27.2.2.2.1), (.slice u27.2.2.2.2.1.1 u27.2.2.2.2.1.2.1 u27.2.2.2.2.1.2.2)]), (.int .i64 (4 : Int))])) <|
  splitW (!(u26.1.toList == x0.toList)) (guardW ((#[(.int .u64 (0 : Int)), (.int .i64 (0 : Int)), (.int .i64 (0 : Int)), (.int .u32 (0 : Int)), (.slice none 0 0)] : Array Value).size = 5) <|
  stAW (⟨r1, 0, none⟩ : Addr) [(.int .u64 (0 : Int)), (.int .i64 (0 : Int)), (.int .i64 (0 : Int)), (.int .u32 (0 : Int)), (.slice none 0 0)] <|
  ldAW [(.int .u64), (.int .i64), (.int .i64), (.int .u32), .slc] (⟨r1, 0, none⟩ : Addr) fun (u28 : (Int × Int × Int × Int × (Option Addr × Nat × Nat) × Unit)) => K (.tuple #[(.agg #[(.int .u64 u28.1), (.int .i64 u28.2.1), (.int .i64 u28.2.2.1), (.int .u32 u28.2.2.2.1), (.slice u28.2.2.2.2.1.1 u28.2.2.2.2.1.2.1 u28.2.2.2.2.1.2.2)]), (.int .i64 (4 : Int))])) <|
  ldAW [(.int .u64), (.int .i64), (.int .i64), (.int .u32), .slc] (⟨r1, 0, none⟩ : Addr) fun (u29 : (Int × Int × Int × Int × (Option Addr × Nat × Nat) × Unit)) =>
  guardW ((#[(.int .u64 u29.1), (.int .i64 u29.2.1), (.int .i64 u29.2.2.1), (.int .u32 u29.2.2.2.1), (.slice u29.2.2.2.2.1.1 u29.2.2.2.2.1.2.1 u29.2.2.2.2.1.2.2)] : Array Value).size = 5) <|
  stAW (⟨r1, 0, none⟩ : Addr) [(.int .u64 u29.1), (.int .i64 u29.2.1), (.int .i64 u29.2.2.1), (.int .u32 u29.2.2.2.1), (.slice u29.2.2.2.2.1.1 u29.2.2.2.2.1.2.1 u29.2.2.2.2.1.2.2)] <|
  ldAW [(.int .u64), (.int .i64), (.int .i64), (.int .u32), .slc] (⟨r1, 0, none⟩ : Addr) fun (u30 : (Int × Int × Int × Int × (Option Addr × Nat × Nat) × Unit)) => K (.tuple #[(.agg #[(.int .u64 u30.1), (.int .i64 u30.2.1), (.int .i64 u30.2.2.1), (.int .u32 u30.2.2.2.1), (.slice u30.2.2.2.2.1.1 u30.2.2.2.2.1.2.1 u30.2.2.2.2.1.2.2)]), (.int .i64 (0 : Int))])
theorem eq11 (x0 : ByteArray) (K : Value → WP) : bodyW Try.prog Try.f11 an11 false [(.string x0)] K = S11 x0 K := by kernel_rfl
theorem calls11 (x0 : ByteArray) {K : Value → WP} {w : World} (h : S11 x0 K w) : Calls Try.prog 11 #[(.string x0)] w (Ret K) := callsR_of_bodyW mixed Try.func11 (of_decide_eq_true (by kernel_rfl)) (by rw [eq11]; exact h)

/-- shadowbook/shadowbookref11.Same -/
def an12 : Ann := (.seq .nil (.seq (.seq .nil (.cond (.seq .nil .nil) .nil)) (.seq (.seq .nil (.block (.loop [(5, .sh (.one (.int .i64)))] [2, 3, 1000000] (.seq (.seq .nil (.cond .nil .nil)) (.seq (.block (.seq .nil (.cond (.seq .nil .nil) .nil))) .nil))))) (.seq .nil .nil))))
def S12 (x0_0 : Int) (x0_1 : Int) (x0_2 : Int) (x0_3 : Int) (a0_4 : Option Addr) (n0_4 c0_4 : Nat) (x1_0 : Int) (x1_1 : Int) (x1_2 : Int) (x1_3 : Int) (a1_4 : Option Addr) (n1_4 c1_4 : Nat) (K : Value → WP) : WP := 
  newW (.cells #[(.int .u64 x0_0), (.int .i64 x0_1), (.int .i64 x0_2), (.int .u32 x0_3), (.slice a0_4 n0_4 c0_4)] 28) fun (r1 : Nat) =>
  newW (.cells #[(.int .u64 x1_0), (.int .i64 x1_1), (.int .i64 x1_2), (.int .u32 x1_3), (.slice a1_4 n1_4 c1_4)] 28) fun (r2 : Nat) =>
  ldW (.int .u64) (⟨r1, 0, none⟩ : Addr) fun (u3 : Int) =>
  ldW (.int .u64) (⟨r2, 0, none⟩ : Addr) fun (u4 : Int) =>
  splitW (u3 != u4) (K (.bool false)) <|
  ldAW [(.int .i64), (.int .i64)] ((⟨r1, 0, none⟩ : Addr).add 1) fun (u5 : (Int × Int × Unit)) =>
  ldAW [(.int .i64), (.int .i64)] ((⟨r2, 0, none⟩ : Addr).add 1) fun (u6 : (Int × Int × Unit)) =>
  eqW Try.prog (eqS .neq 24 (.tmp 13) (.tmp 15) (.agg #[(.int .i64 u5.1), (.int .i64 u5.2.1)]) (.agg #[(.int .i64 u6.1), (.int .i64 u6.2.1)])) fun (b7 : Bool) =>
  splitW b7 (K (.bool false)) <|
  ldW (.int .u32) ((⟨r1, 0, none⟩ : Addr).add 3) fun (u8 : Int) =>
  ldW (.int .u32) ((⟨r2, 0, none⟩ : Addr).add 3) fun (u9 : Int) =>
  splitW (u8 != u9) (K (.bool false)) <|
  ldW .slc ((⟨r1, 0, none⟩ : Addr).add 4) fun (u10 : (Option Addr × Nat × Nat)) =>
  ldW .slc ((⟨r2, 0, none⟩ : Addr).add 4) fun (u11 : (Option Addr × Nat × Nat)) =>
  splitW (((u10.2.1 : Nat) : Int) != ((u11.2.1 : Nat) : Int)) (K (.bool false)) <|
  loopW (Int × Unit) ((0 : Int), ()) fun (y13 : Int × Unit) (I12 : (Int × Unit) → WP) =>
  ldW .slc ((⟨r1, 0, none⟩ : Addr).add 4) fun (u14 : (Option Addr × Nat × Nat)) =>
  splitW (decide (y13.1 < ((u14.2.1 : Nat) : Int))) (drewW <|
  ldW .slc ((⟨r1, 0, none⟩ : Addr).add 4) fun (u15 : (Option Addr × Nat × Nat)) =>
  guardW (0 ≤ y13.1 ∧ y13.1 < ((u15.2.1 : Nat) : Int)) <|
  ptrW u15.1 fun (p16 : Addr) =>
  ldW (.int .u32) (p16.add (Int.toNat y13.1 * 1)) fun (u17 : Int) =>
  ldW .slc ((⟨r2, 0, none⟩ : Addr).add 4) fun (u18 : (Option Addr × Nat × Nat)) =>
  guardW (0 ≤ y13.1 ∧ y13.1 < ((u18.2.1 : Nat) : Int)) <|
  ptrW u18.1 fun (p19 : Addr) =>
  ldW (.int .u32) (p19.add (Int.toNat y13.1 * 1)) fun (u20 : Int) =>
  splitW (u17 != u20) (K (.bool false)) <| I12 ((IntKind.wrap .i64 (y13.1 + (1 : Int))), ())) <| K (.bool true)
theorem eq12 (x0_0 : Int) (x0_1 : Int) (x0_2 : Int) (x0_3 : Int) (a0_4 : Option Addr) (n0_4 c0_4 : Nat) (x1_0 : Int) (x1_1 : Int) (x1_2 : Int) (x1_3 : Int) (a1_4 : Option Addr) (n1_4 c1_4 : Nat) (K : Value → WP) : bodyW Try.prog Try.f12 an12 false [(.agg #[(.int .u64 x0_0), (.int .i64 x0_1), (.int .i64 x0_2), (.int .u32 x0_3), (.slice a0_4 n0_4 c0_4)]), (.agg #[(.int .u64 x1_0), (.int .i64 x1_1), (.int .i64 x1_2), (.int .u32 x1_3), (.slice a1_4 n1_4 c1_4)])] K = S12 x0_0 x0_1 x0_2 x0_3 a0_4 n0_4 c0_4 x1_0 x1_1 x1_2 x1_3 a1_4 n1_4 c1_4 K := by kernel_rfl
theorem calls12 (x0_0 : Int) (x0_1 : Int) (x0_2 : Int) (x0_3 : Int) (a0_4 : Option Addr) (n0_4 c0_4 : Nat) (x1_0 : Int) (x1_1 : Int) (x1_2 : Int) (x1_3 : Int) (a1_4 : Option Addr) (n1_4 c1_4 : Nat) {K : Value → WP} {w : World} (h : S12 x0_0 x0_1 x0_2 x0_3 a0_4 n0_4 c0_4 x1_0 x1_1 x1_2 x1_3 a1_4 n1_4 c1_4 K w) : Calls Try.prog 12 #[(.agg #[(.int .u64 x0_0), (.int .i64 x0_1), (.int .i64 x0_2), (.int .u32 x0_3), (.slice a0_4 n0_4 c0_4)]), (.agg #[(.int .u64 x1_0), (.int .i64 x1_1), (.int .i64 x1_2), (.int .u32 x1_3), (.slice a1_4 n1_4 c1_4)])] w (Ret K) := callsR_of_bodyW mixed Try.func12 (of_decide_eq_true (by kernel_rfl)) (by rw [eq12]; exact h)

/-- shadowbook/shadowbookref04.Room -/
def an13 : Ann := (.seq .nil (.seq (.seq .nil (.cond (.seq .nil .nil) .nil)) (.seq .nil .nil)))
def S13 (x0 : Int) (K : Value → WP) : WP := 
  callW Try.prog 32 [(.agg #[(.int .i64 x0), (.int .i64 (8 : Int))])] (.one (.one (.int .i64))) fun (u1 : Int) =>
  splitW (u1 != (0 : Int)) (K (.int .i64 (0 : Int))) <| K (.int .i64 (IntKind.wrap .i64 (x0 - (16 : Int))))
theorem eq13 (x0 : Int) (K : Value → WP) : bodyW Try.prog Try.f13 an13 false [(.int .i64 x0)] K = S13 x0 K := by kernel_rfl
theorem calls13 (x0 : Int) {K : Value → WP} {w : World} (h : S13 x0 K w) : Calls Try.prog 13 #[(.int .i64 x0)] w (Ret K) := callsR_of_bodyW mixed Try.func13 (of_decide_eq_true (by kernel_rfl)) (by rw [eq13]; exact h)

/-- shadowbook/super.Pages -/
def an14 : Ann := (.seq .nil (.seq (.seq .nil (.cond (.seq .nil .nil) .nil)) (.seq .nil (.seq .nil .nil))))
def S14 (x0_0 : Int) (x0_1 : Int) (K : Value → WP) : WP := 
  newW (.cells #[(.int .i64 x0_0), (.int .i64 x0_1)] 24) fun (r1 : Nat) =>
  ldAW [(.int .i64), (.int .i64)] (⟨r1, 0, none⟩ : Addr) fun (u2 : (Int × Int × Unit)) =>
  callW Try.prog 33 [(.agg #[(.int .i64 u2.1), (.int .i64 u2.2.1)])] (.one (.one (.int .i64))) fun (u3 : Int) =>
  splitW (u3 != (0 : Int)) (K (.int .i64 (0 : Int))) <|
  ldW (.int .i64) (⟨r1, 0, none⟩ : Addr) fun (u4 : Int) =>
  callW Try.prog 34 [(.int .i64 u4)] (.one (.one (.int .i64))) fun (u5 : Int) =>
  ldW (.int .i64) ((⟨r1, 0, none⟩ : Addr).add 1) fun (u6 : Int) =>
  guardW (u5 ≠ 0) <| K (.int .i64 (IntKind.wrap .i64 (Int.tdiv (IntKind.wrap .i64 ((IntKind.wrap .i64 ((IntKind.wrap .i64 ((2 : Int) * u6)) + u5)) - (1 : Int))) u5)))
theorem eq14 (x0_0 : Int) (x0_1 : Int) (K : Value → WP) : bodyW Try.prog Try.f14 an14 false [(.agg #[(.int .i64 x0_0), (.int .i64 x0_1)])] K = S14 x0_0 x0_1 K := by kernel_rfl
theorem calls14 (x0_0 : Int) (x0_1 : Int) {K : Value → WP} {w : World} (h : S14 x0_0 x0_1 K w) : Calls Try.prog 14 #[(.agg #[(.int .i64 x0_0), (.int .i64 x0_1)])] w (Ret K) := callsR_of_bodyW mixed Try.func14 (of_decide_eq_true (by kernel_rfl)) (by rw [eq14]; exact h)

/-- shadowbook/shadowbooklaw11.put -/
def an15 : Ann := (.seq .nil (.seq .nil (.seq .nil .nil)))
def S15 (x0_0 : Int) (x0_1 : Int) (x0_2 : Int) (x0_3 : Int) (a0_4 : Option Addr) (n0_4 c0_4 : Nat) (K : Value → WP) : WP := 
  newW (.cells #[(.int .u64 x0_0), (.int .i64 x0_1), (.int .i64 x0_2), (.int .u32 x0_3), (.slice a0_4 n0_4 c0_4)] 28) fun (r1 : Nat) =>
  ldAW [(.int .u64), (.int .i64), (.int .i64), (.int .u32), .slc] (⟨r1, 0, none⟩ : Addr) fun (u2 : (Int × Int × Int × Int × (Option Addr × Nat × Nat) × Unit)) =>
  callW Try.prog 9 [(.agg #[(.int .u64 u2.1), (.int .i64 u2.2.1), (.int .i64 u2.2.2.1), (.int .u32 u2.2.2.2.1), (.slice u2.2.2.2.2.1.1 u2.2.2.2.2.1.2.1 u2.2.2.2.2.1.2.2)])] (.many [(.one .str), (.one (.int .i64))]) fun (u3 : ByteArray × Int × Unit) => K (.string u3.1)
theorem eq15 (x0_0 : Int) (x0_1 : Int) (x0_2 : Int) (x0_3 : Int) (a0_4 : Option Addr) (n0_4 c0_4 : Nat) (K : Value → WP) : bodyW Try.prog Try.f15 an15 false [(.agg #[(.int .u64 x0_0), (.int .i64 x0_1), (.int .i64 x0_2), (.int .u32 x0_3), (.slice a0_4 n0_4 c0_4)])] K = S15 x0_0 x0_1 x0_2 x0_3 a0_4 n0_4 c0_4 K := by kernel_rfl
theorem calls15 (x0_0 : Int) (x0_1 : Int) (x0_2 : Int) (x0_3 : Int) (a0_4 : Option Addr) (n0_4 c0_4 : Nat) {K : Value → WP} {w : World} (h : S15 x0_0 x0_1 x0_2 x0_3 a0_4 n0_4 c0_4 K w) : Calls Try.prog 15 #[(.agg #[(.int .u64 x0_0), (.int .i64 x0_1), (.int .i64 x0_2), (.int .u32 x0_3), (.slice a0_4 n0_4 c0_4)])] w (Ret K) := callsR_of_bodyW mixed Try.func15 (of_decide_eq_true (by kernel_rfl)) (by rw [eq15]; exact h)

/-- shadowbook/shadowbooklaw11.small -/
def an16 : Ann := (.seq .nil (.seq .nil .nil))
def S16 (x0 : Int) (x1 : Int) (K : Value → WP) : WP := 
  newW (.cells #[(.int .u64 (0 : Int)), (.int .i64 (0 : Int)), (.int .i64 (0 : Int)), (.int .u32 (0 : Int)), (.slice none 0 0)] 28) fun (r1 : Nat) =>
  newW (.cells #[(.int .u32 (2 : Int))] 25) fun (r2 : Nat) =>
  guardW ((#[(.int .u64 x0), (.int .i64 (128 : Int)), (.int .i64 (8 : Int)), (.int .u32 x1), (.slice (some (⟨r2, 0, none⟩ : Addr)) 1 1)] : Array Value).size = 5) <|
  stAW (⟨r1, 0, none⟩ : Addr) [(.int .u64 x0), (.int .i64 (128 : Int)), (.int .i64 (8 : Int)), (.int .u32 x1), (.slice (some (⟨r2, 0, none⟩ : Addr)) 1 1)] <|
  ldAW [(.int .u64), (.int .i64), (.int .i64), (.int .u32), .slc] (⟨r1, 0, none⟩ : Addr) fun (u3 : (Int × Int × Int × Int × (Option Addr × Nat × Nat) × Unit)) => K (.agg #[(.int .u64 u3.1), (.int .i64 u3.2.1), (.int .i64 u3.2.2.1), (.int .u32 u3.2.2.2.1), (.slice u3.2.2.2.2.1.1 u3.2.2.2.2.1.2.1 u3.2.2.2.2.1.2.2)])
theorem eq16 (x0 : Int) (x1 : Int) (K : Value → WP) : bodyW Try.prog Try.f16 an16 false [(.int .u64 x0), (.int .u32 x1)] K = S16 x0 x1 K := by kernel_rfl
theorem calls16 (x0 : Int) (x1 : Int) {K : Value → WP} {w : World} (h : S16 x0 x1 K w) : Calls Try.prog 16 #[(.int .u64 x0), (.int .u32 x1)] w (Ret K) := callsR_of_bodyW mixed Try.func16 (of_decide_eq_true (by kernel_rfl)) (by rw [eq16]; exact h)

/-- shadowbook/shadowbooklaw11.nought -/
def an17 : Ann := (.seq .nil (.seq .nil .nil))
def S17  (K : Value → WP) : WP := 
  callW Try.prog 35 [(.string (ByteArray.mk #[0])), (.int .i64 (128 : Int))] (.one (.one .str)) fun (u1 : ByteArray) => K (.string u1)
theorem eq17  (K : Value → WP) : bodyW Try.prog Try.f17 an17 false [] K = S17  K := by kernel_rfl
theorem calls17  {K : Value → WP} {w : World} (h : S17  K w) : Calls Try.prog 17 #[] w (Ret K) := callsR_of_bodyW mixed Try.func17 (of_decide_eq_true (by kernel_rfl)) (by rw [eq17]; exact h)

/-- shadowbook/shadowbookref04.Put -/
def an18 : Ann := (.seq .nil (.seq (.seq .nil (.cond (.seq .nil .nil) .nil)) (.seq (.seq .nil (.cond (.seq .nil .nil) .nil)) (.seq .nil (.seq .nil (.seq .nil (.seq .nil (.seq .nil (.seq .nil .nil)))))))))
def S18 (x0 : Int) (x1_0 : Int) (x1_1 : Int) (x1_2 : ByteArray) (K : Value → WP) : WP := 
  newW (.cells #[(.int .u8 x1_0), (.int .u64 x1_1), (.string x1_2)] 49) fun (r1 : Nat) =>
  callW Try.prog 13 [(.int .i64 x0)] (.one (.one (.int .i64))) fun (u2 : Int) =>
  splitW (u2 == (0 : Int)) (K (.tuple #[(.string (ByteArray.mk #[])), (.int .i64 (2 : Int))])) <|
  drewW <|
  ldW .str ((⟨r1, 0, none⟩ : Addr).add 2) fun (u3 : ByteArray) =>
  callW Try.prog 13 [(.int .i64 x0)] (.one (.one (.int .i64))) fun (u4 : Int) =>
  heldW [[(((⟨r1, 0, none⟩ : Addr).add 2), (.string u3))]] <|
  splitW (decide (((u3.size : Nat) : Int) > u4)) (K (.tuple #[(.string (ByteArray.mk #[])), (.int .i64 (3 : Int))])) <|
  ldW (.int .u8) (⟨r1, 0, none⟩ : Addr) fun (u5 : Int) =>
  newW (.cells #[(.int .u8 u5), (.int .u8 (0 : Int))] 5) fun (r6 : Nat) =>
  ldW .str ((⟨r1, 0, none⟩ : Addr).add 2) fun (u7 : ByteArray) =>
  callW Try.prog 36 [(.slice (some (⟨r6, 0, none⟩ : Addr)) 2 2), (.int .u64 (IntKind.wrap .u64 ((u7.size : Nat) : Int))), (.int .i64 (2 : Int))] (.one (.one .slc)) fun (u8 : (Option Addr × Nat × Nat)) =>
  ldW (.int .u64) ((⟨r1, 0, none⟩ : Addr).add 1) fun (u9 : Int) =>
  callW Try.prog 36 [(.slice u8.1 u8.2.1 u8.2.2), (.int .u64 u9), (.int .i64 (8 : Int))] (.one (.one .slc)) fun (u10 : (Option Addr × Nat × Nat)) =>
  ldW .str ((⟨r1, 0, none⟩ : Addr).add 2) fun (u11 : ByteArray) =>
  runW Try.prog (Builtin.append_ #[35, 9] 35 #[(.slice u10.1 u10.2.1 u10.2.2), (.string u11)]) .slc fun (u12 : (Option Addr × Nat × Nat)) =>
  runW Try.prog (Builtin.append_ #[35, 3] 35 #[(.slice u12.1 u12.2.1 u12.2.2), (.int .i64 (IntKind.wrap .i64 ((IntKind.wrap .i64 (x0 - (4 : Int))) - ((u12.2.1 : Nat) : Int))))]) .slc fun (u13 : (Option Addr × Nat × Nat)) =>
  callW Try.prog 37 [(.slice u13.1 u13.2.1 u13.2.2)] (.one (.one (.int .u32))) fun (u14 : Int) =>
  callW Try.prog 36 [(.slice u13.1 u13.2.1 u13.2.2), (.int .u64 (IntKind.wrap .u64 u14)), (.int .i64 (4 : Int))] (.one (.one .slc)) fun (u15 : (Option Addr × Nat × Nat)) =>
  runW Try.prog (Go.convert 35 9 (.slice u15.1 u15.2.1 u15.2.2)) .str fun (u16 : ByteArray) => K (.tuple #[(.string u16), (.int .i64 (0 : Int))])
theorem eq18 (x0 : Int) (x1_0 : Int) (x1_1 : Int) (x1_2 : ByteArray) (K : Value → WP) : bodyW Try.prog Try.f18 an18 false [(.int .i64 x0), (.agg #[(.int .u8 x1_0), (.int .u64 x1_1), (.string x1_2)])] K = S18 x0 x1_0 x1_1 x1_2 K := by kernel_rfl
theorem calls18 (x0 : Int) (x1_0 : Int) (x1_1 : Int) (x1_2 : ByteArray) {K : Value → WP} {w : World} (h : S18 x0 x1_0 x1_1 x1_2 K w) : Calls Try.prog 18 #[(.int .i64 x0), (.agg #[(.int .u8 x1_0), (.int .u64 x1_1), (.string x1_2)])] w (Ret K) := callsR_of_bodyW mixed Try.func18 (of_decide_eq_true (by kernel_rfl)) (by rw [eq18]; exact h)

/-- shadowbook/super.Check -/
def an19 : Ann := (.seq .nil (.seq .nil (.join [] [1, 3, 1000000] (.seq .nil (.cond (.seq .nil .nil) .nil)) (.seq (.seq .nil (.block (.loop [(40, .sh (.one (.int .i64)))] [1, 3, 38, 39, 1000000] (.seq .nil (.seq (.cond .nil .nil) (.seq (.block (.seq .nil (.seq .nil (.cond (.seq .nil .nil) .nil)))) .nil)))))) (.seq (.seq .nil (.cond (.seq .nil .nil) .nil)) (.seq .nil .nil))))))
def S19 (x0_0 : Int) (x0_1 : Int) (x0_2 : Int) (x0_3 : Int) (a0_4 : Option Addr) (n0_4 c0_4 : Nat) (K : Value → WP) : WP := 
  newW (.cells #[(.int .u64 x0_0), (.int .i64 x0_1), (.int .i64 x0_2), (.int .u32 x0_3), (.slice a0_4 n0_4 c0_4)] 28) fun (r1 : Nat) =>
  joinW (Unit) (fun (J2 : (Unit) → WP) =>
  drewW <|
  ldAW [(.int .i64), (.int .i64)] ((⟨r1, 0, none⟩ : Addr).add 1) fun (u4 : (Int × Int × Unit)) =>
  callW Try.prog 33 [(.agg #[(.int .i64 u4.1), (.int .i64 u4.2.1)])] (.one (.one (.int .i64))) fun (u5 : Int) =>
  splitW (u5 != (0 : Int)) (K (.int .i64 (2 : Int))) <|
  ldW (.int .u64) (⟨r1, 0, none⟩ : Addr) fun (u6 : Int) =>
  splitW (u6 == (0 : Int)) (K (.int .i64 (2 : Int))) <|
  ldW (.int .u32) ((⟨r1, 0, none⟩ : Addr).add 3) fun (u7 : Int) =>
  splitW (u7 != (0 : Int)) (ldW (.int .u32) ((⟨r1, 0, none⟩ : Addr).add 3) fun (u8 : Int) =>
  callVW Try.prog (.func (.func 38) #[] #[(.pointer (some (⟨r1, 0, none⟩ : Addr)))]) [(.int .u32 u8)] (.one (.one .bool)) fun (u9 : Bool) =>
  splitW (!u9) (K (.int .i64 (2 : Int))) <|
  ldW .slc ((⟨r1, 0, none⟩ : Addr).add 4) fun (u10 : (Option Addr × Nat × Nat)) =>
  ldAW [(.int .i64), (.int .i64)] ((⟨r1, 0, none⟩ : Addr).add 1) fun (u11 : (Int × Int × Unit)) =>
  callW Try.prog 14 [(.agg #[(.int .i64 u11.1), (.int .i64 u11.2.1)])] (.one (.one (.int .i64))) fun (u12 : Int) =>
  heldW [[(((⟨r1, 0, none⟩ : Addr).add 4), (.slice u10.1 u10.2.1 u10.2.2))]] <|
  splitW (((u10.2.1 : Nat) : Int) != u12) (K (.int .i64 (2 : Int))) <| J2 ()) <|
  ldW .slc ((⟨r1, 0, none⟩ : Addr).add 4) fun (u13 : (Option Addr × Nat × Nat)) =>
  ldAW [(.int .i64), (.int .i64)] ((⟨r1, 0, none⟩ : Addr).add 1) fun (u14 : (Int × Int × Unit)) =>
  callW Try.prog 14 [(.agg #[(.int .i64 u14.1), (.int .i64 u14.2.1)])] (.one (.one (.int .i64))) fun (u15 : Int) =>
  heldW [[(((⟨r1, 0, none⟩ : Addr).add 4), (.slice u13.1 u13.2.1 u13.2.2))]] <|
  splitW (((u13.2.1 : Nat) : Int) != u15) (K (.int .i64 (2 : Int))) <| J2 ()) fun (y3 : Unit) =>
  ldW .slc ((⟨r1, 0, none⟩ : Addr).add 4) fun (u16 : (Option Addr × Nat × Nat)) =>
  loopW (Int × Unit) ((0 : Int), ()) fun (y18 : Int × Unit) (I17 : (Int × Unit) → WP) =>
  splitW (decide (y18.1 < ((u16.2.1 : Nat) : Int))) (guardW (0 ≤ y18.1 ∧ y18.1 < ((u16.2.1 : Nat) : Int)) <|
  ptrW u16.1 fun (p19 : Addr) =>
  ldW (.int .u32) (p19.add (Int.toNat y18.1 * 1)) fun (u20 : Int) =>
  callVW Try.prog (.func (.func 38) #[] #[(.pointer (some (⟨r1, 0, none⟩ : Addr)))]) [(.int .u32 u20)] (.one (.one .bool)) fun (u21 : Bool) =>
  splitW (!u21) (K (.int .i64 (2 : Int))) <|
  ldW (.int .u32) ((⟨r1, 0, none⟩ : Addr).add 3) fun (u22 : Int) =>
  splitW (u20 == u22) (K (.int .i64 (2 : Int))) <|
  ldW .slc ((⟨r1, 0, none⟩ : Addr).add 4) fun (u23 : (Option Addr × Nat × Nat)) =>
  guardW (0 ≤ y18.1 ∧ y18.1 ≤ ((u23.2.2 : Nat) : Int)) <|
  callW Try.prog 39 [(.slice (cutAddr u23.1 0 u23.2.2 1) (Int.toNat y18.1) u23.2.2), (.int .u32 u20)] (.one (.one .bool)) fun (u24 : Bool) =>
  splitW u24 (K (.int .i64 (2 : Int))) <| I17 ((IntKind.wrap .i64 (y18.1 + (1 : Int))), ())) <|
  drewW <|
  ldW .slc ((⟨r1, 0, none⟩ : Addr).add 4) fun (u25 : (Option Addr × Nat × Nat)) =>
  ldW (.int .i64) ((⟨r1, 0, none⟩ : Addr).add 1) fun (u26 : Int) =>
  callW Try.prog 34 [(.int .i64 u26)] (.one (.one (.int .i64))) fun (u27 : Int) =>
  heldW [[(((⟨r1, 0, none⟩ : Addr).add 4), (.slice u25.1 u25.2.1 u25.2.2))]] <|
  splitW (decide ((IntKind.wrap .i64 ((14 : Int) + (IntKind.wrap .i64 ((4 : Int) * ((u25.2.1 : Nat) : Int))))) > u27)) (K (.int .i64 (3 : Int))) <| K (.int .i64 (0 : Int))
theorem eq19 (x0_0 : Int) (x0_1 : Int) (x0_2 : Int) (x0_3 : Int) (a0_4 : Option Addr) (n0_4 c0_4 : Nat) (K : Value → WP) : bodyW Try.prog Try.f19 an19 false [(.agg #[(.int .u64 x0_0), (.int .i64 x0_1), (.int .i64 x0_2), (.int .u32 x0_3), (.slice a0_4 n0_4 c0_4)])] K = S19 x0_0 x0_1 x0_2 x0_3 a0_4 n0_4 c0_4 K := by kernel_rfl
theorem calls19 (x0_0 : Int) (x0_1 : Int) (x0_2 : Int) (x0_3 : Int) (a0_4 : Option Addr) (n0_4 c0_4 : Nat) {K : Value → WP} {w : World} (h : S19 x0_0 x0_1 x0_2 x0_3 a0_4 n0_4 c0_4 K w) : Calls Try.prog 19 #[(.agg #[(.int .u64 x0_0), (.int .i64 x0_1), (.int .i64 x0_2), (.int .u32 x0_3), (.slice a0_4 n0_4 c0_4)])] w (Ret K) := callsR_of_bodyW mixed Try.func19 (of_decide_eq_true (by kernel_rfl)) (by rw [eq19]; exact h)

/-- shadowbook/super.Other -/
def an20 : Ann := (.seq .nil (.seq (.seq .nil (.cond (.seq .nil .nil) .nil)) (.seq .nil .nil)))
def S20 (x0 : Int) (K : Value → WP) : WP := 
  splitW (x0 == (0 : Int)) (K (.int .i64 (1 : Int))) <| K (.int .i64 (0 : Int))
theorem eq20 (x0 : Int) (K : Value → WP) : bodyW Try.prog Try.f20 an20 false [(.int .i64 x0)] K = S20 x0 K := by kernel_rfl
theorem calls20 (x0 : Int) {K : Value → WP} {w : World} (h : S20 x0 K w) : Calls Try.prog 20 #[(.int .i64 x0)] w (Ret K) := callsR_of_bodyW mixed Try.func20 (of_decide_eq_true (by kernel_rfl)) (by rw [eq20]; exact h)

/-- shadowbook/shadowbookref11.Put -/
def an21 : Ann := (.seq .nil (.seq .nil (.seq (.seq .nil (.cond (.seq .nil .nil) .nil)) (.seq .nil (.seq .nil (.seq .nil (.seq .nil (.seq (.seq .nil (.block (.loop [(5, .sh (.one .slc)), (6, .sh (.one (.int .i64)))] [1, 1000000] (.seq (.seq .nil (.cond .nil .nil)) (.seq (.block .nil) .nil))))) (.seq .nil .nil)))))))))
def S21 (x0_0 : Int) (x0_1 : Int) (x0_2 : Int) (x0_3 : Int) (a0_4 : Option Addr) (n0_4 c0_4 : Nat) (K : Value → WP) : WP := 
  newW (.cells #[(.int .u64 x0_0), (.int .i64 x0_1), (.int .i64 x0_2), (.int .u32 x0_3), (.slice a0_4 n0_4 c0_4)] 28) fun (r1 : Nat) =>
  ldAW [(.int .u64), (.int .i64), (.int .i64), (.int .u32), .slc] (⟨r1, 0, none⟩ : Addr) fun (u2 : (Int × Int × Int × Int × (Option Addr × Nat × Nat) × Unit)) =>
  callW Try.prog 24 [(.agg #[(.int .u64 u2.1), (.int .i64 u2.2.1), (.int .i64 u2.2.2.1), (.int .u32 u2.2.2.2.1), (.slice u2.2.2.2.2.1.1 u2.2.2.2.2.1.2.1 u2.2.2.2.2.1.2.2)])] (.one (.one (.int .i64))) fun (u3 : Int) =>
  splitW (u3 != (0 : Int)) (K (.tuple #[(.string (ByteArray.mk #[])), (.int .i64 u3)])) <|
  ldW (.int .i64) ((⟨r1, 0, none⟩ : Addr).add 1) fun (u4 : Int) =>
  callW Try.prog 36 [(.slice none 0 0), (.int .u64 (IntKind.wrap .u64 u4)), (.int .i64 (4 : Int))] (.one (.one .slc)) fun (u5 : (Option Addr × Nat × Nat)) =>
  ldW (.int .i64) (((⟨r1, 0, none⟩ : Addr).add 1).add 1) fun (u6 : Int) =>
  callW Try.prog 36 [(.slice u5.1 u5.2.1 u5.2.2), (.int .u64 (IntKind.wrap .u64 u6)), (.int .i64 (4 : Int))] (.one (.one .slc)) fun (u7 : (Option Addr × Nat × Nat)) =>
  ldW (.int .u32) ((⟨r1, 0, none⟩ : Addr).add 3) fun (u8 : Int) =>
  callW Try.prog 36 [(.slice u7.1 u7.2.1 u7.2.2), (.int .u64 (IntKind.wrap .u64 u8)), (.int .i64 (4 : Int))] (.one (.one .slc)) fun (u9 : (Option Addr × Nat × Nat)) =>
  ldW .slc ((⟨r1, 0, none⟩ : Addr).add 4) fun (u10 : (Option Addr × Nat × Nat)) =>
  callW Try.prog 36 [(.slice u9.1 u9.2.1 u9.2.2), (.int .u64 (IntKind.wrap .u64 ((u10.2.1 : Nat) : Int))), (.int .i64 (2 : Int))] (.one (.one .slc)) fun (u11 : (Option Addr × Nat × Nat)) =>
  loopW ((Option Addr × Nat × Nat) × Int × Unit) ((u11.1, u11.2.1, u11.2.2), (0 : Int), ()) fun (y13 : (Option Addr × Nat × Nat) × Int × Unit) (I12 : ((Option Addr × Nat × Nat) × Int × Unit) → WP) =>
  ldW .slc ((⟨r1, 0, none⟩ : Addr).add 4) fun (u14 : (Option Addr × Nat × Nat)) =>
  splitW (decide (y13.2.1 < ((u14.2.1 : Nat) : Int))) (ldW .slc ((⟨r1, 0, none⟩ : Addr).add 4) fun (u15 : (Option Addr × Nat × Nat)) =>
  guardW (0 ≤ y13.2.1 ∧ y13.2.1 < ((u15.2.1 : Nat) : Int)) <|
  ptrW u15.1 fun (p16 : Addr) =>
  ldW (.int .u32) (p16.add (Int.toNat y13.2.1 * 1)) fun (u17 : Int) =>
  callW Try.prog 36 [(.slice y13.1.1 y13.1.2.1 y13.1.2.2), (.int .u64 (IntKind.wrap .u64 u17)), (.int .i64 (4 : Int))] (.one (.one .slc)) fun (u18 : (Option Addr × Nat × Nat)) => I12 ((u18.1, u18.2.1, u18.2.2), (IntKind.wrap .i64 (y13.2.1 + (1 : Int))), ())) <|
  ldW (.int .i64) ((⟨r1, 0, none⟩ : Addr).add 1) fun (u19 : Int) =>
  ldW (.int .u64) (⟨r1, 0, none⟩ : Addr) fun (u20 : Int) =>
  runW Try.prog (Go.convert 35 9 (.slice y13.1.1 y13.1.2.1 y13.1.2.2)) .str fun (u21 : ByteArray) =>
  callW Try.prog 18 [(.int .i64 u19), (.agg #[(.int .u8 (1 : Int)), (.int .u64 u20), (.string u21)])] (.many [(.one .str), (.one (.int .i64))]) fun (u22 : ByteArray × Int × Unit) => K (.tuple #[(.string u22.1), (.int .i64 u22.2.1)])
theorem eq21 (x0_0 : Int) (x0_1 : Int) (x0_2 : Int) (x0_3 : Int) (a0_4 : Option Addr) (n0_4 c0_4 : Nat) (K : Value → WP) : bodyW Try.prog Try.f21 an21 false [(.agg #[(.int .u64 x0_0), (.int .i64 x0_1), (.int .i64 x0_2), (.int .u32 x0_3), (.slice a0_4 n0_4 c0_4)])] K = S21 x0_0 x0_1 x0_2 x0_3 a0_4 n0_4 c0_4 K := by kernel_rfl
theorem calls21 (x0_0 : Int) (x0_1 : Int) (x0_2 : Int) (x0_3 : Int) (a0_4 : Option Addr) (n0_4 c0_4 : Nat) {K : Value → WP} {w : World} (h : S21 x0_0 x0_1 x0_2 x0_3 a0_4 n0_4 c0_4 K w) : Calls Try.prog 21 #[(.agg #[(.int .u64 x0_0), (.int .i64 x0_1), (.int .i64 x0_2), (.int .u32 x0_3), (.slice a0_4 n0_4 c0_4)])] w (Ret K) := callsR_of_bodyW mixed Try.func21 (of_decide_eq_true (by kernel_rfl)) (by rw [eq21]; exact h)

/-- shadowbook/shadowbookref11.Get -/
def an22 : Ann := (.seq .nil (.seq .nil (.seq (.seq .nil (.cond (.seq .nil .nil) .nil)) (.seq (.seq .nil (.cond (.seq .nil .nil) .nil)) (.seq .nil (.seq .nil (.seq (.seq .nil (.block (.loop [(8, .sh (.one (.int .i64)))] [0, 2, 6, 7, 1000000] (.seq (.seq .nil (.cond .nil .nil)) (.seq (.block .nil) .nil))))) (.seq .nil (.seq (.seq .nil (.cond (.seq .nil .nil) .nil)) (.seq .nil .nil))))))))))
def S22 (x0 : ByteArray) (K : Value → WP) : WP := 
  newW (.cells #[(.int .u64 (0 : Int)), (.int .i64 (0 : Int)), (.int .i64 (0 : Int)), (.int .u32 (0 : Int)), (.slice none 0 0)] 28) fun (r1 : Nat) =>
  callW Try.prog 40 [(.string x0), (.int .u8 (1 : Int))] (.many [(.agg [(.int .u8), (.int .u64), .str]), (.one (.int .i64))]) fun (u2 : (Int × Int × ByteArray × Unit) × Int × Unit) =>
  newW (.cells #[(.int .u8 (0 : Int)), (.int .u64 (0 : Int)), (.string ByteArray.empty)] 49) fun (r3 : Nat) =>
  guardW ((#[(.int .u8 u2.1.1), (.int .u64 u2.1.2.1), (.string u2.1.2.2.1)] : Array Value).size = 3) <|
  stAW (⟨r3, 0, none⟩ : Addr) [(.int .u8 u2.1.1), (.int .u64 u2.1.2.1), (.string u2.1.2.2.1)] <|
  splitW (u2.2.1 != (0 : Int)) (guardW ((#[(.int .u64 (0 : Int)), (.int .i64 (0 : Int)), (.int .i64 (0 : Int)), (.int .u32 (0 : Int)), (.slice none 0 0)] : Array Value).size = 5) <|
  stAW (⟨r1, 0, none⟩ : Addr) [(.int .u64 (0 : Int)), (.int .i64 (0 : Int)), (.int .i64 (0 : Int)), (.int .u32 (0 : Int)), (.slice none 0 0)] <|
  ldAW [(.int .u64), (.int .i64), (.int .i64), (.int .u32), .slc] (⟨r1, 0, none⟩ : Addr) fun (u4 : (Int × Int × Int × Int × (Option Addr × Nat × Nat) × Unit)) => K (.tuple #[(.agg #[(.int .u64 u4.1), (.int .i64 u4.2.1), (.int .i64 u4.2.2.1), (.int .u32 u4.2.2.2.1), (.slice u4.2.2.2.2.1.1 u4.2.2.2.2.1.2.1 u4.2.2.2.2.1.2.2)]), (.int .i64 u2.2.1)])) <|
  ldW .str ((⟨r3, 0, none⟩ : Addr).add 2) fun (u5 : ByteArray) =>
  splitW (decide (((u5.size : Nat) : Int) < (14 : Int))) (guardW ((#[(.int .u64 (0 : Int)), (.int .i64 (0 : Int)), (.int .i64 (0 : Int)), (.int .u32 (0 : Int)), (.slice none 0 0)] : Array Value).size = 5) <|
  stAW (⟨r1, 0, none⟩ : Addr) [(.int .u64 (0 : Int)), (.int .i64 (0 : Int)), (.int .i64 (0 : Int)), (.int .u32 (0 : Int)), (.slice none 0 0)] <|
  ldAW [(.int .u64), (.int .i64), (.int .i64), (.int .u32), .slc] (⟨r1, 0, none⟩ : Addr) fun (u6 : (Int × Int × Int × Int × (Option Addr × Nat × Nat) × Unit)) => K (.tuple #[(.agg #[(.int .u64 u6.1), (.int .i64 u6.2.1), (.int .i64 u6.2.2.1), (.int .u32 u6.2.2.2.1), (.slice u6.2.2.2.2.1.1 u6.2.2.2.2.1.2.1 u6.2.2.2.2.1.2.2)]), (.int .i64 (4 : Int))])) <|
  ldW .str ((⟨r3, 0, none⟩ : Addr).add 2) fun (u7 : ByteArray) =>
  runW Try.prog (Go.convert 9 35 (.string u7)) .slc fun (u8 : (Option Addr × Nat × Nat)) =>
  drewW <|
  ldW (.int .u64) ((⟨r3, 0, none⟩ : Addr).add 1) fun (u9 : Int) =>
  guardW (0 ≤ (4 : Int) ∧ (4 : Int) ≤ ((u8.2.2 : Nat) : Int)) <|
  guardW (0 ≤ (4 : Int) ∧ (4 : Int) ≤ (8 : Int) ∧ (8 : Int) ≤ ((u8.2.2 : Nat) : Int)) <|
  guardW (0 ≤ (8 : Int) ∧ (8 : Int) ≤ (12 : Int) ∧ (12 : Int) ≤ ((u8.2.2 : Nat) : Int)) <|
  bothW (callW Try.prog 41 [(.slice (cutAddr u8.1 0 u8.2.2 1) (Int.toNat (4 : Int)) u8.2.2)] (.one (.one (.int .u64))) fun (u10 : Int) =>
  heldW [[(((⟨r3, 0, none⟩ : Addr).add 1), (.int .u64 u9))]] <|
  bothW (callW Try.prog 41 [(.slice (cutAddr u8.1 (Int.toNat (4 : Int)) u8.2.2 1) ((Int.toNat (8 : Int)) - (Int.toNat (4 : Int))) (u8.2.2 - (Int.toNat (4 : Int))))] (.one (.one (.int .u64))) fun (u11 : Int) =>
  heldW [[(((⟨r3, 0, none⟩ : Addr).add 1), (.int .u64 u9))]] <|
  bothW (callW Try.prog 41 [(.slice (cutAddr u8.1 (Int.toNat (8 : Int)) u8.2.2 1) ((Int.toNat (12 : Int)) - (Int.toNat (8 : Int))) (u8.2.2 - (Int.toNat (8 : Int))))] (.one (.one (.int .u64))) fun (u12 : Int) =>
  heldW [[(((⟨r3, 0, none⟩ : Addr).add 1), (.int .u64 u9))]] <|
  newW (.cells #[(.int .u64 (0 : Int)), (.int .i64 (0 : Int)), (.int .i64 (0 : Int)), (.int .u32 (0 : Int)), (.slice none 0 0)] 28) fun (r13 : Nat) =>
  heldW [[(((⟨r3, 0, none⟩ : Addr).add 1), (.int .u64 u9))]] <|
  guardW ((#[(.int .u64 u9), (.int .i64 (IntKind.wrap .i64 u10)), (.int .i64 (IntKind.wrap .i64 u11)), (.int .u32 (IntKind.wrap .u32 u12)), (.slice none 0 0)] : Array Value).size = 5) <|
  stAW (⟨r13, 0, none⟩ : Addr) [(.int .u64 u9), (.int .i64 (IntKind.wrap .i64 u10)), (.int .i64 (IntKind.wrap .i64 u11)), (.int .u32 (IntKind.wrap .u32 u12)), (.slice none 0 0)] <|
  loopW (Int × Unit) ((14 : Int), ()) fun (y15 : Int × Unit) (I14 : (Int × Unit) → WP) =>
  splitW (decide ((IntKind.wrap .i64 (y15.1 + (4 : Int))) ≤ ((u8.2.1 : Nat) : Int))) (drewW <|
  ldW .slc ((⟨r13, 0, none⟩ : Addr).add 4) fun (u16 : (Option Addr × Nat × Nat)) =>
  guardW (0 ≤ y15.1 ∧ y15.1 ≤ (IntKind.wrap .i64 (y15.1 + (4 : Int))) ∧ (IntKind.wrap .i64 (y15.1 + (4 : Int))) ≤ ((u8.2.2 : Nat) : Int)) <|
  callW Try.prog 41 [(.slice (cutAddr u8.1 (Int.toNat y15.1) u8.2.2 1) ((Int.toNat (IntKind.wrap .i64 (y15.1 + (4 : Int)))) - (Int.toNat y15.1)) (u8.2.2 - (Int.toNat y15.1)))] (.one (.one (.int .u64))) fun (u17 : Int) =>
  heldW [[(((⟨r13, 0, none⟩ : Addr).add 4), (.slice u16.1 u16.2.1 u16.2.2))]] <|
  newW (.cells #[(.int .u32 (IntKind.wrap .u32 u17))] 25) fun (r18 : Nat) =>
  heldW [[(((⟨r13, 0, none⟩ : Addr).add 4), (.slice u16.1 u16.2.1 u16.2.2))]] <|
  runW Try.prog (Builtin.append_ #[26, 26] 26 #[(.slice u16.1 u16.2.1 u16.2.2), (.slice (some (⟨r18, 0, none⟩ : Addr)) 1 1)]) .slc fun (u19 : (Option Addr × Nat × Nat)) =>
  stW ((⟨r13, 0, none⟩ : Addr).add 4) (.slice u19.1 u19.2.1 u19.2.2) <| I14 ((IntKind.wrap .i64 (y15.1 + (4 : Int))), ())) <|
  ldAW [(.int .u64), (.int .i64), (.int .i64), (.int .u32), .slc] (⟨r13, 0, none⟩ : Addr) fun (u20 : (Int × Int × Int × Int × (Option Addr × Nat × Nat) × Unit)) =>
  callW Try.prog 21 [(.agg #[(.int .u64 u20.1), (.int .i64 u20.2.1), (.int .i64 u20.2.2.1), (.int .u32 u20.2.2.2.1), (.slice u20.2.2.2.2.1.1 u20.2.2.2.2.1.2.1 u20.2.2.2.2.1.2.2)])] (.many [(.one .str), (.one (.int .i64))]) fun (u21 : ByteArray × Int × Unit) =>
  splitW (u21.2.1 != (0 : Int)) (guardW ((#[(.int .u64 (0 : Int)), (.int .i64 (0 : Int)), (.int .i64 (0 : Int)), (.int .u32 (0 : Int)), (.slice none 0 0)] : Array Value).size = 5) <|
  stAW (⟨r1, 0, none⟩ : Addr) [(.int .u64 (0 : Int)), (.int .i64 (0 : Int)), (.int .i64 (0 : Int)), (.int .u32 (0 : Int)), (.slice none 0 0)] <|
  ldAW [(.int .u64), (.int .i64), (.int .i64), (.int .u32), .slc] (⟨r1, 0, none⟩ : Addr) fun (u22 : (Int × Int × Int × Int × (Option Addr × Nat × Nat) × Unit)) => K (.tuple #[(.agg #[(.int .u64 u22.1), (.int .i64 u22.2.1), (.int .i64 u22.2.2.1), (.int .u32 u22.2.2.2.1), (.slice u22.2.2.2.2.1.1 u22.2.2.2.2.1.2.1 u22.2.2.2.2.1.2.2)]), (.int .i64 (4 : Int))])) <|
  splitW (!(u21.1.toList == x0.toList)) (guardW ((#[(.int .u64 (0 : Int)), (.int .i64 (0 : Int)), (.int .i64 (0 : Int)), (.int .u32 (0 : Int)), (.slice none 0 0)] : Array Value).size = 5) <|
  stAW (⟨r1, 0, none⟩ : Addr) [(.int .u64 (0 : Int)), (.int .i64 (0 : Int)), (.int .i64 (0 : Int)), (.int .u32 (0 : Int)), (.slice none 0 0)] <|
  ldAW [(.int .u64), (.int .i64), (.int .i64), (.int .u32), .slc] (⟨r1, 0, none⟩ : Addr) fun (u23 : (Int × Int × Int × Int × (Option Addr × Nat × Nat) × Unit)) => K (.tuple #[(.agg #[(.int .u64 u23.1), (.int .i64 u23.2.1), (.int .i64 u23.2.2.1), (.int .u32 u23.2.2.2.1), (.slice u23.2.2.2.2.1.1 u23.2.2.2.2.1.2.1 u23.2.2.2.2.1.2.2)]), (.int .i64 (4 : Int))])) <|
  ldAW [(.int .u64), (.int .i64), (.int .i64), (.int .u32), .slc] (⟨r13, 0, none⟩ : Addr) fun (u24 : (Int × Int × Int × Int × (Option Addr × Nat × Nat) × Unit)) =>
  guardW ((#[(.int .u64 u24.1), (.int .i64 u24.2.1), (.int .i64 u24.2.2.1), (.int .u32 u24.2.2.2.1), (.slice u24.2.2.2.2.1.1 u24.2.2.2.2.1.2.1 u24.2.2.2.2.1.2.2)] : Array Value).size = 5) <|
  stAW (⟨r1, 0, none⟩ : Addr) [(.int .u64 u24.1), (.int .i64 u24.2.1), (.int .i64 u24.2.2.1), (.int .u32 u24.2.2.2.1), (.slice u24.2.2.2.2.1.1 u24.2.2.2.2.1.2.1 u24.2.2.2.2.1.2.2)] <|
  ldAW [(.int .u64), (.int .i64), (.int .i64), (.int .u32), .slc] (⟨r1, 0, none⟩ : Addr) fun (u25 : (Int × Int × Int × Int × (Option Addr × Nat × Nat) × Unit)) => K (.tuple #[(.agg #[(.int .u64 u25.1), (.int .i64 u25.2.1), (.int .i64 u25.2.2.1), (.int .u32 u25.2.2.2.1), (.slice u25.2.2.2.2.1.1 u25.2.2.2.2.1.2.1 u25.2.2.2.2.1.2.2)]), (.int .i64 (0 : Int))])) <|
  newW (.cells #[(.int .u64 (0 : Int)), (.int .i64 (0 : Int)), (.int .i64 (0 : Int)), (.int .u32 (0 : Int)), (.slice none 0 0)] 28) fun (r26 : Nat) =>
  heldW [[(((⟨r3, 0, none⟩ : Addr).add 1), (.int .u64 u9))]] <|
  callW Try.prog 41 [(.slice (cutAddr u8.1 (Int.toNat (8 : Int)) u8.2.2 1) ((Int.toNat (12 : Int)) - (Int.toNat (8 : Int))) (u8.2.2 - (Int.toNat (8 : Int))))] (.one (.one (.int .u64))) fun (u27 : Int) =>
  heldW [[(((⟨r3, 0, none⟩ : Addr).add 1), (.int .u64 u9))]] <|
  guardW ((#[(.int .u64 u9), (.int .i64 (IntKind.wrap .i64 u10)), (.int .i64 (IntKind.wrap .i64 u11)), (.int .u32 (IntKind.wrap .u32 u27)), (.slice none 0 0)] : Array Value).size = 5) <|
  stAW (⟨r26, 0, none⟩ : Addr) [(.int .u64 u9), (.int .i64 (IntKind.wrap .i64 u10)), (.int .i64 (IntKind.wrap .i64 u11)), (.int .u32 (IntKind.wrap .u32 u27)), (.slice none 0 0)] <|
  loopW (Int × Unit) ((14 : Int), ()) fun (y29 : Int × Unit) (I28 : (Int × Unit) → WP) =>
  splitW (decide ((IntKind.wrap .i64 (y29.1 + (4 : Int))) ≤ ((u8.2.1 : Nat) : Int))) (drewW <|
  ldW .slc ((⟨r26, 0, none⟩ : Addr).add 4) fun (u30 : (Option Addr × Nat × Nat)) =>
  guardW (0 ≤ y29.1 ∧ y29.1 ≤ (IntKind.wrap .i64 (y29.1 + (4 : Int))) ∧ (IntKind.wrap .i64 (y29.1 + (4 : Int))) ≤ ((u8.2.2 : Nat) : Int)) <|
  callW Try.prog 41 [(.slice (cutAddr u8.1 (Int.toNat y29.1) u8.2.2 1) ((Int.toNat (IntKind.wrap .i64 (y29.1 + (4 : Int)))) - (Int.toNat y29.1)) (u8.2.2 - (Int.toNat y29.1)))] (.one (.one (.int .u64))) fun (u31 : Int) =>
  heldW [[(((⟨r26, 0, none⟩ : Addr).add 4), (.slice u30.1 u30.2.1 u30.2.2))]] <|
  newW (.cells #[(.int .u32 (IntKind.wrap .u32 u31))] 25) fun (r32 : Nat) =>
  heldW [[(((⟨r26, 0, none⟩ : Addr).add 4), (.slice u30.1 u30.2.1 u30.2.2))]] <|
  runW Try.prog (Builtin.append_ #[26, 26] 26 #[(.slice u30.1 u30.2.1 u30.2.2), (.slice (some (⟨r32, 0, none⟩ : Addr)) 1 1)]) .slc fun (u33 : (Option Addr × Nat × Nat)) =>
  stW ((⟨r26, 0, none⟩ : Addr).add 4) (.slice u33.1 u33.2.1 u33.2.2) <| I28 ((IntKind.wrap .i64 (y29.1 + (4 : Int))), ())) <|
  ldAW [(.int .u64), (.int .i64), (.int .i64), (.int .u32), .slc] (⟨r26, 0, none⟩ : Addr) fun (u34 : (Int × Int × Int × Int × (Option Addr × Nat × Nat) × Unit)) =>
  callW Try.prog 21 [(.agg #[(.int .u64 u34.1), (.int .i64 u34.2.1), (.int .i64 u34.2.2.1), (.int .u32 u34.2.2.2.1), (.slice u34.2.2.2.2.1.1 u34.2.2.2.2.1.2.1 u34.2.2.2.2.1.2.2)])] (.many [(.one .str), (.one (.int .i64))]) fun (u35 : ByteArray × Int × Unit) =>
  splitW (u35.2.1 != (0 : Int)) (guardW ((#[(.int .u64 (0 : Int)), (.int .i64 (0 : Int)), (.int .i64 (0 : Int)), (.int .u32 (0 : Int)), (.slice none 0 0)] : Array Value).size = 5) <|
  stAW (⟨r1, 0, none⟩ : Addr) [(.int .u64 (0 : Int)), (.int .i64 (0 : Int)), (.int .i64 (0 : Int)), (.int .u32 (0 : Int)), (.slice none 0 0)] <|
  ldAW [(.int .u64), (.int .i64), (.int .i64), (.int .u32), .slc] (⟨r1, 0, none⟩ : Addr) fun (u36 : (Int × Int × Int × Int × (Option Addr × Nat × Nat) × Unit)) => K (.tuple #[(.agg #[(.int .u64 u36.1), (.int .i64 u36.2.1), (.int .i64 u36.2.2.1), (.int .u32 u36.2.2.2.1), (.slice u36.2.2.2.2.1.1 u36.2.2.2.2.1.2.1 u36.2.2.2.2.1.2.2)]), (.int .i64 (4 : Int))])) <|
  splitW (!(u35.1.toList == x0.toList)) (guardW ((#[(.int .u64 (0 : Int)), (.int .i64 (0 : Int)), (.int .i64 (0 : Int)), (.int .u32 (0 : Int)), (.slice none 0 0)] : Array Value).size = 5) <|
  stAW (⟨r1, 0, none⟩ : Addr) [(.int .u64 (0 : Int)), (.int .i64 (0 : Int)), (.int .i64 (0 : Int)), (.int .u32 (0 : Int)), (.slice none 0 0)] <|
  ldAW [(.int .u64), (.int .i64), (.int .i64), (.int .u32), .slc] (⟨r1, 0, none⟩ : Addr) fun (u37 : (Int × Int × Int × Int × (Option Addr × Nat × Nat) × Unit)) => K (.tuple #[(.agg #[(.int .u64 u37.1), (.int .i64 u37.2.1), (.int .i64 u37.2.2.1), (.int .u32 u37.2.2.2.1), (.slice u37.2.2.2.2.1.1 u37.2.2.2.2.1.2.1 u37.2.2.2.2.1.2.2)]), (.int .i64 (4 : Int))])) <|
  ldAW [(.int .u64), (.int .i64), (.int .i64), (.int .u32), .slc] (⟨r26, 0, none⟩ : Addr) fun (u38 : (Int × Int × Int × Int × (Option Addr × Nat × Nat) × Unit)) =>
  guardW ((#[(.int .u64 u38.1), (.int .i64 u38.2.1), (.int .i64 u38.2.2.1), (.int .u32 u38.2.2.2.1), (.slice u38.2.2.2.2.1.1 u38.2.2.2.2.1.2.1 u38.2.2.2.2.1.2.2)] : Array Value).size = 5) <|
  stAW (⟨r1, 0, none⟩ : Addr) [(.int .u64 u38.1), (.int .i64 u38.2.1), (.int .i64 u38.2.2.1), (.int .u32 u38.2.2.2.1), (.slice u38.2.2.2.2.1.1 u38.2.2.2.2.1.2.1 u38.2.2.2.2.1.2.2)] <|
  ldAW [(.int .u64), (.int .i64), (.int .i64), (.int .u32), .slc] (⟨r1, 0, none⟩ : Addr) fun (u39 : (Int × Int × Int × Int × (Option Addr × Nat × Nat) × Unit)) => K (.tuple #[(.agg #[(.int .u64 u39.1), (.int .i64 u39.2.1), (.int .i64 u39.2.2.1), (.int .u32 u39.2.2.2.1), (.slice u39.2.2.2.2.1.1 u39.2.2.2.2.1.2.1 u39.2.2.2.2.1.2.2)]), (.int .i64 (0 : Int))])) <|
  newW (.cells #[(.int .u64 (0 : Int)), (.int .i64 (0 : Int)), (.int .i64 (0 : Int)), (.int .u32 (0 : Int)), (.slice none 0 0)] 28) fun (r40 : Nat) =>
  heldW [[(((⟨r3, 0, none⟩ : Addr).add 1), (.int .u64 u9))]] <|
  callW Try.prog 41 [(.slice (cutAddr u8.1 (Int.toNat (4 : Int)) u8.2.2 1) ((Int.toNat (8 : Int)) - (Int.toNat (4 : Int))) (u8.2.2 - (Int.toNat (4 : Int))))] (.one (.one (.int .u64))) fun (u41 : Int) =>
  heldW [[(((⟨r3, 0, none⟩ : Addr).add 1), (.int .u64 u9))]] <|
  callW Try.prog 41 [(.slice (cutAddr u8.1 (Int.toNat (8 : Int)) u8.2.2 1) ((Int.toNat (12 : Int)) - (Int.toNat (8 : Int))) (u8.2.2 - (Int.toNat (8 : Int))))] (.one (.one (.int .u64))) fun (u42 : Int) =>
  heldW [[(((⟨r3, 0, none⟩ : Addr).add 1), (.int .u64 u9))]] <|
  guardW ((#[(.int .u64 u9), (.int .i64 (IntKind.wrap .i64 u10)), (.int .i64 (IntKind.wrap .i64 u41)), (.int .u32 (IntKind.wrap .u32 u42)), (.slice none 0 0)] : Array Value).size = 5) <|
  stAW (⟨r40, 0, none⟩ : Addr) [(.int .u64 u9), (.int .i64 (IntKind.wrap .i64 u10)), (.int .i64 (IntKind.wrap .i64 u41)), (.int .u32 (IntKind.wrap .u32 u42)), (.slice none 0 0)] <|
  loopW (Int × Unit) ((14 : Int), ()) fun (y44 : Int × Unit) (I43 : (Int × Unit) → WP) =>
  splitW (decide ((IntKind.wrap .i64 (y44.1 + (4 : Int))) ≤ ((u8.2.1 : Nat) : Int))) (drewW <|
  ldW .slc ((⟨r40, 0, none⟩ : Addr).add 4) fun (u45 : (Option Addr × Nat × Nat)) =>
  guardW (0 ≤ y44.1 ∧ y44.1 ≤ (IntKind.wrap .i64 (y44.1 + (4 : Int))) ∧ (IntKind.wrap .i64 (y44.1 + (4 : Int))) ≤ ((u8.2.2 : Nat) : Int)) <|
  callW Try.prog 41 [(.slice (cutAddr u8.1 (Int.toNat y44.1) u8.2.2 1) ((Int.toNat (IntKind.wrap .i64 (y44.1 + (4 : Int)))) - (Int.toNat y44.1)) (u8.2.2 - (Int.toNat y44.1)))] (.one (.one (.int .u64))) fun (u46 : Int) =>
  heldW [[(((⟨r40, 0, none⟩ : Addr).add 4), (.slice u45.1 u45.2.1 u45.2.2))]] <|
  newW (.cells #[(.int .u32 (IntKind.wrap .u32 u46))] 25) fun (r47 : Nat) =>
  heldW [[(((⟨r40, 0, none⟩ : Addr).add 4), (.slice u45.1 u45.2.1 u45.2.2))]] <|
  runW Try.prog (Builtin.append_ #[26, 26] 26 #[(.slice u45.1 u45.2.1 u45.2.2), (.slice (some (⟨r47, 0, none⟩ : Addr)) 1 1)]) .slc fun (u48 : (Option Addr × Nat × Nat)) =>
  stW ((⟨r40, 0, none⟩ : Addr).add 4) (.slice u48.1 u48.2.1 u48.2.2) <| I43 ((IntKind.wrap .i64 (y44.1 + (4 : Int))), ())) <|
  ldAW [(.int .u64), (.int .i64), (.int .i64), (.int .u32), .slc] (⟨r40, 0, none⟩ : Addr) fun (u49 : (Int × Int × Int × Int × (Option Addr × Nat × Nat) × Unit)) =>
  callW Try.prog 21 [(.agg #[(.int .u64 u49.1), (.int .i64 u49.2.1), (.int .i64 u49.2.2.1), (.int .u32 u49.2.2.2.1), (.slice u49.2.2.2.2.1.1 u49.2.2.2.2.1.2.1 u49.2.2.2.2.1.2.2)])] (.many [(.one .str), (.one (.int .i64))]) fun (u50 : ByteArray × Int × Unit) =>
  splitW (u50.2.1 != (0 : Int)) (guardW ((#[(.int .u64 (0 : Int)), (.int .i64 (0 : Int)), (.int .i64 (0 : Int)), (.int .u32 (0 : Int)), (.slice none 0 0)] : Array Value).size = 5) <|
  stAW (⟨r1, 0, none⟩ : Addr) [(.int .u64 (0 : Int)), (.int .i64 (0 : Int)), (.int .i64 (0 : Int)), (.int .u32 (0 : Int)), (.slice none 0 0)] <|
  ldAW [(.int .u64), (.int .i64), (.int .i64), (.int .u32), .slc] (⟨r1, 0, none⟩ : Addr) fun (u51 : (Int × Int × Int × Int × (Option Addr × Nat × Nat) × Unit)) => K (.tuple #[(.agg #[(.int .u64 u51.1), (.int .i64 u51.2.1), (.int .i64 u51.2.2.1), (.int .u32 u51.2.2.2.1), (.slice u51.2.2.2.2.1.1 u51.2.2.2.2.1.2.1 u51.2.2.2.2.1.2.2)]), (.int .i64 (4 : Int))])) <|
  splitW (!(u50.1.toList == x0.toList)) (guardW ((#[(.int .u64 (0 : Int)), (.int .i64 (0 : Int)), (.int .i64 (0 : Int)), (.int .u32 (0 : Int)), (.slice none 0 0)] : Array Value).size = 5) <|
  stAW (⟨r1, 0, none⟩ : Addr) [(.int .u64 (0 : Int)), (.int .i64 (0 : Int)), (.int .i64 (0 : Int)), (.int .u32 (0 : Int)), (.slice none 0 0)] <|
  ldAW [(.int .u64), (.int .i64), (.int .i64), (.int .u32), .slc] (⟨r1, 0, none⟩ : Addr) fun (u52 : (Int × Int × Int × Int × (Option Addr × Nat × Nat) × Unit)) => K (.tuple #[(.agg #[(.int .u64 u52.1), (.int .i64 u52.2.1), (.int .i64 u52.2.2.1), (.int .u32 u52.2.2.2.1), (.slice u52.2.2.2.2.1.1 u52.2.2.2.2.1.2.1 u52.2.2.2.2.1.2.2)]), (.int .i64 (4 : Int))])) <|
  ldAW [(.int .u64), (.int .i64), (.int .i64), (.int .u32), .slc] (⟨r40, 0, none⟩ : Addr) fun (u53 : (Int × Int × Int × Int × (Option Addr × Nat × Nat) × Unit)) =>
  guardW ((#[(.int .u64 u53.1), (.int .i64 u53.2.1), (.int .i64 u53.2.2.1), (.int .u32 u53.2.2.2.1), (.slice u53.2.2.2.2.1.1 u53.2.2.2.2.1.2.1 u53.2.2.2.2.1.2.2)] : Array Value).size = 5) <|
  stAW (⟨r1, 0, none⟩ : Addr) [(.int .u64 u53.1), (.int .i64 u53.2.1), (.int .i64 u53.2.2.1), (.int .u32 u53.2.2.2.1), (.slice u53.2.2.2.2.1.1 u53.2.2.2.2.1.2.1 u53.2.2.2.2.1.2.2)] <|
  ldAW [(.int .u64), (.int .i64), (.int .i64), (.int .u32), .slc] (⟨r1, 0, none⟩ : Addr) fun (u54 : (Int × Int × Int × Int × (Option Addr × Nat × Nat) × Unit)) => K (.tuple #[(.agg #[(.int .u64 u54.1), (.int .i64 u54.2.1), (.int .i64 u54.2.2.1), (.int .u32 u54.2.2.2.1), (.slice u54.2.2.2.2.1.1 u54.2.2.2.2.1.2.1 u54.2.2.2.2.1.2.2)]), (.int .i64 (0 : Int))])) <|
  newW (.cells #[(.int .u64 (0 : Int)), (.int .i64 (0 : Int)), (.int .i64 (0 : Int)), (.int .u32 (0 : Int)), (.slice none 0 0)] 28) fun (r55 : Nat) =>
  heldW [[(((⟨r3, 0, none⟩ : Addr).add 1), (.int .u64 u9))]] <|
  callW Try.prog 41 [(.slice (cutAddr u8.1 0 u8.2.2 1) (Int.toNat (4 : Int)) u8.2.2)] (.one (.one (.int .u64))) fun (u56 : Int) =>
  heldW [[(((⟨r3, 0, none⟩ : Addr).add 1), (.int .u64 u9))]] <|
  callW Try.prog 41 [(.slice (cutAddr u8.1 (Int.toNat (4 : Int)) u8.2.2 1) ((Int.toNat (8 : Int)) - (Int.toNat (4 : Int))) (u8.2.2 - (Int.toNat (4 : Int))))] (.one (.one (.int .u64))) fun (u57 : Int) =>
  heldW [[(((⟨r3, 0, none⟩ : Addr).add 1), (.int .u64 u9))]] <|
  callW Try.prog 41 [(.slice (cutAddr u8.1 (Int.toNat (8 : Int)) u8.2.2 1) ((Int.toNat (12 : Int)) - (Int.toNat (8 : Int))) (u8.2.2 - (Int.toNat (8 : Int))))] (.one (.one (.int .u64))) fun (u58 : Int) =>
  heldW [[(((⟨r3, 0, none⟩ : Addr).add 1), (.int .u64 u9))]] <|
  guardW ((#[(.int .u64 u9), (.int .i64 (IntKind.wrap .i64 u56)), (.int .i64 (IntKind.wrap .i64 u57)), (.int .u32 (IntKind.wrap .u32 u58)), (.slice none 0 0)] : Array Value).size = 5) <|
  stAW (⟨r55, 0, none⟩ : Addr) [(.int .u64 u9), (.int .i64 (IntKind.wrap .i64 u56)), (.int .i64 (IntKind.wrap .i64 u57)), (.int .u32 (IntKind.wrap .u32 u58)), (.slice none 0 0)] <|
  loopW (Int × Unit) ((14 : Int), ()) fun (y60 : Int × Unit) (I59 : (Int × Unit) → WP) =>
  splitW (decide ((IntKind.wrap .i64 (y60.1 + (4 : Int))) ≤ ((u8.2.1 : Nat) : Int))) (drewW <|
  ldW .slc ((⟨r55, 0, none⟩ : Addr).add 4) fun (u61 : (Option Addr × Nat × Nat)) =>
  guardW (0 ≤ y60.1 ∧ y60.1 ≤ (IntKind.wrap .i64 (y60.1 + (4 : Int))) ∧ (IntKind.wrap .i64 (y60.1 + (4 : Int))) ≤ ((u8.2.2 : Nat) : Int)) <|
  callW Try.prog 41 [(.slice (cutAddr u8.1 (Int.toNat y60.1) u8.2.2 1) ((Int.toNat (IntKind.wrap .i64 (y60.1 + (4 : Int)))) - (Int.toNat y60.1)) (u8.2.2 - (Int.toNat y60.1)))] (.one (.one (.int .u64))) fun (u62 : Int) =>
  heldW [[(((⟨r55, 0, none⟩ : Addr).add 4), (.slice u61.1 u61.2.1 u61.2.2))]] <|
  newW (.cells #[(.int .u32 (IntKind.wrap .u32 u62))] 25) fun (r63 : Nat) =>
  heldW [[(((⟨r55, 0, none⟩ : Addr).add 4), (.slice u61.1 u61.2.1 u61.2.2))]] <|
  runW Try.prog (Builtin.append_ #[26, 26] 26 #[(.slice u61.1 u61.2.1 u61.2.2), (.slice (some (⟨r63, 0, none⟩ : Addr)) 1 1)]) .slc fun (u64 : (Option Addr × Nat × Nat)) =>
  stW ((⟨r55, 0, none⟩ : Addr).add 4) (.slice u64.1 u64.2.1 u64.2.2) <| I59 ((IntKind.wrap .i64 (y60.1 + (4 : Int))), ())) <|
  ldAW [(.int .u64), (.int .i64), (.int .i64), (.int .u32), .slc] (⟨r55, 0, none⟩ : Addr) fun (u65 : (Int × Int × Int × Int × (Option Addr × Nat × Nat) × Unit)) =>
  callW Try.prog 21 [(.agg #[(.int .u64 u65.1), (.int .i64 u65.2.1), (.int .i64 u65.2.2.1), (.int .u32 u65.2.2.2.1), (.slice u65.2.2.2.2.1.1 u65.2.2.2.2.1.2.1 u65.2.2.2.2.1.2.2)])] (.many [(.one .str), (.one (.int .i64))]) fun (u66 : ByteArray × Int × Unit) =>
  splitW (u66.2.1 != (0 : Int)) (guardW ((#[(.int .u64 (0 : Int)), (.int .i64 (0 : Int)), (.int .i64 (0 : Int)), (.int .u32 (0 : Int)), (.slice none 0 0)] : Array Value).size = 5) <|
  stAW (⟨r1, 0, none⟩ : Addr) [(.int .u64 (0 : Int)), (.int .i64 (0 : Int)), (.int .i64 (0 : Int)), (.int .u32 (0 : Int)), (.slice none 0 0)] <|
  ldAW [(.int .u64), (.int .i64), (.int .i64), (.int .u32), .slc] (⟨r1, 0, none⟩ : Addr) fun (u67 : (Int × Int × Int × Int × (Option Addr × Nat × Nat) × Unit)) => K (.tuple #[(.agg #[(.int .u64 u67.1), (.int .i64 u67.2.1), (.int .i64 u67.2.2.1), (.int .u32 u67.2.2.2.1), (.slice u67.2.2.2.2.1.1 u67.2.2.2.2.1.2.1 u67.2.2.2.2.1.2.2)]), (.int .i64 (4 : Int))])) <|
  splitW (!(u66.1.toList == x0.toList)) (guardW ((#[(.int .u64 (0 : Int)), (.int .i64 (0 : Int)), (.int .i64 (0 : Int)), (.int .u32 (0 : Int)), (.slice none 0 0)] : Array Value).size = 5) <|
  stAW (⟨r1, 0, none⟩ : Addr) [(.int .u64 (0 : Int)), (.int .i64 (0 : Int)), (.int .i64 (0 : Int)), (.int .u32 (0 : Int)), (.slice none 0 0)] <|
  ldAW [(.int .u64), (.int .i64), (.int .i64), (.int .u32), .slc] (⟨r1, 0, none⟩ : Addr) fun (u68 : (Int × Int × Int × Int × (Option Addr × Nat × Nat) × Unit)) => K (.tuple #[(.agg #[(.int .u64 u68.1), (.int .i64 u68.2.1), (.int .i64 u68.2.2.1), (.int .u32 u68.2.2.2.1), (.slice u68.2.2.2.2.1.1 u68.2.2.2.2.1.2.1 u68.2.2.2.2.1.2.2)]), (.int .i64 (4 : Int))])) <|
  ldAW [(.int .u64), (.int .i64), (.int .i64), (.int .u32), .slc] (⟨r55, 0, none⟩ : Addr) fun (u69 : (Int × Int × Int × Int × (Option Addr × Nat × Nat) × Unit)) =>
  guardW ((#[(.int .u64 u69.1), (.int .i64 u69.2.1), (.int .i64 u69.2.2.1), (.int .u32 u69.2.2.2.1), (.slice u69.2.2.2.2.1.1 u69.2.2.2.2.1.2.1 u69.2.2.2.2.1.2.2)] : Array Value).size = 5) <|
  stAW (⟨r1, 0, none⟩ : Addr) [(.int .u64 u69.1), (.int .i64 u69.2.1), (.int .i64 u69.2.2.1), (.int .u32 u69.2.2.2.1), (.slice u69.2.2.2.2.1.1 u69.2.2.2.2.1.2.1 u69.2.2.2.2.1.2.2)] <|
  ldAW [(.int .u64), (.int .i64), (.int .i64), (.int .u32), .slc] (⟨r1, 0, none⟩ : Addr) fun (u70 : (Int × Int × Int × Int × (Option Addr × Nat × Nat) × Unit)) => K (.tuple #[(.agg #[(.int .u64 u70.1), (.int .i64 u70.2.1), (.int .i64 u70.2.2.1), (.int .u32 u70.2.2.2.1), (.slice u70.2.2.2.2.1.1 u70.2.2.2.2.1.2.1 u70.2.2.2.2.1.2.2)]), (.int .i64 (0 : Int))])
theorem eq22 (x0 : ByteArray) (K : Value → WP) : bodyW Try.prog Try.f22 an22 false [(.string x0)] K = S22 x0 K := by kernel_rfl
theorem calls22 (x0 : ByteArray) {K : Value → WP} {w : World} (h : S22 x0 K w) : Calls Try.prog 22 #[(.string x0)] w (Ret K) := callsR_of_bodyW mixed Try.func22 (of_decide_eq_true (by kernel_rfl)) (by rw [eq22]; exact h)

/-- shadowbook/shadowbookref11.Choose -/
def an23 : Ann := (.seq .nil (.seq .nil (.seq .nil (.join [] [5, 7, 1000000] (.block (.join [(21, .sh (.one .bool))] [5, 7, 8, 9, 10, 1000000] .nil (.cond (.seq .nil .nil) (.seq .nil (.cond (.seq .nil .nil) .nil))))) (.seq .nil .nil)))))
def S23 (x0 : ByteArray) (x1 : ByteArray) (K : Value → WP) : WP := 
  newW (.cells #[(.int .u64 (0 : Int)), (.int .i64 (0 : Int)), (.int .i64 (0 : Int)), (.int .u32 (0 : Int)), (.slice none 0 0)] 28) fun (r1 : Nat) =>
  callW Try.prog 22 [(.string x0)] (.many [(.agg [(.int .u64), (.int .i64), (.int .i64), (.int .u32), .slc]), (.one (.int .i64))]) fun (u2 : (Int × Int × Int × Int × (Option Addr × Nat × Nat) × Unit) × Int × Unit) =>
  newW (.cells #[(.int .u64 (0 : Int)), (.int .i64 (0 : Int)), (.int .i64 (0 : Int)), (.int .u32 (0 : Int)), (.slice none 0 0)] 28) fun (r3 : Nat) =>
  guardW ((#[(.int .u64 u2.1.1), (.int .i64 u2.1.2.1), (.int .i64 u2.1.2.2.1), (.int .u32 u2.1.2.2.2.1), (.slice u2.1.2.2.2.2.1.1 u2.1.2.2.2.2.1.2.1 u2.1.2.2.2.2.1.2.2)] : Array Value).size = 5) <|
  stAW (⟨r3, 0, none⟩ : Addr) [(.int .u64 u2.1.1), (.int .i64 u2.1.2.1), (.int .i64 u2.1.2.2.1), (.int .u32 u2.1.2.2.2.1), (.slice u2.1.2.2.2.2.1.1 u2.1.2.2.2.2.1.2.1 u2.1.2.2.2.2.1.2.2)] <|
  callW Try.prog 22 [(.string x1)] (.many [(.agg [(.int .u64), (.int .i64), (.int .i64), (.int .u32), .slc]), (.one (.int .i64))]) fun (u4 : (Int × Int × Int × Int × (Option Addr × Nat × Nat) × Unit) × Int × Unit) =>
  newW (.cells #[(.int .u64 (0 : Int)), (.int .i64 (0 : Int)), (.int .i64 (0 : Int)), (.int .u32 (0 : Int)), (.slice none 0 0)] 28) fun (r5 : Nat) =>
  guardW ((#[(.int .u64 u4.1.1), (.int .i64 u4.1.2.1), (.int .i64 u4.1.2.2.1), (.int .u32 u4.1.2.2.2.1), (.slice u4.1.2.2.2.2.1.1 u4.1.2.2.2.2.1.2.1 u4.1.2.2.2.2.1.2.2)] : Array Value).size = 5) <|
  stAW (⟨r5, 0, none⟩ : Addr) [(.int .u64 u4.1.1), (.int .i64 u4.1.2.1), (.int .i64 u4.1.2.2.1), (.int .u32 u4.1.2.2.2.1), (.slice u4.1.2.2.2.2.1.1 u4.1.2.2.2.2.1.2.1 u4.1.2.2.2.2.1.2.2)] <|
  joinW (Unit) (fun (J6 : (Unit) → WP) =>
  joinW (Bool × Unit) (fun (J8 : (Bool × Unit) → WP) =>
  splitW (u2.2.1 != (0 : Int)) (J8 ((u4.2.1 != (0 : Int)), ())) <| J8 (false, ())) fun (y9 : Bool × Unit) =>
  splitW y9.1 (guardW ((#[(.int .u64 (0 : Int)), (.int .i64 (0 : Int)), (.int .i64 (0 : Int)), (.int .u32 (0 : Int)), (.slice none 0 0)] : Array Value).size = 5) <|
  stAW (⟨r1, 0, none⟩ : Addr) [(.int .u64 (0 : Int)), (.int .i64 (0 : Int)), (.int .i64 (0 : Int)), (.int .u32 (0 : Int)), (.slice none 0 0)] <|
  ldAW [(.int .u64), (.int .i64), (.int .i64), (.int .u32), .slc] (⟨r1, 0, none⟩ : Addr) fun (u10 : (Int × Int × Int × Int × (Option Addr × Nat × Nat) × Unit)) => K (.tuple #[(.int .i64 (-1 : Int)), (.agg #[(.int .u64 u10.1), (.int .i64 u10.2.1), (.int .i64 u10.2.2.1), (.int .u32 u10.2.2.2.1), (.slice u10.2.2.2.2.1.1 u10.2.2.2.2.1.2.1 u10.2.2.2.2.1.2.2)]), (.int .i64 (10 : Int))])) <|
  splitW (u2.2.1 != (0 : Int)) (drewW <|
  ldAW [(.int .u64), (.int .i64), (.int .i64), (.int .u32), .slc] (⟨r5, 0, none⟩ : Addr) fun (u11 : (Int × Int × Int × Int × (Option Addr × Nat × Nat) × Unit)) =>
  guardW ((#[(.int .u64 u11.1), (.int .i64 u11.2.1), (.int .i64 u11.2.2.1), (.int .u32 u11.2.2.2.1), (.slice u11.2.2.2.2.1.1 u11.2.2.2.2.1.2.1 u11.2.2.2.2.1.2.2)] : Array Value).size = 5) <|
  stAW (⟨r1, 0, none⟩ : Addr) [(.int .u64 u11.1), (.int .i64 u11.2.1), (.int .i64 u11.2.2.1), (.int .u32 u11.2.2.2.1), (.slice u11.2.2.2.2.1.1 u11.2.2.2.2.1.2.1 u11.2.2.2.2.1.2.2)] <|
  ldAW [(.int .u64), (.int .i64), (.int .i64), (.int .u32), .slc] (⟨r1, 0, none⟩ : Addr) fun (u12 : (Int × Int × Int × Int × (Option Addr × Nat × Nat) × Unit)) => K (.tuple #[(.int .i64 (1 : Int)), (.agg #[(.int .u64 u12.1), (.int .i64 u12.2.1), (.int .i64 u12.2.2.1), (.int .u32 u12.2.2.2.1), (.slice u12.2.2.2.2.1.1 u12.2.2.2.2.1.2.1 u12.2.2.2.2.1.2.2)]), (.int .i64 (0 : Int))])) <|
  splitW (u4.2.1 == (0 : Int)) (ldW (.int .u64) (⟨r5, 0, none⟩ : Addr) fun (u13 : Int) =>
  ldW (.int .u64) (⟨r3, 0, none⟩ : Addr) fun (u14 : Int) =>
  splitW (decide (u13 > u14)) (drewW <|
  ldAW [(.int .u64), (.int .i64), (.int .i64), (.int .u32), .slc] (⟨r5, 0, none⟩ : Addr) fun (u15 : (Int × Int × Int × Int × (Option Addr × Nat × Nat) × Unit)) =>
  guardW ((#[(.int .u64 u15.1), (.int .i64 u15.2.1), (.int .i64 u15.2.2.1), (.int .u32 u15.2.2.2.1), (.slice u15.2.2.2.2.1.1 u15.2.2.2.2.1.2.1 u15.2.2.2.2.1.2.2)] : Array Value).size = 5) <|
  stAW (⟨r1, 0, none⟩ : Addr) [(.int .u64 u15.1), (.int .i64 u15.2.1), (.int .i64 u15.2.2.1), (.int .u32 u15.2.2.2.1), (.slice u15.2.2.2.2.1.1 u15.2.2.2.2.1.2.1 u15.2.2.2.2.1.2.2)] <|
  ldAW [(.int .u64), (.int .i64), (.int .i64), (.int .u32), .slc] (⟨r1, 0, none⟩ : Addr) fun (u16 : (Int × Int × Int × Int × (Option Addr × Nat × Nat) × Unit)) => K (.tuple #[(.int .i64 (1 : Int)), (.agg #[(.int .u64 u16.1), (.int .i64 u16.2.1), (.int .i64 u16.2.2.1), (.int .u32 u16.2.2.2.1), (.slice u16.2.2.2.2.1.1 u16.2.2.2.2.1.2.1 u16.2.2.2.2.1.2.2)]), (.int .i64 (0 : Int))])) <| J6 ()) <| J6 ()) fun (y7 : Unit) =>
  drewW <|
  ldAW [(.int .u64), (.int .i64), (.int .i64), (.int .u32), .slc] (⟨r3, 0, none⟩ : Addr) fun (u17 : (Int × Int × Int × Int × (Option Addr × Nat × Nat) × Unit)) =>
  guardW ((#[(.int .u64 u17.1), (.int .i64 u17.2.1), (.int .i64 u17.2.2.1), (.int .u32 u17.2.2.2.1), (.slice u17.2.2.2.2.1.1 u17.2.2.2.2.1.2.1 u17.2.2.2.2.1.2.2)] : Array Value).size = 5) <|
  stAW (⟨r1, 0, none⟩ : Addr) [(.int .u64 u17.1), (.int .i64 u17.2.1), (.int .i64 u17.2.2.1), (.int .u32 u17.2.2.2.1), (.slice u17.2.2.2.2.1.1 u17.2.2.2.2.1.2.1 u17.2.2.2.2.1.2.2)] <|
  ldAW [(.int .u64), (.int .i64), (.int .i64), (.int .u32), .slc] (⟨r1, 0, none⟩ : Addr) fun (u18 : (Int × Int × Int × Int × (Option Addr × Nat × Nat) × Unit)) => K (.tuple #[(.int .i64 (0 : Int)), (.agg #[(.int .u64 u18.1), (.int .i64 u18.2.1), (.int .i64 u18.2.2.1), (.int .u32 u18.2.2.2.1), (.slice u18.2.2.2.2.1.1 u18.2.2.2.2.1.2.1 u18.2.2.2.2.1.2.2)]), (.int .i64 (0 : Int))])
theorem eq23 (x0 : ByteArray) (x1 : ByteArray) (K : Value → WP) : bodyW Try.prog Try.f23 an23 false [(.string x0), (.string x1)] K = S23 x0 x1 K := by kernel_rfl
theorem calls23 (x0 : ByteArray) (x1 : ByteArray) {K : Value → WP} {w : World} (h : S23 x0 x1 K w) : Calls Try.prog 23 #[(.string x0), (.string x1)] w (Ret K) := callsR_of_bodyW mixed Try.func23 (of_decide_eq_true (by kernel_rfl)) (by rw [eq23]; exact h)

/-- shadowbook/shadowbookref11.Check -/
def an24 : Ann := (.seq .nil (.join [] [1, 1000000] (.seq .nil (.cond (.seq .nil .nil) .nil)) (.seq (.seq .nil (.block (.loop [(3, .sh (.one (.int .i64)))] [1, 1000000] (.seq (.seq .nil (.cond .nil .nil)) (.seq (.block (.seq (.seq .nil (.cond (.seq .nil .nil) .nil)) (.seq .nil (.block (.loop [(4, .sh (.one (.int .i64)))] [1, 3, 1000000] (.seq (.seq .nil (.cond .nil .nil)) (.seq (.block (.seq .nil (.cond (.seq .nil .nil) .nil))) .nil))))))) .nil))))) (.seq (.seq .nil (.cond (.seq .nil .nil) .nil)) (.seq .nil .nil)))))
def S24 (x0_0 : Int) (x0_1 : Int) (x0_2 : Int) (x0_3 : Int) (a0_4 : Option Addr) (n0_4 c0_4 : Nat) (K : Value → WP) : WP := 
  newW (.cells #[(.int .u64 x0_0), (.int .i64 x0_1), (.int .i64 x0_2), (.int .u32 x0_3), (.slice a0_4 n0_4 c0_4)] 28) fun (r1 : Nat) =>
  joinW (Unit) (fun (J2 : (Unit) → WP) =>
  drewW <|
  ldAW [(.int .i64), (.int .i64)] ((⟨r1, 0, none⟩ : Addr).add 1) fun (u4 : (Int × Int × Unit)) =>
  callW Try.prog 32 [(.agg #[(.int .i64 u4.1), (.int .i64 u4.2.1)])] (.one (.one (.int .i64))) fun (u5 : Int) =>
  splitW (u5 != (0 : Int)) (K (.int .i64 (2 : Int))) <|
  ldW (.int .u64) (⟨r1, 0, none⟩ : Addr) fun (u6 : Int) =>
  splitW (u6 == (0 : Int)) (K (.int .i64 (2 : Int))) <|
  ldW (.int .u32) ((⟨r1, 0, none⟩ : Addr).add 3) fun (u7 : Int) =>
  splitW (u7 != (0 : Int)) (ldAW [(.int .i64), (.int .i64)] ((⟨r1, 0, none⟩ : Addr).add 1) fun (u8 : (Int × Int × Unit)) =>
  ldW (.int .u32) ((⟨r1, 0, none⟩ : Addr).add 3) fun (u9 : Int) =>
  callW Try.prog 42 [(.agg #[(.int .i64 u8.1), (.int .i64 u8.2.1)]), (.int .u32 u9)] (.one (.one .bool)) fun (u10 : Bool) =>
  splitW (!u10) (K (.int .i64 (2 : Int))) <|
  ldW .slc ((⟨r1, 0, none⟩ : Addr).add 4) fun (u11 : (Option Addr × Nat × Nat)) =>
  ldAW [(.int .i64), (.int .i64)] ((⟨r1, 0, none⟩ : Addr).add 1) fun (u12 : (Int × Int × Unit)) =>
  callW Try.prog 25 [(.agg #[(.int .i64 u12.1), (.int .i64 u12.2.1)])] (.one (.one (.int .i64))) fun (u13 : Int) =>
  heldW [[(((⟨r1, 0, none⟩ : Addr).add 4), (.slice u11.1 u11.2.1 u11.2.2))]] <|
  splitW (((u11.2.1 : Nat) : Int) != u13) (K (.int .i64 (2 : Int))) <| J2 ()) <|
  ldW .slc ((⟨r1, 0, none⟩ : Addr).add 4) fun (u14 : (Option Addr × Nat × Nat)) =>
  ldAW [(.int .i64), (.int .i64)] ((⟨r1, 0, none⟩ : Addr).add 1) fun (u15 : (Int × Int × Unit)) =>
  callW Try.prog 25 [(.agg #[(.int .i64 u15.1), (.int .i64 u15.2.1)])] (.one (.one (.int .i64))) fun (u16 : Int) =>
  heldW [[(((⟨r1, 0, none⟩ : Addr).add 4), (.slice u14.1 u14.2.1 u14.2.2))]] <|
  splitW (((u14.2.1 : Nat) : Int) != u16) (K (.int .i64 (2 : Int))) <| J2 ()) fun (y3 : Unit) =>
  loopW (Int × Unit) ((0 : Int), ()) fun (y18 : Int × Unit) (I17 : (Int × Unit) → WP) =>
  ldW .slc ((⟨r1, 0, none⟩ : Addr).add 4) fun (u19 : (Option Addr × Nat × Nat)) =>
  splitW (decide (y18.1 < ((u19.2.1 : Nat) : Int))) (drewW <|
  ldAW [(.int .i64), (.int .i64)] ((⟨r1, 0, none⟩ : Addr).add 1) fun (u20 : (Int × Int × Unit)) =>
  ldW .slc ((⟨r1, 0, none⟩ : Addr).add 4) fun (u21 : (Option Addr × Nat × Nat)) =>
  guardW (0 ≤ y18.1 ∧ y18.1 < ((u21.2.1 : Nat) : Int)) <|
  ptrW u21.1 fun (p22 : Addr) =>
  ldW (.int .u32) (p22.add (Int.toNat y18.1 * 1)) fun (u23 : Int) =>
  callW Try.prog 42 [(.agg #[(.int .i64 u20.1), (.int .i64 u20.2.1)]), (.int .u32 u23)] (.one (.one .bool)) fun (u24 : Bool) =>
  splitW (!u24) (K (.int .i64 (2 : Int))) <|
  ldW .slc ((⟨r1, 0, none⟩ : Addr).add 4) fun (u25 : (Option Addr × Nat × Nat)) =>
  guardW (0 ≤ y18.1 ∧ y18.1 < ((u25.2.1 : Nat) : Int)) <|
  ptrW u25.1 fun (p26 : Addr) =>
  ldW (.int .u32) (p26.add (Int.toNat y18.1 * 1)) fun (u27 : Int) =>
  ldW (.int .u32) ((⟨r1, 0, none⟩ : Addr).add 3) fun (u28 : Int) =>
  splitW (u27 == u28) (K (.int .i64 (2 : Int))) <|
  loopW (Int × Unit) ((0 : Int), ()) fun (y30 : Int × Unit) (I29 : (Int × Unit) → WP) =>
  splitW (decide (y30.1 < y18.1)) (drewW <|
  ldW .slc ((⟨r1, 0, none⟩ : Addr).add 4) fun (u31 : (Option Addr × Nat × Nat)) =>
  guardW (0 ≤ y30.1 ∧ y30.1 < ((u31.2.1 : Nat) : Int)) <|
  ptrW u31.1 fun (p32 : Addr) =>
  ldW (.int .u32) (p32.add (Int.toNat y30.1 * 1)) fun (u33 : Int) =>
  ldW .slc ((⟨r1, 0, none⟩ : Addr).add 4) fun (u34 : (Option Addr × Nat × Nat)) =>
  guardW (0 ≤ y18.1 ∧ y18.1 < ((u34.2.1 : Nat) : Int)) <|
  ptrW u34.1 fun (p35 : Addr) =>
  ldW (.int .u32) (p35.add (Int.toNat y18.1 * 1)) fun (u36 : Int) =>
  splitW (u33 == u36) (K (.int .i64 (2 : Int))) <| I29 ((IntKind.wrap .i64 (y30.1 + (1 : Int))), ())) <| I17 ((IntKind.wrap .i64 (y18.1 + (1 : Int))), ())) <|
  drewW <|
  ldW .slc ((⟨r1, 0, none⟩ : Addr).add 4) fun (u37 : (Option Addr × Nat × Nat)) =>
  ldW (.int .i64) ((⟨r1, 0, none⟩ : Addr).add 1) fun (u38 : Int) =>
  callW Try.prog 13 [(.int .i64 u38)] (.one (.one (.int .i64))) fun (u39 : Int) =>
  heldW [[(((⟨r1, 0, none⟩ : Addr).add 4), (.slice u37.1 u37.2.1 u37.2.2))]] <|
  splitW (decide ((IntKind.wrap .i64 ((14 : Int) + (IntKind.wrap .i64 ((4 : Int) * ((u37.2.1 : Nat) : Int))))) > u39)) (K (.int .i64 (3 : Int))) <| K (.int .i64 (0 : Int))
theorem eq24 (x0_0 : Int) (x0_1 : Int) (x0_2 : Int) (x0_3 : Int) (a0_4 : Option Addr) (n0_4 c0_4 : Nat) (K : Value → WP) : bodyW Try.prog Try.f24 an24 false [(.agg #[(.int .u64 x0_0), (.int .i64 x0_1), (.int .i64 x0_2), (.int .u32 x0_3), (.slice a0_4 n0_4 c0_4)])] K = S24 x0_0 x0_1 x0_2 x0_3 a0_4 n0_4 c0_4 K := by kernel_rfl
theorem calls24 (x0_0 : Int) (x0_1 : Int) (x0_2 : Int) (x0_3 : Int) (a0_4 : Option Addr) (n0_4 c0_4 : Nat) {K : Value → WP} {w : World} (h : S24 x0_0 x0_1 x0_2 x0_3 a0_4 n0_4 c0_4 K w) : Calls Try.prog 24 #[(.agg #[(.int .u64 x0_0), (.int .i64 x0_1), (.int .i64 x0_2), (.int .u32 x0_3), (.slice a0_4 n0_4 c0_4)])] w (Ret K) := callsR_of_bodyW mixed Try.func24 (of_decide_eq_true (by kernel_rfl)) (by rw [eq24]; exact h)

/-- shadowbook/shadowbookref11.Pages -/
def an25 : Ann := (.seq .nil (.seq (.seq .nil (.cond (.seq .nil .nil) .nil)) (.seq .nil (.seq .nil .nil))))
def S25 (x0_0 : Int) (x0_1 : Int) (K : Value → WP) : WP := 
  newW (.cells #[(.int .i64 x0_0), (.int .i64 x0_1)] 24) fun (r1 : Nat) =>
  ldAW [(.int .i64), (.int .i64)] (⟨r1, 0, none⟩ : Addr) fun (u2 : (Int × Int × Unit)) =>
  callW Try.prog 32 [(.agg #[(.int .i64 u2.1), (.int .i64 u2.2.1)])] (.one (.one (.int .i64))) fun (u3 : Int) =>
  splitW (u3 != (0 : Int)) (K (.int .i64 (0 : Int))) <|
  ldW (.int .i64) (⟨r1, 0, none⟩ : Addr) fun (u4 : Int) =>
  callW Try.prog 13 [(.int .i64 u4)] (.one (.one (.int .i64))) fun (u5 : Int) =>
  ldW (.int .i64) ((⟨r1, 0, none⟩ : Addr).add 1) fun (u6 : Int) =>
  guardW (u5 ≠ 0) <| K (.int .i64 (IntKind.wrap .i64 (Int.tdiv (IntKind.wrap .i64 ((IntKind.wrap .i64 ((IntKind.wrap .i64 ((2 : Int) * u6)) + u5)) - (1 : Int))) u5)))
theorem eq25 (x0_0 : Int) (x0_1 : Int) (K : Value → WP) : bodyW Try.prog Try.f25 an25 false [(.agg #[(.int .i64 x0_0), (.int .i64 x0_1)])] K = S25 x0_0 x0_1 K := by kernel_rfl
theorem calls25 (x0_0 : Int) (x0_1 : Int) {K : Value → WP} {w : World} (h : S25 x0_0 x0_1 K w) : Calls Try.prog 25 #[(.agg #[(.int .i64 x0_0), (.int .i64 x0_1)])] w (Ret K) := callsR_of_bodyW mixed Try.func25 (of_decide_eq_true (by kernel_rfl)) (by rw [eq25]; exact h)

/-- shadowbook/shadowbookref11.Other -/
def an26 : Ann := (.seq .nil (.seq (.seq .nil (.cond (.seq .nil .nil) .nil)) (.seq .nil .nil)))
def S26 (x0 : Int) (K : Value → WP) : WP := 
  splitW (x0 == (0 : Int)) (K (.int .i64 (1 : Int))) <| K (.int .i64 (0 : Int))
theorem eq26 (x0 : Int) (K : Value → WP) : bodyW Try.prog Try.f26 an26 false [(.int .i64 x0)] K = S26 x0 K := by kernel_rfl
theorem calls26 (x0 : Int) {K : Value → WP} {w : World} (h : S26 x0 K w) : Calls Try.prog 26 #[(.int .i64 x0)] w (Ret K) := callsR_of_bodyW mixed Try.func26 (of_decide_eq_true (by kernel_rfl)) (by rw [eq26]; exact h)

/-- shadowbook/octet.Put -/
def an27 : Ann := (.seq .nil (.seq (.seq .nil (.cond (.seq .nil .nil) .nil)) (.seq (.seq .nil (.block (.loop [(0, .sh (.one .slc)), (16, .sh (.one (.int .i64)))] [1, 15, 1000000] (.seq .nil (.seq (.cond .nil .nil) (.seq (.block (.seq .nil .nil)) .nil)))))) (.seq .nil .nil))))
def S27 (a0 : Option Addr) (n0 c0 : Nat) (x1 : Int) (x2 : Int) (K : Value → WP) : WP := 
  splitW (decide (x2 < (1 : Int))) (K (.slice a0 n0 c0)) <|
  splitW (decide (x2 > (8 : Int))) (K (.slice a0 n0 c0)) <|
  loopW ((Option Addr × Nat × Nat) × Int × Unit) ((a0, n0, c0), (0 : Int), ()) fun (y2 : (Option Addr × Nat × Nat) × Int × Unit) (I1 : ((Option Addr × Nat × Nat) × Int × Unit) → WP) =>
  splitW (decide (y2.2.1 < x2)) (guardW (0 ≤ (IntKind.wrap .i64 ((8 : Int) * y2.2.1))) <|
  newW (.cells #[(.int .u8 (IntKind.wrap .u8 (ishr .u64 x1 (IntKind.wrap .i64 ((8 : Int) * y2.2.1)))))] 5) fun (r3 : Nat) =>
  runW Try.prog (Builtin.append_ #[35, 35] 35 #[(.slice y2.1.1 y2.1.2.1 y2.1.2.2), (.slice (some (⟨r3, 0, none⟩ : Addr)) 1 1)]) .slc fun (u4 : (Option Addr × Nat × Nat)) => I1 ((u4.1, u4.2.1, u4.2.2), (IntKind.wrap .i64 (y2.2.1 + (1 : Int))), ())) <| K (.slice y2.1.1 y2.1.2.1 y2.1.2.2)
theorem eq27 (a0 : Option Addr) (n0 c0 : Nat) (x1 : Int) (x2 : Int) (K : Value → WP) : bodyW Try.prog Try.f27 an27 false [(.slice a0 n0 c0), (.int .u64 x1), (.int .i64 x2)] K = S27 a0 n0 c0 x1 x2 K := by kernel_rfl
theorem calls27 (a0 : Option Addr) (n0 c0 : Nat) (x1 : Int) (x2 : Int) {K : Value → WP} {w : World} (h : S27 a0 n0 c0 x1 x2 K w) : Calls Try.prog 27 #[(.slice a0 n0 c0), (.int .u64 x1), (.int .i64 x2)] w (Ret K) := callsR_of_bodyW mixed Try.func27 (of_decide_eq_true (by kernel_rfl)) (by rw [eq27]; exact h)

/-- shadowbook/frame.Put -/
def an28 : Ann := (.seq .nil (.seq .nil (.seq (.block (.seq .nil (.cond (.seq .nil .nil) (.seq .nil (.cond (.seq .nil .nil) .nil))))) (.seq .nil (.seq .nil (.seq .nil (.seq .nil (.seq .nil (.seq .nil (.seq .nil (.seq .nil .nil)))))))))))
def S28 (x0 : Int) (x1_0 : Int) (x1_1 : Int) (x1_2 : ByteArray) (K : Value → WP) : WP := 
  newW (.cells #[(.int .u8 x1_0), (.int .u64 x1_1), (.string x1_2)] 49) fun (r1 : Nat) =>
  callW Try.prog 34 [(.int .i64 x0)] (.one (.one (.int .i64))) fun (u2 : Int) =>
  splitW (u2 == (0 : Int)) (K (.tuple #[(.string (ByteArray.mk #[])), (.int .i64 (2 : Int))])) <|
  ldW .str ((⟨r1, 0, none⟩ : Addr).add 2) fun (u3 : ByteArray) =>
  splitW (decide (((u3.size : Nat) : Int) > u2)) (K (.tuple #[(.string (ByteArray.mk #[])), (.int .i64 (3 : Int))])) <|
  runW Try.prog (Instr.makeSlice 35 (.int .i64 x0) (.int .i64 x0)) .slc fun (u4 : Option Addr × Nat × Nat) =>
  drewW <|
  guardW (0 ≤ (0 : Int) ∧ (0 : Int) ≤ (12 : Int) ∧ (12 : Int) ≤ ((u4.2.2 : Nat) : Int)) <|
  ldW (.int .u8) (⟨r1, 0, none⟩ : Addr) fun (u5 : Int) =>
  newW (.cells #[(.int .u8 u5), (.int .u8 (0 : Int))] 5) fun (r6 : Nat) =>
  runW Try.prog (Builtin.append_ #[35, 35] 35 #[(.slice (cutAddr u4.1 0 (Int.toNat (12 : Int)) 1) (Int.toNat (0 : Int)) (Int.toNat (12 : Int))), (.slice (some (⟨r6, 0, none⟩ : Addr)) 2 2)]) .slc fun (u7 : (Option Addr × Nat × Nat)) =>
  ldW .str ((⟨r1, 0, none⟩ : Addr).add 2) fun (u8 : ByteArray) =>
  callW Try.prog 27 [(.slice u7.1 u7.2.1 u7.2.2), (.int .u64 (IntKind.wrap .u64 ((u8.size : Nat) : Int))), (.int .i64 (2 : Int))] (.one (.one .slc)) fun (u9 : (Option Addr × Nat × Nat)) =>
  ldW (.int .u64) ((⟨r1, 0, none⟩ : Addr).add 1) fun (u10 : Int) =>
  callW Try.prog 27 [(.slice u9.1 u9.2.1 u9.2.2), (.int .u64 u10), (.int .i64 (8 : Int))] (.one (.one .slc)) fun (u11 : (Option Addr × Nat × Nat)) =>
  drewW <|
  guardW (0 ≤ (12 : Int) ∧ (12 : Int) ≤ ((u4.2.1 : Nat) : Int)) <|
  ldW .str ((⟨r1, 0, none⟩ : Addr).add 2) fun (u12 : ByteArray) =>
  runW Try.prog (Builtin.copy_ #[35, 9] 3 #[(.slice (cutAddr u4.1 (Int.toNat (12 : Int)) u4.2.2 1) (u4.2.1 - (Int.toNat (12 : Int))) (u4.2.2 - (Int.toNat (12 : Int)))), (.string u12)]) (.int .i64) fun (u13 : Int) =>
  drewW <|
  guardW (0 ≤ (IntKind.wrap .i64 (x0 - (4 : Int))) ∧ (IntKind.wrap .i64 (x0 - (4 : Int))) ≤ (IntKind.wrap .i64 (x0 - (4 : Int))) ∧ (IntKind.wrap .i64 (x0 - (4 : Int))) ≤ x0 ∧ x0 ≤ ((u4.2.2 : Nat) : Int)) <|
  guardW (0 ≤ (IntKind.wrap .i64 (x0 - (4 : Int))) ∧ (IntKind.wrap .i64 (x0 - (4 : Int))) ≤ ((u4.2.2 : Nat) : Int)) <|
  callW Try.prog 43 [(.slice (cutAddr u4.1 0 u4.2.2 1) (Int.toNat (IntKind.wrap .i64 (x0 - (4 : Int)))) u4.2.2)] (.one (.one (.int .u32))) fun (u14 : Int) =>
  callW Try.prog 27 [(.slice (cutAddr u4.1 (Int.toNat (IntKind.wrap .i64 (x0 - (4 : Int)))) (Int.toNat x0) 1) ((Int.toNat (IntKind.wrap .i64 (x0 - (4 : Int)))) - (Int.toNat (IntKind.wrap .i64 (x0 - (4 : Int))))) ((Int.toNat x0) - (Int.toNat (IntKind.wrap .i64 (x0 - (4 : Int)))))), (.int .u64 (IntKind.wrap .u64 u14)), (.int .i64 (4 : Int))] (.one (.one .slc)) fun (u15 : (Option Addr × Nat × Nat)) =>
  runW Try.prog (Go.convert 35 9 (.slice u4.1 u4.2.1 u4.2.2)) .str fun (u16 : ByteArray) => K (.tuple #[(.string u16), (.int .i64 (0 : Int))])
theorem eq28 (x0 : Int) (x1_0 : Int) (x1_1 : Int) (x1_2 : ByteArray) (K : Value → WP) : bodyW Try.prog Try.f28 an28 false [(.int .i64 x0), (.agg #[(.int .u8 x1_0), (.int .u64 x1_1), (.string x1_2)])] K = S28 x0 x1_0 x1_1 x1_2 K := by kernel_rfl
theorem calls28 (x0 : Int) (x1_0 : Int) (x1_1 : Int) (x1_2 : ByteArray) {K : Value → WP} {w : World} (h : S28 x0 x1_0 x1_1 x1_2 K w) : Calls Try.prog 28 #[(.int .i64 x0), (.agg #[(.int .u8 x1_0), (.int .u64 x1_1), (.string x1_2)])] w (Ret K) := callsR_of_bodyW mixed Try.func28 (of_decide_eq_true (by kernel_rfl)) (by rw [eq28]; exact h)

/-- shadowbook/frame.Kind -/
def an29 : Ann := (.seq .nil (.seq .nil (.seq (.seq .nil (.cond (.seq .nil .nil) .nil)) (.seq .nil .nil))))
def S29 (x0 : ByteArray) (x1 : Int) (K : Value → WP) : WP := 
  newW (.cells #[(.int .u8 (0 : Int)), (.int .u64 (0 : Int)), (.string ByteArray.empty)] 49) fun (r1 : Nat) =>
  callW Try.prog 44 [(.string x0)] (.many [(.agg [(.int .u8), (.int .u64), .str]), (.one (.int .i64))]) fun (u2 : (Int × Int × ByteArray × Unit) × Int × Unit) =>
  newW (.cells #[(.int .u8 (0 : Int)), (.int .u64 (0 : Int)), (.string ByteArray.empty)] 49) fun (r3 : Nat) =>
  guardW ((#[(.int .u8 u2.1.1), (.int .u64 u2.1.2.1), (.string u2.1.2.2.1)] : Array Value).size = 3) <|
  stAW (⟨r3, 0, none⟩ : Addr) [(.int .u8 u2.1.1), (.int .u64 u2.1.2.1), (.string u2.1.2.2.1)] <|
  splitW (u2.2.1 == (0 : Int)) (ldW (.int .u8) (⟨r3, 0, none⟩ : Addr) fun (u4 : Int) =>
  splitW (u4 != x1) (guardW ((#[(.int .u8 (0 : Int)), (.int .u64 (0 : Int)), (.string ByteArray.empty)] : Array Value).size = 3) <|
  stAW (⟨r1, 0, none⟩ : Addr) [(.int .u8 (0 : Int)), (.int .u64 (0 : Int)), (.string ByteArray.empty)] <|
  ldAW [(.int .u8), (.int .u64), .str] (⟨r1, 0, none⟩ : Addr) fun (u5 : (Int × Int × ByteArray × Unit)) => K (.tuple #[(.agg #[(.int .u8 u5.1), (.int .u64 u5.2.1), (.string u5.2.2.1)]), (.int .i64 (11 : Int))])) <|
  ldAW [(.int .u8), (.int .u64), .str] (⟨r3, 0, none⟩ : Addr) fun (u6 : (Int × Int × ByteArray × Unit)) =>
  guardW ((#[(.int .u8 u6.1), (.int .u64 u6.2.1), (.string u6.2.2.1)] : Array Value).size = 3) <|
  stAW (⟨r1, 0, none⟩ : Addr) [(.int .u8 u6.1), (.int .u64 u6.2.1), (.string u6.2.2.1)] <|
  ldAW [(.int .u8), (.int .u64), .str] (⟨r1, 0, none⟩ : Addr) fun (u7 : (Int × Int × ByteArray × Unit)) => K (.tuple #[(.agg #[(.int .u8 u7.1), (.int .u64 u7.2.1), (.string u7.2.2.1)]), (.int .i64 u2.2.1)])) <|
  ldAW [(.int .u8), (.int .u64), .str] (⟨r3, 0, none⟩ : Addr) fun (u8 : (Int × Int × ByteArray × Unit)) =>
  guardW ((#[(.int .u8 u8.1), (.int .u64 u8.2.1), (.string u8.2.2.1)] : Array Value).size = 3) <|
  stAW (⟨r1, 0, none⟩ : Addr) [(.int .u8 u8.1), (.int .u64 u8.2.1), (.string u8.2.2.1)] <|
  ldAW [(.int .u8), (.int .u64), .str] (⟨r1, 0, none⟩ : Addr) fun (u9 : (Int × Int × ByteArray × Unit)) => K (.tuple #[(.agg #[(.int .u8 u9.1), (.int .u64 u9.2.1), (.string u9.2.2.1)]), (.int .i64 u2.2.1)])
theorem eq29 (x0 : ByteArray) (x1 : Int) (K : Value → WP) : bodyW Try.prog Try.f29 an29 false [(.string x0), (.int .u8 x1)] K = S29 x0 x1 K := by kernel_rfl
theorem calls29 (x0 : ByteArray) (x1 : Int) {K : Value → WP} {w : World} (h : S29 x0 x1 K w) : Calls Try.prog 29 #[(.string x0), (.int .u8 x1)] w (Ret K) := callsR_of_bodyW mixed Try.func29 (of_decide_eq_true (by kernel_rfl)) (by rw [eq29]; exact h)

/-- shadowbook/octet.New -/
def an30 : Ann := (.seq .nil (.seq .nil .nil))
def S30 (a0 : Option Addr) (n0 c0 : Nat) (K : Value → WP) : WP := 
  callW Try.prog 45 [(.slice a0 n0 c0)] (.one (.one .slc)) fun (u1 : (Option Addr × Nat × Nat)) =>
  newW (.cells #[(.slice u1.1 u1.2.1 u1.2.2)] 74) fun (r2 : Nat) => K (.pointer (some (⟨r2, 0, none⟩ : Addr)))
theorem eq30 (a0 : Option Addr) (n0 c0 : Nat) (K : Value → WP) : bodyW Try.prog Try.f30 an30 false [(.slice a0 n0 c0)] K = S30 a0 n0 c0 K := by kernel_rfl
theorem calls30 (a0 : Option Addr) (n0 c0 : Nat) {K : Value → WP} {w : World} (h : S30 a0 n0 c0 K w) : Calls Try.prog 30 #[(.slice a0 n0 c0)] w (Ret K) := callsR_of_bodyW mixed Try.func30 (of_decide_eq_true (by kernel_rfl)) (by rw [eq30]; exact h)

/-- (*shadowbook/octet.Reader).Number -/
def an31 : Ann := (.seq .nil (.seq (.block (.seq .nil (.cond (.seq .nil .nil) (.seq .nil (.cond (.seq .nil .nil) .nil))))) (.seq .nil (.seq .nil .nil))))
def S31 (x0 : Option Addr) (x1 : Int) (K : Value → WP) : WP := 
  splitW (Option.isNone x0) (K (.tuple #[(.int .u64 (0 : Int)), (.int .i64 (1 : Int))])) <|
  splitW (decide (x1 < (1 : Int))) (K (.tuple #[(.int .u64 (0 : Int)), (.int .i64 (2 : Int))])) <|
  splitW (decide (x1 > (8 : Int))) (K (.tuple #[(.int .u64 (0 : Int)), (.int .i64 (2 : Int))])) <|
  callW Try.prog 46 [(.pointer x0), (.int .i64 x1)] (.many [(.one .slc), (.one (.int .i64))]) fun (u1 : (Option Addr × Nat × Nat) × Int × Unit) =>
  callW Try.prog 47 [(.slice u1.1.1 u1.1.2.1 u1.1.2.2)] (.one (.one (.int .u64))) fun (u2 : Int) => K (.tuple #[(.int .u64 u2), (.int .i64 u1.2.1)])
theorem eq31 (x0 : Option Addr) (x1 : Int) (K : Value → WP) : bodyW Try.prog Try.f31 an31 false [(.pointer x0), (.int .i64 x1)] K = S31 x0 x1 K := by kernel_rfl
theorem calls31 (x0 : Option Addr) (x1 : Int) {K : Value → WP} {w : World} (h : S31 x0 x1 K w) : Calls Try.prog 31 #[(.pointer x0), (.int .i64 x1)] w (Ret K) := callsR_of_bodyW mixed Try.func31 (of_decide_eq_true (by kernel_rfl)) (by rw [eq31]; exact h)

/-- shadowbook/shadowbookref03.Check -/
def an32 : Ann := (.seq .nil (.seq (.seq .nil (.cond (.seq .nil .nil) .nil)) (.seq .nil .nil)))
def S32 (x0_0 : Int) (x0_1 : Int) (K : Value → WP) : WP := 
  newW (.cells #[(.int .i64 x0_0), (.int .i64 x0_1)] 24) fun (r1 : Nat) =>
  ldW (.int .i64) (⟨r1, 0, none⟩ : Addr) fun (u2 : Int) =>
  splitW (decide (u2 < (128 : Int))) (K (.int .i64 (2 : Int))) <|
  ldW (.int .i64) (⟨r1, 0, none⟩ : Addr) fun (u3 : Int) =>
  splitW (decide (u3 > (4096 : Int))) (K (.int .i64 (2 : Int))) <|
  ldW (.int .i64) (⟨r1, 0, none⟩ : Addr) fun (u4 : Int) =>
  splitW ((Int.tmod u4 (64 : Int)) != (0 : Int)) (K (.int .i64 (2 : Int))) <|
  ldW (.int .i64) ((⟨r1, 0, none⟩ : Addr).add 1) fun (u5 : Int) =>
  splitW (decide (u5 < (8 : Int))) (K (.int .i64 (2 : Int))) <|
  ldW (.int .i64) ((⟨r1, 0, none⟩ : Addr).add 1) fun (u6 : Int) =>
  splitW (decide (u6 > (4096 : Int))) (K (.int .i64 (2 : Int))) <| K (.int .i64 (0 : Int))
theorem eq32 (x0_0 : Int) (x0_1 : Int) (K : Value → WP) : bodyW Try.prog Try.f32 an32 false [(.agg #[(.int .i64 x0_0), (.int .i64 x0_1)])] K = S32 x0_0 x0_1 K := by kernel_rfl
theorem calls32 (x0_0 : Int) (x0_1 : Int) {K : Value → WP} {w : World} (h : S32 x0_0 x0_1 K w) : Calls Try.prog 32 #[(.agg #[(.int .i64 x0_0), (.int .i64 x0_1)])] w (Ret K) := callsR_of_bodyW mixed Try.func32 (of_decide_eq_true (by kernel_rfl)) (by rw [eq32]; exact h)

/-- shadowbook/device.Check -/
def an33 : Ann := (.seq .nil (.seq (.seq .nil (.cond (.seq .nil .nil) .nil)) (.seq .nil .nil)))
def S33 (x0_0 : Int) (x0_1 : Int) (K : Value → WP) : WP := 
  newW (.cells #[(.int .i64 x0_0), (.int .i64 x0_1)] 24) fun (r1 : Nat) =>
  ldW (.int .i64) (⟨r1, 0, none⟩ : Addr) fun (u2 : Int) =>
  splitW (decide (u2 < (128 : Int))) (K (.int .i64 (2 : Int))) <|
  ldW (.int .i64) (⟨r1, 0, none⟩ : Addr) fun (u3 : Int) =>
  splitW (decide (u3 > (4096 : Int))) (K (.int .i64 (2 : Int))) <|
  ldW (.int .i64) (⟨r1, 0, none⟩ : Addr) fun (u4 : Int) =>
  splitW ((Int.tmod u4 (64 : Int)) != (0 : Int)) (K (.int .i64 (2 : Int))) <|
  ldW (.int .i64) ((⟨r1, 0, none⟩ : Addr).add 1) fun (u5 : Int) =>
  splitW (decide (u5 < (8 : Int))) (K (.int .i64 (2 : Int))) <|
  ldW (.int .i64) ((⟨r1, 0, none⟩ : Addr).add 1) fun (u6 : Int) =>
  splitW (decide (u6 > (4096 : Int))) (K (.int .i64 (2 : Int))) <| K (.int .i64 (0 : Int))
theorem eq33 (x0_0 : Int) (x0_1 : Int) (K : Value → WP) : bodyW Try.prog Try.f33 an33 false [(.agg #[(.int .i64 x0_0), (.int .i64 x0_1)])] K = S33 x0_0 x0_1 K := by kernel_rfl
theorem calls33 (x0_0 : Int) (x0_1 : Int) {K : Value → WP} {w : World} (h : S33 x0_0 x0_1 K w) : Calls Try.prog 33 #[(.agg #[(.int .i64 x0_0), (.int .i64 x0_1)])] w (Ret K) := callsR_of_bodyW mixed Try.func33 (of_decide_eq_true (by kernel_rfl)) (by rw [eq33]; exact h)

/-- shadowbook/frame.Room -/
def an34 : Ann := (.seq .nil (.seq (.seq .nil (.cond (.seq .nil .nil) .nil)) (.seq .nil .nil)))
def S34 (x0 : Int) (K : Value → WP) : WP := 
  callW Try.prog 33 [(.agg #[(.int .i64 x0), (.int .i64 (8 : Int))])] (.one (.one (.int .i64))) fun (u1 : Int) =>
  splitW (u1 != (0 : Int)) (K (.int .i64 (0 : Int))) <| K (.int .i64 (IntKind.wrap .i64 ((IntKind.wrap .i64 (x0 - (12 : Int))) - (4 : Int))))
theorem eq34 (x0 : Int) (K : Value → WP) : bodyW Try.prog Try.f34 an34 false [(.int .i64 x0)] K = S34 x0 K := by kernel_rfl
theorem calls34 (x0 : Int) {K : Value → WP} {w : World} (h : S34 x0 K w) : Calls Try.prog 34 #[(.int .i64 x0)] w (Ret K) := callsR_of_bodyW mixed Try.func34 (of_decide_eq_true (by kernel_rfl)) (by rw [eq34]; exact h)

/-- shadowbook/shadowbookkit.Times -/
def an35 : Ann := (.seq .nil (.seq .nil (.seq (.block (.loop [(0, .sh (.one .str)), (1, .sh (.one (.int .i64))), (5, .sh (.one .str))] [1000000] (.seq (.seq .nil (.cond .nil .nil)) (.seq (.block (.seq (.seq .nil (.cond .nil .nil)) .nil)) .nil)))) (.seq .nil .nil))))
def S35 (x0 : ByteArray) (x1 : Int) (K : Value → WP) : WP := 
  loopW (ByteArray × Int × ByteArray × Unit) (x0, x1, (ByteArray.mk #[]), ()) fun (y2 : ByteArray × Int × ByteArray × Unit) (I1 : (ByteArray × Int × ByteArray × Unit) → WP) =>
  splitW (decide (y2.2.1 > (0 : Int))) (splitW ((Int.tmod y2.2.1 (2 : Int)) == (1 : Int)) (guardW (((y2.2.2.1.size + y2.1.size : Nat) : Int) ≤ IntKind.i64.max) <|
  guardW (((y2.1.size + y2.1.size : Nat) : Int) ≤ IntKind.i64.max) <| I1 ((y2.1 ++ y2.1), (IntKind.wrap .i64 (Int.tdiv y2.2.1 (2 : Int))), (y2.2.2.1 ++ y2.1), ())) <|
  guardW (((y2.1.size + y2.1.size : Nat) : Int) ≤ IntKind.i64.max) <| I1 ((y2.1 ++ y2.1), (IntKind.wrap .i64 (Int.tdiv y2.2.1 (2 : Int))), y2.2.2.1, ())) <| K (.string y2.2.2.1)
theorem eq35 (x0 : ByteArray) (x1 : Int) (K : Value → WP) : bodyW Try.prog Try.f35 an35 false [(.string x0), (.int .i64 x1)] K = S35 x0 x1 K := by kernel_rfl
theorem calls35 (x0 : ByteArray) (x1 : Int) {K : Value → WP} {w : World} (h : S35 x0 x1 K w) : Calls Try.prog 35 #[(.string x0), (.int .i64 x1)] w (Ret K) := callsR_of_bodyW mixed Try.func35 (of_decide_eq_true (by kernel_rfl)) (by rw [eq35]; exact h)

/-- shadowbook/shadowbookref01.Put -/
def an36 : Ann := (.seq .nil (.seq (.seq .nil (.cond (.seq .nil .nil) .nil)) (.seq (.seq .nil (.block (.loop [(0, .sh (.one .slc)), (7, .sh (.one (.int .i64)))] [1, 2, 1000000] (.seq (.seq .nil (.cond .nil .nil)) (.seq (.block .nil) .nil))))) (.seq .nil .nil))))
def S36 (a0 : Option Addr) (n0 c0 : Nat) (x1 : Int) (x2 : Int) (K : Value → WP) : WP := 
  splitW (decide (x2 < (1 : Int))) (K (.slice a0 n0 c0)) <|
  splitW (decide (x2 > (8 : Int))) (K (.slice a0 n0 c0)) <|
  loopW ((Option Addr × Nat × Nat) × Int × Unit) ((a0, n0, c0), (0 : Int), ()) fun (y2 : (Option Addr × Nat × Nat) × Int × Unit) (I1 : ((Option Addr × Nat × Nat) × Int × Unit) → WP) =>
  splitW (decide (y2.2.1 < x2)) (guardW (0 ≤ (IntKind.wrap .u64 (IntKind.wrap .i64 ((8 : Int) * y2.2.1)))) <|
  newW (.cells #[(.int .u8 (IntKind.wrap .u8 (ishr .u64 x1 (IntKind.wrap .u64 (IntKind.wrap .i64 ((8 : Int) * y2.2.1))))))] 5) fun (r3 : Nat) =>
  runW Try.prog (Builtin.append_ #[35, 35] 35 #[(.slice y2.1.1 y2.1.2.1 y2.1.2.2), (.slice (some (⟨r3, 0, none⟩ : Addr)) 1 1)]) .slc fun (u4 : (Option Addr × Nat × Nat)) => I1 ((u4.1, u4.2.1, u4.2.2), (IntKind.wrap .i64 (y2.2.1 + (1 : Int))), ())) <| K (.slice y2.1.1 y2.1.2.1 y2.1.2.2)
theorem eq36 (a0 : Option Addr) (n0 c0 : Nat) (x1 : Int) (x2 : Int) (K : Value → WP) : bodyW Try.prog Try.f36 an36 false [(.slice a0 n0 c0), (.int .u64 x1), (.int .i64 x2)] K = S36 a0 n0 c0 x1 x2 K := by kernel_rfl
theorem calls36 (a0 : Option Addr) (n0 c0 : Nat) (x1 : Int) (x2 : Int) {K : Value → WP} {w : World} (h : S36 a0 n0 c0 x1 x2 K w) : Calls Try.prog 36 #[(.slice a0 n0 c0), (.int .u64 x1), (.int .i64 x2)] w (Ret K) := callsR_of_bodyW mixed Try.func36 (of_decide_eq_true (by kernel_rfl)) (by rw [eq36]; exact h)

/-- shadowbook/shadowbookref02.Of -/
def an37 : Ann := (.seq .nil (.seq .nil .nil))
def S37 (a0 : Option Addr) (n0 c0 : Nat) (K : Value → WP) : WP := 
  callW Try.prog 49 [] (.one (.arr 256)) fun (u1 : Array Value) =>
  callW Try.prog 48 [(.agg u1), (.slice a0 n0 c0)] (.one (.one (.int .u32))) fun (u2 : Int) => K (.int .u32 u2)
theorem eq37 (a0 : Option Addr) (n0 c0 : Nat) (K : Value → WP) : bodyW Try.prog Try.f37 an37 false [(.slice a0 n0 c0)] K = S37 a0 n0 c0 K := by kernel_rfl
theorem calls37 (a0 : Option Addr) (n0 c0 : Nat) {K : Value → WP} {w : World} (h : S37 a0 n0 c0 K w) : Calls Try.prog 37 #[(.slice a0 n0 c0)] w (Ret K) := callsR_of_bodyW mixed Try.func37 (of_decide_eq_true (by kernel_rfl)) (by rw [eq37]; exact h)

/-- shadowbook/super.Check$1 -/
def an38 : Ann := (.seq .nil (.seq .nil .nil))
def S38 (x0 : Int) (a1 : Addr) (K : Value → WP) : WP := 
  splitW (decide (x0 ≥ (2 : Int))) (ldW (.int .i64) ((a1.add 1).add 1) fun (u1 : Int) => K (.bool (decide ((IntKind.wrap .u64 x0) < (IntKind.wrap .u64 u1))))) <| K (.bool false)
theorem eq38 (x0 : Int) (a1 : Addr) (K : Value → WP) : bodyW Try.prog Try.f38 an38 false [(.int .u32 x0), (.pointer (some a1))] K = S38 x0 a1 K := by kernel_rfl
theorem calls38 (x0 : Int) (a1 : Addr) {K : Value → WP} {w : World} (h : S38 x0 a1 K w) : Calls Try.prog 38 #[(.int .u32 x0), (.pointer (some a1))] w (Ret K) := callsR_of_bodyW mixed Try.func38 (of_decide_eq_true (by kernel_rfl)) (by rw [eq38]; exact h)

/-- slices.Contains[[]uint32,uint32] -/
def an39 : Ann := (.seq .nil (.seq .nil .nil))
def S39 (a0 : Option Addr) (n0 c0 : Nat) (x1 : Int) (K : Value → WP) : WP := 
  callW Try.prog 50 [(.slice a0 n0 c0), (.int .u32 x1)] (.one (.one (.int .i64))) fun (u1 : Int) => K (.bool (decide (u1 ≥ (0 : Int))))
theorem eq39 (a0 : Option Addr) (n0 c0 : Nat) (x1 : Int) (K : Value → WP) : bodyW Try.prog Try.f39 an39 false [(.slice a0 n0 c0), (.int .u32 x1)] K = S39 a0 n0 c0 x1 K := by kernel_rfl
theorem calls39 (a0 : Option Addr) (n0 c0 : Nat) (x1 : Int) {K : Value → WP} {w : World} (h : S39 a0 n0 c0 x1 K w) : Calls Try.prog 39 #[(.slice a0 n0 c0), (.int .u32 x1)] w (Ret K) := callsR_of_bodyW mixed Try.func39 (of_decide_eq_true (by kernel_rfl)) (by rw [eq39]; exact h)

/-- shadowbook/shadowbookref04.Kind -/
def an40 : Ann := (.seq .nil (.seq .nil (.seq (.seq .nil (.cond (.seq .nil .nil) .nil)) (.seq .nil .nil))))
def S40 (x0 : ByteArray) (x1 : Int) (K : Value → WP) : WP := 
  newW (.cells #[(.int .u8 (0 : Int)), (.int .u64 (0 : Int)), (.string ByteArray.empty)] 49) fun (r1 : Nat) =>
  callW Try.prog 51 [(.string x0)] (.many [(.agg [(.int .u8), (.int .u64), .str]), (.one (.int .i64))]) fun (u2 : (Int × Int × ByteArray × Unit) × Int × Unit) =>
  newW (.cells #[(.int .u8 (0 : Int)), (.int .u64 (0 : Int)), (.string ByteArray.empty)] 49) fun (r3 : Nat) =>
  guardW ((#[(.int .u8 u2.1.1), (.int .u64 u2.1.2.1), (.string u2.1.2.2.1)] : Array Value).size = 3) <|
  stAW (⟨r3, 0, none⟩ : Addr) [(.int .u8 u2.1.1), (.int .u64 u2.1.2.1), (.string u2.1.2.2.1)] <|
  splitW (u2.2.1 == (0 : Int)) (ldW (.int .u8) (⟨r3, 0, none⟩ : Addr) fun (u4 : Int) =>
  splitW (u4 != x1) (guardW ((#[(.int .u8 (0 : Int)), (.int .u64 (0 : Int)), (.string ByteArray.empty)] : Array Value).size = 3) <|
  stAW (⟨r1, 0, none⟩ : Addr) [(.int .u8 (0 : Int)), (.int .u64 (0 : Int)), (.string ByteArray.empty)] <|
  ldAW [(.int .u8), (.int .u64), .str] (⟨r1, 0, none⟩ : Addr) fun (u5 : (Int × Int × ByteArray × Unit)) => K (.tuple #[(.agg #[(.int .u8 u5.1), (.int .u64 u5.2.1), (.string u5.2.2.1)]), (.int .i64 (11 : Int))])) <|
  ldAW [(.int .u8), (.int .u64), .str] (⟨r3, 0, none⟩ : Addr) fun (u6 : (Int × Int × ByteArray × Unit)) =>
  guardW ((#[(.int .u8 u6.1), (.int .u64 u6.2.1), (.string u6.2.2.1)] : Array Value).size = 3) <|
  stAW (⟨r1, 0, none⟩ : Addr) [(.int .u8 u6.1), (.int .u64 u6.2.1), (.string u6.2.2.1)] <|
  ldAW [(.int .u8), (.int .u64), .str] (⟨r1, 0, none⟩ : Addr) fun (u7 : (Int × Int × ByteArray × Unit)) => K (.tuple #[(.agg #[(.int .u8 u7.1), (.int .u64 u7.2.1), (.string u7.2.2.1)]), (.int .i64 u2.2.1)])) <|
  ldAW [(.int .u8), (.int .u64), .str] (⟨r3, 0, none⟩ : Addr) fun (u8 : (Int × Int × ByteArray × Unit)) =>
  guardW ((#[(.int .u8 u8.1), (.int .u64 u8.2.1), (.string u8.2.2.1)] : Array Value).size = 3) <|
  stAW (⟨r1, 0, none⟩ : Addr) [(.int .u8 u8.1), (.int .u64 u8.2.1), (.string u8.2.2.1)] <|
  ldAW [(.int .u8), (.int .u64), .str] (⟨r1, 0, none⟩ : Addr) fun (u9 : (Int × Int × ByteArray × Unit)) => K (.tuple #[(.agg #[(.int .u8 u9.1), (.int .u64 u9.2.1), (.string u9.2.2.1)]), (.int .i64 u2.2.1)])
theorem eq40 (x0 : ByteArray) (x1 : Int) (K : Value → WP) : bodyW Try.prog Try.f40 an40 false [(.string x0), (.int .u8 x1)] K = S40 x0 x1 K := by kernel_rfl
theorem calls40 (x0 : ByteArray) (x1 : Int) {K : Value → WP} {w : World} (h : S40 x0 x1 K w) : Calls Try.prog 40 #[(.string x0), (.int .u8 x1)] w (Ret K) := callsR_of_bodyW mixed Try.func40 (of_decide_eq_true (by kernel_rfl)) (by rw [eq40]; exact h)

/-- shadowbook/shadowbookref01.Of -/
def an41 : Ann := (.seq .nil (.seq .nil (.seq (.seq .nil (.cond (.seq .nil .nil) .nil)) (.seq (.seq .nil (.block (.loop [(3, .sh (.one (.int .u64))), (4, .sh (.one (.int .i64)))] [0, 1000000] (.seq (.seq .nil (.cond .nil .nil)) (.seq (.block .nil) .nil))))) (.seq .nil .nil)))))
def S41 (a0 : Option Addr) (n0 c0 : Nat) (K : Value → WP) : WP := 
  splitW (decide (((n0 : Nat) : Int) > (8 : Int))) (K (.int .u64 (0 : Int))) <|
  loopW (Int × Int × Unit) ((0 : Int), (0 : Int), ()) fun (y2 : Int × Int × Unit) (I1 : (Int × Int × Unit) → WP) =>
  splitW (decide (y2.2.1 < ((n0 : Nat) : Int))) (guardW (0 ≤ y2.2.1 ∧ y2.2.1 < ((n0 : Nat) : Int)) <|
  ptrW a0 fun (p3 : Addr) =>
  ldW (.int .u8) (p3.add (Int.toNat y2.2.1 * 1)) fun (u4 : Int) =>
  guardW (0 ≤ (IntKind.wrap .u64 (IntKind.wrap .i64 ((8 : Int) * y2.2.1)))) <| I1 ((ior .u64 y2.1 (ishl .u64 (IntKind.wrap .u64 u4) (IntKind.wrap .u64 (IntKind.wrap .i64 ((8 : Int) * y2.2.1))))), (IntKind.wrap .i64 (y2.2.1 + (1 : Int))), ())) <| K (.int .u64 y2.1)
theorem eq41 (a0 : Option Addr) (n0 c0 : Nat) (K : Value → WP) : bodyW Try.prog Try.f41 an41 false [(.slice a0 n0 c0)] K = S41 a0 n0 c0 K := by kernel_rfl
theorem calls41 (a0 : Option Addr) (n0 c0 : Nat) {K : Value → WP} {w : World} (h : S41 a0 n0 c0 K w) : Calls Try.prog 41 #[(.slice a0 n0 c0)] w (Ret K) := callsR_of_bodyW mixed Try.func41 (of_decide_eq_true (by kernel_rfl)) (by rw [eq41]; exact h)

/-- shadowbook/shadowbookref11.page -/
def an42 : Ann := (.seq .nil (.seq .nil .nil))
def S42 (x0_0 : Int) (x0_1 : Int) (x1 : Int) (K : Value → WP) : WP := 
  newW (.cells #[(.int .i64 x0_0), (.int .i64 x0_1)] 24) fun (r1 : Nat) =>
  splitW (decide (x1 ≥ (2 : Int))) (ldW (.int .i64) ((⟨r1, 0, none⟩ : Addr).add 1) fun (u2 : Int) => K (.bool (decide ((IntKind.wrap .u64 x1) < (IntKind.wrap .u64 u2))))) <| K (.bool false)
theorem eq42 (x0_0 : Int) (x0_1 : Int) (x1 : Int) (K : Value → WP) : bodyW Try.prog Try.f42 an42 false [(.agg #[(.int .i64 x0_0), (.int .i64 x0_1)]), (.int .u32 x1)] K = S42 x0_0 x0_1 x1 K := by kernel_rfl
theorem calls42 (x0_0 : Int) (x0_1 : Int) (x1 : Int) {K : Value → WP} {w : World} (h : S42 x0_0 x0_1 x1 K w) : Calls Try.prog 42 #[(.agg #[(.int .i64 x0_0), (.int .i64 x0_1)]), (.int .u32 x1)] w (Ret K) := callsR_of_bodyW mixed Try.func42 (of_decide_eq_true (by kernel_rfl)) (by rw [eq42]; exact h)

/-- shadowbook/crc.Of -/
def an43 : Ann := (.seq .nil (.seq .nil .nil))
def S43 (a0 : Option Addr) (n0 c0 : Nat) (K : Value → WP) : WP := 
  callW Try.prog 53 [] (.one (.arr 256)) fun (u1 : Array Value) =>
  callW Try.prog 52 [(.agg u1), (.slice a0 n0 c0)] (.one (.one (.int .u32))) fun (u2 : Int) => K (.int .u32 u2)
theorem eq43 (a0 : Option Addr) (n0 c0 : Nat) (K : Value → WP) : bodyW Try.prog Try.f43 an43 false [(.slice a0 n0 c0)] K = S43 a0 n0 c0 K := by kernel_rfl
theorem calls43 (a0 : Option Addr) (n0 c0 : Nat) {K : Value → WP} {w : World} (h : S43 a0 n0 c0 K w) : Calls Try.prog 43 #[(.slice a0 n0 c0)] w (Ret K) := callsR_of_bodyW mixed Try.func43 (of_decide_eq_true (by kernel_rfl)) (by rw [eq43]; exact h)

/-- shadowbook/frame.Get -/
def an44 : Ann := (.seq .nil (.seq .nil (.seq (.seq .nil (.cond (.seq .nil .nil) .nil)) (.seq .nil (.seq .nil (.seq (.seq .nil (.cond (.seq .nil .nil) .nil)) (.seq .nil (.seq (.seq .nil (.cond (.seq .nil .nil) .nil)) (.seq .nil (.seq (.seq .nil (.seq .nil (.cond (.seq .nil .nil) .nil))) (.seq .nil .nil)))))))))))
def S44 (x0 : ByteArray) (K : Value → WP) : WP := 
  newW (.cells #[(.int .u8 (0 : Int)), (.int .u64 (0 : Int)), (.string ByteArray.empty)] 49) fun (r1 : Nat) =>
  callW Try.prog 34 [(.int .i64 ((x0.size : Nat) : Int))] (.one (.one (.int .i64))) fun (u2 : Int) =>
  splitW (u2 == (0 : Int)) (ldAW [(.int .u8), (.int .u64), .str] (⟨r1, 0, none⟩ : Addr) fun (u3 : (Int × Int × ByteArray × Unit)) =>
  guardW ((#[(.int .u8 u3.1), (.int .u64 u3.2.1), (.string u3.2.2.1)] : Array Value).size = 3) <|
  stAW (⟨r1, 0, none⟩ : Addr) [(.int .u8 u3.1), (.int .u64 u3.2.1), (.string u3.2.2.1)] <|
  ldAW [(.int .u8), (.int .u64), .str] (⟨r1, 0, none⟩ : Addr) fun (u4 : (Int × Int × ByteArray × Unit)) => K (.tuple #[(.agg #[(.int .u8 u4.1), (.int .u64 u4.2.1), (.string u4.2.2.1)]), (.int .i64 (2 : Int))])) <|
  runW Try.prog (Go.convert 9 35 (.string x0)) .slc fun (u5 : (Option Addr × Nat × Nat)) =>
  drewW <|
  guardW (0 ≤ (IntKind.wrap .i64 (((u5.2.1 : Nat) : Int) - (4 : Int))) ∧ (IntKind.wrap .i64 (((u5.2.1 : Nat) : Int) - (4 : Int))) ≤ ((u5.2.2 : Nat) : Int)) <|
  guardW (0 ≤ (IntKind.wrap .i64 (((u5.2.1 : Nat) : Int) - (4 : Int))) ∧ (IntKind.wrap .i64 (((u5.2.1 : Nat) : Int) - (4 : Int))) ≤ ((u5.2.1 : Nat) : Int)) <|
  callW Try.prog 43 [(.slice (cutAddr u5.1 0 u5.2.2 1) (Int.toNat (IntKind.wrap .i64 (((u5.2.1 : Nat) : Int) - (4 : Int)))) u5.2.2)] (.one (.one (.int .u32))) fun (u6 : Int) =>
  callW Try.prog 47 [(.slice (cutAddr u5.1 (Int.toNat (IntKind.wrap .i64 (((u5.2.1 : Nat) : Int) - (4 : Int)))) u5.2.2 1) (u5.2.1 - (Int.toNat (IntKind.wrap .i64 (((u5.2.1 : Nat) : Int) - (4 : Int))))) (u5.2.2 - (Int.toNat (IntKind.wrap .i64 (((u5.2.1 : Nat) : Int) - (4 : Int))))))] (.one (.one (.int .u64))) fun (u7 : Int) =>
  splitW ((IntKind.wrap .u64 u6) != u7) (ldAW [(.int .u8), (.int .u64), .str] (⟨r1, 0, none⟩ : Addr) fun (u8 : (Int × Int × ByteArray × Unit)) =>
  guardW ((#[(.int .u8 u8.1), (.int .u64 u8.2.1), (.string u8.2.2.1)] : Array Value).size = 3) <|
  stAW (⟨r1, 0, none⟩ : Addr) [(.int .u8 u8.1), (.int .u64 u8.2.1), (.string u8.2.2.1)] <|
  ldAW [(.int .u8), (.int .u64), .str] (⟨r1, 0, none⟩ : Addr) fun (u9 : (Int × Int × ByteArray × Unit)) => K (.tuple #[(.agg #[(.int .u8 u9.1), (.int .u64 u9.2.1), (.string u9.2.2.1)]), (.int .i64 (10 : Int))])) <|
  guardW (0 ≤ (2 : Int) ∧ (2 : Int) ≤ (4 : Int) ∧ (4 : Int) ≤ ((u5.2.2 : Nat) : Int)) <|
  callW Try.prog 47 [(.slice (cutAddr u5.1 (Int.toNat (2 : Int)) u5.2.2 1) ((Int.toNat (4 : Int)) - (Int.toNat (2 : Int))) (u5.2.2 - (Int.toNat (2 : Int))))] (.one (.one (.int .u64))) fun (u10 : Int) =>
  splitW (decide ((IntKind.wrap .i64 u10) > u2)) (ldAW [(.int .u8), (.int .u64), .str] (⟨r1, 0, none⟩ : Addr) fun (u11 : (Int × Int × ByteArray × Unit)) =>
  guardW ((#[(.int .u8 u11.1), (.int .u64 u11.2.1), (.string u11.2.2.1)] : Array Value).size = 3) <|
  stAW (⟨r1, 0, none⟩ : Addr) [(.int .u8 u11.1), (.int .u64 u11.2.1), (.string u11.2.2.1)] <|
  ldAW [(.int .u8), (.int .u64), .str] (⟨r1, 0, none⟩ : Addr) fun (u12 : (Int × Int × ByteArray × Unit)) => K (.tuple #[(.agg #[(.int .u8 u12.1), (.int .u64 u12.2.1), (.string u12.2.2.1)]), (.int .i64 (4 : Int))])) <|
  drewW <|
  guardW (0 ≤ (0 : Int) ∧ (0 : Int) < ((u5.2.1 : Nat) : Int)) <|
  ptrW u5.1 fun (p13 : Addr) =>
  ldW (.int .u8) (p13.add (Int.toNat (0 : Int) * 1)) fun (u14 : Int) =>
  guardW (0 ≤ (4 : Int) ∧ (4 : Int) ≤ (12 : Int) ∧ (12 : Int) ≤ ((u5.2.2 : Nat) : Int)) <|
  guardW (0 ≤ (12 : Int) ∧ (12 : Int) ≤ (IntKind.wrap .i64 ((12 : Int) + (IntKind.wrap .i64 u10))) ∧ (IntKind.wrap .i64 ((12 : Int) + (IntKind.wrap .i64 u10))) ≤ ((x0.size : Nat) : Int)) <|
  callW Try.prog 47 [(.slice (cutAddr u5.1 (Int.toNat (4 : Int)) u5.2.2 1) ((Int.toNat (12 : Int)) - (Int.toNat (4 : Int))) (u5.2.2 - (Int.toNat (4 : Int))))] (.one (.one (.int .u64))) fun (u15 : Int) =>
  heldW [[((p13.add (Int.toNat (0 : Int) * 1)), (.int .u8 u14))]] <|
  guardW ((#[(.int .u8 u14), (.int .u64 u15), (.string (ByteArray.extract x0 (Int.toNat (12 : Int)) (Int.toNat (IntKind.wrap .i64 ((12 : Int) + (IntKind.wrap .i64 u10))))))] : Array Value).size = 3) <|
  stAW (⟨r1, 0, none⟩ : Addr) [(.int .u8 u14), (.int .u64 u15), (.string (ByteArray.extract x0 (Int.toNat (12 : Int)) (Int.toNat (IntKind.wrap .i64 ((12 : Int) + (IntKind.wrap .i64 u10))))))] <|
  ldAW [(.int .u8), (.int .u64), .str] (⟨r1, 0, none⟩ : Addr) fun (u16 : (Int × Int × ByteArray × Unit)) =>
  callW Try.prog 28 [(.int .i64 ((x0.size : Nat) : Int)), (.agg #[(.int .u8 u16.1), (.int .u64 u16.2.1), (.string u16.2.2.1)])] (.many [(.one .str), (.one (.int .i64))]) fun (u17 : ByteArray × Int × Unit) =>
  splitW (u17.2.1 != (0 : Int)) (guardW ((#[(.int .u8 (0 : Int)), (.int .u64 (0 : Int)), (.string ByteArray.empty)] : Array Value).size = 3) <|
  stAW (⟨r1, 0, none⟩ : Addr) [(.int .u8 (0 : Int)), (.int .u64 (0 : Int)), (.string ByteArray.empty)] <|
  ldAW [(.int .u8), (.int .u64), .str] (⟨r1, 0, none⟩ : Addr) fun (u18 : (Int × Int × ByteArray × Unit)) => K (.tuple #[(.agg #[(.int .u8 u18.1), (.int .u64 u18.2.1), (.string u18.2.2.1)]), (.int .i64 (4 : Int))])) <|
  splitW (!(u17.1.toList == x0.toList)) (guardW ((#[(.int .u8 (0 : Int)), (.int .u64 (0 : Int)), (.string ByteArray.empty)] : Array Value).size = 3) <|
  stAW (⟨r1, 0, none⟩ : Addr) [(.int .u8 (0 : Int)), (.int .u64 (0 : Int)), (.string ByteArray.empty)] <|
  ldAW [(.int .u8), (.int .u64), .str] (⟨r1, 0, none⟩ : Addr) fun (u19 : (Int × Int × ByteArray × Unit)) => K (.tuple #[(.agg #[(.int .u8 u19.1), (.int .u64 u19.2.1), (.string u19.2.2.1)]), (.int .i64 (4 : Int))])) <|
  ldAW [(.int .u8), (.int .u64), .str] (⟨r1, 0, none⟩ : Addr) fun (u20 : (Int × Int × ByteArray × Unit)) =>
  guardW ((#[(.int .u8 u20.1), (.int .u64 u20.2.1), (.string u20.2.2.1)] : Array Value).size = 3) <|
  stAW (⟨r1, 0, none⟩ : Addr) [(.int .u8 u20.1), (.int .u64 u20.2.1), (.string u20.2.2.1)] <|
  ldAW [(.int .u8), (.int .u64), .str] (⟨r1, 0, none⟩ : Addr) fun (u21 : (Int × Int × ByteArray × Unit)) => K (.tuple #[(.agg #[(.int .u8 u21.1), (.int .u64 u21.2.1), (.string u21.2.2.1)]), (.int .i64 (0 : Int))])
theorem eq44 (x0 : ByteArray) (K : Value → WP) : bodyW Try.prog Try.f44 an44 false [(.string x0)] K = S44 x0 K := by kernel_rfl
theorem calls44 (x0 : ByteArray) {K : Value → WP} {w : World} (h : S44 x0 K w) : Calls Try.prog 44 #[(.string x0)] w (Ret K) := callsR_of_bodyW mixed Try.func44 (of_decide_eq_true (by kernel_rfl)) (by rw [eq44]; exact h)

/-- slices.Clone[[]byte,byte] -/
def an45 : Ann := (.seq .nil (.seq (.seq .nil (.cond (.seq .nil .nil) .nil)) (.seq .nil .nil)))
def S45 (a0 : Option Addr) (n0 c0 : Nat) (K : Value → WP) : WP := 
  splitW (Option.isNone a0) (K (.slice none 0 0)) <|
  newW (.cells #[] 5) fun (r1 : Nat) =>
  runW Try.prog (Builtin.append_ #[35, 35] 35 #[(.slice (some (⟨r1, 0, none⟩ : Addr)) 0 0), (.slice a0 n0 c0)]) .slc fun (u2 : (Option Addr × Nat × Nat)) => K (.slice u2.1 u2.2.1 u2.2.2)
theorem eq45 (a0 : Option Addr) (n0 c0 : Nat) (K : Value → WP) : bodyW Try.prog Try.f45 an45 false [(.slice a0 n0 c0)] K = S45 a0 n0 c0 K := by kernel_rfl
theorem calls45 (a0 : Option Addr) (n0 c0 : Nat) {K : Value → WP} {w : World} (h : S45 a0 n0 c0 K w) : Calls Try.prog 45 #[(.slice a0 n0 c0)] w (Ret K) := callsR_of_bodyW mixed Try.func45 (of_decide_eq_true (by kernel_rfl)) (by rw [eq45]; exact h)

/-- (*shadowbook/octet.Reader).take -/
def an46 : Ann := (.seq .nil (.seq (.seq .nil (.cond (.seq .nil .nil) .nil)) (.seq .nil (.seq .nil (.seq .nil .nil)))))
def S46 (x0 : Option Addr) (x1 : Int) (K : Value → WP) : WP := 
  ptrW x0 fun (p1 : Addr) =>
  ldW .slc p1 fun (u2 : (Option Addr × Nat × Nat)) =>
  splitW (decide (((u2.2.1 : Nat) : Int) < x1)) (K (.tuple #[(.slice none 0 0), (.int .i64 (7 : Int))])) <|
  ptrW x0 fun (p3 : Addr) =>
  ldW .slc p3 fun (u4 : (Option Addr × Nat × Nat)) =>
  guardW (0 ≤ x1 ∧ x1 ≤ x1 ∧ x1 ≤ ((u4.2.2 : Nat) : Int)) <|
  ptrW x0 fun (p5 : Addr) =>
  ldW .slc p5 fun (u6 : (Option Addr × Nat × Nat)) =>
  guardW (0 ≤ x1 ∧ x1 ≤ ((u6.2.1 : Nat) : Int)) <|
  ptrW x0 fun (p7 : Addr) =>
  stW p7 (.slice (cutAddr u6.1 (Int.toNat x1) u6.2.2 1) (u6.2.1 - (Int.toNat x1)) (u6.2.2 - (Int.toNat x1))) <| K (.tuple #[(.slice (cutAddr u4.1 0 (Int.toNat x1) 1) (Int.toNat x1) (Int.toNat x1)), (.int .i64 (0 : Int))])
theorem eq46 (x0 : Option Addr) (x1 : Int) (K : Value → WP) : bodyW Try.prog Try.f46 an46 false [(.pointer x0), (.int .i64 x1)] K = S46 x0 x1 K := by kernel_rfl
theorem calls46 (x0 : Option Addr) (x1 : Int) {K : Value → WP} {w : World} (h : S46 x0 x1 K w) : Calls Try.prog 46 #[(.pointer x0), (.int .i64 x1)] w (Ret K) := callsR_of_bodyW mixed Try.func46 (of_decide_eq_true (by kernel_rfl)) (by rw [eq46]; exact h)

/-- shadowbook/octet.Of -/
def an47 : Ann := (.seq .nil (.seq (.seq .nil (.cond (.seq .nil .nil) .nil)) (.seq (.seq .nil (.block (.loop [(10, .sh (.one (.int .i64))), (11, .sh (.one (.int .u8)))] [] (.seq .nil (.block .nil))))) (.seq .nil .nil))))
def S47 (a0 : Option Addr) (n0 c0 : Nat) (K : Value → WP) : WP := 
  newW (.cells #[(.int .u64 (0 : Int))] 22) fun (r1 : Nat) =>
  splitW (decide (((n0 : Nat) : Int) > (8 : Int))) (stW (⟨r1, 0, none⟩ : Addr) (.int .u64 (0 : Int)) <|
  leaveW Try.prog [] <|
  ldW (.int .u64) (⟨r1, 0, none⟩ : Addr) fun (u2 : Int) => K (.int .u64 u2)) <|
  callW Try.prog 54 [(.slice a0 n0 c0)] (.one (.one .any)) fun (u3 : Value) =>
  rangeW Try.prog u3 (Int × Int × Unit) (fun (t4 : Int × Int × Unit) => [(.int .i64 t4.1), (.int .u8 t4.2.1)]) (fun (t4 : Int × Int × Unit) (B5 : WP → WP) (N6 : WP) (Q7 : Code → WP) => B5 (ldW (.int .u64) (⟨r1, 0, none⟩ : Addr) fun (u10 : Int) =>
  stW (⟨r1, 0, none⟩ : Addr) (.int .u64 (ior .u64 (ishl .u64 u10 (8 : Int)) (IntKind.wrap .u64 t4.2.1))) <| N6)) fun (r8 : Nat) (p9 : Option Code) =>
  jumpK (ldW (.int .u64) (⟨r1, 0, none⟩ : Addr) fun (u11 : Int) =>
  stW (⟨r1, 0, none⟩ : Addr) (.int .u64 u11) <|
  leaveW Try.prog (⟨.collected r8, #[]⟩ :: []) <|
  ldW (.int .u64) (⟨r1, 0, none⟩ : Addr) fun (u12 : Int) => K (.int .u64 u12)) (leaveW Try.prog (⟨.collected r8, #[]⟩ :: []) <|
  ldW (.int .u64) (⟨r1, 0, none⟩ : Addr) fun (u13 : Int) => K (.int .u64 u13)) [] p9
theorem eq47 (a0 : Option Addr) (n0 c0 : Nat) (K : Value → WP) : bodyW Try.prog Try.f47 an47 true [(.slice a0 n0 c0)] K = S47 a0 n0 c0 K := by kernel_rfl
theorem calls47 (a0 : Option Addr) (n0 c0 : Nat) {K : Value → WP} {w : World} (h : S47 a0 n0 c0 K w) : Calls Try.prog 47 #[(.slice a0 n0 c0)] w (Ret K) := callsR_of_bodyW mixed Try.func47 (of_decide_eq_true (by kernel_rfl)) (by rw [eq47]; exact h)

/-- shadowbook/shadowbookref02.Sum -/
def an48 : Ann := (.seq .nil (.seq .nil .nil))
def S48 (x0 : Array Value) (a1 : Option Addr) (n1 c1 : Nat) (K : Value → WP) : WP := 
  newW (.cells x0 78) fun (r1 : Nat) =>
  ldRW 256 (⟨r1, 0, none⟩ : Addr) fun (u2 : Array Value) =>
  callW Try.prog 55 [(.agg u2), (.int .u32 (4294967295 : Int)), (.slice a1 n1 c1)] (.one (.one (.int .u32))) fun (u3 : Int) => K (.int .u32 (inot .u32 u3))
theorem eq48 (x0 : Array Value) (a1 : Option Addr) (n1 c1 : Nat) (K : Value → WP) : bodyW Try.prog Try.f48 an48 false [(.agg x0), (.slice a1 n1 c1)] K = S48 x0 a1 n1 c1 K := by kernel_rfl
theorem calls48 (x0 : Array Value) (a1 : Option Addr) (n1 c1 : Nat) {K : Value → WP} {w : World} (h : S48 x0 a1 n1 c1 K w) : Calls Try.prog 48 #[(.agg x0), (.slice a1 n1 c1)] w (Ret K) := callsR_of_bodyW mixed Try.func48 (of_decide_eq_true (by kernel_rfl)) (by rw [eq48]; exact h)

/-- shadowbook/shadowbookref02.Table -/
def an49 : Ann := (.seq .nil (.seq .nil (.seq (.seq .nil (.block (.loop [(2, .sh (.one (.int .i64)))] [0, 1, 1000000] (.seq (.seq .nil (.cond .nil .nil)) (.seq (.block (.seq .nil (.seq (.seq .nil (.block (.loop [(3, .sh (.one (.int .u32))), (4, .sh (.one (.int .i64)))] [0, 1, 2, 1000000] (.seq (.seq .nil (.cond .nil .nil)) (.seq (.block (.seq .nil (.cond .nil .nil))) .nil))))) .nil))) .nil))))) (.seq .nil .nil))))
def S49  (K : Value → WP) : WP := 
  newW (.cells (zeroC Try.prog 78) 78) fun (r1 : Nat) =>
  newW (.cells (zeroC Try.prog 78) 78) fun (r2 : Nat) =>
  loopW (Int × Unit) ((0 : Int), ()) fun (y4 : Int × Unit) (I3 : (Int × Unit) → WP) =>
  splitW (decide (y4.1 < (256 : Int))) (loopW (Int × Int × Unit) ((IntKind.wrap .u32 y4.1), (0 : Int), ()) fun (y6 : Int × Int × Unit) (I5 : (Int × Int × Unit) → WP) =>
  splitW (decide (y6.2.1 < (8 : Int))) (splitW ((Int.tmod y6.1 (2 : Int)) == (1 : Int)) (I5 ((ixor .u32 (ishr .u32 y6.1 (1 : Int)) (2197175160 : Int)), (IntKind.wrap .i64 (y6.2.1 + (1 : Int))), ())) <| I5 ((ishr .u32 y6.1 (1 : Int)), (IntKind.wrap .i64 (y6.2.1 + (1 : Int))), ())) <|
  guardW (0 ≤ y4.1 ∧ y4.1 < ((256 : Nat) : Int)) <|
  stW ((⟨r2, 0, none⟩ : Addr).add (Int.toNat y4.1 * 1)) (.int .u32 y6.1) <| I3 ((IntKind.wrap .i64 (y4.1 + (1 : Int))), ())) <|
  ldRW 256 (⟨r2, 0, none⟩ : Addr) fun (u7 : Array Value) =>
  guardW (u7.size = 256) <|
  stAW (⟨r1, 0, none⟩ : Addr) u7.toList <|
  ldRW 256 (⟨r1, 0, none⟩ : Addr) fun (u8 : Array Value) => K (.agg u8)
theorem eq49  (K : Value → WP) : bodyW Try.prog Try.f49 an49 false [] K = S49  K := by kernel_rfl
theorem calls49  {K : Value → WP} {w : World} (h : S49  K w) : Calls Try.prog 49 #[] w (Ret K) := callsR_of_bodyW mixed Try.func49 (of_decide_eq_true (by kernel_rfl)) (by rw [eq49]; exact h)

/-- slices.Index[[]uint32,uint32] -/
def an50 : Ann := (.seq .nil (.seq (.seq .nil (.block (.loop [(8, .sh (.one (.int .i64)))] [0, 1, 7, 1000000] (.seq .nil (.seq (.cond .nil .nil) (.seq (.block (.seq .nil (.seq .nil (.cond (.seq .nil .nil) .nil)))) .nil)))))) (.seq .nil .nil)))
def S50 (a0 : Option Addr) (n0 c0 : Nat) (x1 : Int) (K : Value → WP) : WP := 
  loopW (Int × Unit) ((0 : Int), ()) fun (y2 : Int × Unit) (I1 : (Int × Unit) → WP) =>
  splitW (decide (y2.1 < ((n0 : Nat) : Int))) (guardW (0 ≤ y2.1 ∧ y2.1 < ((n0 : Nat) : Int)) <|
  ptrW a0 fun (p3 : Addr) =>
  ldW (.int .u32) (p3.add (Int.toNat y2.1 * 1)) fun (u4 : Int) =>
  splitW (x1 == u4) (K (.int .i64 y2.1)) <| I1 ((IntKind.wrap .i64 (y2.1 + (1 : Int))), ())) <| K (.int .i64 (-1 : Int))
theorem eq50 (a0 : Option Addr) (n0 c0 : Nat) (x1 : Int) (K : Value → WP) : bodyW Try.prog Try.f50 an50 false [(.slice a0 n0 c0), (.int .u32 x1)] K = S50 a0 n0 c0 x1 K := by kernel_rfl
theorem calls50 (a0 : Option Addr) (n0 c0 : Nat) (x1 : Int) {K : Value → WP} {w : World} (h : S50 a0 n0 c0 x1 K w) : Calls Try.prog 50 #[(.slice a0 n0 c0), (.int .u32 x1)] w (Ret K) := callsR_of_bodyW mixed Try.func50 (of_decide_eq_true (by kernel_rfl)) (by rw [eq50]; exact h)

/-- shadowbook/shadowbookref04.Get -/
def an51 : Ann := (.seq .nil (.seq (.seq .nil (.cond (.seq .nil .nil) .nil)) (.seq .nil (.seq .nil (.seq (.seq .nil (.cond (.seq .nil .nil) .nil)) (.seq .nil (.seq (.seq .nil (.cond (.seq .nil .nil) .nil)) (.seq .nil (.seq .nil (.seq (.seq .nil (.cond (.seq .nil .nil) .nil)) (.seq .nil .nil)))))))))))
def S51 (x0 : ByteArray) (K : Value → WP) : WP := 
  newW (.cells #[(.int .u8 (0 : Int)), (.int .u64 (0 : Int)), (.string ByteArray.empty)] 49) fun (r1 : Nat) =>
  callW Try.prog 13 [(.int .i64 ((x0.size : Nat) : Int))] (.one (.one (.int .i64))) fun (u2 : Int) =>
  splitW (u2 == (0 : Int)) (guardW ((#[(.int .u8 (0 : Int)), (.int .u64 (0 : Int)), (.string ByteArray.empty)] : Array Value).size = 3) <|
  stAW (⟨r1, 0, none⟩ : Addr) [(.int .u8 (0 : Int)), (.int .u64 (0 : Int)), (.string ByteArray.empty)] <|
  ldAW [(.int .u8), (.int .u64), .str] (⟨r1, 0, none⟩ : Addr) fun (u3 : (Int × Int × ByteArray × Unit)) => K (.tuple #[(.agg #[(.int .u8 u3.1), (.int .u64 u3.2.1), (.string u3.2.2.1)]), (.int .i64 (2 : Int))])) <|
  runW Try.prog (Go.convert 9 35 (.string x0)) .slc fun (u4 : (Option Addr × Nat × Nat)) =>
  drewW <|
  guardW (0 ≤ (IntKind.wrap .i64 (((u4.2.1 : Nat) : Int) - (4 : Int))) ∧ (IntKind.wrap .i64 (((u4.2.1 : Nat) : Int) - (4 : Int))) ≤ ((u4.2.2 : Nat) : Int)) <|
  guardW (0 ≤ (IntKind.wrap .i64 (((u4.2.1 : Nat) : Int) - (4 : Int))) ∧ (IntKind.wrap .i64 (((u4.2.1 : Nat) : Int) - (4 : Int))) ≤ ((u4.2.1 : Nat) : Int)) <|
  callW Try.prog 37 [(.slice (cutAddr u4.1 0 u4.2.2 1) (Int.toNat (IntKind.wrap .i64 (((u4.2.1 : Nat) : Int) - (4 : Int)))) u4.2.2)] (.one (.one (.int .u32))) fun (u5 : Int) =>
  callW Try.prog 41 [(.slice (cutAddr u4.1 (Int.toNat (IntKind.wrap .i64 (((u4.2.1 : Nat) : Int) - (4 : Int)))) u4.2.2 1) (u4.2.1 - (Int.toNat (IntKind.wrap .i64 (((u4.2.1 : Nat) : Int) - (4 : Int))))) (u4.2.2 - (Int.toNat (IntKind.wrap .i64 (((u4.2.1 : Nat) : Int) - (4 : Int))))))] (.one (.one (.int .u64))) fun (u6 : Int) =>
  splitW ((IntKind.wrap .u64 u5) != u6) (guardW ((#[(.int .u8 (0 : Int)), (.int .u64 (0 : Int)), (.string ByteArray.empty)] : Array Value).size = 3) <|
  stAW (⟨r1, 0, none⟩ : Addr) [(.int .u8 (0 : Int)), (.int .u64 (0 : Int)), (.string ByteArray.empty)] <|
  ldAW [(.int .u8), (.int .u64), .str] (⟨r1, 0, none⟩ : Addr) fun (u7 : (Int × Int × ByteArray × Unit)) => K (.tuple #[(.agg #[(.int .u8 u7.1), (.int .u64 u7.2.1), (.string u7.2.2.1)]), (.int .i64 (10 : Int))])) <|
  guardW (0 ≤ (2 : Int) ∧ (2 : Int) ≤ (4 : Int) ∧ (4 : Int) ≤ ((u4.2.2 : Nat) : Int)) <|
  callW Try.prog 41 [(.slice (cutAddr u4.1 (Int.toNat (2 : Int)) u4.2.2 1) ((Int.toNat (4 : Int)) - (Int.toNat (2 : Int))) (u4.2.2 - (Int.toNat (2 : Int))))] (.one (.one (.int .u64))) fun (u8 : Int) =>
  callW Try.prog 13 [(.int .i64 ((u4.2.1 : Nat) : Int))] (.one (.one (.int .i64))) fun (u9 : Int) =>
  splitW (decide ((IntKind.wrap .i64 u8) > u9)) (guardW ((#[(.int .u8 (0 : Int)), (.int .u64 (0 : Int)), (.string ByteArray.empty)] : Array Value).size = 3) <|
  stAW (⟨r1, 0, none⟩ : Addr) [(.int .u8 (0 : Int)), (.int .u64 (0 : Int)), (.string ByteArray.empty)] <|
  ldAW [(.int .u8), (.int .u64), .str] (⟨r1, 0, none⟩ : Addr) fun (u10 : (Int × Int × ByteArray × Unit)) => K (.tuple #[(.agg #[(.int .u8 u10.1), (.int .u64 u10.2.1), (.string u10.2.2.1)]), (.int .i64 (4 : Int))])) <|
  drewW <|
  guardW (0 ≤ (0 : Int) ∧ (0 : Int) < ((u4.2.1 : Nat) : Int)) <|
  ptrW u4.1 fun (p11 : Addr) =>
  ldW (.int .u8) (p11.add (Int.toNat (0 : Int) * 1)) fun (u12 : Int) =>
  guardW (0 ≤ (4 : Int) ∧ (4 : Int) ≤ (12 : Int) ∧ (12 : Int) ≤ ((u4.2.2 : Nat) : Int)) <|
  guardW (0 ≤ (12 : Int) ∧ (12 : Int) ≤ (IntKind.wrap .i64 ((12 : Int) + (IntKind.wrap .i64 u8))) ∧ (IntKind.wrap .i64 ((12 : Int) + (IntKind.wrap .i64 u8))) ≤ ((x0.size : Nat) : Int)) <|
  bothW (callW Try.prog 41 [(.slice (cutAddr u4.1 (Int.toNat (4 : Int)) u4.2.2 1) ((Int.toNat (12 : Int)) - (Int.toNat (4 : Int))) (u4.2.2 - (Int.toNat (4 : Int))))] (.one (.one (.int .u64))) fun (u13 : Int) =>
  heldW [[((p11.add (Int.toNat (0 : Int) * 1)), (.int .u8 u12))]] <|
  newW (.cells #[(.int .u8 (0 : Int)), (.int .u64 (0 : Int)), (.string ByteArray.empty)] 49) fun (r14 : Nat) =>
  heldW [[((p11.add (Int.toNat (0 : Int) * 1)), (.int .u8 u12))]] <|
  guardW ((#[(.int .u8 u12), (.int .u64 u13), (.string (ByteArray.extract x0 (Int.toNat (12 : Int)) (Int.toNat (IntKind.wrap .i64 ((12 : Int) + (IntKind.wrap .i64 u8))))))] : Array Value).size = 3) <|
  stAW (⟨r14, 0, none⟩ : Addr) [(.int .u8 u12), (.int .u64 u13), (.string (ByteArray.extract x0 (Int.toNat (12 : Int)) (Int.toNat (IntKind.wrap .i64 ((12 : Int) + (IntKind.wrap .i64 u8))))))] <|
  ldAW [(.int .u8), (.int .u64), .str] (⟨r14, 0, none⟩ : Addr) fun (u15 : (Int × Int × ByteArray × Unit)) =>
  callW Try.prog 18 [(.int .i64 ((u4.2.1 : Nat) : Int)), (.agg #[(.int .u8 u15.1), (.int .u64 u15.2.1), (.string u15.2.2.1)])] (.many [(.one .str), (.one (.int .i64))]) fun (u16 : ByteArray × Int × Unit) =>
  splitW (u16.2.1 != (0 : Int)) (guardW ((#[(.int .u8 (0 : Int)), (.int .u64 (0 : Int)), (.string ByteArray.empty)] : Array Value).size = 3) <|
  stAW (⟨r1, 0, none⟩ : Addr) [(.int .u8 (0 : Int)), (.int .u64 (0 : Int)), (.string ByteArray.empty)] <|
  ldAW [(.int .u8), (.int .u64), .str] (⟨r1, 0, none⟩ : Addr) fun (u17 : (Int × Int × ByteArray × Unit)) => K (.tuple #[(.agg #[(.int .u8 u17.1), (.int .u64 u17.2.1), (.string u17.2.2.1)]), (.int .i64 (4 : Int))])) <|
  splitW (!(u16.1.toList == x0.toList)) (guardW ((#[(.int .u8 (0 : Int)), (.int .u64 (0 : Int)), (.string ByteArray.empty)] : Array Value).size = 3) <|
  stAW (⟨r1, 0, none⟩ : Addr) [(.int .u8 (0 : Int)), (.int .u64 (0 : Int)), (.string ByteArray.empty)] <|
  ldAW [(.int .u8), (.int .u64), .str] (⟨r1, 0, none⟩ : Addr) fun (u18 : (Int × Int × ByteArray × Unit)) => K (.tuple #[(.agg #[(.int .u8 u18.1), (.int .u64 u18.2.1), (.string u18.2.2.1)]), (.int .i64 (4 : Int))])) <|
  ldAW [(.int .u8), (.int .u64), .str] (⟨r14, 0, none⟩ : Addr) fun (u19 : (Int × Int × ByteArray × Unit)) =>
  guardW ((#[(.int .u8 u19.1), (.int .u64 u19.2.1), (.string u19.2.2.1)] : Array Value).size = 3) <|
  stAW (⟨r1, 0, none⟩ : Addr) [(.int .u8 u19.1), (.int .u64 u19.2.1), (.string u19.2.2.1)] <|
  ldAW [(.int .u8), (.int .u64), .str] (⟨r1, 0, none⟩ : Addr) fun (u20 : (Int × Int × ByteArray × Unit)) => K (.tuple #[(.agg #[(.int .u8 u20.1), (.int .u64 u20.2.1), (.string u20.2.2.1)]), (.int .i64 (0 : Int))])) <|
  newW (.cells #[(.int .u8 (0 : Int)), (.int .u64 (0 : Int)), (.string ByteArray.empty)] 49) fun (r21 : Nat) =>
  heldW [[((p11.add (Int.toNat (0 : Int) * 1)), (.int .u8 u12))]] <|
  callW Try.prog 41 [(.slice (cutAddr u4.1 (Int.toNat (4 : Int)) u4.2.2 1) ((Int.toNat (12 : Int)) - (Int.toNat (4 : Int))) (u4.2.2 - (Int.toNat (4 : Int))))] (.one (.one (.int .u64))) fun (u22 : Int) =>
  heldW [[((p11.add (Int.toNat (0 : Int) * 1)), (.int .u8 u12))]] <|
  guardW ((#[(.int .u8 u12), (.int .u64 u22), (.string (ByteArray.extract x0 (Int.toNat (12 : Int)) (Int.toNat (IntKind.wrap .i64 ((12 : Int) + (IntKind.wrap .i64 u8))))))] : Array Value).size = 3) <|
  stAW (⟨r21, 0, none⟩ : Addr) [(.int .u8 u12), (.int .u64 u22), (.string (ByteArray.extract x0 (Int.toNat (12 : Int)) (Int.toNat (IntKind.wrap .i64 ((12 : Int) + (IntKind.wrap .i64 u8))))))] <|
  ldAW [(.int .u8), (.int .u64), .str] (⟨r21, 0, none⟩ : Addr) fun (u23 : (Int × Int × ByteArray × Unit)) =>
  callW Try.prog 18 [(.int .i64 ((u4.2.1 : Nat) : Int)), (.agg #[(.int .u8 u23.1), (.int .u64 u23.2.1), (.string u23.2.2.1)])] (.many [(.one .str), (.one (.int .i64))]) fun (u24 : ByteArray × Int × Unit) =>
  splitW (u24.2.1 != (0 : Int)) (guardW ((#[(.int .u8 (0 : Int)), (.int .u64 (0 : Int)), (.string ByteArray.empty)] : Array Value).size = 3) <|
  stAW (⟨r1, 0, none⟩ : Addr) [(.int .u8 (0 : Int)), (.int .u64 (0 : Int)), (.string ByteArray.empty)] <|
  ldAW [(.int .u8), (.int .u64), .str] (⟨r1, 0, none⟩ : Addr) fun (u25 : (Int × Int × ByteArray × Unit)) => K (.tuple #[(.agg #[(.int .u8 u25.1), (.int .u64 u25.2.1), (.string u25.2.2.1)]), (.int .i64 (4 : Int))])) <|
  splitW (!(u24.1.toList == x0.toList)) (guardW ((#[(.int .u8 (0 : Int)), (.int .u64 (0 : Int)), (.string ByteArray.empty)] : Array Value).size = 3) <|
  stAW (⟨r1, 0, none⟩ : Addr) [(.int .u8 (0 : Int)), (.int .u64 (0 : Int)), (.string ByteArray.empty)] <|
  ldAW [(.int .u8), (.int .u64), .str] (⟨r1, 0, none⟩ : Addr) fun (u26 : (Int × Int × ByteArray × Unit)) => K (.tuple #[(.agg #[(.int .u8 u26.1), (.int .u64 u26.2.1), (.string u26.2.2.1)]), (.int .i64 (4 : Int))])) <|
  ldAW [(.int .u8), (.int .u64), .str] (⟨r21, 0, none⟩ : Addr) fun (u27 : (Int × Int × ByteArray × Unit)) =>
  guardW ((#[(.int .u8 u27.1), (.int .u64 u27.2.1), (.string u27.2.2.1)] : Array Value).size = 3) <|
  stAW (⟨r1, 0, none⟩ : Addr) [(.int .u8 u27.1), (.int .u64 u27.2.1), (.string u27.2.2.1)] <|
  ldAW [(.int .u8), (.int .u64), .str] (⟨r1, 0, none⟩ : Addr) fun (u28 : (Int × Int × ByteArray × Unit)) => K (.tuple #[(.agg #[(.int .u8 u28.1), (.int .u64 u28.2.1), (.string u28.2.2.1)]), (.int .i64 (0 : Int))])
theorem eq51 (x0 : ByteArray) (K : Value → WP) : bodyW Try.prog Try.f51 an51 false [(.string x0)] K = S51 x0 K := by kernel_rfl
theorem calls51 (x0 : ByteArray) {K : Value → WP} {w : World} (h : S51 x0 K w) : Calls Try.prog 51 #[(.string x0)] w (Ret K) := callsR_of_bodyW mixed Try.func51 (of_decide_eq_true (by kernel_rfl)) (by rw [eq51]; exact h)

/-- shadowbook/crc.Sum -/
def an52 : Ann := (.seq .nil (.seq .nil .nil))
def S52 (x0 : Array Value) (a1 : Option Addr) (n1 c1 : Nat) (K : Value → WP) : WP := 
  newW (.cells x0 78) fun (r1 : Nat) =>
  ldRW 256 (⟨r1, 0, none⟩ : Addr) fun (u2 : Array Value) =>
  callW Try.prog 56 [(.agg u2), (.int .u32 (4294967295 : Int)), (.slice a1 n1 c1)] (.one (.one (.int .u32))) fun (u3 : Int) => K (.int .u32 (inot .u32 u3))
theorem eq52 (x0 : Array Value) (a1 : Option Addr) (n1 c1 : Nat) (K : Value → WP) : bodyW Try.prog Try.f52 an52 false [(.agg x0), (.slice a1 n1 c1)] K = S52 x0 a1 n1 c1 K := by kernel_rfl
theorem calls52 (x0 : Array Value) (a1 : Option Addr) (n1 c1 : Nat) {K : Value → WP} {w : World} (h : S52 x0 a1 n1 c1 K w) : Calls Try.prog 52 #[(.agg x0), (.slice a1 n1 c1)] w (Ret K) := callsR_of_bodyW mixed Try.func52 (of_decide_eq_true (by kernel_rfl)) (by rw [eq52]; exact h)

/-- shadowbook/crc.Table -/
def an53 : Ann := (.seq .nil (.seq (.seq .nil (.block (.loop [(3, .sh (.one (.int .i64)))] [0, 1000000] (.seq .nil (.seq (.cond .nil .nil) (.seq (.block (.seq .nil (.seq .nil (.seq (.seq .nil (.block (.loop [(2, .sh (.one (.int .u32))), (8, .sh (.one (.int .i64)))] [0, 1, 3, 1000000] (.seq .nil (.seq (.cond .nil .nil) (.seq (.block .nil) .nil)))))) .nil)))) .nil)))))) (.seq .nil .nil)))
def S53  (K : Value → WP) : WP := 
  newW (.cells (zeroC Try.prog 78) 78) fun (r1 : Nat) =>
  loopW (Int × Unit) ((0 : Int), ()) fun (y3 : Int × Unit) (I2 : (Int × Unit) → WP) =>
  splitW (decide (y3.1 < (256 : Int))) (loopW (Int × Int × Unit) ((IntKind.wrap .u32 y3.1), (0 : Int), ()) fun (y5 : Int × Int × Unit) (I4 : (Int × Int × Unit) → WP) =>
  splitW (decide (y5.2.1 < (8 : Int))) (I4 ((ixor .u32 (ishr .u32 y5.1 (1 : Int)) (IntKind.wrap .u32 ((2197175160 : Int) * (iand .u32 y5.1 (1 : Int))))), (IntKind.wrap .i64 (y5.2.1 + (1 : Int))), ())) <|
  guardW (0 ≤ y3.1 ∧ y3.1 < ((256 : Nat) : Int)) <|
  stW ((⟨r1, 0, none⟩ : Addr).add (Int.toNat y3.1 * 1)) (.int .u32 y5.1) <| I2 ((IntKind.wrap .i64 (y3.1 + (1 : Int))), ())) <|
  ldRW 256 (⟨r1, 0, none⟩ : Addr) fun (u6 : Array Value) =>
  guardW (u6.size = 256) <|
  stAW (⟨r1, 0, none⟩ : Addr) u6.toList <|
  ldRW 256 (⟨r1, 0, none⟩ : Addr) fun (u7 : Array Value) => K (.agg u7)
theorem eq53  (K : Value → WP) : bodyW Try.prog Try.f53 an53 false [] K = S53  K := by kernel_rfl
theorem calls53  {K : Value → WP} {w : World} (h : S53  K w) : Calls Try.prog 53 #[] w (Ret K) := callsR_of_bodyW mixed Try.func53 (of_decide_eq_true (by kernel_rfl)) (by rw [eq53]; exact h)

/-- slices.Backward[[]byte,byte] -/
def an54 : Ann := (.seq .nil (.seq .nil .nil))
def S54 (a0 : Option Addr) (n0 c0 : Nat) (K : Value → WP) : WP := 
  newW (.cells #[(.slice a0 n0 c0)] 35) fun (r1 : Nat) => K (.func (.func 57) #[] #[(.pointer (some (⟨r1, 0, none⟩ : Addr)))])
theorem eq54 (a0 : Option Addr) (n0 c0 : Nat) (K : Value → WP) : bodyW Try.prog Try.f54 an54 false [(.slice a0 n0 c0)] K = S54 a0 n0 c0 K := by kernel_rfl
theorem calls54 (a0 : Option Addr) (n0 c0 : Nat) {K : Value → WP} {w : World} (h : S54 a0 n0 c0 K w) : Calls Try.prog 54 #[(.slice a0 n0 c0)] w (Ret K) := callsR_of_bodyW mixed Try.func54 (of_decide_eq_true (by kernel_rfl)) (by rw [eq54]; exact h)

/-- shadowbook/shadowbookref02.Update -/
def an55 : Ann := (.seq .nil (.seq (.seq .nil (.block (.loop [(1, .sh (.one (.int .u32))), (7, .sh (.one (.int .i64)))] [2, 3, 1000000] (.seq (.seq .nil (.cond .nil .nil)) (.seq (.block .nil) .nil))))) (.seq .nil .nil)))
def S55 (x0 : Array Value) (x1 : Int) (a2 : Option Addr) (n2 c2 : Nat) (K : Value → WP) : WP := 
  newW (.cells x0 78) fun (r1 : Nat) =>
  loopW (Int × Int × Unit) (x1, (0 : Int), ()) fun (y3 : Int × Int × Unit) (I2 : (Int × Int × Unit) → WP) =>
  splitW (decide (y3.2.1 < ((n2 : Nat) : Int))) (guardW (0 ≤ y3.2.1 ∧ y3.2.1 < ((n2 : Nat) : Int)) <|
  ptrW a2 fun (p4 : Addr) =>
  ldW (.int .u8) (p4.add (Int.toNat y3.2.1 * 1)) fun (u5 : Int) =>
  guardW (0 ≤ (ixor .u8 (IntKind.wrap .u8 y3.1) u5) ∧ (ixor .u8 (IntKind.wrap .u8 y3.1) u5) < ((256 : Nat) : Int)) <|
  ldW (.int .u32) ((⟨r1, 0, none⟩ : Addr).add (Int.toNat (ixor .u8 (IntKind.wrap .u8 y3.1) u5) * 1)) fun (u6 : Int) => I2 ((ixor .u32 (ishr .u32 y3.1 (8 : Int)) u6), (IntKind.wrap .i64 (y3.2.1 + (1 : Int))), ())) <| K (.int .u32 y3.1)
theorem eq55 (x0 : Array Value) (x1 : Int) (a2 : Option Addr) (n2 c2 : Nat) (K : Value → WP) : bodyW Try.prog Try.f55 an55 false [(.agg x0), (.int .u32 x1), (.slice a2 n2 c2)] K = S55 x0 x1 a2 n2 c2 K := by kernel_rfl
theorem calls55 (x0 : Array Value) (x1 : Int) (a2 : Option Addr) (n2 c2 : Nat) {K : Value → WP} {w : World} (h : S55 x0 x1 a2 n2 c2 K w) : Calls Try.prog 55 #[(.agg x0), (.int .u32 x1), (.slice a2 n2 c2)] w (Ret K) := callsR_of_bodyW mixed Try.func55 (of_decide_eq_true (by kernel_rfl)) (by rw [eq55]; exact h)

/-- shadowbook/crc.Update -/
def an56 : Ann := (.seq .nil (.seq (.seq .nil (.block (.loop [(1, .sh (.one (.int .u32))), (11, .sh (.one (.int .i64)))] [3, 9, 10, 1000000] (.seq .nil (.seq (.cond .nil .nil) (.seq (.block (.seq .nil .nil)) .nil)))))) (.seq .nil .nil)))
def S56 (x0 : Array Value) (x1 : Int) (a2 : Option Addr) (n2 c2 : Nat) (K : Value → WP) : WP := 
  newW (.cells x0 78) fun (r1 : Nat) =>
  loopW (Int × Int × Unit) (x1, (0 : Int), ()) fun (y3 : Int × Int × Unit) (I2 : (Int × Int × Unit) → WP) =>
  splitW (decide (y3.2.1 < ((n2 : Nat) : Int))) (guardW (0 ≤ y3.2.1 ∧ y3.2.1 < ((n2 : Nat) : Int)) <|
  ptrW a2 fun (p4 : Addr) =>
  ldW (.int .u8) (p4.add (Int.toNat y3.2.1 * 1)) fun (u5 : Int) =>
  guardW (0 ≤ (ixor .u8 (IntKind.wrap .u8 y3.1) u5) ∧ (ixor .u8 (IntKind.wrap .u8 y3.1) u5) < ((256 : Nat) : Int)) <|
  ldW (.int .u32) ((⟨r1, 0, none⟩ : Addr).add (Int.toNat (ixor .u8 (IntKind.wrap .u8 y3.1) u5) * 1)) fun (u6 : Int) => I2 ((ixor .u32 (ishr .u32 y3.1 (8 : Int)) u6), (IntKind.wrap .i64 (y3.2.1 + (1 : Int))), ())) <| K (.int .u32 y3.1)
theorem eq56 (x0 : Array Value) (x1 : Int) (a2 : Option Addr) (n2 c2 : Nat) (K : Value → WP) : bodyW Try.prog Try.f56 an56 false [(.agg x0), (.int .u32 x1), (.slice a2 n2 c2)] K = S56 x0 x1 a2 n2 c2 K := by kernel_rfl
theorem calls56 (x0 : Array Value) (x1 : Int) (a2 : Option Addr) (n2 c2 : Nat) {K : Value → WP} {w : World} (h : S56 x0 x1 a2 n2 c2 K w) : Calls Try.prog 56 #[(.agg x0), (.int .u32 x1), (.slice a2 n2 c2)] w (Ret K) := callsR_of_bodyW mixed Try.func56 (of_decide_eq_true (by kernel_rfl)) (by rw [eq56]; exact h)

/-- slices.Backward[[]byte,byte]$1 -/
def an57 : Ann := (.seq .nil (.block (.loop [(3, .sh (.one (.int .i64)))] [0, 1, 1000000] (.seq (.seq .nil (.cond .nil .nil)) (.seq (.block (.seq .nil (.cond .nil .nil))) .nil)))))
def S57 (x0 : Value) (a1 : Addr) (K : Value → WP) : WP := 
  ldW .slc a1 fun (u1 : (Option Addr × Nat × Nat)) =>
  loopW (Int × Unit) ((IntKind.wrap .i64 (((u1.2.1 : Nat) : Int) - (1 : Int))), ()) fun (y3 : Int × Unit) (I2 : (Int × Unit) → WP) =>
  splitW (decide (y3.1 ≥ (0 : Int))) (ldW .slc a1 fun (u4 : (Option Addr × Nat × Nat)) =>
  guardW (0 ≤ y3.1 ∧ y3.1 < ((u4.2.1 : Nat) : Int)) <|
  ptrW u4.1 fun (p5 : Addr) =>
  ldW (.int .u8) (p5.add (Int.toNat y3.1 * 1)) fun (u6 : Int) =>
  callVW Try.prog x0 [(.int .i64 y3.1), (.int .u8 u6)] (.one (.one .bool)) fun (u7 : Bool) =>
  splitW (!u7) (K (.tuple #[])) <| I2 ((IntKind.wrap .i64 (y3.1 - (1 : Int))), ())) <| K (.tuple #[])
theorem eq57 (x0 : Value) (a1 : Addr) (K : Value → WP) : bodyW Try.prog Try.f57 an57 false [x0, (.pointer (some a1))] K = S57 x0 a1 K := by kernel_rfl
theorem calls57 (x0 : Value) (a1 : Addr) {K : Value → WP} {w : World} (h : S57 x0 a1 K w) : Calls Try.prog 57 #[x0, (.pointer (some a1))] w (Ret K) := callsR_of_bodyW mixed Try.func57 (of_decide_eq_true (by kernel_rfl)) (by rw [eq57]; exact h)

end Go.Proofs.Ytiiemgndnpflbaa.V
