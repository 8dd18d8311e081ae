/- The shallow forms of the functions, by a program of mine (wip/tool/gen.py). -/
import Derived.Test.YtlpgfcfkjkmiiaaVE
import Derived.Test.YtlpgfcfkjkmiiaaChecked
set_option linter.unusedVariables false
set_option maxRecDepth 100000
namespace Go.Proofs.Ytlpgfcfkjkmiiaa.V
open Go Go.Proofs
theorem mixed : Try.prog.follows .mixedOrders = true := by kernel_rfl

/-- shadowbook/shadowbooklaw04.FrameBack -/
def an3 : Ann := (.seq .nil (.seq (.seq .nil (.cond (.seq .nil .nil) .nil)) (.seq (.seq .nil (.cond (.seq .nil .nil) .nil)) (.seq .nil (.join [] [2, 1000000] (.seq .nil (.cond (.seq .nil (.seq .nil (.cond (.seq .nil .nil) .nil))) .nil)) (.seq .nil (.seq (.seq .nil (.cond (.seq .nil .nil) .nil)) (.seq .nil (.seq .nil .nil)))))))))
def S3 (x0 : Int) (x1_0 : Int) (x1_1 : Int) (x1_2 : ByteArray) (x2 : ByteArray) (K : Value → WP) : WP := 
  newW (.cells #[(.int .u8 x1_0), (.int .u64 x1_1), (.string x1_2)] 24) fun (r1 : Nat) =>
  callW Try.prog 8 [] (.one (.one .bool)) fun (u2 : Bool) =>
  splitW (!u2) (K (.bool false)) <|
  ldW .str ((⟨r1, 0, none⟩ : Addr).add 2) fun (u3 : ByteArray) =>
  splitW (decide (((u3.size : Nat) : Int) > (4200 : Int))) (K (.bool true)) <|
  splitW (decide (((x2.size : Nat) : Int) > (600 : Int))) (K (.bool true)) <|
  ldAW [(.int .u8), (.int .u64), .str] (⟨r1, 0, none⟩ : Addr) fun (u4 : (Int × Int × ByteArray × Unit)) =>
  callW Try.prog 9 [(.int .i64 x0), (.agg #[(.int .u8 u4.1), (.int .u64 u4.2.1), (.string u4.2.2.1)])] (.many [(.one .str), (.one (.int .i64))]) fun (u5 : ByteArray × Int × Unit) =>
  joinW (Unit) (fun (J6 : (Unit) → WP) =>
  splitW (u5.2.1 == (0 : Int)) (callW Try.prog 10 [(.string u5.1)] (.many [(.agg [(.int .u8), (.int .u64), .str]), (.one (.int .i64))]) fun (u8 : (Int × Int × ByteArray × Unit) × Int × Unit) =>
  newW (.cells #[(.int .u8 (0 : Int)), (.int .u64 (0 : Int)), (.string ByteArray.empty)] 24) fun (r9 : Nat) =>
  guardW ((#[(.int .u8 u8.1.1), (.int .u64 u8.1.2.1), (.string u8.1.2.2.1)] : Array Value).size = 3) <|
  stAW (⟨r9, 0, none⟩ : Addr) [(.int .u8 u8.1.1), (.int .u64 u8.1.2.1), (.string u8.1.2.2.1)] <|
  drewW <|
  splitW (u8.2.1 != (0 : Int)) (K (.bool false)) <|
  ldAW [(.int .u8), (.int .u64), .str] (⟨r9, 0, none⟩ : Addr) fun (u10 : (Int × Int × ByteArray × Unit)) =>
  ldAW [(.int .u8), (.int .u64), .str] (⟨r1, 0, none⟩ : Addr) fun (u11 : (Int × Int × ByteArray × Unit)) =>
  eqW Try.prog (eqS .neq 24 (.tmp 42) (.tmp 43) (.agg #[(.int .u8 u10.1), (.int .u64 u10.2.1), (.string u10.2.2.1)]) (.agg #[(.int .u8 u11.1), (.int .u64 u11.2.1), (.string u11.2.2.1)])) fun (b12 : Bool) =>
  splitW b12 (K (.bool false)) <|
  splitW (((u5.1.size : Nat) : Int) != x0) (K (.bool false)) <|
  ldW .str ((⟨r1, 0, none⟩ : Addr).add 2) fun (u13 : ByteArray) =>
  callW Try.prog 11 [(.int .i64 x0)] (.one (.one (.int .i64))) fun (u14 : Int) =>
  heldW [[(((⟨r1, 0, none⟩ : Addr).add 2), (.string u13))]] <|
  splitW (decide (((u13.size : Nat) : Int) > u14)) (K (.bool false)) <| J6 ()) <| J6 ()) fun (y7 : Unit) =>
  callW Try.prog 10 [(.string x2)] (.many [(.agg [(.int .u8), (.int .u64), .str]), (.one (.int .i64))]) fun (u15 : (Int × Int × ByteArray × Unit) × Int × Unit) =>
  newW (.cells #[(.int .u8 (0 : Int)), (.int .u64 (0 : Int)), (.string ByteArray.empty)] 24) fun (r16 : Nat) =>
  guardW ((#[(.int .u8 u15.1.1), (.int .u64 u15.1.2.1), (.string u15.1.2.2.1)] : Array Value).size = 3) <|
  stAW (⟨r16, 0, none⟩ : Addr) [(.int .u8 u15.1.1), (.int .u64 u15.1.2.1), (.string u15.1.2.2.1)] <|
  splitW (u15.2.1 != (0 : Int)) (ldAW [(.int .u8), (.int .u64), .str] (⟨r16, 0, none⟩ : Addr) fun (u17 : (Int × Int × ByteArray × Unit)) =>
  eqW Try.prog (eqS .eql 24 (.tmp 67) (.tmp 68) (.agg #[(.int .u8 u17.1), (.int .u64 u17.2.1), (.string u17.2.2.1)]) (.agg #[(.int .u8 (0 : Int)), (.int .u64 (0 : Int)), (.string ByteArray.empty)])) fun (b18 : Bool) => K (.bool b18)) <|
  ldAW [(.int .u8), (.int .u64), .str] (⟨r16, 0, none⟩ : Addr) fun (u19 : (Int × Int × ByteArray × Unit)) =>
  callW Try.prog 9 [(.int .i64 ((x2.size : Nat) : Int)), (.agg #[(.int .u8 u19.1), (.int .u64 u19.2.1), (.string u19.2.2.1)])] (.many [(.one .str), (.one (.int .i64))]) fun (u20 : ByteArray × Int × Unit) =>
  splitW (u20.2.1 == (0 : Int)) (K (.bool (u20.1.toList == x2.toList))) <| K (.bool false)
theorem eq3 (x0 : Int) (x1_0 : Int) (x1_1 : Int) (x1_2 : ByteArray) (x2 : ByteArray) (K : Value → WP) : bodyW Try.prog Try.f3 an3 false [(.int .i64 x0), (.agg #[(.int .u8 x1_0), (.int .u64 x1_1), (.string x1_2)]), (.string x2)] K = S3 x0 x1_0 x1_1 x1_2 x2 K := by kernel_rfl
theorem calls3 (x0 : Int) (x1_0 : Int) (x1_1 : Int) (x1_2 : ByteArray) (x2 : ByteArray) {K : Value → WP} {w : World} (h : S3 x0 x1_0 x1_1 x1_2 x2 K w) : Calls Try.prog 3 #[(.int .i64 x0), (.agg #[(.int .u8 x1_0), (.int .u64 x1_1), (.string x1_2)]), (.string x2)] w (Ret K) := callsR_of_bodyW mixed Try.func3 (of_decide_eq_true (by kernel_rfl)) (by rw [eq3]; exact h)

/-- shadowbook/shadowbooklaw04.FrameNames -/
def an4 : Ann := (.seq .nil (.seq (.seq .nil (.cond (.seq .nil .nil) .nil)) (.seq .nil (.seq .nil (.seq .nil (.seq .nil (.seq .nil (.seq .nil (.seq .nil (.seq (.seq .nil (.cond (.seq .nil .nil) .nil)) (.seq .nil (.join [(0, .sh (.one .bool))] [1000000] .nil .nil))))))))))))
def S4  (K : Value → WP) : WP := 
  callW Try.prog 8 [] (.one (.one .bool)) fun (u1 : Bool) =>
  splitW (!u1) (K (.bool false)) <|
  callW Try.prog 9 [(.int .i64 (100 : Int)), (.agg #[(.int .u8 (0 : Int)), (.int .u64 (0 : Int)), (.string ByteArray.empty)])] (.many [(.one .str), (.one (.int .i64))]) fun (u2 : ByteArray × Int × Unit) =>
  callW Try.prog 12 [(.string (ByteArray.mk #[97])), (.int .i64 (113 : Int))] (.one (.one .str)) fun (u3 : ByteArray) =>
  callW Try.prog 9 [(.int .i64 (128 : Int)), (.agg #[(.int .u8 (0 : Int)), (.int .u64 (0 : Int)), (.string u3)])] (.many [(.one .str), (.one (.int .i64))]) fun (u4 : ByteArray × Int × Unit) =>
  callW Try.prog 12 [(.string (ByteArray.mk #[97])), (.int .i64 (112 : Int))] (.one (.one .str)) fun (u5 : ByteArray) =>
  callW Try.prog 9 [(.int .i64 (128 : Int)), (.agg #[(.int .u8 (7 : Int)), (.int .u64 (0 : Int)), (.string u5)])] (.many [(.one .str), (.one (.int .i64))]) fun (u6 : ByteArray × Int × Unit) =>
  callW Try.prog 10 [(.string (ByteArray.mk #[97]))] (.many [(.agg [(.int .u8), (.int .u64), .str]), (.one (.int .i64))]) fun (u7 : (Int × Int × ByteArray × Unit) × Int × Unit) =>
  newW (.cells #[(.int .u8 (0 : Int)), (.int .u64 (0 : Int)), (.string ByteArray.empty)] 24) fun (r8 : Nat) =>
  guardW ((#[(.int .u8 u7.1.1), (.int .u64 u7.1.2.1), (.string u7.1.2.2.1)] : Array Value).size = 3) <|
  stAW (⟨r8, 0, none⟩ : Addr) [(.int .u8 u7.1.1), (.int .u64 u7.1.2.1), (.string u7.1.2.2.1)] <|
  callW Try.prog 12 [(.string (ByteArray.mk #[0])), (.int .i64 (128 : Int))] (.one (.one .str)) fun (u9 : ByteArray) =>
  callW Try.prog 10 [(.string u9)] (.many [(.agg [(.int .u8), (.int .u64), .str]), (.one (.int .i64))]) fun (u10 : (Int × Int × ByteArray × Unit) × Int × Unit) =>
  newW (.cells #[(.int .u8 (0 : Int)), (.int .u64 (0 : Int)), (.string ByteArray.empty)] 24) fun (r11 : Nat) =>
  guardW ((#[(.int .u8 u10.1.1), (.int .u64 u10.1.2.1), (.string u10.1.2.2.1)] : Array Value).size = 3) <|
  stAW (⟨r11, 0, none⟩ : Addr) [(.int .u8 u10.1.1), (.int .u64 u10.1.2.1), (.string u10.1.2.2.1)] <|
  callW Try.prog 13 [(.string u6.1), (.int .u8 (6 : Int))] (.many [(.agg [(.int .u8), (.int .u64), .str]), (.one (.int .i64))]) fun (u12 : (Int × Int × ByteArray × Unit) × Int × Unit) =>
  newW (.cells #[(.int .u8 (0 : Int)), (.int .u64 (0 : Int)), (.string ByteArray.empty)] 24) fun (r13 : Nat) =>
  guardW ((#[(.int .u8 u12.1.1), (.int .u64 u12.1.2.1), (.string u12.1.2.2.1)] : Array Value).size = 3) <|
  stAW (⟨r13, 0, none⟩ : Addr) [(.int .u8 u12.1.1), (.int .u64 u12.1.2.1), (.string u12.1.2.2.1)] <|
  callW Try.prog 13 [(.string u6.1), (.int .u8 (7 : Int))] (.many [(.agg [(.int .u8), (.int .u64), .str]), (.one (.int .i64))]) fun (u14 : (Int × Int × ByteArray × Unit) × Int × Unit) =>
  newW (.cells #[(.int .u8 (0 : Int)), (.int .u64 (0 : Int)), (.string ByteArray.empty)] 24) fun (r15 : Nat) =>
  guardW ((#[(.int .u8 u14.1.1), (.int .u64 u14.1.2.1), (.string u14.1.2.2.1)] : Array Value).size = 3) <|
  stAW (⟨r15, 0, none⟩ : Addr) [(.int .u8 u14.1.1), (.int .u64 u14.1.2.1), (.string u14.1.2.2.1)] <|
  splitW (((u6.1.size : Nat) : Int) != (128 : Int)) (K (.bool false)) <|
  guardW (0 ≤ (1 : Int) ∧ (1 : Int) ≤ ((u6.1.size : Nat) : Int)) <|
  guardW ((((ByteArray.mk #[1]).size + (ByteArray.extract u6.1 (Int.toNat (1 : Int)) u6.1.size).size : Nat) : Int) ≤ IntKind.i64.max) <|
  callW Try.prog 10 [(.string ((ByteArray.mk #[1]) ++ (ByteArray.extract u6.1 (Int.toNat (1 : Int)) u6.1.size)))] (.many [(.agg [(.int .u8), (.int .u64), .str]), (.one (.int .i64))]) fun (u16 : (Int × Int × ByteArray × Unit) × Int × Unit) =>
  newW (.cells #[(.int .u8 (0 : Int)), (.int .u64 (0 : Int)), (.string ByteArray.empty)] 24) fun (r17 : Nat) =>
  guardW ((#[(.int .u8 u16.1.1), (.int .u64 u16.1.2.1), (.string u16.1.2.2.1)] : Array Value).size = 3) <|
  stAW (⟨r17, 0, none⟩ : Addr) [(.int .u8 u16.1.1), (.int .u64 u16.1.2.1), (.string u16.1.2.2.1)] <|
  joinW (Bool × Unit) (fun (J18 : (Bool × Unit) → WP) =>
  splitW (u2.2.1 == (2 : Int)) (splitW (u4.2.1 == (3 : Int)) (splitW (u6.2.1 == (0 : Int)) (splitW (u7.2.1 == (2 : Int)) (splitW (u10.2.1 == (10 : Int)) (splitW (u12.2.1 == (11 : Int)) (splitW (u14.2.1 == (0 : Int)) (ldW .str ((⟨r15, 0, none⟩ : Addr).add 2) fun (u20 : ByteArray) =>
  splitW (((u20.size : Nat) : Int) == (112 : Int)) (splitW (u16.2.1 == (10 : Int)) (callW Try.prog 11 [(.int .i64 (128 : Int))] (.one (.one (.int .i64))) fun (u21 : Int) =>
  splitW (u21 == (112 : Int)) (callW Try.prog 11 [(.int .i64 (4096 : Int))] (.one (.one (.int .i64))) fun (u22 : Int) =>
  splitW (u22 == (4080 : Int)) (callW Try.prog 11 [(.int .i64 (0 : Int))] (.one (.one (.int .i64))) fun (u23 : Int) =>
  splitW (u23 == (0 : Int)) (callW Try.prog 11 [(.int .i64 (129 : Int))] (.one (.one (.int .i64))) fun (u24 : Int) => J18 ((u24 == (0 : Int)), ())) <| J18 (false, ())) <| J18 (false, ())) <| J18 (false, ())) <| J18 (false, ())) <| J18 (false, ())) <| J18 (false, ())) <| J18 (false, ())) <| J18 (false, ())) <| J18 (false, ())) <| J18 (false, ())) <| J18 (false, ())) <| J18 (false, ())) fun (y19 : Bool × Unit) => K (.bool y19.1)
theorem eq4  (K : Value → WP) : bodyW Try.prog Try.f4 an4 false [] K = S4  K := by kernel_rfl
theorem calls4  {K : Value → WP} {w : World} (h : S4  K w) : Calls Try.prog 4 #[] w (Ret K) := callsR_of_bodyW mixed Try.func4 (of_decide_eq_true (by kernel_rfl)) (by rw [eq4]; exact h)

/-- shadowbook/shadowbooklaw04.FrameCalls -/
def an5 : Ann := (.seq .nil (.seq (.seq .nil (.cond (.seq .nil .nil) .nil)) (.seq (.seq .nil (.cond (.seq .nil .nil) .nil)) (.seq .nil (.seq .nil (.seq .nil (.seq .nil (.seq .nil (.seq .nil (.seq .nil .nil))))))))))
def S5 (x0 : Int) (x1_0 : Int) (x1_1 : Int) (x1_2 : ByteArray) (x2 : ByteArray) (x3 : Int) (K : Value → WP) : WP := 
  newW (.cells #[(.int .u8 x1_0), (.int .u64 x1_1), (.string x1_2)] 24) fun (r1 : Nat) =>
  callW Try.prog 8 [] (.one (.one .bool)) fun (u2 : Bool) =>
  splitW (!u2) (K (.bool false)) <|
  ldW .str ((⟨r1, 0, none⟩ : Addr).add 2) fun (u3 : ByteArray) =>
  splitW (decide (((u3.size : Nat) : Int) > (4200 : Int))) (K (.bool true)) <|
  splitW (decide (((x2.size : Nat) : Int) > (600 : Int))) (K (.bool true)) <|
  ldAW [(.int .u8), (.int .u64), .str] (⟨r1, 0, none⟩ : Addr) fun (u4 : (Int × Int × ByteArray × Unit)) =>
  callW Try.prog 9 [(.int .i64 x0), (.agg #[(.int .u8 u4.1), (.int .u64 u4.2.1), (.string u4.2.2.1)])] (.many [(.one .str), (.one (.int .i64))]) fun (u5 : ByteArray × Int × Unit) =>
  ldAW [(.int .u8), (.int .u64), .str] (⟨r1, 0, none⟩ : Addr) fun (u6 : (Int × Int × ByteArray × Unit)) =>
  callW Try.prog 14 [(.int .i64 x0), (.agg #[(.int .u8 u6.1), (.int .u64 u6.2.1), (.string u6.2.2.1)])] (.many [(.one .str), (.one (.int .i64))]) fun (u7 : ByteArray × Int × Unit) =>
  callW Try.prog 10 [(.string x2)] (.many [(.agg [(.int .u8), (.int .u64), .str]), (.one (.int .i64))]) fun (u8 : (Int × Int × ByteArray × Unit) × Int × Unit) =>
  newW (.cells #[(.int .u8 (0 : Int)), (.int .u64 (0 : Int)), (.string ByteArray.empty)] 24) fun (r9 : Nat) =>
  guardW ((#[(.int .u8 u8.1.1), (.int .u64 u8.1.2.1), (.string u8.1.2.2.1)] : Array Value).size = 3) <|
  stAW (⟨r9, 0, none⟩ : Addr) [(.int .u8 u8.1.1), (.int .u64 u8.1.2.1), (.string u8.1.2.2.1)] <|
  callW Try.prog 15 [(.string x2)] (.many [(.agg [(.int .u8), (.int .u64), .str]), (.one (.int .i64))]) fun (u10 : (Int × Int × ByteArray × Unit) × Int × Unit) =>
  newW (.cells #[(.int .u8 (0 : Int)), (.int .u64 (0 : Int)), (.string ByteArray.empty)] 24) fun (r11 : Nat) =>
  guardW ((#[(.int .u8 u10.1.1), (.int .u64 u10.1.2.1), (.string u10.1.2.2.1)] : Array Value).size = 3) <|
  stAW (⟨r11, 0, none⟩ : Addr) [(.int .u8 u10.1.1), (.int .u64 u10.1.2.1), (.string u10.1.2.2.1)] <|
  callW Try.prog 13 [(.string x2), (.int .u8 x3)] (.many [(.agg [(.int .u8), (.int .u64), .str]), (.one (.int .i64))]) fun (u12 : (Int × Int × ByteArray × Unit) × Int × Unit) =>
  newW (.cells #[(.int .u8 (0 : Int)), (.int .u64 (0 : Int)), (.string ByteArray.empty)] 24) fun (r13 : Nat) =>
  guardW ((#[(.int .u8 u12.1.1), (.int .u64 u12.1.2.1), (.string u12.1.2.2.1)] : Array Value).size = 3) <|
  stAW (⟨r13, 0, none⟩ : Addr) [(.int .u8 u12.1.1), (.int .u64 u12.1.2.1), (.string u12.1.2.2.1)] <|
  callW Try.prog 16 [(.string x2), (.int .u8 x3)] (.many [(.agg [(.int .u8), (.int .u64), .str]), (.one (.int .i64))]) fun (u14 : (Int × Int × ByteArray × Unit) × Int × Unit) =>
  newW (.cells #[(.int .u8 (0 : Int)), (.int .u64 (0 : Int)), (.string ByteArray.empty)] 24) fun (r15 : Nat) =>
  guardW ((#[(.int .u8 u14.1.1), (.int .u64 u14.1.2.1), (.string u14.1.2.2.1)] : Array Value).size = 3) <|
  stAW (⟨r15, 0, none⟩ : Addr) [(.int .u8 u14.1.1), (.int .u64 u14.1.2.1), (.string u14.1.2.2.1)] <|
  splitW (u5.1.toList == u7.1.toList) (splitW (u5.2.1 == u7.2.1) (ldAW [(.int .u8), (.int .u64), .str] (⟨r9, 0, none⟩ : Addr) fun (u16 : (Int × Int × ByteArray × Unit)) =>
  ldAW [(.int .u8), (.int .u64), .str] (⟨r11, 0, none⟩ : Addr) fun (u17 : (Int × Int × ByteArray × Unit)) =>
  eqW Try.prog (eqS .eql 24 (.tmp 75) (.tmp 76) (.agg #[(.int .u8 u16.1), (.int .u64 u16.2.1), (.string u16.2.2.1)]) (.agg #[(.int .u8 u17.1), (.int .u64 u17.2.1), (.string u17.2.2.1)])) fun (b18 : Bool) =>
  splitW b18 (splitW (u8.2.1 == u10.2.1) (ldAW [(.int .u8), (.int .u64), .str] (⟨r13, 0, none⟩ : Addr) fun (u19 : (Int × Int × ByteArray × Unit)) =>
  ldAW [(.int .u8), (.int .u64), .str] (⟨r15, 0, none⟩ : Addr) fun (u20 : (Int × Int × ByteArray × Unit)) =>
  eqW Try.prog (eqS .eql 24 (.tmp 85) (.tmp 86) (.agg #[(.int .u8 u19.1), (.int .u64 u19.2.1), (.string u19.2.2.1)]) (.agg #[(.int .u8 u20.1), (.int .u64 u20.2.1), (.string u20.2.2.1)])) fun (b21 : Bool) =>
  splitW b21 (splitW (u12.2.1 == u14.2.1) (callW Try.prog 11 [(.int .i64 x0)] (.one (.one (.int .i64))) fun (u22 : Int) =>
  callW Try.prog 17 [(.int .i64 x0)] (.one (.one (.int .i64))) fun (u23 : Int) => K (.bool (u22 == u23))) <| K (.bool false)) <| K (.bool false)) <| K (.bool false)) <| K (.bool false)) <| K (.bool false)) <| K (.bool false)
theorem eq5 (x0 : Int) (x1_0 : Int) (x1_1 : Int) (x1_2 : ByteArray) (x2 : ByteArray) (x3 : Int) (K : Value → WP) : bodyW Try.prog Try.f5 an5 false [(.int .i64 x0), (.agg #[(.int .u8 x1_0), (.int .u64 x1_1), (.string x1_2)]), (.string x2), (.int .u8 x3)] K = S5 x0 x1_0 x1_1 x1_2 x2 x3 K := by kernel_rfl
theorem calls5 (x0 : Int) (x1_0 : Int) (x1_1 : Int) (x1_2 : ByteArray) (x2 : ByteArray) (x3 : Int) {K : Value → WP} {w : World} (h : S5 x0 x1_0 x1_1 x1_2 x2 x3 K w) : Calls Try.prog 5 #[(.int .i64 x0), (.agg #[(.int .u8 x1_0), (.int .u64 x1_1), (.string x1_2)]), (.string x2), (.int .u8 x3)] w (Ret K) := callsR_of_bodyW mixed Try.func5 (of_decide_eq_true (by kernel_rfl)) (by rw [eq5]; exact h)

/-- shadowbook/shadowbooklaw04.FrameRot -/
def an6 : Ann := (.seq .nil (.seq (.seq .nil (.cond (.seq .nil .nil) .nil)) (.seq (.seq .nil (.cond (.seq .nil .nil) .nil)) (.seq .nil (.seq (.seq .nil (.cond (.seq .nil .nil) .nil)) (.seq .nil (.seq .nil (.seq .nil (.seq (.seq .nil (.cond (.seq .nil .nil) .nil)) (.seq .nil .nil))))))))))
def S6 (x0 : Int) (x1_0 : Int) (x1_1 : Int) (x1_2 : ByteArray) (x2 : Int) (x3 : Int) (x4 : Int) (K : Value → WP) : WP := 
  newW (.cells #[(.int .u8 x1_0), (.int .u64 x1_1), (.string x1_2)] 24) fun (r1 : Nat) =>
  callW Try.prog 8 [] (.one (.one .bool)) fun (u2 : Bool) =>
  splitW (!u2) (K (.bool false)) <|
  ldW .str ((⟨r1, 0, none⟩ : Addr).add 2) fun (u3 : ByteArray) =>
  splitW (decide (((u3.size : Nat) : Int) > (4200 : Int))) (K (.bool true)) <|
  ldAW [(.int .u8), (.int .u64), .str] (⟨r1, 0, none⟩ : Addr) fun (u4 : (Int × Int × ByteArray × Unit)) =>
  callW Try.prog 9 [(.int .i64 x0), (.agg #[(.int .u8 u4.1), (.int .u64 u4.2.1), (.string u4.2.2.1)])] (.many [(.one .str), (.one (.int .i64))]) fun (u5 : ByteArray × Int × Unit) =>
  splitW (u5.2.1 != (0 : Int)) (K (.bool (u5.1.toList == (ByteArray.mk #[]).toList))) <|
  runW Try.prog (Go.convert 9 37 (.string u5.1)) .slc fun (u6 : (Option Addr × Nat × Nat)) =>
  callW Try.prog 19 [(.int .i64 x2), (.int .i64 (IntKind.wrap .i64 ((8 : Int) * x0)))] (.one (.one (.int .i64))) fun (u7 : Int) =>
  callW Try.prog 19 [(.int .i64 x3), (.int .i64 (33 : Int))] (.one (.one (.int .i64))) fun (u8 : Int) =>
  callW Try.prog 18 [(.slice u6.1 u6.2.1 u6.2.2), (.int .i64 u7), (.int .i64 u8), (.int .u32 x4)] (.one (.one .slc)) fun (u9 : (Option Addr × Nat × Nat)) =>
  runW Try.prog (Go.convert 37 9 (.slice u9.1 u9.2.1 u9.2.2)) .str fun (u10 : ByteArray) =>
  callW Try.prog 10 [(.string u10)] (.many [(.agg [(.int .u8), (.int .u64), .str]), (.one (.int .i64))]) fun (u11 : (Int × Int × ByteArray × Unit) × Int × Unit) =>
  newW (.cells #[(.int .u8 (0 : Int)), (.int .u64 (0 : Int)), (.string ByteArray.empty)] 24) fun (r12 : Nat) =>
  guardW ((#[(.int .u8 u11.1.1), (.int .u64 u11.1.2.1), (.string u11.1.2.2.1)] : Array Value).size = 3) <|
  stAW (⟨r12, 0, none⟩ : Addr) [(.int .u8 u11.1.1), (.int .u64 u11.1.2.1), (.string u11.1.2.2.1)] <|
  runW Try.prog (Go.convert 37 9 (.slice u9.1 u9.2.1 u9.2.2)) .str fun (u13 : ByteArray) =>
  ldW (.int .u8) (⟨r1, 0, none⟩ : Addr) fun (u14 : Int) =>
  callW Try.prog 13 [(.string u13), (.int .u8 u14)] (.many [(.agg [(.int .u8), (.int .u64), .str]), (.one (.int .i64))]) fun (u15 : (Int × Int × ByteArray × Unit) × Int × Unit) =>
  newW (.cells #[(.int .u8 (0 : Int)), (.int .u64 (0 : Int)), (.string ByteArray.empty)] 24) fun (r16 : Nat) =>
  guardW ((#[(.int .u8 u15.1.1), (.int .u64 u15.1.2.1), (.string u15.1.2.2.1)] : Array Value).size = 3) <|
  stAW (⟨r16, 0, none⟩ : Addr) [(.int .u8 u15.1.1), (.int .u64 u15.1.2.1), (.string u15.1.2.2.1)] <|
  runW Try.prog (Go.convert 37 9 (.slice u9.1 u9.2.1 u9.2.2)) .str fun (u17 : ByteArray) =>
  splitW (u17.toList == u5.1.toList) (splitW (u11.2.1 == (0 : Int)) (K (.bool (u15.2.1 == (0 : Int)))) <| K (.bool false)) <|
  splitW (u11.2.1 == (10 : Int)) (K (.bool (u15.2.1 == (10 : Int)))) <| K (.bool false)
theorem eq6 (x0 : Int) (x1_0 : Int) (x1_1 : Int) (x1_2 : ByteArray) (x2 : Int) (x3 : Int) (x4 : Int) (K : Value → WP) : bodyW Try.prog Try.f6 an6 false [(.int .i64 x0), (.agg #[(.int .u8 x1_0), (.int .u64 x1_1), (.string x1_2)]), (.int .i64 x2), (.int .i64 x3), (.int .u32 x4)] K = S6 x0 x1_0 x1_1 x1_2 x2 x3 x4 K := by kernel_rfl
theorem calls6 (x0 : Int) (x1_0 : Int) (x1_1 : Int) (x1_2 : ByteArray) (x2 : Int) (x3 : Int) (x4 : Int) {K : Value → WP} {w : World} (h : S6 x0 x1_0 x1_1 x1_2 x2 x3 x4 K w) : Calls Try.prog 6 #[(.int .i64 x0), (.agg #[(.int .u8 x1_0), (.int .u64 x1_1), (.string x1_2)]), (.int .i64 x2), (.int .i64 x3), (.int .u32 x4)] w (Ret K) := callsR_of_bodyW mixed Try.func6 (of_decide_eq_true (by kernel_rfl)) (by rw [eq6]; exact h)

/-- shadowbook/shadowbooklaw04.FrameApart -/
def an7 : Ann := (.seq .nil (.seq (.seq .nil (.cond (.seq .nil .nil) .nil)) (.seq (.seq .nil (.cond (.seq .nil .nil) .nil)) (.seq .nil (.seq .nil (.seq (.seq .nil (.cond (.seq .nil .nil) .nil)) (.seq .nil (.seq .nil (.join [(6, .sh (.one .bool))] [1000000] .nil .nil)))))))))
def S7 (x0 : Int) (x1_0 : Int) (x1_1 : Int) (x1_2 : ByteArray) (x2_0 : Int) (x2_1 : Int) (x2_2 : ByteArray) (K : Value → WP) : WP := 
  newW (.cells #[(.int .u8 x1_0), (.int .u64 x1_1), (.string x1_2)] 24) fun (r1 : Nat) =>
  newW (.cells #[(.int .u8 x2_0), (.int .u64 x2_1), (.string x2_2)] 24) fun (r2 : Nat) =>
  callW Try.prog 8 [] (.one (.one .bool)) fun (u3 : Bool) =>
  splitW (!u3) (K (.bool false)) <|
  ldW .str ((⟨r1, 0, none⟩ : Addr).add 2) fun (u4 : ByteArray) =>
  splitW (decide (((u4.size : Nat) : Int) > (4200 : Int))) (K (.bool true)) <|
  ldW .str ((⟨r2, 0, none⟩ : Addr).add 2) fun (u5 : ByteArray) =>
  splitW (decide (((u5.size : Nat) : Int) > (4200 : Int))) (K (.bool true)) <|
  ldAW [(.int .u8), (.int .u64), .str] (⟨r1, 0, none⟩ : Addr) fun (u6 : (Int × Int × ByteArray × Unit)) =>
  callW Try.prog 9 [(.int .i64 x0), (.agg #[(.int .u8 u6.1), (.int .u64 u6.2.1), (.string u6.2.2.1)])] (.many [(.one .str), (.one (.int .i64))]) fun (u7 : ByteArray × Int × Unit) =>
  ldAW [(.int .u8), (.int .u64), .str] (⟨r2, 0, none⟩ : Addr) fun (u8 : (Int × Int × ByteArray × Unit)) =>
  callW Try.prog 9 [(.int .i64 x0), (.agg #[(.int .u8 u8.1), (.int .u64 u8.2.1), (.string u8.2.2.1)])] (.many [(.one .str), (.one (.int .i64))]) fun (u9 : ByteArray × Int × Unit) =>
  splitW (u7.2.1 != (0 : Int)) (K (.bool true)) <|
  splitW (u9.2.1 != (0 : Int)) (K (.bool true)) <|
  ldW (.int .u8) (⟨r2, 0, none⟩ : Addr) fun (u10 : Int) =>
  callW Try.prog 13 [(.string u7.1), (.int .u8 u10)] (.many [(.agg [(.int .u8), (.int .u64), .str]), (.one (.int .i64))]) fun (u11 : (Int × Int × ByteArray × Unit) × Int × Unit) =>
  newW (.cells #[(.int .u8 (0 : Int)), (.int .u64 (0 : Int)), (.string ByteArray.empty)] 24) fun (r12 : Nat) =>
  guardW ((#[(.int .u8 u11.1.1), (.int .u64 u11.1.2.1), (.string u11.1.2.2.1)] : Array Value).size = 3) <|
  stAW (⟨r12, 0, none⟩ : Addr) [(.int .u8 u11.1.1), (.int .u64 u11.1.2.1), (.string u11.1.2.2.1)] <|
  callW Try.prog 10 [(.string u7.1)] (.many [(.agg [(.int .u8), (.int .u64), .str]), (.one (.int .i64))]) fun (u13 : (Int × Int × ByteArray × Unit) × Int × Unit) =>
  newW (.cells #[(.int .u8 (0 : Int)), (.int .u64 (0 : Int)), (.string ByteArray.empty)] 24) fun (r14 : Nat) =>
  guardW ((#[(.int .u8 u13.1.1), (.int .u64 u13.1.2.1), (.string u13.1.2.2.1)] : Array Value).size = 3) <|
  stAW (⟨r14, 0, none⟩ : Addr) [(.int .u8 u13.1.1), (.int .u64 u13.1.2.1), (.string u13.1.2.2.1)] <|
  joinW (Bool × Unit) (fun (J15 : (Bool × Unit) → WP) =>
  ldAW [(.int .u8), (.int .u64), .str] (⟨r1, 0, none⟩ : Addr) fun (u17 : (Int × Int × ByteArray × Unit)) =>
  ldAW [(.int .u8), (.int .u64), .str] (⟨r2, 0, none⟩ : Addr) fun (u18 : (Int × Int × ByteArray × Unit)) =>
  eqW Try.prog (eqS .eql 24 (.tmp 60) (.tmp 61) (.agg #[(.int .u8 u17.1), (.int .u64 u17.2.1), (.string u17.2.2.1)]) (.agg #[(.int .u8 u18.1), (.int .u64 u18.2.1), (.string u18.2.2.1)])) fun (b19 : Bool) =>
  splitW ((u7.1.toList == u9.1.toList) == b19) (splitW (u13.2.1 == (0 : Int)) (ldW (.int .u8) (⟨r1, 0, none⟩ : Addr) fun (u20 : Int) =>
  ldW (.int .u8) (⟨r2, 0, none⟩ : Addr) fun (u21 : Int) =>
  splitW (u20 == u21) (splitW (u11.2.1 == (0 : Int)) (ldAW [(.int .u8), (.int .u64), .str] (⟨r12, 0, none⟩ : Addr) fun (u22 : (Int × Int × ByteArray × Unit)) =>
  ldAW [(.int .u8), (.int .u64), .str] (⟨r1, 0, none⟩ : Addr) fun (u23 : (Int × Int × ByteArray × Unit)) =>
  eqW Try.prog (eqS .eql 24 (.tmp 79) (.tmp 80) (.agg #[(.int .u8 u22.1), (.int .u64 u22.2.1), (.string u22.2.2.1)]) (.agg #[(.int .u8 u23.1), (.int .u64 u23.2.1), (.string u23.2.2.1)])) fun (b24 : Bool) =>
  splitW b24 (J15 (true, ())) <|
  ldW (.int .u8) (⟨r1, 0, none⟩ : Addr) fun (u25 : Int) =>
  ldW (.int .u8) (⟨r2, 0, none⟩ : Addr) fun (u26 : Int) =>
  splitW (u25 != u26) (splitW (u11.2.1 == (11 : Int)) (ldAW [(.int .u8), (.int .u64), .str] (⟨r12, 0, none⟩ : Addr) fun (u27 : (Int × Int × ByteArray × Unit)) =>
  eqW Try.prog (eqS .eql 24 (.tmp 94) (.tmp 95) (.agg #[(.int .u8 u27.1), (.int .u64 u27.2.1), (.string u27.2.2.1)]) (.agg #[(.int .u8 (0 : Int)), (.int .u64 (0 : Int)), (.string ByteArray.empty)])) fun (b28 : Bool) => J15 (b28, ())) <| J15 (false, ())) <| J15 (false, ())) <|
  ldW (.int .u8) (⟨r1, 0, none⟩ : Addr) fun (u29 : Int) =>
  ldW (.int .u8) (⟨r2, 0, none⟩ : Addr) fun (u30 : Int) =>
  splitW (u29 != u30) (splitW (u11.2.1 == (11 : Int)) (ldAW [(.int .u8), (.int .u64), .str] (⟨r12, 0, none⟩ : Addr) fun (u31 : (Int × Int × ByteArray × Unit)) =>
  eqW Try.prog (eqS .eql 24 (.tmp 94) (.tmp 95) (.agg #[(.int .u8 u31.1), (.int .u64 u31.2.1), (.string u31.2.2.1)]) (.agg #[(.int .u8 (0 : Int)), (.int .u64 (0 : Int)), (.string ByteArray.empty)])) fun (b32 : Bool) => J15 (b32, ())) <| J15 (false, ())) <| J15 (false, ())) <|
  ldW (.int .u8) (⟨r1, 0, none⟩ : Addr) fun (u33 : Int) =>
  ldW (.int .u8) (⟨r2, 0, none⟩ : Addr) fun (u34 : Int) =>
  splitW (u33 != u34) (splitW (u11.2.1 == (11 : Int)) (ldAW [(.int .u8), (.int .u64), .str] (⟨r12, 0, none⟩ : Addr) fun (u35 : (Int × Int × ByteArray × Unit)) =>
  eqW Try.prog (eqS .eql 24 (.tmp 94) (.tmp 95) (.agg #[(.int .u8 u35.1), (.int .u64 u35.2.1), (.string u35.2.2.1)]) (.agg #[(.int .u8 (0 : Int)), (.int .u64 (0 : Int)), (.string ByteArray.empty)])) fun (b36 : Bool) => J15 (b36, ())) <| J15 (false, ())) <| J15 (false, ())) <| J15 (false, ())) <| J15 (false, ())) fun (y16 : Bool × Unit) => K (.bool y16.1)
theorem eq7 (x0 : Int) (x1_0 : Int) (x1_1 : Int) (x1_2 : ByteArray) (x2_0 : Int) (x2_1 : Int) (x2_2 : ByteArray) (K : Value → WP) : bodyW Try.prog Try.f7 an7 false [(.int .i64 x0), (.agg #[(.int .u8 x1_0), (.int .u64 x1_1), (.string x1_2)]), (.agg #[(.int .u8 x2_0), (.int .u64 x2_1), (.string x2_2)])] K = S7 x0 x1_0 x1_1 x1_2 x2_0 x2_1 x2_2 K := by kernel_rfl
theorem calls7 (x0 : Int) (x1_0 : Int) (x1_1 : Int) (x1_2 : ByteArray) (x2_0 : Int) (x2_1 : Int) (x2_2 : ByteArray) {K : Value → WP} {w : World} (h : S7 x0 x1_0 x1_1 x1_2 x2_0 x2_1 x2_2 K w) : Calls Try.prog 7 #[(.int .i64 x0), (.agg #[(.int .u8 x1_0), (.int .u64 x1_1), (.string x1_2)]), (.agg #[(.int .u8 x2_0), (.int .u64 x2_1), (.string x2_2)])] w (Ret K) := callsR_of_bodyW mixed Try.func7 (of_decide_eq_true (by kernel_rfl)) (by rw [eq7]; exact h)

/-- shadowbook/shadowbooklaw04.lives -/
def an8 : Ann := (.seq .nil (.seq .nil (.seq .nil (.seq .nil (.seq .nil .nil)))))
def S8  (K : Value → WP) : WP := 
  newW (.cells #[(.int .u8 (0 : Int)), (.int .u64 (0 : Int)), (.string ByteArray.empty)] 24) fun (r1 : Nat) =>
  guardW ((#[(.int .u8 (3 : Int)), (.int .u64 (1 : Int)), (.string (ByteArray.mk #[97, 98]))] : Array Value).size = 3) <|
  stAW (⟨r1, 0, none⟩ : Addr) [(.int .u8 (3 : Int)), (.int .u64 (1 : Int)), (.string (ByteArray.mk #[97, 98]))] <|
  ldAW [(.int .u8), (.int .u64), .str] (⟨r1, 0, none⟩ : Addr) fun (u2 : (Int × Int × ByteArray × Unit)) =>
  callW Try.prog 9 [(.int .i64 (128 : Int)), (.agg #[(.int .u8 u2.1), (.int .u64 u2.2.1), (.string u2.2.2.1)])] (.many [(.one .str), (.one (.int .i64))]) fun (u3 : ByteArray × Int × Unit) =>
  callW Try.prog 10 [(.string u3.1)] (.many [(.agg [(.int .u8), (.int .u64), .str]), (.one (.int .i64))]) fun (u4 : (Int × Int × ByteArray × Unit) × Int × Unit) =>
  newW (.cells #[(.int .u8 (0 : Int)), (.int .u64 (0 : Int)), (.string ByteArray.empty)] 24) fun (r5 : Nat) =>
  guardW ((#[(.int .u8 u4.1.1), (.int .u64 u4.1.2.1), (.string u4.1.2.2.1)] : Array Value).size = 3) <|
  stAW (⟨r5, 0, none⟩ : Addr) [(.int .u8 u4.1.1), (.int .u64 u4.1.2.1), (.string u4.1.2.2.1)] <|
  splitW (u3.2.1 == (0 : Int)) (splitW (((u3.1.size : Nat) : Int) == (128 : Int)) (splitW (u4.2.1 == (0 : Int)) (ldAW [(.int .u8), (.int .u64), .str] (⟨r5, 0, none⟩ : Addr) fun (u6 : (Int × Int × ByteArray × Unit)) =>
  ldAW [(.int .u8), (.int .u64), .str] (⟨r1, 0, none⟩ : Addr) fun (u7 : (Int × Int × ByteArray × Unit)) =>
  eqW Try.prog (eqS .eql 24 (.tmp 29) (.tmp 30) (.agg #[(.int .u8 u6.1), (.int .u64 u6.2.1), (.string u6.2.2.1)]) (.agg #[(.int .u8 u7.1), (.int .u64 u7.2.1), (.string u7.2.2.1)])) fun (b8 : Bool) =>
  splitW b8 (guardW (0 ≤ (14 : Int) ∧ (14 : Int) ≤ ((u3.1.size : Nat) : Int)) <| K (.bool ((ByteArray.extract u3.1 0 (Int.toNat (14 : Int))).toList == (ByteArray.mk #[3, 0, 2, 0, 1, 0, 0, 0, 0, 0, 0, 0, 97, 98]).toList))) <| K (.bool false)) <| K (.bool false)) <| K (.bool false)) <| K (.bool false)
theorem eq8  (K : Value → WP) : bodyW Try.prog Try.f8 an8 false [] K = S8  K := by kernel_rfl
theorem calls8  {K : Value → WP} {w : World} (h : S8  K w) : Calls Try.prog 8 #[] w (Ret K) := callsR_of_bodyW mixed Try.func8 (of_decide_eq_true (by kernel_rfl)) (by rw [eq8]; exact h)

/-- shadowbook/frame.Put -/
def an9 : Ann := (.seq .nil (.seq .nil (.seq (.block (.seq .nil (.cond (.seq .nil .nil) (.seq .nil (.cond (.seq .nil .nil) .nil))))) (.seq .nil (.seq .nil (.seq .nil (.seq .nil (.seq .nil (.seq .nil (.seq .nil (.seq .nil .nil)))))))))))
def S9 (x0 : Int) (x1_0 : Int) (x1_1 : Int) (x1_2 : ByteArray) (K : Value → WP) : WP := 
  newW (.cells #[(.int .u8 x1_0), (.int .u64 x1_1), (.string x1_2)] 24) fun (r1 : Nat) =>
  callW Try.prog 11 [(.int .i64 x0)] (.one (.one (.int .i64))) fun (u2 : Int) =>
  splitW (u2 == (0 : Int)) (K (.tuple #[(.string (ByteArray.mk #[])), (.int .i64 (2 : Int))])) <|
  ldW .str ((⟨r1, 0, none⟩ : Addr).add 2) fun (u3 : ByteArray) =>
  splitW (decide (((u3.size : Nat) : Int) > u2)) (K (.tuple #[(.string (ByteArray.mk #[])), (.int .i64 (3 : Int))])) <|
  runW Try.prog (Instr.makeSlice 37 (.int .i64 x0) (.int .i64 x0)) .slc fun (u4 : Option Addr × Nat × Nat) =>
  drewW <|
  guardW (0 ≤ (0 : Int) ∧ (0 : Int) ≤ (12 : Int) ∧ (12 : Int) ≤ ((u4.2.2 : Nat) : Int)) <|
  ldW (.int .u8) (⟨r1, 0, none⟩ : Addr) fun (u5 : Int) =>
  newW (.cells #[(.int .u8 u5), (.int .u8 (0 : Int))] 5) fun (r6 : Nat) =>
  runW Try.prog (Builtin.append_ #[37, 37] 37 #[(.slice (cutAddr u4.1 0 (Int.toNat (12 : Int)) 1) (Int.toNat (0 : Int)) (Int.toNat (12 : Int))), (.slice (some (⟨r6, 0, none⟩ : Addr)) 2 2)]) .slc fun (u7 : (Option Addr × Nat × Nat)) =>
  ldW .str ((⟨r1, 0, none⟩ : Addr).add 2) fun (u8 : ByteArray) =>
  callW Try.prog 20 [(.slice u7.1 u7.2.1 u7.2.2), (.int .u64 (IntKind.wrap .u64 ((u8.size : Nat) : Int))), (.int .i64 (2 : Int))] (.one (.one .slc)) fun (u9 : (Option Addr × Nat × Nat)) =>
  ldW (.int .u64) ((⟨r1, 0, none⟩ : Addr).add 1) fun (u10 : Int) =>
  callW Try.prog 20 [(.slice u9.1 u9.2.1 u9.2.2), (.int .u64 u10), (.int .i64 (8 : Int))] (.one (.one .slc)) fun (u11 : (Option Addr × Nat × Nat)) =>
  drewW <|
  guardW (0 ≤ (12 : Int) ∧ (12 : Int) ≤ ((u4.2.1 : Nat) : Int)) <|
  ldW .str ((⟨r1, 0, none⟩ : Addr).add 2) fun (u12 : ByteArray) =>
  runW Try.prog (Builtin.copy_ #[37, 9] 3 #[(.slice (cutAddr u4.1 (Int.toNat (12 : Int)) u4.2.2 1) (u4.2.1 - (Int.toNat (12 : Int))) (u4.2.2 - (Int.toNat (12 : Int)))), (.string u12)]) (.int .i64) fun (u13 : Int) =>
  drewW <|
  guardW (0 ≤ (IntKind.wrap .i64 (x0 - (4 : Int))) ∧ (IntKind.wrap .i64 (x0 - (4 : Int))) ≤ (IntKind.wrap .i64 (x0 - (4 : Int))) ∧ (IntKind.wrap .i64 (x0 - (4 : Int))) ≤ x0 ∧ x0 ≤ ((u4.2.2 : Nat) : Int)) <|
  guardW (0 ≤ (IntKind.wrap .i64 (x0 - (4 : Int))) ∧ (IntKind.wrap .i64 (x0 - (4 : Int))) ≤ ((u4.2.2 : Nat) : Int)) <|
  callW Try.prog 21 [(.slice (cutAddr u4.1 0 u4.2.2 1) (Int.toNat (IntKind.wrap .i64 (x0 - (4 : Int)))) u4.2.2)] (.one (.one (.int .u32))) fun (u14 : Int) =>
  callW Try.prog 20 [(.slice (cutAddr u4.1 (Int.toNat (IntKind.wrap .i64 (x0 - (4 : Int)))) (Int.toNat x0) 1) ((Int.toNat (IntKind.wrap .i64 (x0 - (4 : Int)))) - (Int.toNat (IntKind.wrap .i64 (x0 - (4 : Int))))) ((Int.toNat x0) - (Int.toNat (IntKind.wrap .i64 (x0 - (4 : Int)))))), (.int .u64 (IntKind.wrap .u64 u14)), (.int .i64 (4 : Int))] (.one (.one .slc)) fun (u15 : (Option Addr × Nat × Nat)) =>
  runW Try.prog (Go.convert 37 9 (.slice u4.1 u4.2.1 u4.2.2)) .str fun (u16 : ByteArray) => K (.tuple #[(.string u16), (.int .i64 (0 : Int))])
theorem eq9 (x0 : Int) (x1_0 : Int) (x1_1 : Int) (x1_2 : ByteArray) (K : Value → WP) : bodyW Try.prog Try.f9 an9 false [(.int .i64 x0), (.agg #[(.int .u8 x1_0), (.int .u64 x1_1), (.string x1_2)])] K = S9 x0 x1_0 x1_1 x1_2 K := by kernel_rfl
theorem calls9 (x0 : Int) (x1_0 : Int) (x1_1 : Int) (x1_2 : ByteArray) {K : Value → WP} {w : World} (h : S9 x0 x1_0 x1_1 x1_2 K w) : Calls Try.prog 9 #[(.int .i64 x0), (.agg #[(.int .u8 x1_0), (.int .u64 x1_1), (.string x1_2)])] w (Ret K) := callsR_of_bodyW mixed Try.func9 (of_decide_eq_true (by kernel_rfl)) (by rw [eq9]; exact h)

/-- shadowbook/frame.Get -/
def an10 : Ann := (.seq .nil (.seq .nil (.seq (.seq .nil (.cond (.seq .nil .nil) .nil)) (.seq .nil (.seq .nil (.seq (.seq .nil (.cond (.seq .nil .nil) .nil)) (.seq .nil (.seq (.seq .nil (.cond (.seq .nil .nil) .nil)) (.seq .nil (.seq (.seq .nil (.seq .nil (.cond (.seq .nil .nil) .nil))) (.seq .nil .nil)))))))))))
def S10 (x0 : ByteArray) (K : Value → WP) : WP := 
  newW (.cells #[(.int .u8 (0 : Int)), (.int .u64 (0 : Int)), (.string ByteArray.empty)] 24) fun (r1 : Nat) =>
  callW Try.prog 11 [(.int .i64 ((x0.size : Nat) : Int))] (.one (.one (.int .i64))) fun (u2 : Int) =>
  splitW (u2 == (0 : Int)) (ldAW [(.int .u8), (.int .u64), .str] (⟨r1, 0, none⟩ : Addr) fun (u3 : (Int × Int × ByteArray × Unit)) =>
  guardW ((#[(.int .u8 u3.1), (.int .u64 u3.2.1), (.string u3.2.2.1)] : Array Value).size = 3) <|
  stAW (⟨r1, 0, none⟩ : Addr) [(.int .u8 u3.1), (.int .u64 u3.2.1), (.string u3.2.2.1)] <|
  ldAW [(.int .u8), (.int .u64), .str] (⟨r1, 0, none⟩ : Addr) fun (u4 : (Int × Int × ByteArray × Unit)) => K (.tuple #[(.agg #[(.int .u8 u4.1), (.int .u64 u4.2.1), (.string u4.2.2.1)]), (.int .i64 (2 : Int))])) <|
  runW Try.prog (Go.convert 9 37 (.string x0)) .slc fun (u5 : (Option Addr × Nat × Nat)) =>
  drewW <|
  guardW (0 ≤ (IntKind.wrap .i64 (((u5.2.1 : Nat) : Int) - (4 : Int))) ∧ (IntKind.wrap .i64 (((u5.2.1 : Nat) : Int) - (4 : Int))) ≤ ((u5.2.2 : Nat) : Int)) <|
  guardW (0 ≤ (IntKind.wrap .i64 (((u5.2.1 : Nat) : Int) - (4 : Int))) ∧ (IntKind.wrap .i64 (((u5.2.1 : Nat) : Int) - (4 : Int))) ≤ ((u5.2.1 : Nat) : Int)) <|
  callW Try.prog 21 [(.slice (cutAddr u5.1 0 u5.2.2 1) (Int.toNat (IntKind.wrap .i64 (((u5.2.1 : Nat) : Int) - (4 : Int)))) u5.2.2)] (.one (.one (.int .u32))) fun (u6 : Int) =>
  callW Try.prog 22 [(.slice (cutAddr u5.1 (Int.toNat (IntKind.wrap .i64 (((u5.2.1 : Nat) : Int) - (4 : Int)))) u5.2.2 1) (u5.2.1 - (Int.toNat (IntKind.wrap .i64 (((u5.2.1 : Nat) : Int) - (4 : Int))))) (u5.2.2 - (Int.toNat (IntKind.wrap .i64 (((u5.2.1 : Nat) : Int) - (4 : Int))))))] (.one (.one (.int .u64))) fun (u7 : Int) =>
  splitW ((IntKind.wrap .u64 u6) != u7) (ldAW [(.int .u8), (.int .u64), .str] (⟨r1, 0, none⟩ : Addr) fun (u8 : (Int × Int × ByteArray × Unit)) =>
  guardW ((#[(.int .u8 u8.1), (.int .u64 u8.2.1), (.string u8.2.2.1)] : Array Value).size = 3) <|
  stAW (⟨r1, 0, none⟩ : Addr) [(.int .u8 u8.1), (.int .u64 u8.2.1), (.string u8.2.2.1)] <|
  ldAW [(.int .u8), (.int .u64), .str] (⟨r1, 0, none⟩ : Addr) fun (u9 : (Int × Int × ByteArray × Unit)) => K (.tuple #[(.agg #[(.int .u8 u9.1), (.int .u64 u9.2.1), (.string u9.2.2.1)]), (.int .i64 (10 : Int))])) <|
  guardW (0 ≤ (2 : Int) ∧ (2 : Int) ≤ (4 : Int) ∧ (4 : Int) ≤ ((u5.2.2 : Nat) : Int)) <|
  callW Try.prog 22 [(.slice (cutAddr u5.1 (Int.toNat (2 : Int)) u5.2.2 1) ((Int.toNat (4 : Int)) - (Int.toNat (2 : Int))) (u5.2.2 - (Int.toNat (2 : Int))))] (.one (.one (.int .u64))) fun (u10 : Int) =>
  splitW (decide ((IntKind.wrap .i64 u10) > u2)) (ldAW [(.int .u8), (.int .u64), .str] (⟨r1, 0, none⟩ : Addr) fun (u11 : (Int × Int × ByteArray × Unit)) =>
  guardW ((#[(.int .u8 u11.1), (.int .u64 u11.2.1), (.string u11.2.2.1)] : Array Value).size = 3) <|
  stAW (⟨r1, 0, none⟩ : Addr) [(.int .u8 u11.1), (.int .u64 u11.2.1), (.string u11.2.2.1)] <|
  ldAW [(.int .u8), (.int .u64), .str] (⟨r1, 0, none⟩ : Addr) fun (u12 : (Int × Int × ByteArray × Unit)) => K (.tuple #[(.agg #[(.int .u8 u12.1), (.int .u64 u12.2.1), (.string u12.2.2.1)]), (.int .i64 (4 : Int))])) <|
  drewW <|
  guardW (0 ≤ (0 : Int) ∧ (0 : Int) < ((u5.2.1 : Nat) : Int)) <|
  ptrW u5.1 fun (p13 : Addr) =>
  ldW (.int .u8) (p13.add (Int.toNat (0 : Int) * 1)) fun (u14 : Int) =>
  guardW (0 ≤ (4 : Int) ∧ (4 : Int) ≤ (12 : Int) ∧ (12 : Int) ≤ ((u5.2.2 : Nat) : Int)) <|
  guardW (0 ≤ (12 : Int) ∧ (12 : Int) ≤ (IntKind.wrap .i64 ((12 : Int) + (IntKind.wrap .i64 u10))) ∧ (IntKind.wrap .i64 ((12 : Int) + (IntKind.wrap .i64 u10))) ≤ ((x0.size : Nat) : Int)) <|
  callW Try.prog 22 [(.slice (cutAddr u5.1 (Int.toNat (4 : Int)) u5.2.2 1) ((Int.toNat (12 : Int)) - (Int.toNat (4 : Int))) (u5.2.2 - (Int.toNat (4 : Int))))] (.one (.one (.int .u64))) fun (u15 : Int) =>
  heldW [[((p13.add (Int.toNat (0 : Int) * 1)), (.int .u8 u14))]] <|
  guardW ((#[(.int .u8 u14), (.int .u64 u15), (.string (ByteArray.extract x0 (Int.toNat (12 : Int)) (Int.toNat (IntKind.wrap .i64 ((12 : Int) + (IntKind.wrap .i64 u10))))))] : Array Value).size = 3) <|
  stAW (⟨r1, 0, none⟩ : Addr) [(.int .u8 u14), (.int .u64 u15), (.string (ByteArray.extract x0 (Int.toNat (12 : Int)) (Int.toNat (IntKind.wrap .i64 ((12 : Int) + (IntKind.wrap .i64 u10))))))] <|
  ldAW [(.int .u8), (.int .u64), .str] (⟨r1, 0, none⟩ : Addr) fun (u16 : (Int × Int × ByteArray × Unit)) =>
  callW Try.prog 9 [(.int .i64 ((x0.size : Nat) : Int)), (.agg #[(.int .u8 u16.1), (.int .u64 u16.2.1), (.string u16.2.2.1)])] (.many [(.one .str), (.one (.int .i64))]) fun (u17 : ByteArray × Int × Unit) =>
  splitW (u17.2.1 != (0 : Int)) (guardW ((#[(.int .u8 (0 : Int)), (.int .u64 (0 : Int)), (.string ByteArray.empty)] : Array Value).size = 3) <|
  stAW (⟨r1, 0, none⟩ : Addr) [(.int .u8 (0 : Int)), (.int .u64 (0 : Int)), (.string ByteArray.empty)] <|
  ldAW [(.int .u8), (.int .u64), .str] (⟨r1, 0, none⟩ : Addr) fun (u18 : (Int × Int × ByteArray × Unit)) => K (.tuple #[(.agg #[(.int .u8 u18.1), (.int .u64 u18.2.1), (.string u18.2.2.1)]), (.int .i64 (4 : Int))])) <|
  splitW (!(u17.1.toList == x0.toList)) (guardW ((#[(.int .u8 (0 : Int)), (.int .u64 (0 : Int)), (.string ByteArray.empty)] : Array Value).size = 3) <|
  stAW (⟨r1, 0, none⟩ : Addr) [(.int .u8 (0 : Int)), (.int .u64 (0 : Int)), (.string ByteArray.empty)] <|
  ldAW [(.int .u8), (.int .u64), .str] (⟨r1, 0, none⟩ : Addr) fun (u19 : (Int × Int × ByteArray × Unit)) => K (.tuple #[(.agg #[(.int .u8 u19.1), (.int .u64 u19.2.1), (.string u19.2.2.1)]), (.int .i64 (4 : Int))])) <|
  ldAW [(.int .u8), (.int .u64), .str] (⟨r1, 0, none⟩ : Addr) fun (u20 : (Int × Int × ByteArray × Unit)) =>
  guardW ((#[(.int .u8 u20.1), (.int .u64 u20.2.1), (.string u20.2.2.1)] : Array Value).size = 3) <|
  stAW (⟨r1, 0, none⟩ : Addr) [(.int .u8 u20.1), (.int .u64 u20.2.1), (.string u20.2.2.1)] <|
  ldAW [(.int .u8), (.int .u64), .str] (⟨r1, 0, none⟩ : Addr) fun (u21 : (Int × Int × ByteArray × Unit)) => K (.tuple #[(.agg #[(.int .u8 u21.1), (.int .u64 u21.2.1), (.string u21.2.2.1)]), (.int .i64 (0 : Int))])
theorem eq10 (x0 : ByteArray) (K : Value → WP) : bodyW Try.prog Try.f10 an10 false [(.string x0)] K = S10 x0 K := by kernel_rfl
theorem calls10 (x0 : ByteArray) {K : Value → WP} {w : World} (h : S10 x0 K w) : Calls Try.prog 10 #[(.string x0)] w (Ret K) := callsR_of_bodyW mixed Try.func10 (of_decide_eq_true (by kernel_rfl)) (by rw [eq10]; exact h)

/-- shadowbook/frame.Room -/
def an11 : Ann := (.seq .nil (.seq (.seq .nil (.cond (.seq .nil .nil) .nil)) (.seq .nil .nil)))
def S11 (x0 : Int) (K : Value → WP) : WP := 
  callW Try.prog 23 [(.agg #[(.int .i64 x0), (.int .i64 (8 : Int))])] (.one (.one (.int .i64))) fun (u1 : Int) =>
  splitW (u1 != (0 : Int)) (K (.int .i64 (0 : Int))) <| K (.int .i64 (IntKind.wrap .i64 ((IntKind.wrap .i64 (x0 - (12 : Int))) - (4 : Int))))
theorem eq11 (x0 : Int) (K : Value → WP) : bodyW Try.prog Try.f11 an11 false [(.int .i64 x0)] K = S11 x0 K := by kernel_rfl
theorem calls11 (x0 : Int) {K : Value → WP} {w : World} (h : S11 x0 K w) : Calls Try.prog 11 #[(.int .i64 x0)] w (Ret K) := callsR_of_bodyW mixed Try.func11 (of_decide_eq_true (by kernel_rfl)) (by rw [eq11]; exact h)

/-- shadowbook/shadowbookkit.Times -/
def an12 : Ann := (.seq .nil (.seq .nil (.seq (.block (.loop [(0, .sh (.one .str)), (1, .sh (.one (.int .i64))), (5, .sh (.one .str))] [1000000] (.seq (.seq .nil (.cond .nil .nil)) (.seq (.block (.seq (.seq .nil (.cond .nil .nil)) .nil)) .nil)))) (.seq .nil .nil))))
def S12 (x0 : ByteArray) (x1 : Int) (K : Value → WP) : WP := 
  loopW (ByteArray × Int × ByteArray × Unit) (x0, x1, (ByteArray.mk #[]), ()) fun (y2 : ByteArray × Int × ByteArray × Unit) (I1 : (ByteArray × Int × ByteArray × Unit) → WP) =>
  splitW (decide (y2.2.1 > (0 : Int))) (splitW ((Int.tmod y2.2.1 (2 : Int)) == (1 : Int)) (guardW (((y2.2.2.1.size + y2.1.size : Nat) : Int) ≤ IntKind.i64.max) <|
  guardW (((y2.1.size + y2.1.size : Nat) : Int) ≤ IntKind.i64.max) <| I1 ((y2.1 ++ y2.1), (IntKind.wrap .i64 (Int.tdiv y2.2.1 (2 : Int))), (y2.2.2.1 ++ y2.1), ())) <|
  guardW (((y2.1.size + y2.1.size : Nat) : Int) ≤ IntKind.i64.max) <| I1 ((y2.1 ++ y2.1), (IntKind.wrap .i64 (Int.tdiv y2.2.1 (2 : Int))), y2.2.2.1, ())) <| K (.string y2.2.2.1)
theorem eq12 (x0 : ByteArray) (x1 : Int) (K : Value → WP) : bodyW Try.prog Try.f12 an12 false [(.string x0), (.int .i64 x1)] K = S12 x0 x1 K := by kernel_rfl
theorem calls12 (x0 : ByteArray) (x1 : Int) {K : Value → WP} {w : World} (h : S12 x0 x1 K w) : Calls Try.prog 12 #[(.string x0), (.int .i64 x1)] w (Ret K) := callsR_of_bodyW mixed Try.func12 (of_decide_eq_true (by kernel_rfl)) (by rw [eq12]; exact h)

/-- shadowbook/frame.Kind -/
def an13 : Ann := (.seq .nil (.seq .nil (.seq (.seq .nil (.cond (.seq .nil .nil) .nil)) (.seq .nil .nil))))
def S13 (x0 : ByteArray) (x1 : Int) (K : Value → WP) : WP := 
  newW (.cells #[(.int .u8 (0 : Int)), (.int .u64 (0 : Int)), (.string ByteArray.empty)] 24) fun (r1 : Nat) =>
  callW Try.prog 10 [(.string x0)] (.many [(.agg [(.int .u8), (.int .u64), .str]), (.one (.int .i64))]) fun (u2 : (Int × Int × ByteArray × Unit) × Int × Unit) =>
  newW (.cells #[(.int .u8 (0 : Int)), (.int .u64 (0 : Int)), (.string ByteArray.empty)] 24) fun (r3 : Nat) =>
  guardW ((#[(.int .u8 u2.1.1), (.int .u64 u2.1.2.1), (.string u2.1.2.2.1)] : Array Value).size = 3) <|
  stAW (⟨r3, 0, none⟩ : Addr) [(.int .u8 u2.1.1), (.int .u64 u2.1.2.1), (.string u2.1.2.2.1)] <|
  splitW (u2.2.1 == (0 : Int)) (ldW (.int .u8) (⟨r3, 0, none⟩ : Addr) fun (u4 : Int) =>
  splitW (u4 != x1) (guardW ((#[(.int .u8 (0 : Int)), (.int .u64 (0 : Int)), (.string ByteArray.empty)] : Array Value).size = 3) <|
  stAW (⟨r1, 0, none⟩ : Addr) [(.int .u8 (0 : Int)), (.int .u64 (0 : Int)), (.string ByteArray.empty)] <|
  ldAW [(.int .u8), (.int .u64), .str] (⟨r1, 0, none⟩ : Addr) fun (u5 : (Int × Int × ByteArray × Unit)) => K (.tuple #[(.agg #[(.int .u8 u5.1), (.int .u64 u5.2.1), (.string u5.2.2.1)]), (.int .i64 (11 : Int))])) <|
  ldAW [(.int .u8), (.int .u64), .str] (⟨r3, 0, none⟩ : Addr) fun (u6 : (Int × Int × ByteArray × Unit)) =>
  guardW ((#[(.int .u8 u6.1), (.int .u64 u6.2.1), (.string u6.2.2.1)] : Array Value).size = 3) <|
  stAW (⟨r1, 0, none⟩ : Addr) [(.int .u8 u6.1), (.int .u64 u6.2.1), (.string u6.2.2.1)] <|
  ldAW [(.int .u8), (.int .u64), .str] (⟨r1, 0, none⟩ : Addr) fun (u7 : (Int × Int × ByteArray × Unit)) => K (.tuple #[(.agg #[(.int .u8 u7.1), (.int .u64 u7.2.1), (.string u7.2.2.1)]), (.int .i64 u2.2.1)])) <|
  ldAW [(.int .u8), (.int .u64), .str] (⟨r3, 0, none⟩ : Addr) fun (u8 : (Int × Int × ByteArray × Unit)) =>
  guardW ((#[(.int .u8 u8.1), (.int .u64 u8.2.1), (.string u8.2.2.1)] : Array Value).size = 3) <|
  stAW (⟨r1, 0, none⟩ : Addr) [(.int .u8 u8.1), (.int .u64 u8.2.1), (.string u8.2.2.1)] <|
  ldAW [(.int .u8), (.int .u64), .str] (⟨r1, 0, none⟩ : Addr) fun (u9 : (Int × Int × ByteArray × Unit)) => K (.tuple #[(.agg #[(.int .u8 u9.1), (.int .u64 u9.2.1), (.string u9.2.2.1)]), (.int .i64 u2.2.1)])
theorem eq13 (x0 : ByteArray) (x1 : Int) (K : Value → WP) : bodyW Try.prog Try.f13 an13 false [(.string x0), (.int .u8 x1)] K = S13 x0 x1 K := by kernel_rfl
theorem calls13 (x0 : ByteArray) (x1 : Int) {K : Value → WP} {w : World} (h : S13 x0 x1 K w) : Calls Try.prog 13 #[(.string x0), (.int .u8 x1)] w (Ret K) := callsR_of_bodyW mixed Try.func13 (of_decide_eq_true (by kernel_rfl)) (by rw [eq13]; exact h)

/-- shadowbook/shadowbookref04.Put -/
def an14 : Ann := (.seq .nil (.seq (.seq .nil (.cond (.seq .nil .nil) .nil)) (.seq (.seq .nil (.cond (.seq .nil .nil) .nil)) (.seq .nil (.seq .nil (.seq .nil (.seq .nil (.seq .nil (.seq .nil .nil)))))))))
def S14 (x0 : Int) (x1_0 : Int) (x1_1 : Int) (x1_2 : ByteArray) (K : Value → WP) : WP := 
  newW (.cells #[(.int .u8 x1_0), (.int .u64 x1_1), (.string x1_2)] 24) fun (r1 : Nat) =>
  callW Try.prog 17 [(.int .i64 x0)] (.one (.one (.int .i64))) fun (u2 : Int) =>
  splitW (u2 == (0 : Int)) (K (.tuple #[(.string (ByteArray.mk #[])), (.int .i64 (2 : Int))])) <|
  drewW <|
  ldW .str ((⟨r1, 0, none⟩ : Addr).add 2) fun (u3 : ByteArray) =>
  callW Try.prog 17 [(.int .i64 x0)] (.one (.one (.int .i64))) fun (u4 : Int) =>
  heldW [[(((⟨r1, 0, none⟩ : Addr).add 2), (.string u3))]] <|
  splitW (decide (((u3.size : Nat) : Int) > u4)) (K (.tuple #[(.string (ByteArray.mk #[])), (.int .i64 (3 : Int))])) <|
  ldW (.int .u8) (⟨r1, 0, none⟩ : Addr) fun (u5 : Int) =>
  newW (.cells #[(.int .u8 u5), (.int .u8 (0 : Int))] 5) fun (r6 : Nat) =>
  ldW .str ((⟨r1, 0, none⟩ : Addr).add 2) fun (u7 : ByteArray) =>
  callW Try.prog 24 [(.slice (some (⟨r6, 0, none⟩ : Addr)) 2 2), (.int .u64 (IntKind.wrap .u64 ((u7.size : Nat) : Int))), (.int .i64 (2 : Int))] (.one (.one .slc)) fun (u8 : (Option Addr × Nat × Nat)) =>
  ldW (.int .u64) ((⟨r1, 0, none⟩ : Addr).add 1) fun (u9 : Int) =>
  callW Try.prog 24 [(.slice u8.1 u8.2.1 u8.2.2), (.int .u64 u9), (.int .i64 (8 : Int))] (.one (.one .slc)) fun (u10 : (Option Addr × Nat × Nat)) =>
  ldW .str ((⟨r1, 0, none⟩ : Addr).add 2) fun (u11 : ByteArray) =>
  runW Try.prog (Builtin.append_ #[37, 9] 37 #[(.slice u10.1 u10.2.1 u10.2.2), (.string u11)]) .slc fun (u12 : (Option Addr × Nat × Nat)) =>
  runW Try.prog (Builtin.append_ #[37, 3] 37 #[(.slice u12.1 u12.2.1 u12.2.2), (.int .i64 (IntKind.wrap .i64 ((IntKind.wrap .i64 (x0 - (4 : Int))) - ((u12.2.1 : Nat) : Int))))]) .slc fun (u13 : (Option Addr × Nat × Nat)) =>
  callW Try.prog 25 [(.slice u13.1 u13.2.1 u13.2.2)] (.one (.one (.int .u32))) fun (u14 : Int) =>
  callW Try.prog 24 [(.slice u13.1 u13.2.1 u13.2.2), (.int .u64 (IntKind.wrap .u64 u14)), (.int .i64 (4 : Int))] (.one (.one .slc)) fun (u15 : (Option Addr × Nat × Nat)) =>
  runW Try.prog (Go.convert 37 9 (.slice u15.1 u15.2.1 u15.2.2)) .str fun (u16 : ByteArray) => K (.tuple #[(.string u16), (.int .i64 (0 : Int))])
theorem eq14 (x0 : Int) (x1_0 : Int) (x1_1 : Int) (x1_2 : ByteArray) (K : Value → WP) : bodyW Try.prog Try.f14 an14 false [(.int .i64 x0), (.agg #[(.int .u8 x1_0), (.int .u64 x1_1), (.string x1_2)])] K = S14 x0 x1_0 x1_1 x1_2 K := by kernel_rfl
theorem calls14 (x0 : Int) (x1_0 : Int) (x1_1 : Int) (x1_2 : ByteArray) {K : Value → WP} {w : World} (h : S14 x0 x1_0 x1_1 x1_2 K w) : Calls Try.prog 14 #[(.int .i64 x0), (.agg #[(.int .u8 x1_0), (.int .u64 x1_1), (.string x1_2)])] w (Ret K) := callsR_of_bodyW mixed Try.func14 (of_decide_eq_true (by kernel_rfl)) (by rw [eq14]; exact h)

/-- shadowbook/shadowbookref04.Get -/
def an15 : Ann := (.seq .nil (.seq (.seq .nil (.cond (.seq .nil .nil) .nil)) (.seq .nil (.seq .nil (.seq (.seq .nil (.cond (.seq .nil .nil) .nil)) (.seq .nil (.seq (.seq .nil (.cond (.seq .nil .nil) .nil)) (.seq .nil (.seq .nil (.seq (.seq .nil (.cond (.seq .nil .nil) .nil)) (.seq .nil .nil)))))))))))
def S15 (x0 : ByteArray) (K : Value → WP) : WP := 
  newW (.cells #[(.int .u8 (0 : Int)), (.int .u64 (0 : Int)), (.string ByteArray.empty)] 24) fun (r1 : Nat) =>
  callW Try.prog 17 [(.int .i64 ((x0.size : Nat) : Int))] (.one (.one (.int .i64))) fun (u2 : Int) =>
  splitW (u2 == (0 : Int)) (guardW ((#[(.int .u8 (0 : Int)), (.int .u64 (0 : Int)), (.string ByteArray.empty)] : Array Value).size = 3) <|
  stAW (⟨r1, 0, none⟩ : Addr) [(.int .u8 (0 : Int)), (.int .u64 (0 : Int)), (.string ByteArray.empty)] <|
  ldAW [(.int .u8), (.int .u64), .str] (⟨r1, 0, none⟩ : Addr) fun (u3 : (Int × Int × ByteArray × Unit)) => K (.tuple #[(.agg #[(.int .u8 u3.1), (.int .u64 u3.2.1), (.string u3.2.2.1)]), (.int .i64 (2 : Int))])) <|
  runW Try.prog (Go.convert 9 37 (.string x0)) .slc fun (u4 : (Option Addr × Nat × Nat)) =>
  drewW <|
  guardW (0 ≤ (IntKind.wrap .i64 (((u4.2.1 : Nat) : Int) - (4 : Int))) ∧ (IntKind.wrap .i64 (((u4.2.1 : Nat) : Int) - (4 : Int))) ≤ ((u4.2.2 : Nat) : Int)) <|
  guardW (0 ≤ (IntKind.wrap .i64 (((u4.2.1 : Nat) : Int) - (4 : Int))) ∧ (IntKind.wrap .i64 (((u4.2.1 : Nat) : Int) - (4 : Int))) ≤ ((u4.2.1 : Nat) : Int)) <|
  callW Try.prog 25 [(.slice (cutAddr u4.1 0 u4.2.2 1) (Int.toNat (IntKind.wrap .i64 (((u4.2.1 : Nat) : Int) - (4 : Int)))) u4.2.2)] (.one (.one (.int .u32))) fun (u5 : Int) =>
  callW Try.prog 26 [(.slice (cutAddr u4.1 (Int.toNat (IntKind.wrap .i64 (((u4.2.1 : Nat) : Int) - (4 : Int)))) u4.2.2 1) (u4.2.1 - (Int.toNat (IntKind.wrap .i64 (((u4.2.1 : Nat) : Int) - (4 : Int))))) (u4.2.2 - (Int.toNat (IntKind.wrap .i64 (((u4.2.1 : Nat) : Int) - (4 : Int))))))] (.one (.one (.int .u64))) fun (u6 : Int) =>
  splitW ((IntKind.wrap .u64 u5) != u6) (guardW ((#[(.int .u8 (0 : Int)), (.int .u64 (0 : Int)), (.string ByteArray.empty)] : Array Value).size = 3) <|
  stAW (⟨r1, 0, none⟩ : Addr) [(.int .u8 (0 : Int)), (.int .u64 (0 : Int)), (.string ByteArray.empty)] <|
  ldAW [(.int .u8), (.int .u64), .str] (⟨r1, 0, none⟩ : Addr) fun (u7 : (Int × Int × ByteArray × Unit)) => K (.tuple #[(.agg #[(.int .u8 u7.1), (.int .u64 u7.2.1), (.string u7.2.2.1)]), (.int .i64 (10 : Int))])) <|
  guardW (0 ≤ (2 : Int) ∧ (2 : Int) ≤ (4 : Int) ∧ (4 : Int) ≤ ((u4.2.2 : Nat) : Int)) <|
  callW Try.prog 26 [(.slice (cutAddr u4.1 (Int.toNat (2 : Int)) u4.2.2 1) ((Int.toNat (4 : Int)) - (Int.toNat (2 : Int))) (u4.2.2 - (Int.toNat (2 : Int))))] (.one (.one (.int .u64))) fun (u8 : Int) =>
  callW Try.prog 17 [(.int .i64 ((u4.2.1 : Nat) : Int))] (.one (.one (.int .i64))) fun (u9 : Int) =>
  splitW (decide ((IntKind.wrap .i64 u8) > u9)) (guardW ((#[(.int .u8 (0 : Int)), (.int .u64 (0 : Int)), (.string ByteArray.empty)] : Array Value).size = 3) <|
  stAW (⟨r1, 0, none⟩ : Addr) [(.int .u8 (0 : Int)), (.int .u64 (0 : Int)), (.string ByteArray.empty)] <|
  ldAW [(.int .u8), (.int .u64), .str] (⟨r1, 0, none⟩ : Addr) fun (u10 : (Int × Int × ByteArray × Unit)) => K (.tuple #[(.agg #[(.int .u8 u10.1), (.int .u64 u10.2.1), (.string u10.2.2.1)]), (.int .i64 (4 : Int))])) <|
  drewW <|
  guardW (0 ≤ (0 : Int) ∧ (0 : Int) < ((u4.2.1 : Nat) : Int)) <|
  ptrW u4.1 fun (p11 : Addr) =>
  ldW (.int .u8) (p11.add (Int.toNat (0 : Int) * 1)) fun (u12 : Int) =>
  guardW (0 ≤ (4 : Int) ∧ (4 : Int) ≤ (12 : Int) ∧ (12 : Int) ≤ ((u4.2.2 : Nat) : Int)) <|
  guardW (0 ≤ (12 : Int) ∧ (12 : Int) ≤ (IntKind.wrap .i64 ((12 : Int) + (IntKind.wrap .i64 u8))) ∧ (IntKind.wrap .i64 ((12 : Int) + (IntKind.wrap .i64 u8))) ≤ ((x0.size : Nat) : Int)) <|
  bothW (callW Try.prog 26 [(.slice (cutAddr u4.1 (Int.toNat (4 : Int)) u4.2.2 1) ((Int.toNat (12 : Int)) - (Int.toNat (4 : Int))) (u4.2.2 - (Int.toNat (4 : Int))))] (.one (.one (.int .u64))) fun (u13 : Int) =>
  heldW [[((p11.add (Int.toNat (0 : Int) * 1)), (.int .u8 u12))]] <|
  newW (.cells #[(.int .u8 (0 : Int)), (.int .u64 (0 : Int)), (.string ByteArray.empty)] 24) fun (r14 : Nat) =>
  heldW [[((p11.add (Int.toNat (0 : Int) * 1)), (.int .u8 u12))]] <|
  guardW ((#[(.int .u8 u12), (.int .u64 u13), (.string (ByteArray.extract x0 (Int.toNat (12 : Int)) (Int.toNat (IntKind.wrap .i64 ((12 : Int) + (IntKind.wrap .i64 u8))))))] : Array Value).size = 3) <|
  stAW (⟨r14, 0, none⟩ : Addr) [(.int .u8 u12), (.int .u64 u13), (.string (ByteArray.extract x0 (Int.toNat (12 : Int)) (Int.toNat (IntKind.wrap .i64 ((12 : Int) + (IntKind.wrap .i64 u8))))))] <|
  ldAW [(.int .u8), (.int .u64), .str] (⟨r14, 0, none⟩ : Addr) fun (u15 : (Int × Int × ByteArray × Unit)) =>
  callW Try.prog 14 [(.int .i64 ((u4.2.1 : Nat) : Int)), (.agg #[(.int .u8 u15.1), (.int .u64 u15.2.1), (.string u15.2.2.1)])] (.many [(.one .str), (.one (.int .i64))]) fun (u16 : ByteArray × Int × Unit) =>
  splitW (u16.2.1 != (0 : Int)) (guardW ((#[(.int .u8 (0 : Int)), (.int .u64 (0 : Int)), (.string ByteArray.empty)] : Array Value).size = 3) <|
  stAW (⟨r1, 0, none⟩ : Addr) [(.int .u8 (0 : Int)), (.int .u64 (0 : Int)), (.string ByteArray.empty)] <|
  ldAW [(.int .u8), (.int .u64), .str] (⟨r1, 0, none⟩ : Addr) fun (u17 : (Int × Int × ByteArray × Unit)) => K (.tuple #[(.agg #[(.int .u8 u17.1), (.int .u64 u17.2.1), (.string u17.2.2.1)]), (.int .i64 (4 : Int))])) <|
  splitW (!(u16.1.toList == x0.toList)) (guardW ((#[(.int .u8 (0 : Int)), (.int .u64 (0 : Int)), (.string ByteArray.empty)] : Array Value).size = 3) <|
  stAW (⟨r1, 0, none⟩ : Addr) [(.int .u8 (0 : Int)), (.int .u64 (0 : Int)), (.string ByteArray.empty)] <|
  ldAW [(.int .u8), (.int .u64), .str] (⟨r1, 0, none⟩ : Addr) fun (u18 : (Int × Int × ByteArray × Unit)) => K (.tuple #[(.agg #[(.int .u8 u18.1), (.int .u64 u18.2.1), (.string u18.2.2.1)]), (.int .i64 (4 : Int))])) <|
  ldAW [(.int .u8), (.int .u64), .str] (⟨r14, 0, none⟩ : Addr) fun (u19 : (Int × Int × ByteArray × Unit)) =>
  guardW ((#[(.int .u8 u19.1), (.int .u64 u19.2.1), (.string u19.2.2.1)] : Array Value).size = 3) <|
  stAW (⟨r1, 0, none⟩ : Addr) [(.int .u8 u19.1), (.int .u64 u19.2.1), (.string u19.2.2.1)] <|
  ldAW [(.int .u8), (.int .u64), .str] (⟨r1, 0, none⟩ : Addr) fun (u20 : (Int × Int × ByteArray × Unit)) => K (.tuple #[(.agg #[(.int .u8 u20.1), (.int .u64 u20.2.1), (.string u20.2.2.1)]), (.int .i64 (0 : Int))])) <|
  newW (.cells #[(.int .u8 (0 : Int)), (.int .u64 (0 : Int)), (.string ByteArray.empty)] 24) fun (r21 : Nat) =>
  heldW [[((p11.add (Int.toNat (0 : Int) * 1)), (.int .u8 u12))]] <|
  callW Try.prog 26 [(.slice (cutAddr u4.1 (Int.toNat (4 : Int)) u4.2.2 1) ((Int.toNat (12 : Int)) - (Int.toNat (4 : Int))) (u4.2.2 - (Int.toNat (4 : Int))))] (.one (.one (.int .u64))) fun (u22 : Int) =>
  heldW [[((p11.add (Int.toNat (0 : Int) * 1)), (.int .u8 u12))]] <|
  guardW ((#[(.int .u8 u12), (.int .u64 u22), (.string (ByteArray.extract x0 (Int.toNat (12 : Int)) (Int.toNat (IntKind.wrap .i64 ((12 : Int) + (IntKind.wrap .i64 u8))))))] : Array Value).size = 3) <|
  stAW (⟨r21, 0, none⟩ : Addr) [(.int .u8 u12), (.int .u64 u22), (.string (ByteArray.extract x0 (Int.toNat (12 : Int)) (Int.toNat (IntKind.wrap .i64 ((12 : Int) + (IntKind.wrap .i64 u8))))))] <|
  ldAW [(.int .u8), (.int .u64), .str] (⟨r21, 0, none⟩ : Addr) fun (u23 : (Int × Int × ByteArray × Unit)) =>
  callW Try.prog 14 [(.int .i64 ((u4.2.1 : Nat) : Int)), (.agg #[(.int .u8 u23.1), (.int .u64 u23.2.1), (.string u23.2.2.1)])] (.many [(.one .str), (.one (.int .i64))]) fun (u24 : ByteArray × Int × Unit) =>
  splitW (u24.2.1 != (0 : Int)) (guardW ((#[(.int .u8 (0 : Int)), (.int .u64 (0 : Int)), (.string ByteArray.empty)] : Array Value).size = 3) <|
  stAW (⟨r1, 0, none⟩ : Addr) [(.int .u8 (0 : Int)), (.int .u64 (0 : Int)), (.string ByteArray.empty)] <|
  ldAW [(.int .u8), (.int .u64), .str] (⟨r1, 0, none⟩ : Addr) fun (u25 : (Int × Int × ByteArray × Unit)) => K (.tuple #[(.agg #[(.int .u8 u25.1), (.int .u64 u25.2.1), (.string u25.2.2.1)]), (.int .i64 (4 : Int))])) <|
  splitW (!(u24.1.toList == x0.toList)) (guardW ((#[(.int .u8 (0 : Int)), (.int .u64 (0 : Int)), (.string ByteArray.empty)] : Array Value).size = 3) <|
  stAW (⟨r1, 0, none⟩ : Addr) [(.int .u8 (0 : Int)), (.int .u64 (0 : Int)), (.string ByteArray.empty)] <|
  ldAW [(.int .u8), (.int .u64), .str] (⟨r1, 0, none⟩ : Addr) fun (u26 : (Int × Int × ByteArray × Unit)) => K (.tuple #[(.agg #[(.int .u8 u26.1), (.int .u64 u26.2.1), (.string u26.2.2.1)]), (.int .i64 (4 : Int))])) <|
  ldAW [(.int .u8), (.int .u64), .str] (⟨r21, 0, none⟩ : Addr) fun (u27 : (Int × Int × ByteArray × Unit)) =>
  guardW ((#[(.int .u8 u27.1), (.int .u64 u27.2.1), (.string u27.2.2.1)] : Array Value).size = 3) <|
  stAW (⟨r1, 0, none⟩ : Addr) [(.int .u8 u27.1), (.int .u64 u27.2.1), (.string u27.2.2.1)] <|
  ldAW [(.int .u8), (.int .u64), .str] (⟨r1, 0, none⟩ : Addr) fun (u28 : (Int × Int × ByteArray × Unit)) => K (.tuple #[(.agg #[(.int .u8 u28.1), (.int .u64 u28.2.1), (.string u28.2.2.1)]), (.int .i64 (0 : Int))])
theorem eq15 (x0 : ByteArray) (K : Value → WP) : bodyW Try.prog Try.f15 an15 false [(.string x0)] K = S15 x0 K := by kernel_rfl
theorem calls15 (x0 : ByteArray) {K : Value → WP} {w : World} (h : S15 x0 K w) : Calls Try.prog 15 #[(.string x0)] w (Ret K) := callsR_of_bodyW mixed Try.func15 (of_decide_eq_true (by kernel_rfl)) (by rw [eq15]; exact h)

/-- shadowbook/shadowbookref04.Kind -/
def an16 : Ann := (.seq .nil (.seq .nil (.seq (.seq .nil (.cond (.seq .nil .nil) .nil)) (.seq .nil .nil))))
def S16 (x0 : ByteArray) (x1 : Int) (K : Value → WP) : WP := 
  newW (.cells #[(.int .u8 (0 : Int)), (.int .u64 (0 : Int)), (.string ByteArray.empty)] 24) fun (r1 : Nat) =>
  callW Try.prog 15 [(.string x0)] (.many [(.agg [(.int .u8), (.int .u64), .str]), (.one (.int .i64))]) fun (u2 : (Int × Int × ByteArray × Unit) × Int × Unit) =>
  newW (.cells #[(.int .u8 (0 : Int)), (.int .u64 (0 : Int)), (.string ByteArray.empty)] 24) fun (r3 : Nat) =>
  guardW ((#[(.int .u8 u2.1.1), (.int .u64 u2.1.2.1), (.string u2.1.2.2.1)] : Array Value).size = 3) <|
  stAW (⟨r3, 0, none⟩ : Addr) [(.int .u8 u2.1.1), (.int .u64 u2.1.2.1), (.string u2.1.2.2.1)] <|
  splitW (u2.2.1 == (0 : Int)) (ldW (.int .u8) (⟨r3, 0, none⟩ : Addr) fun (u4 : Int) =>
  splitW (u4 != x1) (guardW ((#[(.int .u8 (0 : Int)), (.int .u64 (0 : Int)), (.string ByteArray.empty)] : Array Value).size = 3) <|
  stAW (⟨r1, 0, none⟩ : Addr) [(.int .u8 (0 : Int)), (.int .u64 (0 : Int)), (.string ByteArray.empty)] <|
  ldAW [(.int .u8), (.int .u64), .str] (⟨r1, 0, none⟩ : Addr) fun (u5 : (Int × Int × ByteArray × Unit)) => K (.tuple #[(.agg #[(.int .u8 u5.1), (.int .u64 u5.2.1), (.string u5.2.2.1)]), (.int .i64 (11 : Int))])) <|
  ldAW [(.int .u8), (.int .u64), .str] (⟨r3, 0, none⟩ : Addr) fun (u6 : (Int × Int × ByteArray × Unit)) =>
  guardW ((#[(.int .u8 u6.1), (.int .u64 u6.2.1), (.string u6.2.2.1)] : Array Value).size = 3) <|
  stAW (⟨r1, 0, none⟩ : Addr) [(.int .u8 u6.1), (.int .u64 u6.2.1), (.string u6.2.2.1)] <|
  ldAW [(.int .u8), (.int .u64), .str] (⟨r1, 0, none⟩ : Addr) fun (u7 : (Int × Int × ByteArray × Unit)) => K (.tuple #[(.agg #[(.int .u8 u7.1), (.int .u64 u7.2.1), (.string u7.2.2.1)]), (.int .i64 u2.2.1)])) <|
  ldAW [(.int .u8), (.int .u64), .str] (⟨r3, 0, none⟩ : Addr) fun (u8 : (Int × Int × ByteArray × Unit)) =>
  guardW ((#[(.int .u8 u8.1), (.int .u64 u8.2.1), (.string u8.2.2.1)] : Array Value).size = 3) <|
  stAW (⟨r1, 0, none⟩ : Addr) [(.int .u8 u8.1), (.int .u64 u8.2.1), (.string u8.2.2.1)] <|
  ldAW [(.int .u8), (.int .u64), .str] (⟨r1, 0, none⟩ : Addr) fun (u9 : (Int × Int × ByteArray × Unit)) => K (.tuple #[(.agg #[(.int .u8 u9.1), (.int .u64 u9.2.1), (.string u9.2.2.1)]), (.int .i64 u2.2.1)])
theorem eq16 (x0 : ByteArray) (x1 : Int) (K : Value → WP) : bodyW Try.prog Try.f16 an16 false [(.string x0), (.int .u8 x1)] K = S16 x0 x1 K := by kernel_rfl
theorem calls16 (x0 : ByteArray) (x1 : Int) {K : Value → WP} {w : World} (h : S16 x0 x1 K w) : Calls Try.prog 16 #[(.string x0), (.int .u8 x1)] w (Ret K) := callsR_of_bodyW mixed Try.func16 (of_decide_eq_true (by kernel_rfl)) (by rw [eq16]; exact h)

/-- shadowbook/shadowbookref04.Room -/
def an17 : Ann := (.seq .nil (.seq (.seq .nil (.cond (.seq .nil .nil) .nil)) (.seq .nil .nil)))
def S17 (x0 : Int) (K : Value → WP) : WP := 
  callW Try.prog 27 [(.agg #[(.int .i64 x0), (.int .i64 (8 : Int))])] (.one (.one (.int .i64))) fun (u1 : Int) =>
  splitW (u1 != (0 : Int)) (K (.int .i64 (0 : Int))) <| K (.int .i64 (IntKind.wrap .i64 (x0 - (16 : Int))))
theorem eq17 (x0 : Int) (K : Value → WP) : bodyW Try.prog Try.f17 an17 false [(.int .i64 x0)] K = S17 x0 K := by kernel_rfl
theorem calls17 (x0 : Int) {K : Value → WP} {w : World} (h : S17 x0 K w) : Calls Try.prog 17 #[(.int .i64 x0)] w (Ret K) := callsR_of_bodyW mixed Try.func17 (of_decide_eq_true (by kernel_rfl)) (by rw [eq17]; exact h)

/-- shadowbook/shadowbookref02.Flip -/
def an18 : Ann := (.seq .nil (.seq .nil (.seq (.seq .nil (.cond (.seq .nil .nil) .nil)) (.seq (.seq .nil (.block (.loop [(10, .sh (.one (.int .i64)))] [0, 1, 2, 3, 9, 1000000] (.seq (.seq .nil (.cond .nil .nil)) (.seq (.block (.seq (.seq .nil (.cond .nil .nil)) (.seq .nil (.cond .nil .nil)))) .nil))))) (.seq .nil .nil)))))
def S18 (a0 : Option Addr) (n0 c0 : Nat) (x1 : Int) (x2 : Int) (x3 : Int) (K : Value → WP) : WP := 
  newW (.cells #[] 5) fun (r1 : Nat) =>
  runW Try.prog (Builtin.append_ #[37, 37] 37 #[(.slice (some (⟨r1, 0, none⟩ : Addr)) 0 0), (.slice a0 n0 c0)]) .slc fun (u2 : (Option Addr × Nat × Nat)) =>
  splitW (decide (x1 < (0 : Int))) (K (.slice u2.1 u2.2.1 u2.2.2)) <|
  splitW (decide (x2 < (0 : Int))) (K (.slice u2.1 u2.2.1 u2.2.2)) <|
  splitW (decide (x2 > (32 : Int))) (K (.slice u2.1 u2.2.1 u2.2.2)) <|
  loopW (Int × Unit) ((0 : Int), ()) fun (y4 : Int × Unit) (I3 : (Int × Unit) → WP) =>
  splitW (decide (y4.1 < x2)) (splitW (decide (x1 ≥ (IntKind.wrap .i64 ((8 : Int) * ((n0 : Nat) : Int))))) (K (.slice u2.1 u2.2.1 u2.2.2)) <|
  splitW (decide (y4.1 ≥ (IntKind.wrap .i64 ((IntKind.wrap .i64 ((8 : Int) * ((n0 : Nat) : Int))) - x1)))) (K (.slice u2.1 u2.2.1 u2.2.2)) <|
  guardW (0 ≤ (IntKind.wrap .u64 y4.1)) <|
  splitW ((Int.tmod (ishr .u32 x3 (IntKind.wrap .u64 y4.1)) (2 : Int)) == (1 : Int)) (guardW (0 ≤ (IntKind.wrap .i64 (Int.tdiv (IntKind.wrap .i64 (x1 + y4.1)) (8 : Int))) ∧ (IntKind.wrap .i64 (Int.tdiv (IntKind.wrap .i64 (x1 + y4.1)) (8 : Int))) < ((u2.2.1 : Nat) : Int)) <|
  ptrW u2.1 fun (p5 : Addr) =>
  ldW (.int .u8) (p5.add (Int.toNat (IntKind.wrap .i64 (Int.tdiv (IntKind.wrap .i64 (x1 + y4.1)) (8 : Int))) * 1)) fun (u6 : Int) =>
  guardW (0 ≤ (IntKind.wrap .u64 (Int.tmod (IntKind.wrap .i64 (x1 + y4.1)) (8 : Int)))) <|
  guardW (0 ≤ (IntKind.wrap .i64 (Int.tdiv (IntKind.wrap .i64 (x1 + y4.1)) (8 : Int))) ∧ (IntKind.wrap .i64 (Int.tdiv (IntKind.wrap .i64 (x1 + y4.1)) (8 : Int))) < ((u2.2.1 : Nat) : Int)) <|
  ptrW u2.1 fun (p7 : Addr) =>
  stW (p7.add (Int.toNat (IntKind.wrap .i64 (Int.tdiv (IntKind.wrap .i64 (x1 + y4.1)) (8 : Int))) * 1)) (.int .u8 (ixor .u8 u6 (ishl .u8 (1 : Int) (IntKind.wrap .u64 (Int.tmod (IntKind.wrap .i64 (x1 + y4.1)) (8 : Int)))))) <| I3 ((IntKind.wrap .i64 (y4.1 + (1 : Int))), ())) <| I3 ((IntKind.wrap .i64 (y4.1 + (1 : Int))), ())) <| K (.slice u2.1 u2.2.1 u2.2.2)
theorem eq18 (a0 : Option Addr) (n0 c0 : Nat) (x1 : Int) (x2 : Int) (x3 : Int) (K : Value → WP) : bodyW Try.prog Try.f18 an18 false [(.slice a0 n0 c0), (.int .i64 x1), (.int .i64 x2), (.int .u32 x3)] K = S18 a0 n0 c0 x1 x2 x3 K := by kernel_rfl
theorem calls18 (a0 : Option Addr) (n0 c0 : Nat) (x1 : Int) (x2 : Int) (x3 : Int) {K : Value → WP} {w : World} (h : S18 a0 n0 c0 x1 x2 x3 K w) : Calls Try.prog 18 #[(.slice a0 n0 c0), (.int .i64 x1), (.int .i64 x2), (.int .u32 x3)] w (Ret K) := callsR_of_bodyW mixed Try.func18 (of_decide_eq_true (by kernel_rfl)) (by rw [eq18]; exact h)

/-- shadowbook/shadowbookkit.Pick -/
def an19 : Ann := (.seq .nil (.seq (.seq .nil (.cond (.seq .nil .nil) .nil)) (.seq .nil (.seq (.seq .nil (.cond .nil .nil)) (.seq .nil .nil)))))
def S19 (x0 : Int) (x1 : Int) (K : Value → WP) : WP := 
  splitW (decide (x1 < (1 : Int))) (K (.int .i64 (0 : Int))) <|
  guardW (x1 ≠ 0) <|
  splitW (decide ((Int.tmod x0 x1) < (0 : Int))) (K (.int .i64 (IntKind.wrap .i64 ((Int.tmod x0 x1) + x1)))) <| K (.int .i64 (Int.tmod x0 x1))
theorem eq19 (x0 : Int) (x1 : Int) (K : Value → WP) : bodyW Try.prog Try.f19 an19 false [(.int .i64 x0), (.int .i64 x1)] K = S19 x0 x1 K := by kernel_rfl
theorem calls19 (x0 : Int) (x1 : Int) {K : Value → WP} {w : World} (h : S19 x0 x1 K w) : Calls Try.prog 19 #[(.int .i64 x0), (.int .i64 x1)] w (Ret K) := callsR_of_bodyW mixed Try.func19 (of_decide_eq_true (by kernel_rfl)) (by rw [eq19]; exact h)

/-- shadowbook/octet.Put -/
def an20 : Ann := (.seq .nil (.seq (.seq .nil (.cond (.seq .nil .nil) .nil)) (.seq (.seq .nil (.block (.loop [(0, .sh (.one .slc)), (16, .sh (.one (.int .i64)))] [1, 15, 1000000] (.seq .nil (.seq (.cond .nil .nil) (.seq (.block (.seq .nil .nil)) .nil)))))) (.seq .nil .nil))))
def S20 (a0 : Option Addr) (n0 c0 : Nat) (x1 : Int) (x2 : Int) (K : Value → WP) : WP := 
  splitW (decide (x2 < (1 : Int))) (K (.slice a0 n0 c0)) <|
  splitW (decide (x2 > (8 : Int))) (K (.slice a0 n0 c0)) <|
  loopW ((Option Addr × Nat × Nat) × Int × Unit) ((a0, n0, c0), (0 : Int), ()) fun (y2 : (Option Addr × Nat × Nat) × Int × Unit) (I1 : ((Option Addr × Nat × Nat) × Int × Unit) → WP) =>
  splitW (decide (y2.2.1 < x2)) (guardW (0 ≤ (IntKind.wrap .i64 ((8 : Int) * y2.2.1))) <|
  newW (.cells #[(.int .u8 (IntKind.wrap .u8 (ishr .u64 x1 (IntKind.wrap .i64 ((8 : Int) * y2.2.1)))))] 5) fun (r3 : Nat) =>
  runW Try.prog (Builtin.append_ #[37, 37] 37 #[(.slice y2.1.1 y2.1.2.1 y2.1.2.2), (.slice (some (⟨r3, 0, none⟩ : Addr)) 1 1)]) .slc fun (u4 : (Option Addr × Nat × Nat)) => I1 ((u4.1, u4.2.1, u4.2.2), (IntKind.wrap .i64 (y2.2.1 + (1 : Int))), ())) <| K (.slice y2.1.1 y2.1.2.1 y2.1.2.2)
theorem eq20 (a0 : Option Addr) (n0 c0 : Nat) (x1 : Int) (x2 : Int) (K : Value → WP) : bodyW Try.prog Try.f20 an20 false [(.slice a0 n0 c0), (.int .u64 x1), (.int .i64 x2)] K = S20 a0 n0 c0 x1 x2 K := by kernel_rfl
theorem calls20 (a0 : Option Addr) (n0 c0 : Nat) (x1 : Int) (x2 : Int) {K : Value → WP} {w : World} (h : S20 a0 n0 c0 x1 x2 K w) : Calls Try.prog 20 #[(.slice a0 n0 c0), (.int .u64 x1), (.int .i64 x2)] w (Ret K) := callsR_of_bodyW mixed Try.func20 (of_decide_eq_true (by kernel_rfl)) (by rw [eq20]; exact h)

/-- shadowbook/crc.Of -/
def an21 : Ann := (.seq .nil (.seq .nil .nil))
def S21 (a0 : Option Addr) (n0 c0 : Nat) (K : Value → WP) : WP := 
  callW Try.prog 29 [] (.one (.arr 256)) fun (u1 : Array Value) =>
  callW Try.prog 28 [(.agg u1), (.slice a0 n0 c0)] (.one (.one (.int .u32))) fun (u2 : Int) => K (.int .u32 u2)
theorem eq21 (a0 : Option Addr) (n0 c0 : Nat) (K : Value → WP) : bodyW Try.prog Try.f21 an21 false [(.slice a0 n0 c0)] K = S21 a0 n0 c0 K := by kernel_rfl
theorem calls21 (a0 : Option Addr) (n0 c0 : Nat) {K : Value → WP} {w : World} (h : S21 a0 n0 c0 K w) : Calls Try.prog 21 #[(.slice a0 n0 c0)] w (Ret K) := callsR_of_bodyW mixed Try.func21 (of_decide_eq_true (by kernel_rfl)) (by rw [eq21]; exact h)

/-- shadowbook/octet.Of -/
def an22 : Ann := (.seq .nil (.seq (.seq .nil (.cond (.seq .nil .nil) .nil)) (.seq (.seq .nil (.block (.loop [(10, .sh (.one (.int .i64))), (11, .sh (.one (.int .u8)))] [] (.seq .nil (.block .nil))))) (.seq .nil .nil))))
def S22 (a0 : Option Addr) (n0 c0 : Nat) (K : Value → WP) : WP := 
  newW (.cells #[(.int .u64 (0 : Int))] 22) fun (r1 : Nat) =>
  splitW (decide (((n0 : Nat) : Int) > (8 : Int))) (stW (⟨r1, 0, none⟩ : Addr) (.int .u64 (0 : Int)) <|
  leaveW Try.prog [] <|
  ldW (.int .u64) (⟨r1, 0, none⟩ : Addr) fun (u2 : Int) => K (.int .u64 u2)) <|
  callW Try.prog 30 [(.slice a0 n0 c0)] (.one (.one .any)) fun (u3 : Value) =>
  rangeW Try.prog u3 (Int × Int × Unit) (fun (t4 : Int × Int × Unit) => [(.int .i64 t4.1), (.int .u8 t4.2.1)]) (fun (t4 : Int × Int × Unit) (B5 : WP → WP) (N6 : WP) (Q7 : Code → WP) => B5 (ldW (.int .u64) (⟨r1, 0, none⟩ : Addr) fun (u10 : Int) =>
  stW (⟨r1, 0, none⟩ : Addr) (.int .u64 (ior .u64 (ishl .u64 u10 (8 : Int)) (IntKind.wrap .u64 t4.2.1))) <| N6)) fun (r8 : Nat) (p9 : Option Code) =>
  jumpK (ldW (.int .u64) (⟨r1, 0, none⟩ : Addr) fun (u11 : Int) =>
  stW (⟨r1, 0, none⟩ : Addr) (.int .u64 u11) <|
  leaveW Try.prog (⟨.collected r8, #[]⟩ :: []) <|
  ldW (.int .u64) (⟨r1, 0, none⟩ : Addr) fun (u12 : Int) => K (.int .u64 u12)) (leaveW Try.prog (⟨.collected r8, #[]⟩ :: []) <|
  ldW (.int .u64) (⟨r1, 0, none⟩ : Addr) fun (u13 : Int) => K (.int .u64 u13)) [] p9
theorem eq22 (a0 : Option Addr) (n0 c0 : Nat) (K : Value → WP) : bodyW Try.prog Try.f22 an22 true [(.slice a0 n0 c0)] K = S22 a0 n0 c0 K := by kernel_rfl
theorem calls22 (a0 : Option Addr) (n0 c0 : Nat) {K : Value → WP} {w : World} (h : S22 a0 n0 c0 K w) : Calls Try.prog 22 #[(.slice a0 n0 c0)] w (Ret K) := callsR_of_bodyW mixed Try.func22 (of_decide_eq_true (by kernel_rfl)) (by rw [eq22]; exact h)

/-- shadowbook/device.Check -/
def an23 : Ann := (.seq .nil (.seq (.seq .nil (.cond (.seq .nil .nil) .nil)) (.seq .nil .nil)))
def S23 (x0_0 : Int) (x0_1 : Int) (K : Value → WP) : WP := 
  newW (.cells #[(.int .i64 x0_0), (.int .i64 x0_1)] 47) fun (r1 : Nat) =>
  ldW (.int .i64) (⟨r1, 0, none⟩ : Addr) fun (u2 : Int) =>
  splitW (decide (u2 < (128 : Int))) (K (.int .i64 (2 : Int))) <|
  ldW (.int .i64) (⟨r1, 0, none⟩ : Addr) fun (u3 : Int) =>
  splitW (decide (u3 > (4096 : Int))) (K (.int .i64 (2 : Int))) <|
  ldW (.int .i64) (⟨r1, 0, none⟩ : Addr) fun (u4 : Int) =>
  splitW ((Int.tmod u4 (64 : Int)) != (0 : Int)) (K (.int .i64 (2 : Int))) <|
  ldW (.int .i64) ((⟨r1, 0, none⟩ : Addr).add 1) fun (u5 : Int) =>
  splitW (decide (u5 < (8 : Int))) (K (.int .i64 (2 : Int))) <|
  ldW (.int .i64) ((⟨r1, 0, none⟩ : Addr).add 1) fun (u6 : Int) =>
  splitW (decide (u6 > (4096 : Int))) (K (.int .i64 (2 : Int))) <| K (.int .i64 (0 : Int))
theorem eq23 (x0_0 : Int) (x0_1 : Int) (K : Value → WP) : bodyW Try.prog Try.f23 an23 false [(.agg #[(.int .i64 x0_0), (.int .i64 x0_1)])] K = S23 x0_0 x0_1 K := by kernel_rfl
theorem calls23 (x0_0 : Int) (x0_1 : Int) {K : Value → WP} {w : World} (h : S23 x0_0 x0_1 K w) : Calls Try.prog 23 #[(.agg #[(.int .i64 x0_0), (.int .i64 x0_1)])] w (Ret K) := callsR_of_bodyW mixed Try.func23 (of_decide_eq_true (by kernel_rfl)) (by rw [eq23]; exact h)

/-- shadowbook/shadowbookref01.Put -/
def an24 : Ann := (.seq .nil (.seq (.seq .nil (.cond (.seq .nil .nil) .nil)) (.seq (.seq .nil (.block (.loop [(0, .sh (.one .slc)), (7, .sh (.one (.int .i64)))] [1, 2, 1000000] (.seq (.seq .nil (.cond .nil .nil)) (.seq (.block .nil) .nil))))) (.seq .nil .nil))))
def S24 (a0 : Option Addr) (n0 c0 : Nat) (x1 : Int) (x2 : Int) (K : Value → WP) : WP := 
  splitW (decide (x2 < (1 : Int))) (K (.slice a0 n0 c0)) <|
  splitW (decide (x2 > (8 : Int))) (K (.slice a0 n0 c0)) <|
  loopW ((Option Addr × Nat × Nat) × Int × Unit) ((a0, n0, c0), (0 : Int), ()) fun (y2 : (Option Addr × Nat × Nat) × Int × Unit) (I1 : ((Option Addr × Nat × Nat) × Int × Unit) → WP) =>
  splitW (decide (y2.2.1 < x2)) (guardW (0 ≤ (IntKind.wrap .u64 (IntKind.wrap .i64 ((8 : Int) * y2.2.1)))) <|
  newW (.cells #[(.int .u8 (IntKind.wrap .u8 (ishr .u64 x1 (IntKind.wrap .u64 (IntKind.wrap .i64 ((8 : Int) * y2.2.1))))))] 5) fun (r3 : Nat) =>
  runW Try.prog (Builtin.append_ #[37, 37] 37 #[(.slice y2.1.1 y2.1.2.1 y2.1.2.2), (.slice (some (⟨r3, 0, none⟩ : Addr)) 1 1)]) .slc fun (u4 : (Option Addr × Nat × Nat)) => I1 ((u4.1, u4.2.1, u4.2.2), (IntKind.wrap .i64 (y2.2.1 + (1 : Int))), ())) <| K (.slice y2.1.1 y2.1.2.1 y2.1.2.2)
theorem eq24 (a0 : Option Addr) (n0 c0 : Nat) (x1 : Int) (x2 : Int) (K : Value → WP) : bodyW Try.prog Try.f24 an24 false [(.slice a0 n0 c0), (.int .u64 x1), (.int .i64 x2)] K = S24 a0 n0 c0 x1 x2 K := by kernel_rfl
theorem calls24 (a0 : Option Addr) (n0 c0 : Nat) (x1 : Int) (x2 : Int) {K : Value → WP} {w : World} (h : S24 a0 n0 c0 x1 x2 K w) : Calls Try.prog 24 #[(.slice a0 n0 c0), (.int .u64 x1), (.int .i64 x2)] w (Ret K) := callsR_of_bodyW mixed Try.func24 (of_decide_eq_true (by kernel_rfl)) (by rw [eq24]; exact h)

/-- shadowbook/shadowbookref02.Of -/
def an25 : Ann := (.seq .nil (.seq .nil .nil))
def S25 (a0 : Option Addr) (n0 c0 : Nat) (K : Value → WP) : WP := 
  callW Try.prog 32 [] (.one (.arr 256)) fun (u1 : Array Value) =>
  callW Try.prog 31 [(.agg u1), (.slice a0 n0 c0)] (.one (.one (.int .u32))) fun (u2 : Int) => K (.int .u32 u2)
theorem eq25 (a0 : Option Addr) (n0 c0 : Nat) (K : Value → WP) : bodyW Try.prog Try.f25 an25 false [(.slice a0 n0 c0)] K = S25 a0 n0 c0 K := by kernel_rfl
theorem calls25 (a0 : Option Addr) (n0 c0 : Nat) {K : Value → WP} {w : World} (h : S25 a0 n0 c0 K w) : Calls Try.prog 25 #[(.slice a0 n0 c0)] w (Ret K) := callsR_of_bodyW mixed Try.func25 (of_decide_eq_true (by kernel_rfl)) (by rw [eq25]; exact h)

/-- shadowbook/shadowbookref01.Of -/
def an26 : Ann := (.seq .nil (.seq .nil (.seq (.seq .nil (.cond (.seq .nil .nil) .nil)) (.seq (.seq .nil (.block (.loop [(3, .sh (.one (.int .u64))), (4, .sh (.one (.int .i64)))] [0, 1000000] (.seq (.seq .nil (.cond .nil .nil)) (.seq (.block .nil) .nil))))) (.seq .nil .nil)))))
def S26 (a0 : Option Addr) (n0 c0 : Nat) (K : Value → WP) : WP := 
  splitW (decide (((n0 : Nat) : Int) > (8 : Int))) (K (.int .u64 (0 : Int))) <|
  loopW (Int × Int × Unit) ((0 : Int), (0 : Int), ()) fun (y2 : Int × Int × Unit) (I1 : (Int × Int × Unit) → WP) =>
  splitW (decide (y2.2.1 < ((n0 : Nat) : Int))) (guardW (0 ≤ y2.2.1 ∧ y2.2.1 < ((n0 : Nat) : Int)) <|
  ptrW a0 fun (p3 : Addr) =>
  ldW (.int .u8) (p3.add (Int.toNat y2.2.1 * 1)) fun (u4 : Int) =>
  guardW (0 ≤ (IntKind.wrap .u64 (IntKind.wrap .i64 ((8 : Int) * y2.2.1)))) <| I1 ((ior .u64 y2.1 (ishl .u64 (IntKind.wrap .u64 u4) (IntKind.wrap .u64 (IntKind.wrap .i64 ((8 : Int) * y2.2.1))))), (IntKind.wrap .i64 (y2.2.1 + (1 : Int))), ())) <| K (.int .u64 y2.1)
theorem eq26 (a0 : Option Addr) (n0 c0 : Nat) (K : Value → WP) : bodyW Try.prog Try.f26 an26 false [(.slice a0 n0 c0)] K = S26 a0 n0 c0 K := by kernel_rfl
theorem calls26 (a0 : Option Addr) (n0 c0 : Nat) {K : Value → WP} {w : World} (h : S26 a0 n0 c0 K w) : Calls Try.prog 26 #[(.slice a0 n0 c0)] w (Ret K) := callsR_of_bodyW mixed Try.func26 (of_decide_eq_true (by kernel_rfl)) (by rw [eq26]; exact h)

/-- shadowbook/shadowbookref03.Check -/
def an27 : Ann := (.seq .nil (.seq (.seq .nil (.cond (.seq .nil .nil) .nil)) (.seq .nil .nil)))
def S27 (x0_0 : Int) (x0_1 : Int) (K : Value → WP) : WP := 
  newW (.cells #[(.int .i64 x0_0), (.int .i64 x0_1)] 47) fun (r1 : Nat) =>
  ldW (.int .i64) (⟨r1, 0, none⟩ : Addr) fun (u2 : Int) =>
  splitW (decide (u2 < (128 : Int))) (K (.int .i64 (2 : Int))) <|
  ldW (.int .i64) (⟨r1, 0, none⟩ : Addr) fun (u3 : Int) =>
  splitW (decide (u3 > (4096 : Int))) (K (.int .i64 (2 : Int))) <|
  ldW (.int .i64) (⟨r1, 0, none⟩ : Addr) fun (u4 : Int) =>
  splitW ((Int.tmod u4 (64 : Int)) != (0 : Int)) (K (.int .i64 (2 : Int))) <|
  ldW (.int .i64) ((⟨r1, 0, none⟩ : Addr).add 1) fun (u5 : Int) =>
  splitW (decide (u5 < (8 : Int))) (K (.int .i64 (2 : Int))) <|
  ldW (.int .i64) ((⟨r1, 0, none⟩ : Addr).add 1) fun (u6 : Int) =>
  splitW (decide (u6 > (4096 : Int))) (K (.int .i64 (2 : Int))) <| K (.int .i64 (0 : Int))
theorem eq27 (x0_0 : Int) (x0_1 : Int) (K : Value → WP) : bodyW Try.prog Try.f27 an27 false [(.agg #[(.int .i64 x0_0), (.int .i64 x0_1)])] K = S27 x0_0 x0_1 K := by kernel_rfl
theorem calls27 (x0_0 : Int) (x0_1 : Int) {K : Value → WP} {w : World} (h : S27 x0_0 x0_1 K w) : Calls Try.prog 27 #[(.agg #[(.int .i64 x0_0), (.int .i64 x0_1)])] w (Ret K) := callsR_of_bodyW mixed Try.func27 (of_decide_eq_true (by kernel_rfl)) (by rw [eq27]; exact h)

/-- shadowbook/crc.Sum -/
def an28 : Ann := (.seq .nil (.seq .nil .nil))
def S28 (x0 : Array Value) (a1 : Option Addr) (n1 c1 : Nat) (K : Value → WP) : WP := 
  newW (.cells x0 50) fun (r1 : Nat) =>
  ldRW 256 (⟨r1, 0, none⟩ : Addr) fun (u2 : Array Value) =>
  callW Try.prog 33 [(.agg u2), (.int .u32 (4294967295 : Int)), (.slice a1 n1 c1)] (.one (.one (.int .u32))) fun (u3 : Int) => K (.int .u32 (inot .u32 u3))
theorem eq28 (x0 : Array Value) (a1 : Option Addr) (n1 c1 : Nat) (K : Value → WP) : bodyW Try.prog Try.f28 an28 false [(.agg x0), (.slice a1 n1 c1)] K = S28 x0 a1 n1 c1 K := by kernel_rfl
theorem calls28 (x0 : Array Value) (a1 : Option Addr) (n1 c1 : Nat) {K : Value → WP} {w : World} (h : S28 x0 a1 n1 c1 K w) : Calls Try.prog 28 #[(.agg x0), (.slice a1 n1 c1)] w (Ret K) := callsR_of_bodyW mixed Try.func28 (of_decide_eq_true (by kernel_rfl)) (by rw [eq28]; exact h)

/-- shadowbook/crc.Table -/
def an29 : Ann := (.seq .nil (.seq (.seq .nil (.block (.loop [(3, .sh (.one (.int .i64)))] [0, 1000000] (.seq .nil (.seq (.cond .nil .nil) (.seq (.block (.seq .nil (.seq .nil (.seq (.seq .nil (.block (.loop [(2, .sh (.one (.int .u32))), (8, .sh (.one (.int .i64)))] [0, 1, 3, 1000000] (.seq .nil (.seq (.cond .nil .nil) (.seq (.block .nil) .nil)))))) .nil)))) .nil)))))) (.seq .nil .nil)))
def S29  (K : Value → WP) : WP := 
  newW (.cells (zeroC Try.prog 50) 50) fun (r1 : Nat) =>
  loopW (Int × Unit) ((0 : Int), ()) fun (y3 : Int × Unit) (I2 : (Int × Unit) → WP) =>
  splitW (decide (y3.1 < (256 : Int))) (loopW (Int × Int × Unit) ((IntKind.wrap .u32 y3.1), (0 : Int), ()) fun (y5 : Int × Int × Unit) (I4 : (Int × Int × Unit) → WP) =>
  splitW (decide (y5.2.1 < (8 : Int))) (I4 ((ixor .u32 (ishr .u32 y5.1 (1 : Int)) (IntKind.wrap .u32 ((2197175160 : Int) * (iand .u32 y5.1 (1 : Int))))), (IntKind.wrap .i64 (y5.2.1 + (1 : Int))), ())) <|
  guardW (0 ≤ y3.1 ∧ y3.1 < ((256 : Nat) : Int)) <|
  stW ((⟨r1, 0, none⟩ : Addr).add (Int.toNat y3.1 * 1)) (.int .u32 y5.1) <| I2 ((IntKind.wrap .i64 (y3.1 + (1 : Int))), ())) <|
  ldRW 256 (⟨r1, 0, none⟩ : Addr) fun (u6 : Array Value) =>
  guardW (u6.size = 256) <|
  stAW (⟨r1, 0, none⟩ : Addr) u6.toList <|
  ldRW 256 (⟨r1, 0, none⟩ : Addr) fun (u7 : Array Value) => K (.agg u7)
theorem eq29  (K : Value → WP) : bodyW Try.prog Try.f29 an29 false [] K = S29  K := by kernel_rfl
theorem calls29  {K : Value → WP} {w : World} (h : S29  K w) : Calls Try.prog 29 #[] w (Ret K) := callsR_of_bodyW mixed Try.func29 (of_decide_eq_true (by kernel_rfl)) (by rw [eq29]; exact h)

/-- slices.Backward[[]byte,byte] -/
def an30 : Ann := (.seq .nil (.seq .nil .nil))
def S30 (a0 : Option Addr) (n0 c0 : Nat) (K : Value → WP) : WP := 
  newW (.cells #[(.slice a0 n0 c0)] 37) fun (r1 : Nat) => K (.func (.func 34) #[] #[(.pointer (some (⟨r1, 0, none⟩ : Addr)))])
theorem eq30 (a0 : Option Addr) (n0 c0 : Nat) (K : Value → WP) : bodyW Try.prog Try.f30 an30 false [(.slice a0 n0 c0)] K = S30 a0 n0 c0 K := by kernel_rfl
theorem calls30 (a0 : Option Addr) (n0 c0 : Nat) {K : Value → WP} {w : World} (h : S30 a0 n0 c0 K w) : Calls Try.prog 30 #[(.slice a0 n0 c0)] w (Ret K) := callsR_of_bodyW mixed Try.func30 (of_decide_eq_true (by kernel_rfl)) (by rw [eq30]; exact h)

/-- shadowbook/shadowbookref02.Sum -/
def an31 : Ann := (.seq .nil (.seq .nil .nil))
def S31 (x0 : Array Value) (a1 : Option Addr) (n1 c1 : Nat) (K : Value → WP) : WP := 
  newW (.cells x0 50) fun (r1 : Nat) =>
  ldRW 256 (⟨r1, 0, none⟩ : Addr) fun (u2 : Array Value) =>
  callW Try.prog 35 [(.agg u2), (.int .u32 (4294967295 : Int)), (.slice a1 n1 c1)] (.one (.one (.int .u32))) fun (u3 : Int) => K (.int .u32 (inot .u32 u3))
theorem eq31 (x0 : Array Value) (a1 : Option Addr) (n1 c1 : Nat) (K : Value → WP) : bodyW Try.prog Try.f31 an31 false [(.agg x0), (.slice a1 n1 c1)] K = S31 x0 a1 n1 c1 K := by kernel_rfl
theorem calls31 (x0 : Array Value) (a1 : Option Addr) (n1 c1 : Nat) {K : Value → WP} {w : World} (h : S31 x0 a1 n1 c1 K w) : Calls Try.prog 31 #[(.agg x0), (.slice a1 n1 c1)] w (Ret K) := callsR_of_bodyW mixed Try.func31 (of_decide_eq_true (by kernel_rfl)) (by rw [eq31]; exact h)

/-- shadowbook/shadowbookref02.Table -/
def an32 : Ann := (.seq .nil (.seq .nil (.seq (.seq .nil (.block (.loop [(2, .sh (.one (.int .i64)))] [0, 1, 1000000] (.seq (.seq .nil (.cond .nil .nil)) (.seq (.block (.seq .nil (.seq (.seq .nil (.block (.loop [(3, .sh (.one (.int .u32))), (4, .sh (.one (.int .i64)))] [0, 1, 2, 1000000] (.seq (.seq .nil (.cond .nil .nil)) (.seq (.block (.seq .nil (.cond .nil .nil))) .nil))))) .nil))) .nil))))) (.seq .nil .nil))))
def S32  (K : Value → WP) : WP := 
  newW (.cells (zeroC Try.prog 50) 50) fun (r1 : Nat) =>
  newW (.cells (zeroC Try.prog 50) 50) fun (r2 : Nat) =>
  loopW (Int × Unit) ((0 : Int), ()) fun (y4 : Int × Unit) (I3 : (Int × Unit) → WP) =>
  splitW (decide (y4.1 < (256 : Int))) (loopW (Int × Int × Unit) ((IntKind.wrap .u32 y4.1), (0 : Int), ()) fun (y6 : Int × Int × Unit) (I5 : (Int × Int × Unit) → WP) =>
  splitW (decide (y6.2.1 < (8 : Int))) (splitW ((Int.tmod y6.1 (2 : Int)) == (1 : Int)) (I5 ((ixor .u32 (ishr .u32 y6.1 (1 : Int)) (2197175160 : Int)), (IntKind.wrap .i64 (y6.2.1 + (1 : Int))), ())) <| I5 ((ishr .u32 y6.1 (1 : Int)), (IntKind.wrap .i64 (y6.2.1 + (1 : Int))), ())) <|
  guardW (0 ≤ y4.1 ∧ y4.1 < ((256 : Nat) : Int)) <|
  stW ((⟨r2, 0, none⟩ : Addr).add (Int.toNat y4.1 * 1)) (.int .u32 y6.1) <| I3 ((IntKind.wrap .i64 (y4.1 + (1 : Int))), ())) <|
  ldRW 256 (⟨r2, 0, none⟩ : Addr) fun (u7 : Array Value) =>
  guardW (u7.size = 256) <|
  stAW (⟨r1, 0, none⟩ : Addr) u7.toList <|
  ldRW 256 (⟨r1, 0, none⟩ : Addr) fun (u8 : Array Value) => K (.agg u8)
theorem eq32  (K : Value → WP) : bodyW Try.prog Try.f32 an32 false [] K = S32  K := by kernel_rfl
theorem calls32  {K : Value → WP} {w : World} (h : S32  K w) : Calls Try.prog 32 #[] w (Ret K) := callsR_of_bodyW mixed Try.func32 (of_decide_eq_true (by kernel_rfl)) (by rw [eq32]; exact h)

/-- shadowbook/crc.Update -/
def an33 : Ann := (.seq .nil (.seq (.seq .nil (.block (.loop [(1, .sh (.one (.int .u32))), (11, .sh (.one (.int .i64)))] [3, 9, 10, 1000000] (.seq .nil (.seq (.cond .nil .nil) (.seq (.block (.seq .nil .nil)) .nil)))))) (.seq .nil .nil)))
def S33 (x0 : Array Value) (x1 : Int) (a2 : Option Addr) (n2 c2 : Nat) (K : Value → WP) : WP := 
  newW (.cells x0 50) fun (r1 : Nat) =>
  loopW (Int × Int × Unit) (x1, (0 : Int), ()) fun (y3 : Int × Int × Unit) (I2 : (Int × Int × Unit) → WP) =>
  splitW (decide (y3.2.1 < ((n2 : Nat) : Int))) (guardW (0 ≤ y3.2.1 ∧ y3.2.1 < ((n2 : Nat) : Int)) <|
  ptrW a2 fun (p4 : Addr) =>
  ldW (.int .u8) (p4.add (Int.toNat y3.2.1 * 1)) fun (u5 : Int) =>
  guardW (0 ≤ (ixor .u8 (IntKind.wrap .u8 y3.1) u5) ∧ (ixor .u8 (IntKind.wrap .u8 y3.1) u5) < ((256 : Nat) : Int)) <|
  ldW (.int .u32) ((⟨r1, 0, none⟩ : Addr).add (Int.toNat (ixor .u8 (IntKind.wrap .u8 y3.1) u5) * 1)) fun (u6 : Int) => I2 ((ixor .u32 (ishr .u32 y3.1 (8 : Int)) u6), (IntKind.wrap .i64 (y3.2.1 + (1 : Int))), ())) <| K (.int .u32 y3.1)
theorem eq33 (x0 : Array Value) (x1 : Int) (a2 : Option Addr) (n2 c2 : Nat) (K : Value → WP) : bodyW Try.prog Try.f33 an33 false [(.agg x0), (.int .u32 x1), (.slice a2 n2 c2)] K = S33 x0 x1 a2 n2 c2 K := by kernel_rfl
theorem calls33 (x0 : Array Value) (x1 : Int) (a2 : Option Addr) (n2 c2 : Nat) {K : Value → WP} {w : World} (h : S33 x0 x1 a2 n2 c2 K w) : Calls Try.prog 33 #[(.agg x0), (.int .u32 x1), (.slice a2 n2 c2)] w (Ret K) := callsR_of_bodyW mixed Try.func33 (of_decide_eq_true (by kernel_rfl)) (by rw [eq33]; exact h)

/-- slices.Backward[[]byte,byte]$1 -/
def an34 : Ann := (.seq .nil (.block (.loop [(3, .sh (.one (.int .i64)))] [0, 1, 1000000] (.seq (.seq .nil (.cond .nil .nil)) (.seq (.block (.seq .nil (.cond .nil .nil))) .nil)))))
def S34 (x0 : Value) (a1 : Addr) (K : Value → WP) : WP := 
  ldW .slc a1 fun (u1 : (Option Addr × Nat × Nat)) =>
  loopW (Int × Unit) ((IntKind.wrap .i64 (((u1.2.1 : Nat) : Int) - (1 : Int))), ()) fun (y3 : Int × Unit) (I2 : (Int × Unit) → WP) =>
  splitW (decide (y3.1 ≥ (0 : Int))) (ldW .slc a1 fun (u4 : (Option Addr × Nat × Nat)) =>
  guardW (0 ≤ y3.1 ∧ y3.1 < ((u4.2.1 : Nat) : Int)) <|
  ptrW u4.1 fun (p5 : Addr) =>
  ldW (.int .u8) (p5.add (Int.toNat y3.1 * 1)) fun (u6 : Int) =>
  callVW Try.prog x0 [(.int .i64 y3.1), (.int .u8 u6)] (.one (.one .bool)) fun (u7 : Bool) =>
  splitW (!u7) (K (.tuple #[])) <| I2 ((IntKind.wrap .i64 (y3.1 - (1 : Int))), ())) <| K (.tuple #[])
theorem eq34 (x0 : Value) (a1 : Addr) (K : Value → WP) : bodyW Try.prog Try.f34 an34 false [x0, (.pointer (some a1))] K = S34 x0 a1 K := by kernel_rfl
theorem calls34 (x0 : Value) (a1 : Addr) {K : Value → WP} {w : World} (h : S34 x0 a1 K w) : Calls Try.prog 34 #[x0, (.pointer (some a1))] w (Ret K) := callsR_of_bodyW mixed Try.func34 (of_decide_eq_true (by kernel_rfl)) (by rw [eq34]; exact h)

/-- shadowbook/shadowbookref02.Update -/
def an35 : Ann := (.seq .nil (.seq (.seq .nil (.block (.loop [(1, .sh (.one (.int .u32))), (7, .sh (.one (.int .i64)))] [2, 3, 1000000] (.seq (.seq .nil (.cond .nil .nil)) (.seq (.block .nil) .nil))))) (.seq .nil .nil)))
def S35 (x0 : Array Value) (x1 : Int) (a2 : Option Addr) (n2 c2 : Nat) (K : Value → WP) : WP := 
  newW (.cells x0 50) fun (r1 : Nat) =>
  loopW (Int × Int × Unit) (x1, (0 : Int), ()) fun (y3 : Int × Int × Unit) (I2 : (Int × Int × Unit) → WP) =>
  splitW (decide (y3.2.1 < ((n2 : Nat) : Int))) (guardW (0 ≤ y3.2.1 ∧ y3.2.1 < ((n2 : Nat) : Int)) <|
  ptrW a2 fun (p4 : Addr) =>
  ldW (.int .u8) (p4.add (Int.toNat y3.2.1 * 1)) fun (u5 : Int) =>
  guardW (0 ≤ (ixor .u8 (IntKind.wrap .u8 y3.1) u5) ∧ (ixor .u8 (IntKind.wrap .u8 y3.1) u5) < ((256 : Nat) : Int)) <|
  ldW (.int .u32) ((⟨r1, 0, none⟩ : Addr).add (Int.toNat (ixor .u8 (IntKind.wrap .u8 y3.1) u5) * 1)) fun (u6 : Int) => I2 ((ixor .u32 (ishr .u32 y3.1 (8 : Int)) u6), (IntKind.wrap .i64 (y3.2.1 + (1 : Int))), ())) <| K (.int .u32 y3.1)
theorem eq35 (x0 : Array Value) (x1 : Int) (a2 : Option Addr) (n2 c2 : Nat) (K : Value → WP) : bodyW Try.prog Try.f35 an35 false [(.agg x0), (.int .u32 x1), (.slice a2 n2 c2)] K = S35 x0 x1 a2 n2 c2 K := by kernel_rfl
theorem calls35 (x0 : Array Value) (x1 : Int) (a2 : Option Addr) (n2 c2 : Nat) {K : Value → WP} {w : World} (h : S35 x0 x1 a2 n2 c2 K w) : Calls Try.prog 35 #[(.agg x0), (.int .u32 x1), (.slice a2 n2 c2)] w (Ret K) := callsR_of_bodyW mixed Try.func35 (of_decide_eq_true (by kernel_rfl)) (by rw [eq35]; exact h)

end Go.Proofs.Ytlpgfcfkjkmiiaa.V
