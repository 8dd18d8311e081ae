/- The shallow forms of the functions, by a program of mine (wip/tool/gen.py). -/
import Derived.Test.YtpbjbhcejgnhiaaDoorVE
import Derived.Test.YtpbjbhcejgnhiaaDoorChecked
set_option linter.unusedVariables false
set_option maxRecDepth 100000
namespace Go.Proofs.YtpbjbhcejgnhiaaDoor.V
open Go Go.Proofs
theorem mixed : Tryd.prog.follows .mixedOrders = true := by kernel_rfl

/-- shadowbook/shadowbooklaw03.DeviceLast -/
def an3 : Ann := (.seq .nil (.seq (.seq .nil (.cond (.seq .nil .nil) .nil)) (.seq .nil (.seq (.seq .nil (.cond (.seq .nil .nil) .nil)) (.seq .nil (.seq (.seq .nil (.block (.loop [(8, .sh (.one (.int .i64)))] [1, 2, 5, 7, 1000000] (.seq (.seq .nil (.cond .nil .nil)) (.seq (.block (.seq .nil (.seq .nil (.seq (.seq .nil (.cond (.seq .nil .nil) .nil)) (.seq .nil (.cond (.seq .nil .nil) .nil)))))) .nil))))) (.seq .nil (.seq (.seq .nil (.block (.loop [(10, .sh (.one .slc)), (11, .sh (.one (.int .i64)))] [2, 5, 7, 1000000] (.seq (.seq .nil (.cond .nil .nil)) (.seq (.block .nil) .nil))))) (.seq .nil (.seq (.seq .nil (.cond (.seq .nil .nil) .nil)) (.seq (.seq .nil (.block (.loop [(14, .sh (.one (.int .i64)))] [2, 5, 7, 12, 1000000] (.seq (.seq .nil (.cond .nil .nil)) (.seq (.block (.seq .nil (.join [(15, .sh (.one .str))] [2, 5, 7, 12, 14, 1000000] (.seq .nil (.cond .nil .nil)) (.seq .nil (.seq .nil (.seq .nil (.cond (.seq .nil .nil) .nil))))))) .nil))))) (.seq .nil (.seq .nil .nil)))))))))))))
def S3 (x0_0 : Int) (x0_1 : Int) (a1 : Option Addr) (n1 c1 : Nat) (K : Value → WP) : WP := 
  newW (.cells #[(.int .i64 x0_0), (.int .i64 x0_1)] 23) fun (r1 : Nat) =>
  callW Tryd.prog 9 [] (.one (.one .bool)) fun (u2 : Bool) =>
  splitW (!u2) (K (.bool false)) <|
  ldAW [(.int .i64), (.int .i64)] (⟨r1, 0, none⟩ : Addr) fun (u3 : (Int × Int × Unit)) =>
  callW Tryd.prog 10 [(.agg #[(.int .i64 u3.1), (.int .i64 u3.2.1)])] (.many [(.one .ptr), (.one (.int .i64))]) fun (u4 : Option Addr × Int × Unit) =>
  ldAW [(.int .i64), (.int .i64)] (⟨r1, 0, none⟩ : Addr) fun (u5 : (Int × Int × Unit)) =>
  callW Tryd.prog 11 [(.agg #[(.int .i64 u5.1), (.int .i64 u5.2.1)])] (.one (.one .bool)) fun (u6 : Bool) =>
  splitW (!u6) (K (.bool true)) <|
  splitW (decide (((n1 : Nat) : Int) > (40 : Int))) (K (.bool true)) <|
  splitW (u4.2.1 != (0 : Int)) (K (.bool true)) <|
  ldW (.int .i64) ((⟨r1, 0, none⟩ : Addr).add 1) fun (u7 : Int) =>
  runW Tryd.prog (Instr.makeSlice 31 (.int .i64 u7) (.int .i64 u7)) .slc fun (u8 : Option Addr × Nat × Nat) =>
  loopW (Int × Unit) ((0 : Int), ()) fun (y10 : Int × Unit) (I9 : (Int × Unit) → WP) =>
  splitW (decide (y10.1 < ((n1 : Nat) : Int))) (drewW <|
  guardW (0 ≤ y10.1 ∧ y10.1 < ((n1 : Nat) : Int)) <|
  ptrW a1 fun (p11 : Addr) =>
  ldW (.int .i64) ((p11.add (Int.toNat y10.1 * 6)).add 1) fun (u12 : Int) =>
  ldW (.int .i64) ((⟨r1, 0, none⟩ : Addr).add 1) fun (u13 : Int) =>
  callW Tryd.prog 12 [(.int .i64 u12), (.int .i64 u13)] (.one (.one (.int .i64))) fun (u14 : Int) =>
  drewW <|
  guardW (0 ≤ y10.1 ∧ y10.1 < ((n1 : Nat) : Int)) <|
  ptrW a1 fun (p15 : Addr) =>
  ldAW [(.int .i64), (.int .i64), (.int .u8), (.int .i64), (.int .u32), .slc] (p15.add (Int.toNat y10.1 * 6)) fun (u16 : (Int × Int × Int × Int × Int × (Option Addr × Nat × Nat) × Unit)) =>
  ldW (.int .i64) (⟨r1, 0, none⟩ : Addr) fun (u17 : Int) =>
  callW Tryd.prog 13 [(.agg #[(.int .i64 u16.1), (.int .i64 u16.2.1), (.int .u8 u16.2.2.1), (.int .i64 u16.2.2.2.1), (.int .u32 u16.2.2.2.2.1), (.slice u16.2.2.2.2.2.1.1 u16.2.2.2.2.2.1.2.1 u16.2.2.2.2.2.1.2.2)]), (.int .i64 u17)] (.one (.one .str)) fun (u18 : ByteArray) =>
  guardW (0 ≤ u14 ∧ u14 < ((u8.2.1 : Nat) : Int)) <|
  ptrW u8.1 fun (p19 : Addr) =>
  stW (p19.add (Int.toNat u14 * 1)) (.string u18) <|
  guardW (0 ≤ u14 ∧ u14 < ((u8.2.1 : Nat) : Int)) <|
  ptrW u8.1 fun (p20 : Addr) =>
  ldW .str (p20.add (Int.toNat u14 * 1)) fun (u21 : ByteArray) =>
  callW Tryd.prog 14 [(.pointer u4.1), (.int .i64 u14), (.string u21)] (.one (.one (.int .i64))) fun (u22 : Int) =>
  splitW (u22 != (0 : Int)) (K (.bool false)) <|
  guardW (0 ≤ y10.1 ∧ y10.1 < ((n1 : Nat) : Int)) <|
  ptrW a1 fun (p23 : Addr) =>
  ldW (.int .i64) (p23.add (Int.toNat y10.1 * 6)) fun (u24 : Int) =>
  splitW ((Int.tmod u24 (4 : Int)) == (3 : Int)) (callW Tryd.prog 15 [(.pointer u4.1)] (.one (.one (.int .i64))) fun (u25 : Int) =>
  splitW (u25 != (0 : Int)) (K (.bool false)) <| I9 ((IntKind.wrap .i64 (y10.1 + (1 : Int))), ())) <| I9 ((IntKind.wrap .i64 (y10.1 + (1 : Int))), ())) <|
  loopW ((Option Addr × Nat × Nat) × Int × Unit) ((none, 0, 0), (0 : Int), ()) fun (y27 : (Option Addr × Nat × Nat) × Int × Unit) (I26 : ((Option Addr × Nat × Nat) × Int × Unit) → WP) =>
  callW Tryd.prog 16 [(.pointer u4.1)] (.one (.one .slc)) fun (u28 : (Option Addr × Nat × Nat)) =>
  splitW (decide (y27.2.1 < ((u28.2.1 : Nat) : Int))) (ldW (.int .i64) (⟨r1, 0, none⟩ : Addr) fun (u29 : Int) =>
  guardW (0 ≤ (IntKind.wrap .u64 (IntKind.wrap .i64 (Int.tdiv u29 (64 : Int))))) <|
  newW (.cells #[(.int .i64 y27.2.1), (.int .u64 (IntKind.wrap .u64 ((ishl .u64 (1 : Int) (IntKind.wrap .u64 (IntKind.wrap .i64 (Int.tdiv u29 (64 : Int))))) - (1 : Int))))] 45) fun (r30 : Nat) =>
  runW Tryd.prog (Builtin.append_ #[34, 34] 34 #[(.slice y27.1.1 y27.1.2.1 y27.1.2.2), (.slice (some (⟨r30, 0, none⟩ : Addr)) 1 1)]) .slc fun (u31 : (Option Addr × Nat × Nat)) => I26 ((u31.1, u31.2.1, u31.2.2), (IntKind.wrap .i64 (y27.2.1 + (1 : Int))), ())) <|
  callW Tryd.prog 17 [(.pointer u4.1), (.slice y27.1.1 y27.1.2.1 y27.1.2.2)] (.many [(.one .ptr), (.one (.int .i64))]) fun (u32 : Option Addr × Int × Unit) =>
  splitW (u32.2.1 != (0 : Int)) (K (.bool false)) <|
  loopW (Int × Unit) ((0 : Int), ()) fun (y34 : Int × Unit) (I33 : (Int × Unit) → WP) =>
  ldW (.int .i64) ((⟨r1, 0, none⟩ : Addr).add 1) fun (u35 : Int) =>
  splitW (decide (y34.1 < u35)) (guardW (0 ≤ y34.1 ∧ y34.1 < ((u8.2.1 : Nat) : Int)) <|
  ptrW u8.1 fun (p36 : Addr) =>
  ldW .str (p36.add (Int.toNat y34.1 * 1)) fun (u37 : ByteArray) =>
  joinW (ByteArray × Unit) (fun (J38 : (ByteArray × Unit) → WP) =>
  splitW (u37.toList == (ByteArray.mk #[]).toList) (ldW (.int .i64) (⟨r1, 0, none⟩ : Addr) fun (u40 : Int) =>
  callW Tryd.prog 18 [(.int .i64 u40), (.string (ByteArray.mk #[0]))] (.one (.one .str)) fun (u41 : ByteArray) => J38 (u41, ())) <| J38 (u37, ())) fun (y39 : ByteArray × Unit) =>
  callW Tryd.prog 19 [(.pointer u4.1), (.int .i64 y34.1)] (.many [(.one .str), (.one (.int .i64))]) fun (u42 : ByteArray × Int × Unit) =>
  callW Tryd.prog 19 [(.pointer u32.1), (.int .i64 y34.1)] (.many [(.one .str), (.one (.int .i64))]) fun (u43 : ByteArray × Int × Unit) =>
  splitW (u42.2.1 != (0 : Int)) (K (.bool false)) <|
  splitW (u43.2.1 != (0 : Int)) (K (.bool false)) <|
  splitW (!(u42.1.toList == y39.1.toList)) (K (.bool false)) <|
  splitW (!(u43.1.toList == y39.1.toList)) (K (.bool false)) <| I33 ((IntKind.wrap .i64 (y34.1 + (1 : Int))), ())) <|
  callW Tryd.prog 15 [(.pointer u4.1)] (.one (.one (.int .i64))) fun (u44 : Int) =>
  callW Tryd.prog 20 [(.pointer u4.1)] (.one (.one .str)) fun (u45 : ByteArray) =>
  callW Tryd.prog 20 [(.pointer u32.1)] (.one (.one .str)) fun (u46 : ByteArray) => K (.bool (u45.toList == u46.toList))
theorem eq3 (x0_0 : Int) (x0_1 : Int) (a1 : Option Addr) (n1 c1 : Nat) (K : Value → WP) : bodyW Tryd.prog Tryd.f3 an3 false [(.agg #[(.int .i64 x0_0), (.int .i64 x0_1)]), (.slice a1 n1 c1)] K = S3 x0_0 x0_1 a1 n1 c1 K := by kernel_rfl
theorem calls3 (x0_0 : Int) (x0_1 : Int) (a1 : Option Addr) (n1 c1 : Nat) {K : Value → WP} {w : World} (h : S3 x0_0 x0_1 a1 n1 c1 K w) : Calls Tryd.prog 3 #[(.agg #[(.int .i64 x0_0), (.int .i64 x0_1)]), (.slice a1 n1 c1)] w (Ret K) := callsR_of_bodyW mixed Tryd.func3 (of_decide_eq_true (by kernel_rfl)) (by rw [eq3]; exact h)

/-- shadowbook/shadowbooklaw03.DeviceCrash -/
def an4 : Ann := (.seq .nil (.seq (.seq .nil (.cond (.seq .nil .nil) .nil)) (.seq .nil (.seq (.seq .nil (.cond (.seq .nil .nil) .nil)) (.seq (.seq .nil (.block (.loop [(9, .sh (.one (.int .i64)))] [1, 2, 3, 7, 1000000] (.seq (.seq .nil (.cond .nil .nil)) (.seq (.block (.seq .nil (.seq .nil (.cond .nil .nil)))) .nil))))) (.seq .nil (.seq .nil (.seq (.seq .nil (.cond (.seq .nil .nil) .nil)) (.seq .nil (.seq (.seq .nil (.cond (.seq .nil .nil) .nil)) (.seq (.seq .nil (.block (.loop [(15, .sh (.one (.int .i64)))] [2, 3, 10, 11, 14, 1000000] (.seq (.seq .nil (.cond .nil .nil)) (.seq (.block (.seq .nil (.seq .nil (.seq (.seq .nil (.cond (.seq .nil (.block (.loop [(17, .sh (.one .bool)), (18, .sh (.one (.int .i64)))] [2, 3, 10, 11, 14, 15, 16, 1000000] (.seq (.seq .nil (.cond .nil .nil)) (.join [(17, .sh (.one .bool))] [2, 3, 10, 11, 14, 15, 16, 18, 1000000] (.block (.seq (.seq .nil (.cond (.seq .nil .nil) .nil)) (.seq .nil (.seq .nil .nil)))) .nil))))) .nil)) (.seq .nil (.cond (.seq .nil .nil) .nil)))))) .nil))))) (.seq .nil .nil))))))))))))
def S4 (x0_0 : Int) (x0_1 : Int) (a1 : Option Addr) (n1 c1 : Nat) (a2 : Option Addr) (n2 c2 : Nat) (K : Value → WP) : WP := 
  newW (.cells #[(.int .i64 x0_0), (.int .i64 x0_1)] 23) fun (r1 : Nat) =>
  callW Tryd.prog 9 [] (.one (.one .bool)) fun (u2 : Bool) =>
  splitW (!u2) (K (.bool false)) <|
  ldAW [(.int .i64), (.int .i64)] (⟨r1, 0, none⟩ : Addr) fun (u3 : (Int × Int × Unit)) =>
  callW Tryd.prog 10 [(.agg #[(.int .i64 u3.1), (.int .i64 u3.2.1)])] (.many [(.one .ptr), (.one (.int .i64))]) fun (u4 : Option Addr × Int × Unit) =>
  ldAW [(.int .i64), (.int .i64)] (⟨r1, 0, none⟩ : Addr) fun (u5 : (Int × Int × Unit)) =>
  callW Tryd.prog 11 [(.agg #[(.int .i64 u5.1), (.int .i64 u5.2.1)])] (.one (.one .bool)) fun (u6 : Bool) =>
  splitW (!u6) (K (.bool true)) <|
  splitW (decide (((n1 : Nat) : Int) > (40 : Int))) (K (.bool true)) <|
  splitW (decide (((n2 : Nat) : Int) > (40 : Int))) (K (.bool true)) <|
  splitW (u4.2.1 != (0 : Int)) (K (.bool true)) <|
  loopW (Int × Unit) ((0 : Int), ()) fun (y8 : Int × Unit) (I7 : (Int × Unit) → WP) =>
  splitW (decide (y8.1 < ((n1 : Nat) : Int))) (drewW <|
  guardW (0 ≤ y8.1 ∧ y8.1 < ((n1 : Nat) : Int)) <|
  ptrW a1 fun (p9 : Addr) =>
  ldW (.int .i64) ((p9.add (Int.toNat y8.1 * 6)).add 1) fun (u10 : Int) =>
  ldW (.int .i64) ((⟨r1, 0, none⟩ : Addr).add 1) fun (u11 : Int) =>
  guardW (0 ≤ y8.1 ∧ y8.1 < ((n1 : Nat) : Int)) <|
  ptrW a1 fun (p12 : Addr) =>
  ldAW [(.int .i64), (.int .i64), (.int .u8), (.int .i64), (.int .u32), .slc] (p12.add (Int.toNat y8.1 * 6)) fun (u13 : (Int × Int × Int × Int × Int × (Option Addr × Nat × Nat) × Unit)) =>
  ldW (.int .i64) (⟨r1, 0, none⟩ : Addr) fun (u14 : Int) =>
  callW Tryd.prog 12 [(.int .i64 u10), (.int .i64 u11)] (.one (.one (.int .i64))) fun (u15 : Int) =>
  heldW [[((⟨r1, 0, none⟩ : Addr), (.int .i64 u14))], [((p12.add (Int.toNat y8.1 * 6)).add 0, (.int .i64 u13.1)), ((p12.add (Int.toNat y8.1 * 6)).add 1, (.int .i64 u13.2.1)), ((p12.add (Int.toNat y8.1 * 6)).add 2, (.int .u8 u13.2.2.1)), ((p12.add (Int.toNat y8.1 * 6)).add 3, (.int .i64 u13.2.2.2.1)), ((p12.add (Int.toNat y8.1 * 6)).add 4, (.int .u32 u13.2.2.2.2.1)), ((p12.add (Int.toNat y8.1 * 6)).add 5, (.slice u13.2.2.2.2.2.1.1 u13.2.2.2.2.2.1.2.1 u13.2.2.2.2.2.1.2.2))]] <|
  callW Tryd.prog 13 [(.agg #[(.int .i64 u13.1), (.int .i64 u13.2.1), (.int .u8 u13.2.2.1), (.int .i64 u13.2.2.2.1), (.int .u32 u13.2.2.2.2.1), (.slice u13.2.2.2.2.2.1.1 u13.2.2.2.2.2.1.2.1 u13.2.2.2.2.2.1.2.2)]), (.int .i64 u14)] (.one (.one .str)) fun (u16 : ByteArray) =>
  callW Tryd.prog 14 [(.pointer u4.1), (.int .i64 u15), (.string u16)] (.one (.one (.int .i64))) fun (u17 : Int) =>
  splitW (y8.1 == (IntKind.wrap .i64 (Int.tdiv ((n1 : Nat) : Int) (2 : Int)))) (callW Tryd.prog 15 [(.pointer u4.1)] (.one (.one (.int .i64))) fun (u18 : Int) => I7 ((IntKind.wrap .i64 (y8.1 + (1 : Int))), ())) <| I7 ((IntKind.wrap .i64 (y8.1 + (1 : Int))), ())) <|
  callW Tryd.prog 16 [(.pointer u4.1)] (.one (.one .slc)) fun (u19 : (Option Addr × Nat × Nat)) =>
  callW Tryd.prog 20 [(.pointer u4.1)] (.one (.one .str)) fun (u20 : ByteArray) =>
  callW Tryd.prog 17 [(.pointer u4.1), (.slice a2 n2 c2)] (.many [(.one .ptr), (.one (.int .i64))]) fun (u21 : Option Addr × Int × Unit) =>
  splitW (u21.2.1 != (0 : Int)) (splitW (Option.isNone u21.1) (callW Tryd.prog 20 [(.pointer u4.1)] (.one (.one .str)) fun (u22 : ByteArray) => K (.bool (u22.toList == u20.toList))) <| K (.bool false)) <|
  callW Tryd.prog 20 [(.pointer u21.1)] (.one (.one .str)) fun (u23 : ByteArray) =>
  ldW (.int .i64) (⟨r1, 0, none⟩ : Addr) fun (u24 : Int) =>
  ldW (.int .i64) ((⟨r1, 0, none⟩ : Addr).add 1) fun (u25 : Int) =>
  splitW (((u23.size : Nat) : Int) != (IntKind.wrap .i64 (u24 * u25))) (K (.bool false)) <|
  splitW (((u23.size : Nat) : Int) != ((u20.size : Nat) : Int)) (K (.bool false)) <|
  callW Tryd.prog 20 [(.pointer u4.1)] (.one (.one .str)) fun (u26 : ByteArray) =>
  splitW (!(u26.toList == u20.toList)) (K (.bool false)) <|
  callW Tryd.prog 16 [(.pointer u21.1)] (.one (.one .slc)) fun (u27 : (Option Addr × Nat × Nat)) =>
  splitW (decide (((u27.2.1 : Nat) : Int) > (0 : Int))) (K (.bool false)) <|
  loopW (Int × Unit) ((0 : Int), ()) fun (y29 : Int × Unit) (I28 : (Int × Unit) → WP) =>
  splitW (decide (y29.1 < ((u23.size : Nat) : Int))) (guardW (0 ≤ y29.1 ∧ y29.1 ≤ (IntKind.wrap .i64 (y29.1 + (64 : Int))) ∧ (IntKind.wrap .i64 (y29.1 + (64 : Int))) ≤ ((u23.size : Nat) : Int)) <|
  guardW (0 ≤ y29.1 ∧ y29.1 ≤ (IntKind.wrap .i64 (y29.1 + (64 : Int))) ∧ (IntKind.wrap .i64 (y29.1 + (64 : Int))) ≤ ((u20.size : Nat) : Int)) <|
  splitW (!((ByteArray.extract u23 (Int.toNat y29.1) (Int.toNat (IntKind.wrap .i64 (y29.1 + (64 : Int))))).toList == (ByteArray.extract u20 (Int.toNat y29.1) (Int.toNat (IntKind.wrap .i64 (y29.1 + (64 : Int))))).toList)) (loopW (Bool × Int × Unit) (((ByteArray.extract u23 (Int.toNat y29.1) (Int.toNat (IntKind.wrap .i64 (y29.1 + (64 : Int))))).toList == (ByteArray.extract u20 (Int.toNat y29.1) (Int.toNat (IntKind.wrap .i64 (y29.1 + (64 : Int))))).toList), (0 : Int), ()) fun (y31 : Bool × Int × Unit) (I30 : (Bool × Int × Unit) → WP) =>
  splitW (decide (y31.2.1 < ((n2 : Nat) : Int))) (joinW (Bool × Unit) (fun (J32 : (Bool × Unit) → WP) =>
  drewW <|
  guardW (0 ≤ y31.2.1 ∧ y31.2.1 < ((n2 : Nat) : Int)) <|
  ptrW a2 fun (p34 : Addr) =>
  ldW (.int .i64) (p34.add (Int.toNat y31.2.1 * 2)) fun (u35 : Int) =>
  splitW (decide (u35 < (0 : Int))) (K (.bool false)) <|
  guardW (0 ≤ y31.2.1 ∧ y31.2.1 < ((n2 : Nat) : Int)) <|
  ptrW a2 fun (p36 : Addr) =>
  ldW (.int .i64) (p36.add (Int.toNat y31.2.1 * 2)) fun (u37 : Int) =>
  splitW (decide (u37 ≥ ((u19.2.1 : Nat) : Int))) (K (.bool false)) <|
  guardW (0 ≤ y31.2.1 ∧ y31.2.1 < ((n2 : Nat) : Int)) <|
  ptrW a2 fun (p38 : Addr) =>
  ldW (.int .i64) (p38.add (Int.toNat y31.2.1 * 2)) fun (u39 : Int) =>
  guardW (0 ≤ u39 ∧ u39 < ((u19.2.1 : Nat) : Int)) <|
  ptrW u19.1 fun (p40 : Addr) =>
  ldW .str ((p40.add (Int.toNat u39 * 2)).add 1) fun (u41 : ByteArray) =>
  ldW (.int .i64) (⟨r1, 0, none⟩ : Addr) fun (u42 : Int) =>
  splitW (((u41.size : Nat) : Int) != u42) (K (.bool false)) <|
  guardW (0 ≤ y31.2.1 ∧ y31.2.1 < ((n2 : Nat) : Int)) <|
  ptrW a2 fun (p43 : Addr) =>
  ldW (.int .i64) (p43.add (Int.toNat y31.2.1 * 2)) fun (u44 : Int) =>
  guardW (0 ≤ u44 ∧ u44 < ((u19.2.1 : Nat) : Int)) <|
  ptrW u19.1 fun (p45 : Addr) =>
  ldAW [(.int .i64), .str] (p45.add (Int.toNat u44 * 2)) fun (u46 : (Int × ByteArray × Unit)) =>
  newW (.cells #[(.int .i64 (0 : Int)), (.string ByteArray.empty)] 53) fun (r47 : Nat) =>
  guardW ((#[(.int .i64 u46.1), (.string u46.2.1)] : Array Value).size = 2) <|
  stAW (⟨r47, 0, none⟩ : Addr) [(.int .i64 u46.1), (.string u46.2.1)] <|
  ldW (.int .i64) (⟨r47, 0, none⟩ : Addr) fun (u48 : Int) =>
  ldW (.int .i64) (⟨r1, 0, none⟩ : Addr) fun (u49 : Int) =>
  splitW y31.1 (J32 (true, ())) <|
  splitW (decide ((IntKind.wrap .i64 (y29.1 - (IntKind.wrap .i64 (u48 * u49)))) ≥ (0 : Int))) (ldW (.int .i64) (⟨r1, 0, none⟩ : Addr) fun (u50 : Int) =>
  splitW (decide ((IntKind.wrap .i64 (y29.1 - (IntKind.wrap .i64 (u48 * u49)))) < u50)) (guardW (0 ≤ y31.2.1 ∧ y31.2.1 < ((n2 : Nat) : Int)) <|
  ptrW a2 fun (p51 : Addr) =>
  ldW (.int .u64) ((p51.add (Int.toNat y31.2.1 * 2)).add 1) fun (u52 : Int) =>
  guardW (0 ≤ (IntKind.wrap .u64 (IntKind.wrap .i64 (Int.tdiv (IntKind.wrap .i64 (y29.1 - (IntKind.wrap .i64 (u48 * u49)))) (64 : Int))))) <|
  splitW ((Int.tmod (ishr .u64 u52 (IntKind.wrap .u64 (IntKind.wrap .i64 (Int.tdiv (IntKind.wrap .i64 (y29.1 - (IntKind.wrap .i64 (u48 * u49)))) (64 : Int))))) (2 : Int)) == (1 : Int)) (ldW .str ((⟨r47, 0, none⟩ : Addr).add 1) fun (u53 : ByteArray) =>
  guardW (0 ≤ (IntKind.wrap .i64 (y29.1 - (IntKind.wrap .i64 (u48 * u49)))) ∧ (IntKind.wrap .i64 (y29.1 - (IntKind.wrap .i64 (u48 * u49)))) ≤ (IntKind.wrap .i64 ((IntKind.wrap .i64 (y29.1 - (IntKind.wrap .i64 (u48 * u49)))) + (64 : Int))) ∧ (IntKind.wrap .i64 ((IntKind.wrap .i64 (y29.1 - (IntKind.wrap .i64 (u48 * u49)))) + (64 : Int))) ≤ ((u53.size : Nat) : Int)) <| J32 (((ByteArray.extract u53 (Int.toNat (IntKind.wrap .i64 (y29.1 - (IntKind.wrap .i64 (u48 * u49))))) (Int.toNat (IntKind.wrap .i64 ((IntKind.wrap .i64 (y29.1 - (IntKind.wrap .i64 (u48 * u49)))) + (64 : Int))))).toList == (ByteArray.extract u23 (Int.toNat y29.1) (Int.toNat (IntKind.wrap .i64 (y29.1 + (64 : Int))))).toList), ())) <| J32 (false, ())) <| J32 (false, ())) <| J32 (false, ())) fun (y33 : Bool × Unit) => I30 (y33.1, (IntKind.wrap .i64 (y31.2.1 + (1 : Int))), ())) <|
  splitW (!y31.1) (K (.bool false)) <| I28 ((IntKind.wrap .i64 (y29.1 + (64 : Int))), ())) <|
  splitW (!((ByteArray.extract u23 (Int.toNat y29.1) (Int.toNat (IntKind.wrap .i64 (y29.1 + (64 : Int))))).toList == (ByteArray.extract u20 (Int.toNat y29.1) (Int.toNat (IntKind.wrap .i64 (y29.1 + (64 : Int))))).toList)) (K (.bool false)) <| I28 ((IntKind.wrap .i64 (y29.1 + (64 : Int))), ())) <| K (.bool true)
theorem eq4 (x0_0 : Int) (x0_1 : Int) (a1 : Option Addr) (n1 c1 : Nat) (a2 : Option Addr) (n2 c2 : Nat) (K : Value → WP) : bodyW Tryd.prog Tryd.f4 an4 false [(.agg #[(.int .i64 x0_0), (.int .i64 x0_1)]), (.slice a1 n1 c1), (.slice a2 n2 c2)] K = S4 x0_0 x0_1 a1 n1 c1 a2 n2 c2 K := by kernel_rfl
theorem calls4 (x0_0 : Int) (x0_1 : Int) (a1 : Option Addr) (n1 c1 : Nat) (a2 : Option Addr) (n2 c2 : Nat) {K : Value → WP} {w : World} (h : S4 x0_0 x0_1 a1 n1 c1 a2 n2 c2 K w) : Calls Tryd.prog 4 #[(.agg #[(.int .i64 x0_0), (.int .i64 x0_1)]), (.slice a1 n1 c1), (.slice a2 n2 c2)] w (Ret K) := callsR_of_bodyW mixed Tryd.func4 (of_decide_eq_true (by kernel_rfl)) (by rw [eq4]; exact h)

/-- shadowbook/shadowbooklaw03.DeviceFuses -/
def an5 : Ann := (.seq .nil (.seq (.seq .nil (.cond (.seq .nil .nil) .nil)) (.seq .nil (.seq (.seq .nil (.cond (.seq .nil .nil) .nil)) (.seq .nil (.seq .nil (.seq (.seq .nil (.block (.loop [(9, .sh (.one (.int .i64)))] [1, 2, 3, 7, 1000000] (.seq (.seq .nil (.cond .nil .nil)) (.seq (.block (.seq .nil (.seq .nil (.join [(13, .sh (.one (.int .i64)))] [1, 2, 3, 7, 9, 10, 11, 12, 1000000] (.seq .nil (.cond .nil .nil)) (.seq .nil (.cond (.seq .nil (.cond (.seq .nil .nil) .nil)) (.seq .nil (.cond (.seq .nil .nil) .nil)))))))) .nil))))) (.seq .nil (.seq .nil .nil)))))))))
def S5 (x0_0 : Int) (x0_1 : Int) (a1 : Option Addr) (n1 c1 : Nat) (x2 : Int) (K : Value → WP) : WP := 
  newW (.cells #[(.int .i64 x0_0), (.int .i64 x0_1)] 23) fun (r1 : Nat) =>
  callW Tryd.prog 9 [] (.one (.one .bool)) fun (u2 : Bool) =>
  splitW (!u2) (K (.bool false)) <|
  ldAW [(.int .i64), (.int .i64)] (⟨r1, 0, none⟩ : Addr) fun (u3 : (Int × Int × Unit)) =>
  callW Tryd.prog 10 [(.agg #[(.int .i64 u3.1), (.int .i64 u3.2.1)])] (.many [(.one .ptr), (.one (.int .i64))]) fun (u4 : Option Addr × Int × Unit) =>
  ldAW [(.int .i64), (.int .i64)] (⟨r1, 0, none⟩ : Addr) fun (u5 : (Int × Int × Unit)) =>
  callW Tryd.prog 11 [(.agg #[(.int .i64 u5.1), (.int .i64 u5.2.1)])] (.one (.one .bool)) fun (u6 : Bool) =>
  splitW (!u6) (K (.bool true)) <|
  splitW (decide (((n1 : Nat) : Int) > (40 : Int))) (K (.bool true)) <|
  splitW (u4.2.1 != (0 : Int)) (K (.bool true)) <|
  callW Tryd.prog 12 [(.int .i64 x2), (.int .i64 (45 : Int))] (.one (.one (.int .i64))) fun (u7 : Int) =>
  callW Tryd.prog 21 [(.pointer u4.1), (.int .i64 u7)] .none fun (u8 : Unit) =>
  loopW (Int × Unit) ((0 : Int), ()) fun (y10 : Int × Unit) (I9 : (Int × Unit) → WP) =>
  splitW (decide (y10.1 < ((n1 : Nat) : Int))) (callW Tryd.prog 22 [(.pointer u4.1)] (.one (.one (.int .i64))) fun (u11 : Int) =>
  callW Tryd.prog 16 [(.pointer u4.1)] (.one (.one .slc)) fun (u12 : (Option Addr × Nat × Nat)) =>
  callW Tryd.prog 20 [(.pointer u4.1)] (.one (.one .str)) fun (u13 : ByteArray) =>
  joinW (Int × Unit) (fun (J14 : (Int × Unit) → WP) =>
  guardW (0 ≤ y10.1 ∧ y10.1 < ((n1 : Nat) : Int)) <|
  ptrW a1 fun (p16 : Addr) =>
  ldW (.int .i64) (p16.add (Int.toNat y10.1 * 6)) fun (u17 : Int) =>
  splitW ((Int.tmod u17 (3 : Int)) == (0 : Int)) (callW Tryd.prog 15 [(.pointer u4.1)] (.one (.one (.int .i64))) fun (u18 : Int) => J14 (u18, ())) <|
  drewW <|
  guardW (0 ≤ y10.1 ∧ y10.1 < ((n1 : Nat) : Int)) <|
  ptrW a1 fun (p19 : Addr) =>
  ldW (.int .i64) ((p19.add (Int.toNat y10.1 * 6)).add 1) fun (u20 : Int) =>
  ldW (.int .i64) ((⟨r1, 0, none⟩ : Addr).add 1) fun (u21 : Int) =>
  guardW (0 ≤ y10.1 ∧ y10.1 < ((n1 : Nat) : Int)) <|
  ptrW a1 fun (p22 : Addr) =>
  ldAW [(.int .i64), (.int .i64), (.int .u8), (.int .i64), (.int .u32), .slc] (p22.add (Int.toNat y10.1 * 6)) fun (u23 : (Int × Int × Int × Int × Int × (Option Addr × Nat × Nat) × Unit)) =>
  ldW (.int .i64) (⟨r1, 0, none⟩ : Addr) fun (u24 : Int) =>
  callW Tryd.prog 12 [(.int .i64 u20), (.int .i64 u21)] (.one (.one (.int .i64))) fun (u25 : Int) =>
  heldW [[((⟨r1, 0, none⟩ : Addr), (.int .i64 u24))], [((p22.add (Int.toNat y10.1 * 6)).add 0, (.int .i64 u23.1)), ((p22.add (Int.toNat y10.1 * 6)).add 1, (.int .i64 u23.2.1)), ((p22.add (Int.toNat y10.1 * 6)).add 2, (.int .u8 u23.2.2.1)), ((p22.add (Int.toNat y10.1 * 6)).add 3, (.int .i64 u23.2.2.2.1)), ((p22.add (Int.toNat y10.1 * 6)).add 4, (.int .u32 u23.2.2.2.2.1)), ((p22.add (Int.toNat y10.1 * 6)).add 5, (.slice u23.2.2.2.2.2.1.1 u23.2.2.2.2.2.1.2.1 u23.2.2.2.2.2.1.2.2))]] <|
  callW Tryd.prog 13 [(.agg #[(.int .i64 u23.1), (.int .i64 u23.2.1), (.int .u8 u23.2.2.1), (.int .i64 u23.2.2.2.1), (.int .u32 u23.2.2.2.2.1), (.slice u23.2.2.2.2.2.1.1 u23.2.2.2.2.2.1.2.1 u23.2.2.2.2.2.1.2.2)]), (.int .i64 u24)] (.one (.one .str)) fun (u26 : ByteArray) =>
  callW Tryd.prog 14 [(.pointer u4.1), (.int .i64 u25), (.string u26)] (.one (.one (.int .i64))) fun (u27 : Int) => J14 (u27, ())) fun (y15 : Int × Unit) =>
  splitW (decide (y10.1 < u7)) (splitW (y15.1 != (0 : Int)) (K (.bool false)) <|
  callW Tryd.prog 22 [(.pointer u4.1)] (.one (.one (.int .i64))) fun (u28 : Int) =>
  splitW (u28 != (IntKind.wrap .i64 (u11 + (1 : Int)))) (K (.bool false)) <| I9 ((IntKind.wrap .i64 (y10.1 + (1 : Int))), ())) <|
  splitW (y15.1 != (8 : Int)) (K (.bool false)) <|
  callW Tryd.prog 22 [(.pointer u4.1)] (.one (.one (.int .i64))) fun (u29 : Int) =>
  splitW (u29 != u11) (K (.bool false)) <|
  callW Tryd.prog 16 [(.pointer u4.1)] (.one (.one .slc)) fun (u30 : (Option Addr × Nat × Nat)) =>
  splitW (((u30.2.1 : Nat) : Int) != ((u12.2.1 : Nat) : Int)) (K (.bool false)) <|
  callW Tryd.prog 20 [(.pointer u4.1)] (.one (.one .str)) fun (u31 : ByteArray) =>
  splitW (!(u31.toList == u13.toList)) (K (.bool false)) <| I9 ((IntKind.wrap .i64 (y10.1 + (1 : Int))), ())) <|
  callW Tryd.prog 21 [(.pointer u4.1), (.int .i64 (-1 : Int))] .none fun (u32 : Unit) =>
  callW Tryd.prog 15 [(.pointer u4.1)] (.one (.one (.int .i64))) fun (u33 : Int) =>
  splitW (u33 == (0 : Int)) (callW Tryd.prog 22 [(.pointer u4.1)] (.one (.one (.int .i64))) fun (u34 : Int) => K (.bool (u34 == (IntKind.wrap .i64 ((if ((n1 : Nat) : Int) < u7 then ((n1 : Nat) : Int) else u7) + (1 : Int)))))) <| K (.bool false)
theorem eq5 (x0_0 : Int) (x0_1 : Int) (a1 : Option Addr) (n1 c1 : Nat) (x2 : Int) (K : Value → WP) : bodyW Tryd.prog Tryd.f5 an5 false [(.agg #[(.int .i64 x0_0), (.int .i64 x0_1)]), (.slice a1 n1 c1), (.int .i64 x2)] K = S5 x0_0 x0_1 a1 n1 c1 x2 K := by kernel_rfl
theorem calls5 (x0_0 : Int) (x0_1 : Int) (a1 : Option Addr) (n1 c1 : Nat) (x2 : Int) {K : Value → WP} {w : World} (h : S5 x0_0 x0_1 a1 n1 c1 x2 K w) : Calls Tryd.prog 5 #[(.agg #[(.int .i64 x0_0), (.int .i64 x0_1)]), (.slice a1 n1 c1), (.int .i64 x2)] w (Ret K) := callsR_of_bodyW mixed Tryd.func5 (of_decide_eq_true (by kernel_rfl)) (by rw [eq5]; exact h)

/-- shadowbook/shadowbooklaw03.DeviceNames -/
def an6 : Ann := (.seq .nil (.seq (.seq .nil (.cond (.seq .nil .nil) .nil)) (.seq .nil (.seq .nil (.seq .nil (.seq .nil (.seq .nil (.seq .nil (.seq .nil (.seq .nil (.seq .nil (.seq .nil (.seq .nil (.seq .nil (.seq .nil (.seq .nil (.seq .nil (.seq .nil (.seq .nil (.seq .nil (.seq .nil (.seq .nil (.seq .nil (.seq .nil (.seq .nil (.seq .nil (.join [(0, .sh (.one .bool))] [1000000] .nil .nil)))))))))))))))))))))))))))
def S6  (K : Value → WP) : WP := 
  callW Tryd.prog 9 [] (.one (.one .bool)) fun (u1 : Bool) =>
  splitW (!u1) (K (.bool false)) <|
  callW Tryd.prog 23 [] (.one (.agg [(.int .i64), (.int .i64)])) fun (u2 : (Int × Int × Unit)) =>
  callW Tryd.prog 10 [(.agg #[(.int .i64 u2.1), (.int .i64 u2.2.1)])] (.many [(.one .ptr), (.one (.int .i64))]) fun (u3 : Option Addr × Int × Unit) =>
  callW Tryd.prog 10 [(.agg #[(.int .i64 (130 : Int)), (.int .i64 (8 : Int))])] (.many [(.one .ptr), (.one (.int .i64))]) fun (u4 : Option Addr × Int × Unit) =>
  callW Tryd.prog 23 [] (.one (.agg [(.int .i64), (.int .i64)])) fun (u5 : (Int × Int × Unit)) =>
  callW Tryd.prog 24 [(.agg #[(.int .i64 u5.1), (.int .i64 u5.2.1)]), (.string (ByteArray.mk #[97]))] (.many [(.one .ptr), (.one (.int .i64))]) fun (u6 : Option Addr × Int × Unit) =>
  callW Tryd.prog 18 [(.int .i64 (128 : Int)), (.string (ByteArray.mk #[97]))] (.one (.one .str)) fun (u7 : ByteArray) =>
  callW Tryd.prog 14 [(.pointer u3.1), (.int .i64 (8 : Int)), (.string u7)] (.one (.one (.int .i64))) fun (u8 : Int) =>
  callW Tryd.prog 14 [(.pointer u3.1), (.int .i64 (0 : Int)), (.string (ByteArray.mk #[97]))] (.one (.one (.int .i64))) fun (u9 : Int) =>
  callW Tryd.prog 18 [(.int .i64 (128 : Int)), (.string (ByteArray.mk #[97]))] (.one (.one .str)) fun (u10 : ByteArray) =>
  callW Tryd.prog 14 [(.pointer u3.1), (.int .i64 (1 : Int)), (.string u10)] (.one (.one (.int .i64))) fun (u11 : Int) =>
  callW Tryd.prog 18 [(.int .i64 (128 : Int)), (.string (ByteArray.mk #[98]))] (.one (.one .str)) fun (u12 : ByteArray) =>
  callW Tryd.prog 14 [(.pointer u3.1), (.int .i64 (1 : Int)), (.string u12)] (.one (.one (.int .i64))) fun (u13 : Int) =>
  newW (.cells #[(.int .i64 (1 : Int)), (.int .u64 (2 : Int)), (.int .i64 (0 : Int)), (.int .u64 (1 : Int))] 45) fun (r14 : Nat) =>
  callW Tryd.prog 17 [(.pointer u3.1), (.slice (some (⟨r14, 0, none⟩ : Addr)) 2 2)] (.many [(.one .ptr), (.one (.int .i64))]) fun (u15 : Option Addr × Int × Unit) =>
  newW (.cells #[(.int .i64 (1 : Int)), (.int .u64 (0 : Int)), (.int .i64 (1 : Int)), (.int .u64 (0 : Int))] 45) fun (r16 : Nat) =>
  callW Tryd.prog 17 [(.pointer u3.1), (.slice (some (⟨r16, 0, none⟩ : Addr)) 2 2)] (.many [(.one .ptr), (.one (.int .i64))]) fun (u17 : Option Addr × Int × Unit) =>
  newW (.cells #[(.int .i64 (0 : Int)), (.int .u64 (4 : Int))] 45) fun (r18 : Nat) =>
  callW Tryd.prog 17 [(.pointer u3.1), (.slice (some (⟨r18, 0, none⟩ : Addr)) 1 1)] (.many [(.one .ptr), (.one (.int .i64))]) fun (u19 : Option Addr × Int × Unit) =>
  callW Tryd.prog 19 [(.pointer u15.1), (.int .i64 (1 : Int))] (.many [(.one .str), (.one (.int .i64))]) fun (u20 : ByteArray × Int × Unit) =>
  callW Tryd.prog 15 [(.pointer u3.1)] (.one (.one (.int .i64))) fun (u21 : Int) =>
  callW Tryd.prog 19 [(.pointer u3.1), (.int .i64 (1 : Int))] (.many [(.one .str), (.one (.int .i64))]) fun (u22 : ByteArray × Int × Unit) =>
  callW Tryd.prog 25 [(.pointer u3.1), (.int .i64 (1 : Int)), (.int .i64 (7 : Int)), (.int .u32 (3 : Int))] (.one (.one (.int .i64))) fun (u23 : Int) =>
  callW Tryd.prog 19 [(.pointer u3.1), (.int .i64 (1 : Int))] (.many [(.one .str), (.one (.int .i64))]) fun (u24 : ByteArray × Int × Unit) =>
  callW Tryd.prog 25 [(.pointer u3.1), (.int .i64 (1 : Int)), (.int .i64 (1023 : Int)), (.int .u32 (3 : Int))] (.one (.one (.int .i64))) fun (u25 : Int) =>
  callW Tryd.prog 25 [(.pointer u3.1), (.int .i64 (1 : Int)), (.int .i64 (0 : Int)), (.int .u32 (0 : Int))] (.one (.one (.int .i64))) fun (u26 : Int) =>
  callW Tryd.prog 21 [(.pointer u3.1), (.int .i64 (1 : Int))] .none fun (u27 : Unit) =>
  callW Tryd.prog 18 [(.int .i64 (128 : Int)), (.string (ByteArray.mk #[99]))] (.one (.one .str)) fun (u28 : ByteArray) =>
  callW Tryd.prog 14 [(.pointer u3.1), (.int .i64 (2 : Int)), (.string u28)] (.one (.one (.int .i64))) fun (u29 : Int) =>
  callW Tryd.prog 15 [(.pointer u3.1)] (.one (.one (.int .i64))) fun (u30 : Int) =>
  callW Tryd.prog 14 [(.pointer u3.1), (.int .i64 (9 : Int)), (.string (ByteArray.mk #[]))] (.one (.one (.int .i64))) fun (u31 : Int) =>
  callW Tryd.prog 21 [(.pointer u3.1), (.int .i64 (-5 : Int))] .none fun (u32 : Unit) =>
  callW Tryd.prog 15 [(.pointer u3.1)] (.one (.one (.int .i64))) fun (u33 : Int) =>
  joinW (Bool × Unit) (fun (J34 : (Bool × Unit) → WP) =>
  splitW (u4.2.1 == (2 : Int)) (splitW (u6.2.1 == (2 : Int)) (splitW (u8 == (2 : Int)) (splitW (u9 == (2 : Int)) (splitW (u15.2.1 == (0 : Int)) (splitW (u17.2.1 == (2 : Int)) (splitW (u19.2.1 == (2 : Int)) (callW Tryd.prog 18 [(.int .i64 (64 : Int)), (.string (ByteArray.mk #[97]))] (.one (.one .str)) fun (u36 : ByteArray) =>
  callW Tryd.prog 18 [(.int .i64 (64 : Int)), (.string (ByteArray.mk #[98]))] (.one (.one .str)) fun (u37 : ByteArray) =>
  guardW (((u36.size + u37.size : Nat) : Int) ≤ IntKind.i64.max) <|
  splitW (u20.1.toList == (u36 ++ u37).toList) (splitW (u21 == (0 : Int)) (callW Tryd.prog 18 [(.int .i64 (128 : Int)), (.string (ByteArray.mk #[98]))] (.one (.one .str)) fun (u38 : ByteArray) =>
  splitW (u22.1.toList == u38.toList) (splitW (u23 == (0 : Int)) (callW Tryd.prog 18 [(.int .i64 (126 : Int)), (.string (ByteArray.mk #[98]))] (.one (.one .str)) fun (u39 : ByteArray) =>
  guardW ((((ByteArray.mk #[226, 99]).size + u39.size : Nat) : Int) ≤ IntKind.i64.max) <|
  splitW (u24.1.toList == ((ByteArray.mk #[226, 99]) ++ u39).toList) (splitW (u25 == (2 : Int)) (splitW (u26 == (2 : Int)) (splitW (u29 == (0 : Int)) (splitW (u30 == (8 : Int)) (splitW (u31 == (2 : Int)) (splitW (u33 == (0 : Int)) (callW Tryd.prog 22 [(.pointer u3.1)] (.one (.one (.int .i64))) fun (u40 : Int) =>
  splitW (u40 == (5 : Int)) (callW Tryd.prog 15 [(.pointer none)] (.one (.one (.int .i64))) fun (u41 : Int) =>
  splitW (u41 == (1 : Int)) (callW Tryd.prog 22 [(.pointer none)] (.one (.one (.int .i64))) fun (u42 : Int) =>
  splitW (u42 == (0 : Int)) (callW Tryd.prog 16 [(.pointer u3.1)] (.one (.one .slc)) fun (u43 : (Option Addr × Nat × Nat)) =>
  splitW (((u43.2.1 : Nat) : Int) == (0 : Int)) (callW Tryd.prog 22 [(.pointer u15.1)] (.one (.one (.int .i64))) fun (u44 : Int) => J34 ((u44 == (0 : Int)), ())) <| J34 (false, ())) <| J34 (false, ())) <| J34 (false, ())) <| J34 (false, ())) <| J34 (false, ())) <| J34 (false, ())) <| J34 (false, ())) <| J34 (false, ())) <| J34 (false, ())) <| J34 (false, ())) <| J34 (false, ())) <| J34 (false, ())) <| J34 (false, ())) <| J34 (false, ())) <| J34 (false, ())) <| J34 (false, ())) <| J34 (false, ())) <| J34 (false, ())) <| J34 (false, ())) <| J34 (false, ())) <| J34 (false, ())) <| J34 (false, ())) fun (y35 : Bool × Unit) => K (.bool y35.1)
theorem eq6  (K : Value → WP) : bodyW Tryd.prog Tryd.f6 an6 false [] K = S6  K := by kernel_rfl
theorem calls6  {K : Value → WP} {w : World} (h : S6  K w) : Calls Tryd.prog 6 #[] w (Ret K) := callsR_of_bodyW mixed Tryd.func6 (of_decide_eq_true (by kernel_rfl)) (by rw [eq6]; exact h)

/-- shadowbook/shadowbooklaw03.DeviceRot -/
def an7 : Ann := (.seq .nil (.seq (.seq .nil (.cond (.seq .nil .nil) .nil)) (.seq (.seq .nil (.cond (.seq .nil .nil) .nil)) (.seq .nil (.seq .nil (.seq (.seq .nil (.cond (.seq .nil .nil) .nil)) (.seq .nil (.seq (.seq .nil (.cond (.seq .nil .nil) .nil)) (.seq .nil (.seq .nil (.seq .nil .nil)))))))))))
def S7 (x0_0 : Int) (x0_1 : Int) (x1 : Int) (x2 : Int) (x3 : Int) (x4 : Int) (K : Value → WP) : WP := 
  newW (.cells #[(.int .i64 x0_0), (.int .i64 x0_1)] 23) fun (r1 : Nat) =>
  callW Tryd.prog 9 [] (.one (.one .bool)) fun (u2 : Bool) =>
  splitW (!u2) (K (.bool false)) <|
  ldAW [(.int .i64), (.int .i64)] (⟨r1, 0, none⟩ : Addr) fun (u3 : (Int × Int × Unit)) =>
  callW Tryd.prog 11 [(.agg #[(.int .i64 u3.1), (.int .i64 u3.2.1)])] (.one (.one .bool)) fun (u4 : Bool) =>
  splitW (!u4) (K (.bool true)) <|
  ldAW [(.int .i64), (.int .i64)] (⟨r1, 0, none⟩ : Addr) fun (u5 : (Int × Int × Unit)) =>
  callW Tryd.prog 26 [(.agg #[(.int .i64 u5.1), (.int .i64 u5.2.1)])] (.one (.one (.int .i64))) fun (u6 : Int) =>
  splitW (u6 != (0 : Int)) (K (.bool true)) <|
  ldW (.int .i64) (⟨r1, 0, none⟩ : Addr) fun (u7 : Int) =>
  ldW (.int .i64) ((⟨r1, 0, none⟩ : Addr).add 1) fun (u8 : Int) =>
  newW (.cells #[(.int .u8 x1)] 5) fun (r9 : Nat) =>
  runW Tryd.prog (Go.convert 62 9 (.slice (some (⟨r9, 0, none⟩ : Addr)) 1 1)) .str fun (u10 : ByteArray) =>
  callW Tryd.prog 18 [(.int .i64 (IntKind.wrap .i64 (u7 * u8))), (.string u10)] (.one (.one .str)) fun (u11 : ByteArray) =>
  ldAW [(.int .i64), (.int .i64)] (⟨r1, 0, none⟩ : Addr) fun (u12 : (Int × Int × Unit)) =>
  callW Tryd.prog 24 [(.agg #[(.int .i64 u12.1), (.int .i64 u12.2.1)]), (.string u11)] (.many [(.one .ptr), (.one (.int .i64))]) fun (u13 : Option Addr × Int × Unit) =>
  splitW (u13.2.1 != (0 : Int)) (K (.bool false)) <|
  callW Tryd.prog 20 [(.pointer u13.1)] (.one (.one .str)) fun (u14 : ByteArray) =>
  splitW (!(u14.toList == u11.toList)) (K (.bool false)) <|
  callW Tryd.prog 25 [(.pointer u13.1), (.int .i64 x2), (.int .i64 x3), (.int .u32 x4)] (.one (.one (.int .i64))) fun (u15 : Int) =>
  splitW (u15 != (0 : Int)) (splitW (u15 == (2 : Int)) (callW Tryd.prog 20 [(.pointer u13.1)] (.one (.one .str)) fun (u16 : ByteArray) => K (.bool (u16.toList == u11.toList))) <| K (.bool false)) <|
  runW Tryd.prog (Go.convert 9 62 (.string u11)) .slc fun (u17 : (Option Addr × Nat × Nat)) =>
  ldW (.int .i64) (⟨r1, 0, none⟩ : Addr) fun (u18 : Int) =>
  callW Tryd.prog 27 [(.slice u17.1 u17.2.1 u17.2.2), (.int .i64 (IntKind.wrap .i64 ((IntKind.wrap .i64 ((IntKind.wrap .i64 (x2 * u18)) * (8 : Int))) + x3))), (.int .i64 (32 : Int)), (.int .u32 x4)] (.one (.one .slc)) fun (u19 : (Option Addr × Nat × Nat)) =>
  runW Tryd.prog (Go.convert 62 9 (.slice u19.1 u19.2.1 u19.2.2)) .str fun (u20 : ByteArray) =>
  callW Tryd.prog 20 [(.pointer u13.1)] (.one (.one .str)) fun (u21 : ByteArray) =>
  splitW (u21.toList == u20.toList) (splitW (!(u21.toList == u11.toList)) (callW Tryd.prog 25 [(.pointer u13.1), (.int .i64 x2), (.int .i64 x3), (.int .u32 x4)] (.one (.one (.int .i64))) fun (u22 : Int) =>
  splitW (u22 == (0 : Int)) (callW Tryd.prog 20 [(.pointer u13.1)] (.one (.one .str)) fun (u23 : ByteArray) => K (.bool (u23.toList == u11.toList))) <| K (.bool false)) <| K (.bool false)) <| K (.bool false)
theorem eq7 (x0_0 : Int) (x0_1 : Int) (x1 : Int) (x2 : Int) (x3 : Int) (x4 : Int) (K : Value → WP) : bodyW Tryd.prog Tryd.f7 an7 false [(.agg #[(.int .i64 x0_0), (.int .i64 x0_1)]), (.int .u8 x1), (.int .i64 x2), (.int .i64 x3), (.int .u32 x4)] K = S7 x0_0 x0_1 x1 x2 x3 x4 K := by kernel_rfl
theorem calls7 (x0_0 : Int) (x0_1 : Int) (x1 : Int) (x2 : Int) (x3 : Int) (x4 : Int) {K : Value → WP} {w : World} (h : S7 x0_0 x0_1 x1 x2 x3 x4 K w) : Calls Tryd.prog 7 #[(.agg #[(.int .i64 x0_0), (.int .i64 x0_1)]), (.int .u8 x1), (.int .i64 x2), (.int .i64 x3), (.int .u32 x4)] w (Ret K) := callsR_of_bodyW mixed Tryd.func7 (of_decide_eq_true (by kernel_rfl)) (by rw [eq7]; exact h)

/-- shadowbook/shadowbooklaw03.DeviceScript -/
def an8 : Ann := (.seq .nil (.seq (.seq .nil (.cond (.seq .nil .nil) .nil)) (.seq (.seq .nil (.cond (.seq .nil .nil) .nil)) (.seq .nil (.seq .nil (.seq (.seq .nil (.cond (.seq .nil .nil) .nil)) (.join [(5, .sh (.one .ptr)), (7, .sh (.one .ptr))] [1000000] (.seq .nil (.block (.loop [(5, .sh (.one .ptr)), (7, .sh (.one .ptr)), (9, .sh (.one (.int .i64)))] [1, 2, 1000000] (.seq (.seq .nil (.cond .nil .nil)) (.join [(5, .sh (.one .ptr)), (7, .sh (.one .ptr))] [1, 2, 9, 1000000] (.block (.seq .nil (.seq (.seq .nil (.cond (.seq .nil .nil) .nil)) (.seq .nil (.join [(5, .sh (.one .ptr)), (7, .sh (.one .ptr)), (11, .sh (.one .bool))] [1, 2, 9, 1000000] (.seq .nil (.block (.join [(114, .sh (.one .bool))] [1, 2, 5, 7, 9, 10, 11, 78, 1000000] (.seq .nil (.cond .nil .nil)) (.cond (.seq .nil .nil) (.seq .nil (.cond (.seq .nil (.seq .nil .nil)) (.seq .nil (.cond .nil (.seq .nil (.cond .nil (.seq .nil (.cond (.seq .nil .nil) (.seq .nil (.seq .nil (.seq (.seq .nil (.cond (.seq .nil .nil) .nil)) (.seq .nil (.cond .nil .nil))))))))))))))))) (.seq .nil (.cond (.seq .nil .nil) .nil))))))) .nil))))) (.seq .nil .nil))))))))
def S8 (x0_0 : Int) (x0_1 : Int) (a1 : Option Addr) (n1 c1 : Nat) (K : Value → WP) : WP := 
  newW (.cells #[(.int .i64 x0_0), (.int .i64 x0_1)] 23) fun (r1 : Nat) =>
  callW Tryd.prog 9 [] (.one (.one .bool)) fun (u2 : Bool) =>
  splitW (!u2) (K (.bool false)) <|
  ldAW [(.int .i64), (.int .i64)] (⟨r1, 0, none⟩ : Addr) fun (u3 : (Int × Int × Unit)) =>
  callW Tryd.prog 11 [(.agg #[(.int .i64 u3.1), (.int .i64 u3.2.1)])] (.one (.one .bool)) fun (u4 : Bool) =>
  splitW (!u4) (K (.bool true)) <|
  splitW (decide (((n1 : Nat) : Int) > (40 : Int))) (K (.bool true)) <|
  ldAW [(.int .i64), (.int .i64)] (⟨r1, 0, none⟩ : Addr) fun (u5 : (Int × Int × Unit)) =>
  callW Tryd.prog 10 [(.agg #[(.int .i64 u5.1), (.int .i64 u5.2.1)])] (.many [(.one .ptr), (.one (.int .i64))]) fun (u6 : Option Addr × Int × Unit) =>
  ldAW [(.int .i64), (.int .i64)] (⟨r1, 0, none⟩ : Addr) fun (u7 : (Int × Int × Unit)) =>
  callW Tryd.prog 28 [(.agg #[(.int .i64 u7.1), (.int .i64 u7.2.1)])] (.many [(.one .ptr), (.one (.int .i64))]) fun (u8 : Option Addr × Int × Unit) =>
  drewW <|
  splitW (u6.2.1 != u8.2.1) (K (.bool false)) <|
  ldAW [(.int .i64), (.int .i64)] (⟨r1, 0, none⟩ : Addr) fun (u9 : (Int × Int × Unit)) =>
  ldAW [(.int .i64), (.int .i64)] (⟨r1, 0, none⟩ : Addr) fun (u10 : (Int × Int × Unit)) =>
  callW Tryd.prog 26 [(.agg #[(.int .i64 u9.1), (.int .i64 u9.2.1)])] (.one (.one (.int .i64))) fun (u11 : Int) =>
  heldW [[((⟨r1, 0, none⟩ : Addr).add 0, (.int .i64 u10.1)), ((⟨r1, 0, none⟩ : Addr).add 1, (.int .i64 u10.2.1))]] <|
  callW Tryd.prog 29 [(.agg #[(.int .i64 u10.1), (.int .i64 u10.2.1)])] (.one (.one (.int .i64))) fun (u12 : Int) =>
  splitW (u11 != u12) (K (.bool false)) <|
  splitW (!((Option.isNone u6.1) == (Option.isNone u8.1))) (K (.bool false)) <|
  joinW (Option Addr × Option Addr × Unit) (fun (J13 : (Option Addr × Option Addr × Unit) → WP) =>
  loopW (Option Addr × Option Addr × Int × Unit) (u6.1, u8.1, (0 : Int), ()) fun (y16 : Option Addr × Option Addr × Int × Unit) (I15 : (Option Addr × Option Addr × Int × Unit) → WP) =>
  splitW (decide (y16.2.2.1 < ((n1 : Nat) : Int))) (splitW (!(Option.isNone y16.2.1)) (joinW (Option Addr × Option Addr × Unit) (fun (J17 : (Option Addr × Option Addr × Unit) → WP) =>
  guardW (0 ≤ y16.2.2.1 ∧ y16.2.2.1 < ((n1 : Nat) : Int)) <|
  ptrW a1 fun (p19 : Addr) =>
  ldAW [(.int .i64), (.int .i64), (.int .u8), (.int .i64), (.int .u32), .slc] (p19.add (Int.toNat y16.2.2.1 * 6)) fun (u20 : (Int × Int × Int × Int × Int × (Option Addr × Nat × Nat) × Unit)) =>
  newW (.cells #[(.int .i64 (0 : Int)), (.int .i64 (0 : Int)), (.int .u8 (0 : Int)), (.int .i64 (0 : Int)), (.int .u32 (0 : Int)), (.slice none 0 0)] 36) fun (r21 : Nat) =>
  guardW ((#[(.int .i64 u20.1), (.int .i64 u20.2.1), (.int .u8 u20.2.2.1), (.int .i64 u20.2.2.2.1), (.int .u32 u20.2.2.2.2.1), (.slice u20.2.2.2.2.2.1.1 u20.2.2.2.2.2.1.2.1 u20.2.2.2.2.2.1.2.2)] : Array Value).size = 6) <|
  stAW (⟨r21, 0, none⟩ : Addr) [(.int .i64 u20.1), (.int .i64 u20.2.1), (.int .u8 u20.2.2.1), (.int .i64 u20.2.2.2.1), (.int .u32 u20.2.2.2.2.1), (.slice u20.2.2.2.2.2.1.1 u20.2.2.2.2.2.1.2.1 u20.2.2.2.2.2.1.2.2)] <|
  ldW .slc ((⟨r21, 0, none⟩ : Addr).add 5) fun (u22 : (Option Addr × Nat × Nat)) =>
  splitW (decide (((u22.2.1 : Nat) : Int) > (40 : Int))) (K (.bool true)) <|
  joinW (Option Addr × Option Addr × Bool × Unit) (fun (J23 : (Option Addr × Option Addr × Bool × Unit) → WP) =>
  ldW (.int .i64) (⟨r21, 0, none⟩ : Addr) fun (u25 : Int) =>
  callW Tryd.prog 12 [(.int .i64 u25), (.int .i64 (7 : Int))] (.one (.one (.int .i64))) fun (u26 : Int) =>
  joinW (Bool × Unit) (fun (J27 : (Bool × Unit) → WP) =>
  splitW (u26 == (0 : Int)) (J27 ((u26 == (0 : Int)), ())) <| J27 ((u26 == (1 : Int)), ())) fun (y28 : Bool × Unit) =>
  splitW y28.1 (ldAW [(.int .i64), (.int .i64), (.int .u8), (.int .i64), (.int .u32), .slc] (⟨r21, 0, none⟩ : Addr) fun (u29 : (Int × Int × Int × Int × Int × (Option Addr × Nat × Nat) × Unit)) =>
  ldW (.int .i64) (⟨r1, 0, none⟩ : Addr) fun (u30 : Int) =>
  callW Tryd.prog 13 [(.agg #[(.int .i64 u29.1), (.int .i64 u29.2.1), (.int .u8 u29.2.2.1), (.int .i64 u29.2.2.2.1), (.int .u32 u29.2.2.2.2.1), (.slice u29.2.2.2.2.2.1.1 u29.2.2.2.2.2.1.2.1 u29.2.2.2.2.2.1.2.2)]), (.int .i64 u30)] (.one (.one .str)) fun (u31 : ByteArray) =>
  drewW <|
  ldW (.int .i64) ((⟨r21, 0, none⟩ : Addr).add 1) fun (u32 : Int) =>
  ldW (.int .i64) ((⟨r21, 0, none⟩ : Addr).add 1) fun (u33 : Int) =>
  callW Tryd.prog 14 [(.pointer y16.1), (.int .i64 u32), (.string u31)] (.one (.one (.int .i64))) fun (u34 : Int) =>
  heldW [[(((⟨r21, 0, none⟩ : Addr).add 1), (.int .i64 u33))]] <|
  callW Tryd.prog 30 [(.pointer y16.2.1), (.int .i64 u33), (.string u31)] (.one (.one (.int .i64))) fun (u35 : Int) => J23 (y16.1, y16.2.1, (u34 == u35), ())) <|
  splitW (u26 == (2 : Int)) (ldW (.int .i64) ((⟨r21, 0, none⟩ : Addr).add 1) fun (u36 : Int) =>
  callW Tryd.prog 19 [(.pointer y16.1), (.int .i64 u36)] (.many [(.one .str), (.one (.int .i64))]) fun (u37 : ByteArray × Int × Unit) =>
  ldW (.int .i64) ((⟨r21, 0, none⟩ : Addr).add 1) fun (u38 : Int) =>
  callW Tryd.prog 31 [(.pointer y16.2.1), (.int .i64 u38)] (.many [(.one .str), (.one (.int .i64))]) fun (u39 : ByteArray × Int × Unit) =>
  splitW (u37.1.toList == u39.1.toList) (J23 (y16.1, y16.2.1, (u37.2.1 == u39.2.1), ())) <| J23 (y16.1, y16.2.1, false, ())) <|
  splitW (u26 == (3 : Int)) (callW Tryd.prog 15 [(.pointer y16.1)] (.one (.one (.int .i64))) fun (u40 : Int) =>
  callW Tryd.prog 32 [(.pointer y16.2.1)] (.one (.one (.int .i64))) fun (u41 : Int) => J23 (y16.1, y16.2.1, (u40 == u41), ())) <|
  splitW (u26 == (4 : Int)) (drewW <|
  ldW (.int .i64) ((⟨r21, 0, none⟩ : Addr).add 1) fun (u42 : Int) =>
  ldW (.int .i64) ((⟨r21, 0, none⟩ : Addr).add 3) fun (u43 : Int) =>
  ldW (.int .u32) ((⟨r21, 0, none⟩ : Addr).add 4) fun (u44 : Int) =>
  ldW (.int .i64) ((⟨r21, 0, none⟩ : Addr).add 1) fun (u45 : Int) =>
  ldW (.int .i64) ((⟨r21, 0, none⟩ : Addr).add 3) fun (u46 : Int) =>
  ldW (.int .u32) ((⟨r21, 0, none⟩ : Addr).add 4) fun (u47 : Int) =>
  callW Tryd.prog 25 [(.pointer y16.1), (.int .i64 u42), (.int .i64 u43), (.int .u32 u44)] (.one (.one (.int .i64))) fun (u48 : Int) =>
  heldW [[(((⟨r21, 0, none⟩ : Addr).add 4), (.int .u32 u47))], [(((⟨r21, 0, none⟩ : Addr).add 3), (.int .i64 u46))], [(((⟨r21, 0, none⟩ : Addr).add 1), (.int .i64 u45))]] <|
  callW Tryd.prog 33 [(.pointer y16.2.1), (.int .i64 u45), (.int .i64 u46), (.int .u32 u47)] (.one (.one (.int .i64))) fun (u49 : Int) => J23 (y16.1, y16.2.1, (u48 == u49), ())) <|
  splitW (u26 == (5 : Int)) (ldW (.int .i64) ((⟨r21, 0, none⟩ : Addr).add 3) fun (u50 : Int) =>
  callW Tryd.prog 21 [(.pointer y16.1), (.int .i64 u50)] .none fun (u51 : Unit) =>
  ldW (.int .i64) ((⟨r21, 0, none⟩ : Addr).add 3) fun (u52 : Int) =>
  callW Tryd.prog 34 [(.pointer y16.2.1), (.int .i64 u52)] .none fun (u53 : Unit) => J23 (y16.1, y16.2.1, true, ())) <|
  ldW .slc ((⟨r21, 0, none⟩ : Addr).add 5) fun (u54 : (Option Addr × Nat × Nat)) =>
  callW Tryd.prog 17 [(.pointer y16.1), (.slice u54.1 u54.2.1 u54.2.2)] (.many [(.one .ptr), (.one (.int .i64))]) fun (u55 : Option Addr × Int × Unit) =>
  ldW .slc ((⟨r21, 0, none⟩ : Addr).add 5) fun (u56 : (Option Addr × Nat × Nat)) =>
  callW Tryd.prog 35 [(.pointer y16.2.1), (.slice u56.1 u56.2.1 u56.2.2)] (.many [(.one .ptr), (.one (.int .i64))]) fun (u57 : Option Addr × Int × Unit) =>
  splitW (u55.2.1 != u57.2.1) (K (.bool false)) <|
  splitW (!((Option.isNone u55.1) == (Option.isNone u57.1))) (K (.bool false)) <|
  callW Tryd.prog 20 [(.pointer y16.1)] (.one (.one .str)) fun (u58 : ByteArray) =>
  callW Tryd.prog 36 [(.pointer y16.2.1)] (.one (.one .str)) fun (u59 : ByteArray) =>
  splitW (!(u58.toList == u59.toList)) (K (.bool false)) <|
  splitW (!(Option.isNone u57.1)) (J23 (u55.1, u57.1, true, ())) <| J23 (y16.1, y16.2.1, true, ())) fun (y24 : Option Addr × Option Addr × Bool × Unit) =>
  drewW <|
  splitW (!y24.2.2.1) (K (.bool false)) <|
  ptrW y24.2.1 fun (p60 : Addr) =>
  ldW (.int .i64) (p60.add 4) fun (u61 : Int) =>
  callW Tryd.prog 22 [(.pointer y24.1)] (.one (.one (.int .i64))) fun (u62 : Int) =>
  heldW [[((p60.add 4), (.int .i64 u61))]] <|
  splitW (u62 != u61) (K (.bool false)) <|
  ptrW y24.2.1 fun (p63 : Addr) =>
  ldW .slc (p63.add 3) fun (u64 : (Option Addr × Nat × Nat)) =>
  callW Tryd.prog 16 [(.pointer y24.1)] (.one (.one .slc)) fun (u65 : (Option Addr × Nat × Nat)) =>
  heldW [[((p63.add 3), (.slice u64.1 u64.2.1 u64.2.2))]] <|
  callW Tryd.prog 37 [(.slice u65.1 u65.2.1 u65.2.2), (.slice u64.1 u64.2.1 u64.2.2)] (.one (.one .bool)) fun (u66 : Bool) =>
  splitW (!u66) (K (.bool false)) <| J17 (y24.1, y24.2.1, ())) fun (y18 : Option Addr × Option Addr × Unit) => I15 (y18.1, y18.2.1, (IntKind.wrap .i64 (y16.2.2.1 + (1 : Int))), ())) <| J13 (y16.1, y16.2.1, ())) <| J13 (y16.1, y16.2.1, ())) fun (y14 : Option Addr × Option Addr × Unit) =>
  drewW <|
  splitW (Option.isNone y14.2.1) (K (.bool true)) <|
  callW Tryd.prog 20 [(.pointer y14.1)] (.one (.one .str)) fun (u67 : ByteArray) =>
  callW Tryd.prog 36 [(.pointer y14.2.1)] (.one (.one .str)) fun (u68 : ByteArray) =>
  splitW (u67.toList == u68.toList) (ptrW y14.2.1 fun (p69 : Addr) =>
  ldAW [(.int .i64), (.int .i64)] p69 fun (u70 : (Int × Int × Unit)) =>
  callW Tryd.prog 38 [(.pointer y14.1)] (.one (.agg [(.int .i64), (.int .i64)])) fun (u71 : (Int × Int × Unit)) =>
  heldW [[(p69.add 0, (.int .i64 u70.1)), (p69.add 1, (.int .i64 u70.2.1))]] <|
  eqW Tryd.prog (eqS .eql 23 (.tmp 223) (.tmp 227) (.agg #[(.int .i64 u71.1), (.int .i64 u71.2.1)]) (.agg #[(.int .i64 u70.1), (.int .i64 u70.2.1)])) fun (b72 : Bool) => K (.bool b72)) <| K (.bool false)
theorem eq8 (x0_0 : Int) (x0_1 : Int) (a1 : Option Addr) (n1 c1 : Nat) (K : Value → WP) : bodyW Tryd.prog Tryd.f8 an8 false [(.agg #[(.int .i64 x0_0), (.int .i64 x0_1)]), (.slice a1 n1 c1)] K = S8 x0_0 x0_1 a1 n1 c1 K := by kernel_rfl
theorem calls8 (x0_0 : Int) (x0_1 : Int) (a1 : Option Addr) (n1 c1 : Nat) {K : Value → WP} {w : World} (h : S8 x0_0 x0_1 a1 n1 c1 K w) : Calls Tryd.prog 8 #[(.agg #[(.int .i64 x0_0), (.int .i64 x0_1)]), (.slice a1 n1 c1)] w (Ret K) := callsR_of_bodyW mixed Tryd.func8 (of_decide_eq_true (by kernel_rfl)) (by rw [eq8]; exact h)

/-- shadowbook/shadowbooklaw03.lives -/
def an9 : Ann := (.seq .nil (.seq .nil (.seq (.seq .nil (.cond (.seq .nil .nil) .nil)) (.seq .nil (.seq .nil (.seq .nil (.seq .nil (.seq .nil .nil))))))))
def S9  (K : Value → WP) : WP := 
  callW Tryd.prog 23 [] (.one (.agg [(.int .i64), (.int .i64)])) fun (u1 : (Int × Int × Unit)) =>
  callW Tryd.prog 10 [(.agg #[(.int .i64 u1.1), (.int .i64 u1.2.1)])] (.many [(.one .ptr), (.one (.int .i64))]) fun (u2 : Option Addr × Int × Unit) =>
  splitW (u2.2.1 != (0 : Int)) (K (.bool false)) <|
  splitW (Option.isNone u2.1) (K (.bool false)) <|
  callW Tryd.prog 18 [(.int .i64 (128 : Int)), (.string (ByteArray.mk #[97]))] (.one (.one .str)) fun (u3 : ByteArray) =>
  callW Tryd.prog 14 [(.pointer u2.1), (.int .i64 (3 : Int)), (.string u3)] (.one (.one (.int .i64))) fun (u4 : Int) =>
  callW Tryd.prog 19 [(.pointer u2.1), (.int .i64 (3 : Int))] (.many [(.one .str), (.one (.int .i64))]) fun (u5 : ByteArray × Int × Unit) =>
  callW Tryd.prog 17 [(.pointer u2.1), (.slice none 0 0)] (.many [(.one .ptr), (.one (.int .i64))]) fun (u6 : Option Addr × Int × Unit) =>
  callW Tryd.prog 19 [(.pointer u6.1), (.int .i64 (3 : Int))] (.many [(.one .str), (.one (.int .i64))]) fun (u7 : ByteArray × Int × Unit) =>
  splitW (u4 == (0 : Int)) (splitW (u5.2.1 == (0 : Int)) (callW Tryd.prog 18 [(.int .i64 (128 : Int)), (.string (ByteArray.mk #[97]))] (.one (.one .str)) fun (u8 : ByteArray) =>
  splitW (u5.1.toList == u8.toList) (splitW (u6.2.1 == (0 : Int)) (splitW (u7.2.1 == (0 : Int)) (callW Tryd.prog 18 [(.int .i64 (128 : Int)), (.string (ByteArray.mk #[0]))] (.one (.one .str)) fun (u9 : ByteArray) => K (.bool (u7.1.toList == u9.toList))) <| K (.bool false)) <| K (.bool false)) <| K (.bool false)) <| K (.bool false)) <| K (.bool false)
theorem eq9  (K : Value → WP) : bodyW Tryd.prog Tryd.f9 an9 false [] K = S9  K := by kernel_rfl
theorem calls9  {K : Value → WP} {w : World} (h : S9  K w) : Calls Tryd.prog 9 #[] w (Ret K) := callsR_of_bodyW mixed Tryd.func9 (of_decide_eq_true (by kernel_rfl)) (by rw [eq9]; exact h)

/-- shadowbook/device.New -/
def an10 : Ann := (.seq .nil (.seq (.seq .nil (.seq .nil (.cond (.seq .nil .nil) .nil))) (.seq .nil .nil)))
def S10 (x0_0 : Int) (x0_1 : Int) (K : Value → WP) : WP := 
  newW (.cells #[(.int .i64 x0_0), (.int .i64 x0_1)] 23) fun (r1 : Nat) =>
  ldAW [(.int .i64), (.int .i64)] (⟨r1, 0, none⟩ : Addr) fun (u2 : (Int × Int × Unit)) =>
  callW Tryd.prog 26 [(.agg #[(.int .i64 u2.1), (.int .i64 u2.2.1)])] (.one (.one (.int .i64))) fun (u3 : Int) =>
  splitW (u3 != (0 : Int)) (K (.tuple #[(.pointer none), (.int .i64 u3)])) <|
  drewW <|
  ldAW [(.int .i64), (.int .i64)] (⟨r1, 0, none⟩ : Addr) fun (u4 : (Int × Int × Unit)) =>
  ldW (.int .i64) (⟨r1, 0, none⟩ : Addr) fun (u5 : Int) =>
  ldW (.int .i64) ((⟨r1, 0, none⟩ : Addr).add 1) fun (u6 : Int) =>
  callW Tryd.prog 40 [(.string (ByteArray.mk #[0])), (.int .i64 u5)] (.one (.one .str)) fun (u7 : ByteArray) =>
  heldW [[(((⟨r1, 0, none⟩ : Addr).add 1), (.int .i64 u6))], [((⟨r1, 0, none⟩ : Addr).add 0, (.int .i64 u4.1)), ((⟨r1, 0, none⟩ : Addr).add 1, (.int .i64 u4.2.1))]] <|
  newW (.cells #[(.string u7)] 9) fun (r8 : Nat) =>
  heldW [[(((⟨r1, 0, none⟩ : Addr).add 1), (.int .i64 u6))], [((⟨r1, 0, none⟩ : Addr).add 0, (.int .i64 u4.1)), ((⟨r1, 0, none⟩ : Addr).add 1, (.int .i64 u4.2.1))]] <|
  callW Tryd.prog 39 [(.slice (some (⟨r8, 0, none⟩ : Addr)) 1 1), (.int .i64 u6)] (.one (.one .slc)) fun (u9 : (Option Addr × Nat × Nat)) =>
  heldW [[((⟨r1, 0, none⟩ : Addr).add 0, (.int .i64 u4.1)), ((⟨r1, 0, none⟩ : Addr).add 1, (.int .i64 u4.2.1))]] <|
  newW (.cells #[(.int .i64 u4.1), (.int .i64 u4.2.1), (.slice u9.1 u9.2.1 u9.2.2), (.slice none 0 0), (.int .i64 (0 : Int)), (.int .i64 (-1 : Int))] 75) fun (r10 : Nat) => K (.tuple #[(.pointer (some (⟨r10, 0, none⟩ : Addr))), (.int .i64 (0 : Int))])
theorem eq10 (x0_0 : Int) (x0_1 : Int) (K : Value → WP) : bodyW Tryd.prog Tryd.f10 an10 false [(.agg #[(.int .i64 x0_0), (.int .i64 x0_1)])] K = S10 x0_0 x0_1 K := by kernel_rfl
theorem calls10 (x0_0 : Int) (x0_1 : Int) {K : Value → WP} {w : World} (h : S10 x0_0 x0_1 K w) : Calls Tryd.prog 10 #[(.agg #[(.int .i64 x0_0), (.int .i64 x0_1)])] w (Ret K) := callsR_of_bodyW mixed Tryd.func10 (of_decide_eq_true (by kernel_rfl)) (by rw [eq10]; exact h)

/-- shadowbook/shadowbookkit.LightGeo -/
def an11 : Ann := (.seq .nil (.seq (.seq .nil (.cond (.seq .nil .nil) .nil)) (.seq .nil .nil)))
def S11 (x0_0 : Int) (x0_1 : Int) (K : Value → WP) : WP := 
  newW (.cells #[(.int .i64 x0_0), (.int .i64 x0_1)] 23) fun (r1 : Nat) =>
  ldW (.int .i64) (⟨r1, 0, none⟩ : Addr) fun (u2 : Int) =>
  splitW (decide (u2 < (128 : Int))) (K (.bool true)) <|
  ldW (.int .i64) (⟨r1, 0, none⟩ : Addr) fun (u3 : Int) =>
  splitW (decide (u3 > (4096 : Int))) (K (.bool true)) <|
  ldW (.int .i64) ((⟨r1, 0, none⟩ : Addr).add 1) fun (u4 : Int) =>
  splitW (decide (u4 < (8 : Int))) (K (.bool true)) <|
  ldW (.int .i64) ((⟨r1, 0, none⟩ : Addr).add 1) fun (u5 : Int) =>
  splitW (decide (u5 > (4096 : Int))) (K (.bool true)) <|
  ldW (.int .i64) (⟨r1, 0, none⟩ : Addr) fun (u6 : Int) =>
  splitW (decide (u6 ≤ (512 : Int))) (ldW (.int .i64) ((⟨r1, 0, none⟩ : Addr).add 1) fun (u7 : Int) => K (.bool (decide (u7 ≤ (40 : Int))))) <| K (.bool false)
theorem eq11 (x0_0 : Int) (x0_1 : Int) (K : Value → WP) : bodyW Tryd.prog Tryd.f11 an11 false [(.agg #[(.int .i64 x0_0), (.int .i64 x0_1)])] K = S11 x0_0 x0_1 K := by kernel_rfl
theorem calls11 (x0_0 : Int) (x0_1 : Int) {K : Value → WP} {w : World} (h : S11 x0_0 x0_1 K w) : Calls Tryd.prog 11 #[(.agg #[(.int .i64 x0_0), (.int .i64 x0_1)])] w (Ret K) := callsR_of_bodyW mixed Tryd.func11 (of_decide_eq_true (by kernel_rfl)) (by rw [eq11]; exact h)

/-- shadowbook/shadowbookkit.Pick -/
def an12 : Ann := (.seq .nil (.seq (.seq .nil (.cond (.seq .nil .nil) .nil)) (.seq .nil (.seq (.seq .nil (.cond .nil .nil)) (.seq .nil .nil)))))
def S12 (x0 : Int) (x1 : Int) (K : Value → WP) : WP := 
  splitW (decide (x1 < (1 : Int))) (K (.int .i64 (0 : Int))) <|
  guardW (x1 ≠ 0) <|
  splitW (decide ((Int.tmod x0 x1) < (0 : Int))) (K (.int .i64 (IntKind.wrap .i64 ((Int.tmod x0 x1) + x1)))) <| K (.int .i64 (Int.tmod x0 x1))
theorem eq12 (x0 : Int) (x1 : Int) (K : Value → WP) : bodyW Tryd.prog Tryd.f12 an12 false [(.int .i64 x0), (.int .i64 x1)] K = S12 x0 x1 K := by kernel_rfl
theorem calls12 (x0 : Int) (x1 : Int) {K : Value → WP} {w : World} (h : S12 x0 x1 K w) : Calls Tryd.prog 12 #[(.int .i64 x0), (.int .i64 x1)] w (Ret K) := callsR_of_bodyW mixed Tryd.func12 (of_decide_eq_true (by kernel_rfl)) (by rw [eq12]; exact h)

/-- (shadowbook/shadowbooklaw03.Act).bytes -/
def an13 : Ann := (.seq .nil (.seq .nil (.seq .nil .nil)))
def S13 (x0_0 : Int) (x0_1 : Int) (x0_2 : Int) (x0_3 : Int) (x0_4 : Int) (a0_5 : Option Addr) (n0_5 c0_5 : Nat) (x1 : Int) (K : Value → WP) : WP := 
  newW (.cells #[(.int .i64 x0_0), (.int .i64 x0_1), (.int .u8 x0_2), (.int .i64 x0_3), (.int .u32 x0_4), (.slice a0_5 n0_5 c0_5)] 36) fun (r1 : Nat) =>
  ldW (.int .i64) ((⟨r1, 0, none⟩ : Addr).add 3) fun (u2 : Int) =>
  callW Tryd.prog 12 [(.int .i64 u2), (.int .i64 (IntKind.wrap .i64 (x1 + (1 : Int))))] (.one (.one (.int .i64))) fun (u3 : Int) =>
  drewW <|
  ldW (.int .u8) ((⟨r1, 0, none⟩ : Addr).add 2) fun (u4 : Int) =>
  bothW (callW Tryd.prog 18 [(.int .i64 u3), (.string (ByteArray.mk #[0]))] (.one (.one .str)) fun (u5 : ByteArray) =>
  heldW [[(((⟨r1, 0, none⟩ : Addr).add 2), (.int .u8 u4))]] <|
  newW (.cells #[(.int .u8 u4)] 5) fun (r6 : Nat) =>
  runW Tryd.prog (Go.convert 62 9 (.slice (some (⟨r6, 0, none⟩ : Addr)) 1 1)) .str fun (u7 : ByteArray) =>
  callW Tryd.prog 18 [(.int .i64 (IntKind.wrap .i64 (x1 - u3))), (.string u7)] (.one (.one .str)) fun (u8 : ByteArray) =>
  guardW (((u5.size + u8.size : Nat) : Int) ≤ IntKind.i64.max) <| K (.string (u5 ++ u8))) <|
  newW (.cells #[(.int .u8 u4)] 5) fun (r9 : Nat) =>
  bothW (callW Tryd.prog 18 [(.int .i64 u3), (.string (ByteArray.mk #[0]))] (.one (.one .str)) fun (u10 : ByteArray) =>
  heldW [[(((⟨r1, 0, none⟩ : Addr).add 2), (.int .u8 u4))]] <|
  runW Tryd.prog (Go.convert 62 9 (.slice (some (⟨r9, 0, none⟩ : Addr)) 1 1)) .str fun (u11 : ByteArray) =>
  callW Tryd.prog 18 [(.int .i64 (IntKind.wrap .i64 (x1 - u3))), (.string u11)] (.one (.one .str)) fun (u12 : ByteArray) =>
  guardW (((u10.size + u12.size : Nat) : Int) ≤ IntKind.i64.max) <| K (.string (u10 ++ u12))) <|
  runW Tryd.prog (Go.convert 62 9 (.slice (some (⟨r9, 0, none⟩ : Addr)) 1 1)) .str fun (u13 : ByteArray) =>
  callW Tryd.prog 18 [(.int .i64 u3), (.string (ByteArray.mk #[0]))] (.one (.one .str)) fun (u14 : ByteArray) =>
  heldW [[(((⟨r1, 0, none⟩ : Addr).add 2), (.int .u8 u4))]] <|
  callW Tryd.prog 18 [(.int .i64 (IntKind.wrap .i64 (x1 - u3))), (.string u13)] (.one (.one .str)) fun (u15 : ByteArray) =>
  guardW (((u14.size + u15.size : Nat) : Int) ≤ IntKind.i64.max) <| K (.string (u14 ++ u15))
theorem eq13 (x0_0 : Int) (x0_1 : Int) (x0_2 : Int) (x0_3 : Int) (x0_4 : Int) (a0_5 : Option Addr) (n0_5 c0_5 : Nat) (x1 : Int) (K : Value → WP) : bodyW Tryd.prog Tryd.f13 an13 false [(.agg #[(.int .i64 x0_0), (.int .i64 x0_1), (.int .u8 x0_2), (.int .i64 x0_3), (.int .u32 x0_4), (.slice a0_5 n0_5 c0_5)]), (.int .i64 x1)] K = S13 x0_0 x0_1 x0_2 x0_3 x0_4 a0_5 n0_5 c0_5 x1 K := by kernel_rfl
theorem calls13 (x0_0 : Int) (x0_1 : Int) (x0_2 : Int) (x0_3 : Int) (x0_4 : Int) (a0_5 : Option Addr) (n0_5 c0_5 : Nat) (x1 : Int) {K : Value → WP} {w : World} (h : S13 x0_0 x0_1 x0_2 x0_3 x0_4 a0_5 n0_5 c0_5 x1 K w) : Calls Tryd.prog 13 #[(.agg #[(.int .i64 x0_0), (.int .i64 x0_1), (.int .u8 x0_2), (.int .i64 x0_3), (.int .u32 x0_4), (.slice a0_5 n0_5 c0_5)]), (.int .i64 x1)] w (Ret K) := callsR_of_bodyW mixed Tryd.func13 (of_decide_eq_true (by kernel_rfl)) (by rw [eq13]; exact h)

/-- (*shadowbook/device.Device).Write -/
def an14 : Ann := (.seq .nil (.seq (.block (.seq .nil (.cond (.seq .nil .nil) (.seq .nil (.cond (.seq .nil .nil) (.seq .nil (.cond (.seq .nil .nil) .nil))))))) (.seq .nil (.seq .nil .nil))))
def S14 (x0 : Option Addr) (x1 : Int) (x2 : ByteArray) (K : Value → WP) : WP := 
  splitW (Option.isNone x0) (K (.int .i64 (1 : Int))) <|
  callW Tryd.prog 41 [(.pointer x0), (.int .i64 x1)] (.one (.one .bool)) fun (u1 : Bool) =>
  splitW (!u1) (K (.int .i64 (2 : Int))) <|
  ptrW x0 fun (p2 : Addr) =>
  ldW (.int .i64) p2 fun (u3 : Int) =>
  splitW (((x2.size : Nat) : Int) != u3) (K (.int .i64 (2 : Int))) <|
  callW Tryd.prog 42 [(.pointer x0)] (.one (.one .bool)) fun (u4 : Bool) =>
  splitW (!u4) (K (.int .i64 (8 : Int))) <|
  ptrW x0 fun (p5 : Addr) =>
  ldW .slc (p5.add 3) fun (u6 : (Option Addr × Nat × Nat)) =>
  newW (.cells #[(.int .i64 x1), (.string x2)] 53) fun (r7 : Nat) =>
  runW Tryd.prog (Builtin.append_ #[40, 40] 40 #[(.slice u6.1 u6.2.1 u6.2.2), (.slice (some (⟨r7, 0, none⟩ : Addr)) 1 1)]) .slc fun (u8 : (Option Addr × Nat × Nat)) =>
  ptrW x0 fun (p9 : Addr) =>
  stW (p9.add 3) (.slice u8.1 u8.2.1 u8.2.2) <| K (.int .i64 (0 : Int))
theorem eq14 (x0 : Option Addr) (x1 : Int) (x2 : ByteArray) (K : Value → WP) : bodyW Tryd.prog Tryd.f14 an14 false [(.pointer x0), (.int .i64 x1), (.string x2)] K = S14 x0 x1 x2 K := by kernel_rfl
theorem calls14 (x0 : Option Addr) (x1 : Int) (x2 : ByteArray) {K : Value → WP} {w : World} (h : S14 x0 x1 x2 K w) : Calls Tryd.prog 14 #[(.pointer x0), (.int .i64 x1), (.string x2)] w (Ret K) := callsR_of_bodyW mixed Tryd.func14 (of_decide_eq_true (by kernel_rfl)) (by rw [eq14]; exact h)

/-- (*shadowbook/device.Device).Flush -/
def an15 : Ann := (.seq .nil (.seq (.block (.seq .nil (.cond (.seq .nil .nil) (.seq .nil (.cond (.seq .nil .nil) .nil))))) (.seq (.seq .nil (.block (.loop [(17, .sh (.one (.int .i64)))] [0, 15, 16, 1000000] (.seq .nil (.seq (.cond .nil .nil) (.seq (.block (.seq .nil .nil)) .nil)))))) (.seq .nil (.seq .nil .nil)))))
def S15 (x0 : Option Addr) (K : Value → WP) : WP := 
  splitW (Option.isNone x0) (K (.int .i64 (1 : Int))) <|
  callW Tryd.prog 42 [(.pointer x0)] (.one (.one .bool)) fun (u1 : Bool) =>
  splitW (!u1) (K (.int .i64 (8 : Int))) <|
  ptrW x0 fun (p2 : Addr) =>
  ldW .slc (p2.add 3) fun (u3 : (Option Addr × Nat × Nat)) =>
  loopW (Int × Unit) ((0 : Int), ()) fun (y5 : Int × Unit) (I4 : (Int × Unit) → WP) =>
  splitW (decide (y5.1 < ((u3.2.1 : Nat) : Int))) (guardW (0 ≤ y5.1 ∧ y5.1 < ((u3.2.1 : Nat) : Int)) <|
  ptrW u3.1 fun (p6 : Addr) =>
  ldAW [(.int .i64), .str] (p6.add (Int.toNat y5.1 * 2)) fun (u7 : (Int × ByteArray × Unit)) =>
  newW (.cells #[(.int .i64 (0 : Int)), (.string ByteArray.empty)] 53) fun (r8 : Nat) =>
  guardW ((#[(.int .i64 u7.1), (.string u7.2.1)] : Array Value).size = 2) <|
  stAW (⟨r8, 0, none⟩ : Addr) [(.int .i64 u7.1), (.string u7.2.1)] <|
  drewW <|
  ptrW x0 fun (p9 : Addr) =>
  ldW .slc (p9.add 2) fun (u10 : (Option Addr × Nat × Nat)) =>
  ldW (.int .i64) (⟨r8, 0, none⟩ : Addr) fun (u11 : Int) =>
  ldW .str ((⟨r8, 0, none⟩ : Addr).add 1) fun (u12 : ByteArray) =>
  guardW (0 ≤ u11 ∧ u11 < ((u10.2.1 : Nat) : Int)) <|
  ptrW u10.1 fun (p13 : Addr) =>
  stW (p13.add (Int.toNat u11 * 1)) (.string u12) <| I4 ((IntKind.wrap .i64 (y5.1 + (1 : Int))), ())) <|
  ptrW x0 fun (p14 : Addr) =>
  stW (p14.add 3) (.slice none 0 0) <| K (.int .i64 (0 : Int))
theorem eq15 (x0 : Option Addr) (K : Value → WP) : bodyW Tryd.prog Tryd.f15 an15 false [(.pointer x0)] K = S15 x0 K := by kernel_rfl
theorem calls15 (x0 : Option Addr) {K : Value → WP} {w : World} (h : S15 x0 K w) : Calls Tryd.prog 15 #[(.pointer x0)] w (Ret K) := callsR_of_bodyW mixed Tryd.func15 (of_decide_eq_true (by kernel_rfl)) (by rw [eq15]; exact h)

/-- (*shadowbook/device.Device).Pending -/
def an16 : Ann := (.seq .nil (.seq (.seq .nil (.cond (.seq .nil .nil) .nil)) (.seq .nil .nil)))
def S16 (x0 : Option Addr) (K : Value → WP) : WP := 
  splitW (Option.isNone x0) (K (.slice none 0 0)) <|
  ptrW x0 fun (p1 : Addr) =>
  ldW .slc (p1.add 3) fun (u2 : (Option Addr × Nat × Nat)) =>
  callW Tryd.prog 43 [(.slice u2.1 u2.2.1 u2.2.2)] (.one (.one .slc)) fun (u3 : (Option Addr × Nat × Nat)) => K (.slice u3.1 u3.2.1 u3.2.2)
theorem eq16 (x0 : Option Addr) (K : Value → WP) : bodyW Tryd.prog Tryd.f16 an16 false [(.pointer x0)] K = S16 x0 K := by kernel_rfl
theorem calls16 (x0 : Option Addr) {K : Value → WP} {w : World} (h : S16 x0 K w) : Calls Tryd.prog 16 #[(.pointer x0)] w (Ret K) := callsR_of_bodyW mixed Tryd.func16 (of_decide_eq_true (by kernel_rfl)) (by rw [eq16]; exact h)

/-- (*shadowbook/device.Device).Crash -/
def an17 : Ann := (.seq .nil (.seq (.seq .nil (.cond (.seq .nil .nil) .nil)) (.seq .nil (.seq (.seq .nil (.block (.loop [(4, .sh (.one .ptr)), (5, .sh (.one (.int .i64))), (23, .sh (.one (.int .i64)))] [0, 1, 6, 21, 22, 1000000] (.seq .nil (.seq (.cond .nil .nil) (.seq (.block (.seq .nil (.seq .nil (.seq .nil (.seq (.seq .nil (.cond (.seq .nil .nil) .nil)) .nil))))) .nil)))))) (.seq .nil (.seq (.seq .nil (.block (.loop [(85, .sh (.one (.int .i64))), (1000000, .ds)] [0, 4, 5, 12, 83, 84] (.seq .nil (.seq (.cond .nil .nil) (.seq (.block (.seq .nil (.seq .nil (.seq .nil (.seq (.seq .nil (.block (.loop [(109, .sh (.one (.int .i64)))] [] (.seq .nil (.block .nil))))) .nil))))) .nil)))))) (.seq .nil .nil)))))))
def S17 (x0 : Option Addr) (a1 : Option Addr) (n1 c1 : Nat) (K : Value → WP) : WP := 
  splitW (Option.isNone x0) (leaveW Tryd.prog [] <| K (.tuple #[(.pointer none), (.int .i64 (1 : Int))])) <|
  runW Tryd.prog (Instr.makeMap 78 none) .any fun (u1 : Value) =>
  loopW (Option Addr × Int × Int × Unit) (none, (0 : Int), (0 : Int), ()) fun (y3 : Option Addr × Int × Int × Unit) (I2 : (Option Addr × Int × Int × Unit) → WP) =>
  splitW (decide (y3.2.2.1 < ((n1 : Nat) : Int))) (guardW (0 ≤ y3.2.2.1 ∧ y3.2.2.1 < ((n1 : Nat) : Int)) <|
  ptrW a1 fun (p4 : Addr) =>
  ldAW [(.int .i64), (.int .u64)] (p4.add (Int.toNat y3.2.2.1 * 2)) fun (u5 : (Int × Int × Unit)) =>
  newW (.cells #[(.int .i64 (0 : Int)), (.int .u64 (0 : Int))] 45) fun (r6 : Nat) =>
  guardW ((#[(.int .i64 u5.1), (.int .u64 u5.2.1)] : Array Value).size = 2) <|
  stAW (⟨r6, 0, none⟩ : Addr) [(.int .i64 u5.1), (.int .u64 u5.2.1)] <|
  ptrW x0 fun (p7 : Addr) =>
  ldW (.int .i64) p7 fun (u8 : Int) =>
  ldW (.int .i64) (⟨r6, 0, none⟩ : Addr) fun (u9 : Int) =>
  runRW Tryd.prog (Instr.lookup 78 u1 (.int .i64 u9) true) (.many [(.agg []), (.one .bool)]) fun (u10 : (Unit) × Bool × Unit) =>
  newW (.cells #[] 79) fun (r11 : Nat) =>
  guardW ((#[] : Array Value).size = 0) <|
  stAW (⟨r11, 0, none⟩ : Addr) [] <|
  drewW <|
  ldW (.int .i64) (⟨r6, 0, none⟩ : Addr) fun (u12 : Int) =>
  splitW (decide (u12 < (0 : Int))) (leaveW Tryd.prog [] <| K (.tuple #[(.pointer none), (.int .i64 (2 : Int))])) <|
  ldW (.int .i64) (⟨r6, 0, none⟩ : Addr) fun (u13 : Int) =>
  ptrW x0 fun (p14 : Addr) =>
  ldW .slc (p14.add 3) fun (u15 : (Option Addr × Nat × Nat)) =>
  splitW (decide (u13 ≥ ((u15.2.1 : Nat) : Int))) (leaveW Tryd.prog [] <| K (.tuple #[(.pointer none), (.int .i64 (2 : Int))])) <|
  splitW u10.2.1 (leaveW Tryd.prog [] <| K (.tuple #[(.pointer none), (.int .i64 (2 : Int))])) <|
  splitW (decide ((IntKind.wrap .i64 (Int.tdiv u8 (64 : Int))) < (64 : Int))) (ldW (.int .u64) ((⟨r6, 0, none⟩ : Addr).add 1) fun (u16 : Int) =>
  guardW (0 ≤ (IntKind.wrap .i64 (Int.tdiv u8 (64 : Int)))) <|
  splitW ((ishr .u64 u16 (IntKind.wrap .i64 (Int.tdiv u8 (64 : Int)))) != (0 : Int)) (leaveW Tryd.prog [] <| K (.tuple #[(.pointer none), (.int .i64 (2 : Int))])) <|
  ldW (.int .i64) (⟨r6, 0, none⟩ : Addr) fun (u17 : Int) =>
  runUW Tryd.prog (Instr.mapUpdate 78 u1 (.int .i64 u17) (.agg #[])) <| I2 (y3.1, y3.2.1, (IntKind.wrap .i64 (y3.2.2.1 + (1 : Int))), ())) <|
  ldW (.int .i64) (⟨r6, 0, none⟩ : Addr) fun (u18 : Int) =>
  runUW Tryd.prog (Instr.mapUpdate 78 u1 (.int .i64 u18) (.agg #[])) <| I2 (y3.1, y3.2.1, (IntKind.wrap .i64 (y3.2.2.1 + (1 : Int))), ())) <|
  drewW <|
  ptrW x0 fun (p19 : Addr) =>
  ldAW [(.int .i64), (.int .i64)] p19 fun (u20 : (Int × Int × Unit)) =>
  ptrW x0 fun (p21 : Addr) =>
  ldW .slc (p21.add 2) fun (u22 : (Option Addr × Nat × Nat)) =>
  callW Tryd.prog 44 [(.slice u22.1 u22.2.1 u22.2.2)] (.one (.one .slc)) fun (u23 : (Option Addr × Nat × Nat)) =>
  heldW [[(p19.add 0, (.int .i64 u20.1)), (p19.add 1, (.int .i64 u20.2.1))]] <|
  newW (.cells #[(.int .i64 u20.1), (.int .i64 u20.2.1), (.slice u23.1 u23.2.1 u23.2.2), (.slice none 0 0), (.int .i64 (0 : Int)), (.int .i64 (-1 : Int))] 75) fun (r24 : Nat) =>
  loopW (Int × List Deferred × Unit) ((0 : Int), [], ()) fun (y26 : Int × List Deferred × Unit) (I25 : (Int × List Deferred × Unit) → WP) =>
  splitW (decide (y26.1 < ((n1 : Nat) : Int))) (guardW (0 ≤ y26.1 ∧ y26.1 < ((n1 : Nat) : Int)) <|
  ptrW a1 fun (p27 : Addr) =>
  ldAW [(.int .i64), (.int .u64)] (p27.add (Int.toNat y26.1 * 2)) fun (u28 : (Int × Int × Unit)) =>
  newW (.cells #[(.int .i64 (0 : Int)), (.int .u64 (0 : Int))] 45) fun (r29 : Nat) =>
  guardW ((#[(.int .i64 u28.1), (.int .u64 u28.2.1)] : Array Value).size = 2) <|
  stAW (⟨r29, 0, none⟩ : Addr) [(.int .i64 u28.1), (.int .u64 u28.2.1)] <|
  drewW <|
  ptrW x0 fun (p30 : Addr) =>
  ldW .slc (p30.add 3) fun (u31 : (Option Addr × Nat × Nat)) =>
  ldW (.int .i64) (⟨r29, 0, none⟩ : Addr) fun (u32 : Int) =>
  guardW (0 ≤ u32 ∧ u32 < ((u31.2.1 : Nat) : Int)) <|
  ptrW u31.1 fun (p33 : Addr) =>
  ldAW [(.int .i64), .str] (p33.add (Int.toNat u32 * 2)) fun (u34 : (Int × ByteArray × Unit)) =>
  newW (.cells #[(.int .i64 (0 : Int)), (.string ByteArray.empty)] 53) fun (r35 : Nat) =>
  heldW [[((p33.add (Int.toNat u32 * 2)).add 0, (.int .i64 u34.1)), ((p33.add (Int.toNat u32 * 2)).add 1, (.string u34.2.1))], [((⟨r29, 0, none⟩ : Addr), (.int .i64 u32))], [((p30.add 3), (.slice u31.1 u31.2.1 u31.2.2))]] <|
  guardW ((#[(.int .i64 u34.1), (.string u34.2.1)] : Array Value).size = 2) <|
  stAW (⟨r35, 0, none⟩ : Addr) [(.int .i64 u34.1), (.string u34.2.1)] <|
  drewW <|
  ptrW (some (⟨r24, 0, none⟩ : Addr)) fun (p36 : Addr) =>
  ldW .slc (p36.add 2) fun (u37 : (Option Addr × Nat × Nat)) =>
  ldW (.int .i64) (⟨r35, 0, none⟩ : Addr) fun (u38 : Int) =>
  guardW (0 ≤ u38 ∧ u38 < ((u37.2.1 : Nat) : Int)) <|
  ptrW u37.1 fun (p39 : Addr) =>
  ldW .str (p39.add (Int.toNat u38 * 1)) fun (u40 : ByteArray) =>
  bothW (runW Tryd.prog (Go.convert 9 62 (.string u40)) .slc fun (u41 : (Option Addr × Nat × Nat)) =>
  newW (.cells #[(.slice none 0 0)] 62) fun (r42 : Nat) =>
  heldW [[((p39.add (Int.toNat u38 * 1)), (.string u40))], [((⟨r35, 0, none⟩ : Addr), (.int .i64 u38))], [((p36.add 2), (.slice u37.1 u37.2.1 u37.2.2))]] <|
  stW (⟨r42, 0, none⟩ : Addr) (.slice u41.1 u41.2.1 u41.2.2) <|
  ldW (.int .u64) ((⟨r29, 0, none⟩ : Addr).add 1) fun (u43 : Int) =>
  callW Tryd.prog 45 [(.int .u64 u43)] (.one (.one .any)) fun (u44 : Value) =>
  rangeW Tryd.prog u44 (Int × Unit) (fun (t45 : Int × Unit) => [(.int .i64 t45.1)]) (fun (t45 : Int × Unit) (B46 : WP → WP) (N47 : WP) (Q48 : Code → WP) => B46 (drewW <|
  ldW .slc (⟨r42, 0, none⟩ : Addr) fun (u51 : (Option Addr × Nat × Nat)) =>
  guardW (0 ≤ (IntKind.wrap .i64 (t45.1 * (64 : Int))) ∧ (IntKind.wrap .i64 (t45.1 * (64 : Int))) ≤ (IntKind.wrap .i64 ((IntKind.wrap .i64 (t45.1 + (1 : Int))) * (64 : Int))) ∧ (IntKind.wrap .i64 ((IntKind.wrap .i64 (t45.1 + (1 : Int))) * (64 : Int))) ≤ ((u51.2.2 : Nat) : Int)) <|
  ldW .str ((⟨r35, 0, none⟩ : Addr).add 1) fun (u52 : ByteArray) =>
  guardW (0 ≤ (IntKind.wrap .i64 (t45.1 * (64 : Int))) ∧ (IntKind.wrap .i64 (t45.1 * (64 : Int))) ≤ ((u52.size : Nat) : Int)) <|
  runW Tryd.prog (Builtin.copy_ #[62, 9] 3 #[(.slice (cutAddr u51.1 (Int.toNat (IntKind.wrap .i64 (t45.1 * (64 : Int)))) u51.2.2 1) ((Int.toNat (IntKind.wrap .i64 ((IntKind.wrap .i64 (t45.1 + (1 : Int))) * (64 : Int)))) - (Int.toNat (IntKind.wrap .i64 (t45.1 * (64 : Int))))) (u51.2.2 - (Int.toNat (IntKind.wrap .i64 (t45.1 * (64 : Int)))))), (.string (ByteArray.extract u52 (Int.toNat (IntKind.wrap .i64 (t45.1 * (64 : Int)))) u52.size))]) (.int .i64) fun (u53 : Int) => N47)) fun (r49 : Nat) (p50 : Option Code) =>
  jumpK (drewW <|
  ptrW (some (⟨r24, 0, none⟩ : Addr)) fun (p54 : Addr) =>
  ldW .slc (p54.add 2) fun (u55 : (Option Addr × Nat × Nat)) =>
  ldW (.int .i64) (⟨r35, 0, none⟩ : Addr) fun (u56 : Int) =>
  ldW .slc (⟨r42, 0, none⟩ : Addr) fun (u57 : (Option Addr × Nat × Nat)) =>
  runW Tryd.prog (Go.convert 62 9 (.slice u57.1 u57.2.1 u57.2.2)) .str fun (u58 : ByteArray) =>
  heldW [[((⟨r35, 0, none⟩ : Addr), (.int .i64 u56))], [((p54.add 2), (.slice u55.1 u55.2.1 u55.2.2))]] <|
  guardW (0 ≤ u56 ∧ u56 < ((u55.2.1 : Nat) : Int)) <|
  ptrW u55.1 fun (p59 : Addr) =>
  stW (p59.add (Int.toNat u56 * 1)) (.string u58) <| I25 ((IntKind.wrap .i64 (y26.1 + (1 : Int))), (⟨.collected r49, #[]⟩ :: y26.2.1), ())) (leaveW Tryd.prog (⟨.collected r49, #[]⟩ :: y26.2.1) <| K (.tuple #[(.pointer y3.1), (.int .i64 y3.2.1)])) [] p50) <|
  newW (.cells #[(.slice none 0 0)] 62) fun (r60 : Nat) =>
  heldW [[((p39.add (Int.toNat u38 * 1)), (.string u40))], [((⟨r35, 0, none⟩ : Addr), (.int .i64 u38))], [((p36.add 2), (.slice u37.1 u37.2.1 u37.2.2))]] <|
  runW Tryd.prog (Go.convert 9 62 (.string u40)) .slc fun (u61 : (Option Addr × Nat × Nat)) =>
  stW (⟨r60, 0, none⟩ : Addr) (.slice u61.1 u61.2.1 u61.2.2) <|
  ldW (.int .u64) ((⟨r29, 0, none⟩ : Addr).add 1) fun (u62 : Int) =>
  callW Tryd.prog 45 [(.int .u64 u62)] (.one (.one .any)) fun (u63 : Value) =>
  rangeW Tryd.prog u63 (Int × Unit) (fun (t64 : Int × Unit) => [(.int .i64 t64.1)]) (fun (t64 : Int × Unit) (B65 : WP → WP) (N66 : WP) (Q67 : Code → WP) => B65 (drewW <|
  ldW .slc (⟨r60, 0, none⟩ : Addr) fun (u70 : (Option Addr × Nat × Nat)) =>
  guardW (0 ≤ (IntKind.wrap .i64 (t64.1 * (64 : Int))) ∧ (IntKind.wrap .i64 (t64.1 * (64 : Int))) ≤ (IntKind.wrap .i64 ((IntKind.wrap .i64 (t64.1 + (1 : Int))) * (64 : Int))) ∧ (IntKind.wrap .i64 ((IntKind.wrap .i64 (t64.1 + (1 : Int))) * (64 : Int))) ≤ ((u70.2.2 : Nat) : Int)) <|
  ldW .str ((⟨r35, 0, none⟩ : Addr).add 1) fun (u71 : ByteArray) =>
  guardW (0 ≤ (IntKind.wrap .i64 (t64.1 * (64 : Int))) ∧ (IntKind.wrap .i64 (t64.1 * (64 : Int))) ≤ ((u71.size : Nat) : Int)) <|
  runW Tryd.prog (Builtin.copy_ #[62, 9] 3 #[(.slice (cutAddr u70.1 (Int.toNat (IntKind.wrap .i64 (t64.1 * (64 : Int)))) u70.2.2 1) ((Int.toNat (IntKind.wrap .i64 ((IntKind.wrap .i64 (t64.1 + (1 : Int))) * (64 : Int)))) - (Int.toNat (IntKind.wrap .i64 (t64.1 * (64 : Int))))) (u70.2.2 - (Int.toNat (IntKind.wrap .i64 (t64.1 * (64 : Int)))))), (.string (ByteArray.extract u71 (Int.toNat (IntKind.wrap .i64 (t64.1 * (64 : Int)))) u71.size))]) (.int .i64) fun (u72 : Int) => N66)) fun (r68 : Nat) (p69 : Option Code) =>
  jumpK (drewW <|
  ptrW (some (⟨r24, 0, none⟩ : Addr)) fun (p73 : Addr) =>
  ldW .slc (p73.add 2) fun (u74 : (Option Addr × Nat × Nat)) =>
  ldW (.int .i64) (⟨r35, 0, none⟩ : Addr) fun (u75 : Int) =>
  ldW .slc (⟨r60, 0, none⟩ : Addr) fun (u76 : (Option Addr × Nat × Nat)) =>
  runW Tryd.prog (Go.convert 62 9 (.slice u76.1 u76.2.1 u76.2.2)) .str fun (u77 : ByteArray) =>
  heldW [[((⟨r35, 0, none⟩ : Addr), (.int .i64 u75))], [((p73.add 2), (.slice u74.1 u74.2.1 u74.2.2))]] <|
  guardW (0 ≤ u75 ∧ u75 < ((u74.2.1 : Nat) : Int)) <|
  ptrW u74.1 fun (p78 : Addr) =>
  stW (p78.add (Int.toNat u75 * 1)) (.string u77) <| I25 ((IntKind.wrap .i64 (y26.1 + (1 : Int))), (⟨.collected r68, #[]⟩ :: y26.2.1), ())) (leaveW Tryd.prog (⟨.collected r68, #[]⟩ :: y26.2.1) <| K (.tuple #[(.pointer y3.1), (.int .i64 y3.2.1)])) [] p69) <|
  leaveW Tryd.prog y26.2.1 <| K (.tuple #[(.pointer (some (⟨r24, 0, none⟩ : Addr))), (.int .i64 (0 : Int))])
theorem eq17 (x0 : Option Addr) (a1 : Option Addr) (n1 c1 : Nat) (K : Value → WP) : bodyW Tryd.prog Tryd.f17 an17 true [(.pointer x0), (.slice a1 n1 c1)] K = S17 x0 a1 n1 c1 K := by kernel_rfl
theorem calls17 (x0 : Option Addr) (a1 : Option Addr) (n1 c1 : Nat) {K : Value → WP} {w : World} (h : S17 x0 a1 n1 c1 K w) : Calls Tryd.prog 17 #[(.pointer x0), (.slice a1 n1 c1)] w (Ret K) := callsR_of_bodyW mixed Tryd.func17 (of_decide_eq_true (by kernel_rfl)) (by rw [eq17]; exact h)

/-- shadowbook/shadowbooklaw03.full -/
def an18 : Ann := (.seq .nil (.seq .nil .nil))
def S18 (x0 : Int) (x1 : ByteArray) (K : Value → WP) : WP := 
  callW Tryd.prog 46 [(.string x1), (.int .i64 x0)] (.one (.one .str)) fun (u1 : ByteArray) => K (.string u1)
theorem eq18 (x0 : Int) (x1 : ByteArray) (K : Value → WP) : bodyW Tryd.prog Tryd.f18 an18 false [(.int .i64 x0), (.string x1)] K = S18 x0 x1 K := by kernel_rfl
theorem calls18 (x0 : Int) (x1 : ByteArray) {K : Value → WP} {w : World} (h : S18 x0 x1 K w) : Calls Tryd.prog 18 #[(.int .i64 x0), (.string x1)] w (Ret K) := callsR_of_bodyW mixed Tryd.func18 (of_decide_eq_true (by kernel_rfl)) (by rw [eq18]; exact h)

/-- (*shadowbook/device.Device).Read -/
def an19 : Ann := (.seq .nil (.seq (.block (.seq .nil (.cond (.seq .nil .nil) (.seq .nil (.cond (.seq .nil .nil) .nil))))) (.seq (.seq .nil (.block (.loop [(18, .sh (.one (.int .i64))), (19, .sh (.agg [(.int .i64), .str]))] [] (.seq .nil (.block (.seq .nil (.cond (.seq .nil .nil) .nil))))))) (.seq .nil .nil))))
def S19 (x0 : Option Addr) (x1 : Int) (K : Value → WP) : WP := 
  newW (.cells #[(.int .i64 x1)] 3) fun (r1 : Nat) =>
  newW (.cells #[(.string ByteArray.empty)] 9) fun (r2 : Nat) =>
  newW (.cells #[(.int .i64 (0 : Int))] 27) fun (r3 : Nat) =>
  splitW (Option.isNone x0) (stW (⟨r2, 0, none⟩ : Addr) (.string (ByteArray.mk #[])) <|
  stW (⟨r3, 0, none⟩ : Addr) (.int .i64 (1 : Int)) <|
  leaveW Tryd.prog [] <|
  ldW .str (⟨r2, 0, none⟩ : Addr) fun (u4 : ByteArray) =>
  ldW (.int .i64) (⟨r3, 0, none⟩ : Addr) fun (u5 : Int) => K (.tuple #[(.string u4), (.int .i64 u5)])) <|
  ldW (.int .i64) (⟨r1, 0, none⟩ : Addr) fun (u6 : Int) =>
  callW Tryd.prog 41 [(.pointer x0), (.int .i64 u6)] (.one (.one .bool)) fun (u7 : Bool) =>
  splitW (!u7) (stW (⟨r2, 0, none⟩ : Addr) (.string (ByteArray.mk #[])) <|
  stW (⟨r3, 0, none⟩ : Addr) (.int .i64 (2 : Int)) <|
  leaveW Tryd.prog [] <|
  ldW .str (⟨r2, 0, none⟩ : Addr) fun (u8 : ByteArray) =>
  ldW (.int .i64) (⟨r3, 0, none⟩ : Addr) fun (u9 : Int) => K (.tuple #[(.string u8), (.int .i64 u9)])) <|
  callW Tryd.prog 47 [(.pointer x0)] (.one (.one .any)) fun (u10 : Value) =>
  rangeW Tryd.prog u10 (Int × (Int × ByteArray × Unit) × Unit) (fun (t11 : Int × (Int × ByteArray × Unit) × Unit) => [(.int .i64 t11.1), (.agg #[(.int .i64 t11.2.1.1), (.string t11.2.1.2.1)])]) (fun (t11 : Int × (Int × ByteArray × Unit) × Unit) (B12 : WP → WP) (N13 : WP) (Q14 : Code → WP) =>
  newW (.cells #[(.int .i64 (0 : Int)), (.string ByteArray.empty)] 53) fun (r17 : Nat) =>
  guardW ((#[(.int .i64 t11.2.1.1), (.string t11.2.1.2.1)] : Array Value).size = 2) <|
  stAW (⟨r17, 0, none⟩ : Addr) [(.int .i64 t11.2.1.1), (.string t11.2.1.2.1)] <| B12 (ldW (.int .i64) (⟨r17, 0, none⟩ : Addr) fun (u18 : Int) =>
  ldW (.int .i64) (⟨r1, 0, none⟩ : Addr) fun (u19 : Int) =>
  splitW (u18 == u19) (ldW .str ((⟨r17, 0, none⟩ : Addr).add 1) fun (u20 : ByteArray) =>
  stW (⟨r2, 0, none⟩ : Addr) (.string u20) <|
  stW (⟨r3, 0, none⟩ : Addr) (.int .i64 (0 : Int)) <| Q14 .ret) <| N13)) fun (r15 : Nat) (p16 : Option Code) =>
  jumpK (drewW <|
  ptrW x0 fun (p21 : Addr) =>
  ldW .slc (p21.add 2) fun (u22 : (Option Addr × Nat × Nat)) =>
  ldW (.int .i64) (⟨r1, 0, none⟩ : Addr) fun (u23 : Int) =>
  guardW (0 ≤ u23 ∧ u23 < ((u22.2.1 : Nat) : Int)) <|
  ptrW u22.1 fun (p24 : Addr) =>
  ldW .str (p24.add (Int.toNat u23 * 1)) fun (u25 : ByteArray) =>
  stW (⟨r2, 0, none⟩ : Addr) (.string u25) <|
  stW (⟨r3, 0, none⟩ : Addr) (.int .i64 (0 : Int)) <|
  leaveW Tryd.prog (⟨.collected r15, #[]⟩ :: []) <|
  ldW .str (⟨r2, 0, none⟩ : Addr) fun (u26 : ByteArray) =>
  ldW (.int .i64) (⟨r3, 0, none⟩ : Addr) fun (u27 : Int) => K (.tuple #[(.string u26), (.int .i64 u27)])) (leaveW Tryd.prog (⟨.collected r15, #[]⟩ :: []) <|
  ldW .str (⟨r2, 0, none⟩ : Addr) fun (u28 : ByteArray) =>
  ldW (.int .i64) (⟨r3, 0, none⟩ : Addr) fun (u29 : Int) => K (.tuple #[(.string u28), (.int .i64 u29)])) [] p16
theorem eq19 (x0 : Option Addr) (x1 : Int) (K : Value → WP) : bodyW Tryd.prog Tryd.f19 an19 true [(.pointer x0), (.int .i64 x1)] K = S19 x0 x1 K := by kernel_rfl
theorem calls19 (x0 : Option Addr) (x1 : Int) {K : Value → WP} {w : World} (h : S19 x0 x1 K w) : Calls Tryd.prog 19 #[(.pointer x0), (.int .i64 x1)] w (Ret K) := callsR_of_bodyW mixed Tryd.func19 (of_decide_eq_true (by kernel_rfl)) (by rw [eq19]; exact h)

/-- (*shadowbook/device.Device).Image -/
def an20 : Ann := (.seq .nil (.seq (.seq .nil (.cond (.seq .nil .nil) .nil)) (.seq .nil .nil)))
def S20 (x0 : Option Addr) (K : Value → WP) : WP := 
  splitW (Option.isNone x0) (K (.string (ByteArray.mk #[]))) <|
  ptrW x0 fun (p1 : Addr) =>
  ldW .slc (p1.add 2) fun (u2 : (Option Addr × Nat × Nat)) =>
  callW Tryd.prog 48 [(.slice u2.1 u2.2.1 u2.2.2), (.string (ByteArray.mk #[]))] (.one (.one .str)) fun (u3 : ByteArray) => K (.string u3)
theorem eq20 (x0 : Option Addr) (K : Value → WP) : bodyW Tryd.prog Tryd.f20 an20 false [(.pointer x0)] K = S20 x0 K := by kernel_rfl
theorem calls20 (x0 : Option Addr) {K : Value → WP} {w : World} (h : S20 x0 K w) : Calls Tryd.prog 20 #[(.pointer x0)] w (Ret K) := callsR_of_bodyW mixed Tryd.func20 (of_decide_eq_true (by kernel_rfl)) (by rw [eq20]; exact h)

/-- (*shadowbook/device.Device).Fuse -/
def an21 : Ann := (.seq .nil (.cond .nil .nil))
def S21 (x0 : Option Addr) (x1 : Int) (K : Value → WP) : WP := 
  splitW (!(Option.isNone x0)) (ptrW x0 fun (p1 : Addr) =>
  stW (p1.add 5) (.int .i64 (if x1 > (-1 : Int) then x1 else (-1 : Int))) <| K (.tuple #[])) <| K (.tuple #[])
theorem eq21 (x0 : Option Addr) (x1 : Int) (K : Value → WP) : bodyW Tryd.prog Tryd.f21 an21 false [(.pointer x0), (.int .i64 x1)] K = S21 x0 x1 K := by kernel_rfl
theorem calls21 (x0 : Option Addr) (x1 : Int) {K : Value → WP} {w : World} (h : S21 x0 x1 K w) : Calls Tryd.prog 21 #[(.pointer x0), (.int .i64 x1)] w (Ret K) := callsR_of_bodyW mixed Tryd.func21 (of_decide_eq_true (by kernel_rfl)) (by rw [eq21]; exact h)

/-- (*shadowbook/device.Device).Ops -/
def an22 : Ann := (.seq .nil (.seq (.seq .nil (.cond (.seq .nil .nil) .nil)) (.seq .nil .nil)))
def S22 (x0 : Option Addr) (K : Value → WP) : WP := 
  splitW (Option.isNone x0) (K (.int .i64 (0 : Int))) <|
  ptrW x0 fun (p1 : Addr) =>
  ldW (.int .i64) (p1.add 4) fun (u2 : Int) => K (.int .i64 u2)
theorem eq22 (x0 : Option Addr) (K : Value → WP) : bodyW Tryd.prog Tryd.f22 an22 false [(.pointer x0)] K = S22 x0 K := by kernel_rfl
theorem calls22 (x0 : Option Addr) {K : Value → WP} {w : World} (h : S22 x0 K w) : Calls Tryd.prog 22 #[(.pointer x0)] w (Ret K) := callsR_of_bodyW mixed Tryd.func22 (of_decide_eq_true (by kernel_rfl)) (by rw [eq22]; exact h)

/-- shadowbook/shadowbooklaw03.small -/
def an23 : Ann := (.seq .nil (.seq .nil .nil))
def S23  (K : Value → WP) : WP := 
  newW (.cells #[(.int .i64 (0 : Int)), (.int .i64 (0 : Int))] 23) fun (r1 : Nat) =>
  guardW ((#[(.int .i64 (128 : Int)), (.int .i64 (8 : Int))] : Array Value).size = 2) <|
  stAW (⟨r1, 0, none⟩ : Addr) [(.int .i64 (128 : Int)), (.int .i64 (8 : Int))] <|
  ldAW [(.int .i64), (.int .i64)] (⟨r1, 0, none⟩ : Addr) fun (u2 : (Int × Int × Unit)) => K (.agg #[(.int .i64 u2.1), (.int .i64 u2.2.1)])
theorem eq23  (K : Value → WP) : bodyW Tryd.prog Tryd.f23 an23 false [] K = S23  K := by kernel_rfl
theorem calls23  {K : Value → WP} {w : World} (h : S23  K w) : Calls Tryd.prog 23 #[] w (Ret K) := callsR_of_bodyW mixed Tryd.func23 (of_decide_eq_true (by kernel_rfl)) (by rw [eq23]; exact h)

/-- shadowbook/device.Load -/
def an24 : Ann := (.seq .nil (.seq (.seq .nil (.cond (.seq .nil .nil) .nil)) (.seq .nil (.seq (.seq .nil (.block (.loop [(7, .sh (.one (.int .i64)))] [1, 2, 6, 1000000] (.seq (.seq .nil (.cond .nil .nil)) (.seq (.block .nil) .nil))))) (.seq .nil .nil)))))
def S24 (x0_0 : Int) (x0_1 : Int) (x1 : ByteArray) (K : Value → WP) : WP := 
  newW (.cells #[(.int .i64 x0_0), (.int .i64 x0_1)] 23) fun (r1 : Nat) =>
  ldAW [(.int .i64), (.int .i64)] (⟨r1, 0, none⟩ : Addr) fun (u2 : (Int × Int × Unit)) =>
  callW Tryd.prog 26 [(.agg #[(.int .i64 u2.1), (.int .i64 u2.2.1)])] (.one (.one (.int .i64))) fun (u3 : Int) =>
  splitW (u3 != (0 : Int)) (K (.tuple #[(.pointer none), (.int .i64 (2 : Int))])) <|
  ldW (.int .i64) (⟨r1, 0, none⟩ : Addr) fun (u4 : Int) =>
  ldW (.int .i64) ((⟨r1, 0, none⟩ : Addr).add 1) fun (u5 : Int) =>
  splitW (((x1.size : Nat) : Int) != (IntKind.wrap .i64 (u4 * u5))) (K (.tuple #[(.pointer none), (.int .i64 (2 : Int))])) <|
  ldAW [(.int .i64), (.int .i64)] (⟨r1, 0, none⟩ : Addr) fun (u6 : (Int × Int × Unit)) =>
  newW (.cells #[(.int .i64 u6.1), (.int .i64 u6.2.1), (.slice none 0 0), (.slice none 0 0), (.int .i64 (0 : Int)), (.int .i64 (-1 : Int))] 75) fun (r7 : Nat) =>
  loopW (Int × Unit) ((0 : Int), ()) fun (y9 : Int × Unit) (I8 : (Int × Unit) → WP) =>
  splitW (decide (y9.1 < ((x1.size : Nat) : Int))) (drewW <|
  ptrW (some (⟨r7, 0, none⟩ : Addr)) fun (p10 : Addr) =>
  ldW .slc (p10.add 2) fun (u11 : (Option Addr × Nat × Nat)) =>
  ldW (.int .i64) (⟨r1, 0, none⟩ : Addr) fun (u12 : Int) =>
  guardW (0 ≤ y9.1 ∧ y9.1 ≤ (IntKind.wrap .i64 (y9.1 + u12)) ∧ (IntKind.wrap .i64 (y9.1 + u12)) ≤ ((x1.size : Nat) : Int)) <|
  newW (.cells #[(.string (ByteArray.extract x1 (Int.toNat y9.1) (Int.toNat (IntKind.wrap .i64 (y9.1 + u12)))))] 9) fun (r13 : Nat) =>
  heldW [[((p10.add 2), (.slice u11.1 u11.2.1 u11.2.2))]] <|
  runW Tryd.prog (Builtin.append_ #[31, 31] 31 #[(.slice u11.1 u11.2.1 u11.2.2), (.slice (some (⟨r13, 0, none⟩ : Addr)) 1 1)]) .slc fun (u14 : (Option Addr × Nat × Nat)) =>
  ptrW (some (⟨r7, 0, none⟩ : Addr)) fun (p15 : Addr) =>
  stW (p15.add 2) (.slice u14.1 u14.2.1 u14.2.2) <|
  ldW (.int .i64) (⟨r1, 0, none⟩ : Addr) fun (u16 : Int) => I8 ((IntKind.wrap .i64 (y9.1 + u16)), ())) <| K (.tuple #[(.pointer (some (⟨r7, 0, none⟩ : Addr))), (.int .i64 (0 : Int))])
theorem eq24 (x0_0 : Int) (x0_1 : Int) (x1 : ByteArray) (K : Value → WP) : bodyW Tryd.prog Tryd.f24 an24 false [(.agg #[(.int .i64 x0_0), (.int .i64 x0_1)]), (.string x1)] K = S24 x0_0 x0_1 x1 K := by kernel_rfl
theorem calls24 (x0_0 : Int) (x0_1 : Int) (x1 : ByteArray) {K : Value → WP} {w : World} (h : S24 x0_0 x0_1 x1 K w) : Calls Tryd.prog 24 #[(.agg #[(.int .i64 x0_0), (.int .i64 x0_1)]), (.string x1)] w (Ret K) := callsR_of_bodyW mixed Tryd.func24 (of_decide_eq_true (by kernel_rfl)) (by rw [eq24]; exact h)

/-- (*shadowbook/device.Device).Rot -/
def an25 : Ann := (.seq .nil (.seq (.block (.seq .nil (.cond (.seq .nil .nil) (.seq .nil (.cond (.seq .nil .nil) .nil))))) (.seq .nil (.seq .nil .nil))))
def S25 (x0 : Option Addr) (x1 : Int) (x2 : Int) (x3 : Int) (K : Value → WP) : WP := 
  splitW (Option.isNone x0) (K (.int .i64 (1 : Int))) <|
  drewW <|
  callW Tryd.prog 41 [(.pointer x0), (.int .i64 x1)] (.one (.one .bool)) fun (u1 : Bool) =>
  splitW (!u1) (K (.int .i64 (2 : Int))) <|
  splitW (decide (x2 < (0 : Int))) (K (.int .i64 (2 : Int))) <|
  ptrW x0 fun (p2 : Addr) =>
  ldW (.int .i64) p2 fun (u3 : Int) =>
  splitW (decide (x2 ≥ (IntKind.wrap .i64 ((8 : Int) * u3)))) (K (.int .i64 (2 : Int))) <|
  splitW (x3 == (0 : Int)) (K (.int .i64 (2 : Int))) <|
  ptrW x0 fun (p4 : Addr) =>
  ldW (.int .i64) p4 fun (u5 : Int) =>
  callW Tryd.prog 49 [(.int .u32 x3)] (.one (.one (.int .i64))) fun (u6 : Int) =>
  heldW [[(p4, (.int .i64 u5))]] <|
  splitW (decide (u6 > (IntKind.wrap .i64 ((IntKind.wrap .i64 ((8 : Int) * u5)) - x2)))) (K (.int .i64 (2 : Int))) <|
  drewW <|
  ptrW x0 fun (p7 : Addr) =>
  ldW .slc (p7.add 2) fun (u8 : (Option Addr × Nat × Nat)) =>
  ptrW x0 fun (p9 : Addr) =>
  ldW .slc (p9.add 2) fun (u10 : (Option Addr × Nat × Nat)) =>
  guardW (0 ≤ x1 ∧ x1 < ((u10.2.1 : Nat) : Int)) <|
  ptrW u10.1 fun (p11 : Addr) =>
  ldW .str (p11.add (Int.toNat x1 * 1)) fun (u12 : ByteArray) =>
  bothW (runW Tryd.prog (Go.convert 9 62 (.string u12)) .slc fun (u13 : (Option Addr × Nat × Nat)) =>
  heldW [[((p7.add 2), (.slice u8.1 u8.2.1 u8.2.2))]] <|
  callW Tryd.prog 49 [(.int .u32 x3)] (.one (.one (.int .i64))) fun (u14 : Int) =>
  heldW [[((p11.add (Int.toNat x1 * 1)), (.string u12))], [((p9.add 2), (.slice u10.1 u10.2.1 u10.2.2))], [((p7.add 2), (.slice u8.1 u8.2.1 u8.2.2))]] <|
  callW Tryd.prog 50 [(.slice u13.1 u13.2.1 u13.2.2), (.int .i64 x2), (.int .i64 u14), (.int .u32 x3)] (.one (.one .slc)) fun (u15 : (Option Addr × Nat × Nat)) =>
  heldW [[((p7.add 2), (.slice u8.1 u8.2.1 u8.2.2))]] <|
  runW Tryd.prog (Go.convert 62 9 (.slice u15.1 u15.2.1 u15.2.2)) .str fun (u16 : ByteArray) =>
  heldW [[((p7.add 2), (.slice u8.1 u8.2.1 u8.2.2))]] <|
  guardW (0 ≤ x1 ∧ x1 < ((u8.2.1 : Nat) : Int)) <|
  ptrW u8.1 fun (p17 : Addr) =>
  stW (p17.add (Int.toNat x1 * 1)) (.string u16) <| K (.int .i64 (0 : Int))) <|
  callW Tryd.prog 49 [(.int .u32 x3)] (.one (.one (.int .i64))) fun (u18 : Int) =>
  heldW [[((p11.add (Int.toNat x1 * 1)), (.string u12))], [((p9.add 2), (.slice u10.1 u10.2.1 u10.2.2))], [((p7.add 2), (.slice u8.1 u8.2.1 u8.2.2))]] <|
  runW Tryd.prog (Go.convert 9 62 (.string u12)) .slc fun (u19 : (Option Addr × Nat × Nat)) =>
  heldW [[((p7.add 2), (.slice u8.1 u8.2.1 u8.2.2))]] <|
  callW Tryd.prog 50 [(.slice u19.1 u19.2.1 u19.2.2), (.int .i64 x2), (.int .i64 u18), (.int .u32 x3)] (.one (.one .slc)) fun (u20 : (Option Addr × Nat × Nat)) =>
  heldW [[((p7.add 2), (.slice u8.1 u8.2.1 u8.2.2))]] <|
  runW Tryd.prog (Go.convert 62 9 (.slice u20.1 u20.2.1 u20.2.2)) .str fun (u21 : ByteArray) =>
  heldW [[((p7.add 2), (.slice u8.1 u8.2.1 u8.2.2))]] <|
  guardW (0 ≤ x1 ∧ x1 < ((u8.2.1 : Nat) : Int)) <|
  ptrW u8.1 fun (p22 : Addr) =>
  stW (p22.add (Int.toNat x1 * 1)) (.string u21) <| K (.int .i64 (0 : Int))
theorem eq25 (x0 : Option Addr) (x1 : Int) (x2 : Int) (x3 : Int) (K : Value → WP) : bodyW Tryd.prog Tryd.f25 an25 false [(.pointer x0), (.int .i64 x1), (.int .i64 x2), (.int .u32 x3)] K = S25 x0 x1 x2 x3 K := by kernel_rfl
theorem calls25 (x0 : Option Addr) (x1 : Int) (x2 : Int) (x3 : Int) {K : Value → WP} {w : World} (h : S25 x0 x1 x2 x3 K w) : Calls Tryd.prog 25 #[(.pointer x0), (.int .i64 x1), (.int .i64 x2), (.int .u32 x3)] w (Ret K) := callsR_of_bodyW mixed Tryd.func25 (of_decide_eq_true (by kernel_rfl)) (by rw [eq25]; exact h)

/-- shadowbook/device.Check -/
def an26 : Ann := (.seq .nil (.seq (.seq .nil (.cond (.seq .nil .nil) .nil)) (.seq .nil .nil)))
def S26 (x0_0 : Int) (x0_1 : Int) (K : Value → WP) : WP := 
  newW (.cells #[(.int .i64 x0_0), (.int .i64 x0_1)] 23) fun (r1 : Nat) =>
  ldW (.int .i64) (⟨r1, 0, none⟩ : Addr) fun (u2 : Int) =>
  splitW (decide (u2 < (128 : Int))) (K (.int .i64 (2 : Int))) <|
  ldW (.int .i64) (⟨r1, 0, none⟩ : Addr) fun (u3 : Int) =>
  splitW (decide (u3 > (4096 : Int))) (K (.int .i64 (2 : Int))) <|
  ldW (.int .i64) (⟨r1, 0, none⟩ : Addr) fun (u4 : Int) =>
  splitW ((Int.tmod u4 (64 : Int)) != (0 : Int)) (K (.int .i64 (2 : Int))) <|
  ldW (.int .i64) ((⟨r1, 0, none⟩ : Addr).add 1) fun (u5 : Int) =>
  splitW (decide (u5 < (8 : Int))) (K (.int .i64 (2 : Int))) <|
  ldW (.int .i64) ((⟨r1, 0, none⟩ : Addr).add 1) fun (u6 : Int) =>
  splitW (decide (u6 > (4096 : Int))) (K (.int .i64 (2 : Int))) <| K (.int .i64 (0 : Int))
theorem eq26 (x0_0 : Int) (x0_1 : Int) (K : Value → WP) : bodyW Tryd.prog Tryd.f26 an26 false [(.agg #[(.int .i64 x0_0), (.int .i64 x0_1)])] K = S26 x0_0 x0_1 K := by kernel_rfl
theorem calls26 (x0_0 : Int) (x0_1 : Int) {K : Value → WP} {w : World} (h : S26 x0_0 x0_1 K w) : Calls Tryd.prog 26 #[(.agg #[(.int .i64 x0_0), (.int .i64 x0_1)])] w (Ret K) := callsR_of_bodyW mixed Tryd.func26 (of_decide_eq_true (by kernel_rfl)) (by rw [eq26]; exact h)

/-- shadowbook/shadowbookref02.Flip -/
def an27 : Ann := (.seq .nil (.seq .nil (.seq (.seq .nil (.cond (.seq .nil .nil) .nil)) (.seq (.seq .nil (.block (.loop [(10, .sh (.one (.int .i64)))] [0, 1, 2, 3, 9, 1000000] (.seq (.seq .nil (.cond .nil .nil)) (.seq (.block (.seq (.seq .nil (.cond .nil .nil)) (.seq .nil (.cond .nil .nil)))) .nil))))) (.seq .nil .nil)))))
def S27 (a0 : Option Addr) (n0 c0 : Nat) (x1 : Int) (x2 : Int) (x3 : Int) (K : Value → WP) : WP := 
  newW (.cells #[] 5) fun (r1 : Nat) =>
  runW Tryd.prog (Builtin.append_ #[62, 62] 62 #[(.slice (some (⟨r1, 0, none⟩ : Addr)) 0 0), (.slice a0 n0 c0)]) .slc fun (u2 : (Option Addr × Nat × Nat)) =>
  splitW (decide (x1 < (0 : Int))) (K (.slice u2.1 u2.2.1 u2.2.2)) <|
  splitW (decide (x2 < (0 : Int))) (K (.slice u2.1 u2.2.1 u2.2.2)) <|
  splitW (decide (x2 > (32 : Int))) (K (.slice u2.1 u2.2.1 u2.2.2)) <|
  loopW (Int × Unit) ((0 : Int), ()) fun (y4 : Int × Unit) (I3 : (Int × Unit) → WP) =>
  splitW (decide (y4.1 < x2)) (splitW (decide (x1 ≥ (IntKind.wrap .i64 ((8 : Int) * ((n0 : Nat) : Int))))) (K (.slice u2.1 u2.2.1 u2.2.2)) <|
  splitW (decide (y4.1 ≥ (IntKind.wrap .i64 ((IntKind.wrap .i64 ((8 : Int) * ((n0 : Nat) : Int))) - x1)))) (K (.slice u2.1 u2.2.1 u2.2.2)) <|
  guardW (0 ≤ (IntKind.wrap .u64 y4.1)) <|
  splitW ((Int.tmod (ishr .u32 x3 (IntKind.wrap .u64 y4.1)) (2 : Int)) == (1 : Int)) (guardW (0 ≤ (IntKind.wrap .i64 (Int.tdiv (IntKind.wrap .i64 (x1 + y4.1)) (8 : Int))) ∧ (IntKind.wrap .i64 (Int.tdiv (IntKind.wrap .i64 (x1 + y4.1)) (8 : Int))) < ((u2.2.1 : Nat) : Int)) <|
  ptrW u2.1 fun (p5 : Addr) =>
  ldW (.int .u8) (p5.add (Int.toNat (IntKind.wrap .i64 (Int.tdiv (IntKind.wrap .i64 (x1 + y4.1)) (8 : Int))) * 1)) fun (u6 : Int) =>
  guardW (0 ≤ (IntKind.wrap .u64 (Int.tmod (IntKind.wrap .i64 (x1 + y4.1)) (8 : Int)))) <|
  guardW (0 ≤ (IntKind.wrap .i64 (Int.tdiv (IntKind.wrap .i64 (x1 + y4.1)) (8 : Int))) ∧ (IntKind.wrap .i64 (Int.tdiv (IntKind.wrap .i64 (x1 + y4.1)) (8 : Int))) < ((u2.2.1 : Nat) : Int)) <|
  ptrW u2.1 fun (p7 : Addr) =>
  stW (p7.add (Int.toNat (IntKind.wrap .i64 (Int.tdiv (IntKind.wrap .i64 (x1 + y4.1)) (8 : Int))) * 1)) (.int .u8 (ixor .u8 u6 (ishl .u8 (1 : Int) (IntKind.wrap .u64 (Int.tmod (IntKind.wrap .i64 (x1 + y4.1)) (8 : Int)))))) <| I3 ((IntKind.wrap .i64 (y4.1 + (1 : Int))), ())) <| I3 ((IntKind.wrap .i64 (y4.1 + (1 : Int))), ())) <| K (.slice u2.1 u2.2.1 u2.2.2)
theorem eq27 (a0 : Option Addr) (n0 c0 : Nat) (x1 : Int) (x2 : Int) (x3 : Int) (K : Value → WP) : bodyW Tryd.prog Tryd.f27 an27 false [(.slice a0 n0 c0), (.int .i64 x1), (.int .i64 x2), (.int .u32 x3)] K = S27 a0 n0 c0 x1 x2 x3 K := by kernel_rfl
theorem calls27 (a0 : Option Addr) (n0 c0 : Nat) (x1 : Int) (x2 : Int) (x3 : Int) {K : Value → WP} {w : World} (h : S27 a0 n0 c0 x1 x2 x3 K w) : Calls Tryd.prog 27 #[(.slice a0 n0 c0), (.int .i64 x1), (.int .i64 x2), (.int .u32 x3)] w (Ret K) := callsR_of_bodyW mixed Tryd.func27 (of_decide_eq_true (by kernel_rfl)) (by rw [eq27]; exact h)

/-- shadowbook/shadowbookref03.New -/
def an28 : Ann := (.seq .nil (.seq (.seq .nil (.cond (.seq .nil .nil) .nil)) (.seq .nil (.seq .nil (.seq (.seq .nil (.block (.loop [(6, .sh (.one (.int .i64)))] [1, 4, 5, 1000000] (.seq (.seq .nil (.cond .nil .nil)) (.seq (.block .nil) .nil))))) (.seq .nil .nil))))))
def S28 (x0_0 : Int) (x0_1 : Int) (K : Value → WP) : WP := 
  newW (.cells #[(.int .i64 x0_0), (.int .i64 x0_1)] 23) fun (r1 : Nat) =>
  ldAW [(.int .i64), (.int .i64)] (⟨r1, 0, none⟩ : Addr) fun (u2 : (Int × Int × Unit)) =>
  callW Tryd.prog 29 [(.agg #[(.int .i64 u2.1), (.int .i64 u2.2.1)])] (.one (.one (.int .i64))) fun (u3 : Int) =>
  splitW (u3 != (0 : Int)) (K (.tuple #[(.pointer none), (.int .i64 (2 : Int))])) <|
  ldAW [(.int .i64), (.int .i64)] (⟨r1, 0, none⟩ : Addr) fun (u4 : (Int × Int × Unit)) =>
  newW (.cells #[(.int .i64 u4.1), (.int .i64 u4.2.1), (.slice none 0 0), (.slice none 0 0), (.int .i64 (0 : Int)), (.int .i64 (-1 : Int))] 70) fun (r5 : Nat) =>
  ldW (.int .i64) (⟨r1, 0, none⟩ : Addr) fun (u6 : Int) =>
  runW Tryd.prog (Instr.makeSlice 62 (.int .i64 u6) (.int .i64 u6)) .slc fun (u7 : Option Addr × Nat × Nat) =>
  runW Tryd.prog (Go.convert 62 9 (.slice u7.1 u7.2.1 u7.2.2)) .str fun (u8 : ByteArray) =>
  loopW (Int × Unit) ((0 : Int), ()) fun (y10 : Int × Unit) (I9 : (Int × Unit) → WP) =>
  ldW (.int .i64) ((⟨r1, 0, none⟩ : Addr).add 1) fun (u11 : Int) =>
  splitW (decide (y10.1 < u11)) (ptrW (some (⟨r5, 0, none⟩ : Addr)) fun (p12 : Addr) =>
  ldW .slc (p12.add 2) fun (u13 : (Option Addr × Nat × Nat)) =>
  newW (.cells #[(.string u8)] 9) fun (r14 : Nat) =>
  runW Tryd.prog (Builtin.append_ #[31, 31] 31 #[(.slice u13.1 u13.2.1 u13.2.2), (.slice (some (⟨r14, 0, none⟩ : Addr)) 1 1)]) .slc fun (u15 : (Option Addr × Nat × Nat)) =>
  ptrW (some (⟨r5, 0, none⟩ : Addr)) fun (p16 : Addr) =>
  stW (p16.add 2) (.slice u15.1 u15.2.1 u15.2.2) <| I9 ((IntKind.wrap .i64 (y10.1 + (1 : Int))), ())) <| K (.tuple #[(.pointer (some (⟨r5, 0, none⟩ : Addr))), (.int .i64 (0 : Int))])
theorem eq28 (x0_0 : Int) (x0_1 : Int) (K : Value → WP) : bodyW Tryd.prog Tryd.f28 an28 false [(.agg #[(.int .i64 x0_0), (.int .i64 x0_1)])] K = S28 x0_0 x0_1 K := by kernel_rfl
theorem calls28 (x0_0 : Int) (x0_1 : Int) {K : Value → WP} {w : World} (h : S28 x0_0 x0_1 K w) : Calls Tryd.prog 28 #[(.agg #[(.int .i64 x0_0), (.int .i64 x0_1)])] w (Ret K) := callsR_of_bodyW mixed Tryd.func28 (of_decide_eq_true (by kernel_rfl)) (by rw [eq28]; exact h)

/-- shadowbook/shadowbookref03.Check -/
def an29 : Ann := (.seq .nil (.seq (.seq .nil (.cond (.seq .nil .nil) .nil)) (.seq .nil .nil)))
def S29 (x0_0 : Int) (x0_1 : Int) (K : Value → WP) : WP := 
  newW (.cells #[(.int .i64 x0_0), (.int .i64 x0_1)] 23) fun (r1 : Nat) =>
  ldW (.int .i64) (⟨r1, 0, none⟩ : Addr) fun (u2 : Int) =>
  splitW (decide (u2 < (128 : Int))) (K (.int .i64 (2 : Int))) <|
  ldW (.int .i64) (⟨r1, 0, none⟩ : Addr) fun (u3 : Int) =>
  splitW (decide (u3 > (4096 : Int))) (K (.int .i64 (2 : Int))) <|
  ldW (.int .i64) (⟨r1, 0, none⟩ : Addr) fun (u4 : Int) =>
  splitW ((Int.tmod u4 (64 : Int)) != (0 : Int)) (K (.int .i64 (2 : Int))) <|
  ldW (.int .i64) ((⟨r1, 0, none⟩ : Addr).add 1) fun (u5 : Int) =>
  splitW (decide (u5 < (8 : Int))) (K (.int .i64 (2 : Int))) <|
  ldW (.int .i64) ((⟨r1, 0, none⟩ : Addr).add 1) fun (u6 : Int) =>
  splitW (decide (u6 > (4096 : Int))) (K (.int .i64 (2 : Int))) <| K (.int .i64 (0 : Int))
theorem eq29 (x0_0 : Int) (x0_1 : Int) (K : Value → WP) : bodyW Tryd.prog Tryd.f29 an29 false [(.agg #[(.int .i64 x0_0), (.int .i64 x0_1)])] K = S29 x0_0 x0_1 K := by kernel_rfl
theorem calls29 (x0_0 : Int) (x0_1 : Int) {K : Value → WP} {w : World} (h : S29 x0_0 x0_1 K w) : Calls Tryd.prog 29 #[(.agg #[(.int .i64 x0_0), (.int .i64 x0_1)])] w (Ret K) := callsR_of_bodyW mixed Tryd.func29 (of_decide_eq_true (by kernel_rfl)) (by rw [eq29]; exact h)

/-- (*shadowbook/shadowbookref03.Device).Write -/
def an30 : Ann := (.seq .nil (.seq (.seq .nil (.cond (.seq .nil .nil) .nil)) (.seq (.seq .nil (.cond (.seq .nil .nil) .nil)) (.seq .nil (.seq .nil .nil)))))
def S30 (x0 : Option Addr) (x1 : Int) (x2 : ByteArray) (K : Value → WP) : WP := 
  splitW (decide (x1 < (0 : Int))) (K (.int .i64 (2 : Int))) <|
  ptrW x0 fun (p1 : Addr) =>
  ldW (.int .i64) (p1.add 1) fun (u2 : Int) =>
  splitW (decide (x1 ≥ u2)) (K (.int .i64 (2 : Int))) <|
  ptrW x0 fun (p3 : Addr) =>
  ldW (.int .i64) p3 fun (u4 : Int) =>
  splitW (((x2.size : Nat) : Int) != u4) (K (.int .i64 (2 : Int))) <|
  callW Tryd.prog 51 [(.pointer x0)] (.one (.one .bool)) fun (u5 : Bool) =>
  splitW (!u5) (K (.int .i64 (8 : Int))) <|
  ptrW x0 fun (p6 : Addr) =>
  ldW .slc (p6.add 3) fun (u7 : (Option Addr × Nat × Nat)) =>
  newW (.cells #[(.int .i64 x1), (.string x2)] 53) fun (r8 : Nat) =>
  runW Tryd.prog (Builtin.append_ #[40, 40] 40 #[(.slice u7.1 u7.2.1 u7.2.2), (.slice (some (⟨r8, 0, none⟩ : Addr)) 1 1)]) .slc fun (u9 : (Option Addr × Nat × Nat)) =>
  ptrW x0 fun (p10 : Addr) =>
  stW (p10.add 3) (.slice u9.1 u9.2.1 u9.2.2) <| K (.int .i64 (0 : Int))
theorem eq30 (x0 : Option Addr) (x1 : Int) (x2 : ByteArray) (K : Value → WP) : bodyW Tryd.prog Tryd.f30 an30 false [(.pointer x0), (.int .i64 x1), (.string x2)] K = S30 x0 x1 x2 K := by kernel_rfl
theorem calls30 (x0 : Option Addr) (x1 : Int) (x2 : ByteArray) {K : Value → WP} {w : World} (h : S30 x0 x1 x2 K w) : Calls Tryd.prog 30 #[(.pointer x0), (.int .i64 x1), (.string x2)] w (Ret K) := callsR_of_bodyW mixed Tryd.func30 (of_decide_eq_true (by kernel_rfl)) (by rw [eq30]; exact h)

/-- (*shadowbook/shadowbookref03.Device).Read -/
def an31 : Ann := (.seq .nil (.seq (.seq .nil (.cond (.seq .nil .nil) .nil)) (.seq (.seq .nil (.block (.loop [(6, .sh (.one (.int .i64)))] [0, 1, 1000000] (.seq (.seq .nil (.cond .nil .nil)) (.seq (.block (.seq .nil (.cond (.seq .nil .nil) .nil))) .nil))))) (.seq .nil .nil))))
def S31 (x0 : Option Addr) (x1 : Int) (K : Value → WP) : WP := 
  splitW (decide (x1 < (0 : Int))) (K (.tuple #[(.string (ByteArray.mk #[])), (.int .i64 (2 : Int))])) <|
  ptrW x0 fun (p1 : Addr) =>
  ldW (.int .i64) (p1.add 1) fun (u2 : Int) =>
  splitW (decide (x1 ≥ u2)) (K (.tuple #[(.string (ByteArray.mk #[])), (.int .i64 (2 : Int))])) <|
  ptrW x0 fun (p3 : Addr) =>
  ldW .slc (p3.add 3) fun (u4 : (Option Addr × Nat × Nat)) =>
  loopW (Int × Unit) ((IntKind.wrap .i64 (((u4.2.1 : Nat) : Int) - (1 : Int))), ()) fun (y6 : Int × Unit) (I5 : (Int × Unit) → WP) =>
  splitW (decide (y6.1 ≥ (0 : Int))) (ptrW x0 fun (p7 : Addr) =>
  ldW .slc (p7.add 3) fun (u8 : (Option Addr × Nat × Nat)) =>
  guardW (0 ≤ y6.1 ∧ y6.1 < ((u8.2.1 : Nat) : Int)) <|
  ptrW u8.1 fun (p9 : Addr) =>
  ldW (.int .i64) (p9.add (Int.toNat y6.1 * 2)) fun (u10 : Int) =>
  splitW (u10 == x1) (ptrW x0 fun (p11 : Addr) =>
  ldW .slc (p11.add 3) fun (u12 : (Option Addr × Nat × Nat)) =>
  guardW (0 ≤ y6.1 ∧ y6.1 < ((u12.2.1 : Nat) : Int)) <|
  ptrW u12.1 fun (p13 : Addr) =>
  ldW .str ((p13.add (Int.toNat y6.1 * 2)).add 1) fun (u14 : ByteArray) => K (.tuple #[(.string u14), (.int .i64 (0 : Int))])) <| I5 ((IntKind.wrap .i64 (y6.1 - (1 : Int))), ())) <|
  ptrW x0 fun (p15 : Addr) =>
  ldW .slc (p15.add 2) fun (u16 : (Option Addr × Nat × Nat)) =>
  guardW (0 ≤ x1 ∧ x1 < ((u16.2.1 : Nat) : Int)) <|
  ptrW u16.1 fun (p17 : Addr) =>
  ldW .str (p17.add (Int.toNat x1 * 1)) fun (u18 : ByteArray) => K (.tuple #[(.string u18), (.int .i64 (0 : Int))])
theorem eq31 (x0 : Option Addr) (x1 : Int) (K : Value → WP) : bodyW Tryd.prog Tryd.f31 an31 false [(.pointer x0), (.int .i64 x1)] K = S31 x0 x1 K := by kernel_rfl
theorem calls31 (x0 : Option Addr) (x1 : Int) {K : Value → WP} {w : World} (h : S31 x0 x1 K w) : Calls Tryd.prog 31 #[(.pointer x0), (.int .i64 x1)] w (Ret K) := callsR_of_bodyW mixed Tryd.func31 (of_decide_eq_true (by kernel_rfl)) (by rw [eq31]; exact h)

/-- (*shadowbook/shadowbookref03.Device).Flush -/
def an32 : Ann := (.seq .nil (.seq (.seq .nil (.cond (.seq .nil .nil) .nil)) (.seq (.seq .nil (.block (.loop [(3, .sh (.one (.int .i64)))] [0, 1000000] (.seq (.seq .nil (.cond .nil .nil)) (.seq (.block .nil) .nil))))) (.seq .nil (.seq .nil .nil)))))
def S32 (x0 : Option Addr) (K : Value → WP) : WP := 
  callW Tryd.prog 51 [(.pointer x0)] (.one (.one .bool)) fun (u1 : Bool) =>
  splitW (!u1) (K (.int .i64 (8 : Int))) <|
  loopW (Int × Unit) ((0 : Int), ()) fun (y3 : Int × Unit) (I2 : (Int × Unit) → WP) =>
  ptrW x0 fun (p4 : Addr) =>
  ldW .slc (p4.add 3) fun (u5 : (Option Addr × Nat × Nat)) =>
  splitW (decide (y3.1 < ((u5.2.1 : Nat) : Int))) (drewW <|
  ptrW x0 fun (p6 : Addr) =>
  ldW .slc (p6.add 2) fun (u7 : (Option Addr × Nat × Nat)) =>
  ptrW x0 fun (p8 : Addr) =>
  ldW .slc (p8.add 3) fun (u9 : (Option Addr × Nat × Nat)) =>
  guardW (0 ≤ y3.1 ∧ y3.1 < ((u9.2.1 : Nat) : Int)) <|
  ptrW u9.1 fun (p10 : Addr) =>
  ldW (.int .i64) (p10.add (Int.toNat y3.1 * 2)) fun (u11 : Int) =>
  ptrW x0 fun (p12 : Addr) =>
  ldW .slc (p12.add 3) fun (u13 : (Option Addr × Nat × Nat)) =>
  guardW (0 ≤ y3.1 ∧ y3.1 < ((u13.2.1 : Nat) : Int)) <|
  ptrW u13.1 fun (p14 : Addr) =>
  ldW .str ((p14.add (Int.toNat y3.1 * 2)).add 1) fun (u15 : ByteArray) =>
  guardW (0 ≤ u11 ∧ u11 < ((u7.2.1 : Nat) : Int)) <|
  ptrW u7.1 fun (p16 : Addr) =>
  stW (p16.add (Int.toNat u11 * 1)) (.string u15) <| I2 ((IntKind.wrap .i64 (y3.1 + (1 : Int))), ())) <|
  ptrW x0 fun (p17 : Addr) =>
  stW (p17.add 3) (.slice none 0 0) <| K (.int .i64 (0 : Int))
theorem eq32 (x0 : Option Addr) (K : Value → WP) : bodyW Tryd.prog Tryd.f32 an32 false [(.pointer x0)] K = S32 x0 K := by kernel_rfl
theorem calls32 (x0 : Option Addr) {K : Value → WP} {w : World} (h : S32 x0 K w) : Calls Tryd.prog 32 #[(.pointer x0)] w (Ret K) := callsR_of_bodyW mixed Tryd.func32 (of_decide_eq_true (by kernel_rfl)) (by rw [eq32]; exact h)

/-- (*shadowbook/shadowbookref03.Device).Rot -/
def an33 : Ann := (.seq .nil (.seq (.seq .nil (.cond (.seq .nil .nil) .nil)) (.seq (.seq .nil (.block (.loop [(9, .sh (.one (.int .i64)))] [0, 1, 2, 3, 1000000] (.seq (.seq .nil (.cond .nil .nil)) (.seq (.block (.seq .nil (.cond (.seq .nil .nil) .nil))) .nil))))) (.seq .nil (.seq .nil .nil)))))
def S33 (x0 : Option Addr) (x1 : Int) (x2 : Int) (x3 : Int) (K : Value → WP) : WP := 
  splitW (decide (x1 < (0 : Int))) (K (.int .i64 (2 : Int))) <|
  ptrW x0 fun (p1 : Addr) =>
  ldW (.int .i64) (p1.add 1) fun (u2 : Int) =>
  splitW (decide (x1 ≥ u2)) (K (.int .i64 (2 : Int))) <|
  splitW (decide (x2 < (0 : Int))) (K (.int .i64 (2 : Int))) <|
  ptrW x0 fun (p3 : Addr) =>
  ldW (.int .i64) p3 fun (u4 : Int) =>
  splitW (decide (x2 ≥ (IntKind.wrap .i64 ((8 : Int) * u4)))) (K (.int .i64 (2 : Int))) <|
  splitW (x3 == (0 : Int)) (K (.int .i64 (2 : Int))) <|
  loopW (Int × Unit) ((0 : Int), ()) fun (y6 : Int × Unit) (I5 : (Int × Unit) → WP) =>
  splitW (decide (y6.1 < (32 : Int))) (guardW (0 ≤ (IntKind.wrap .u64 y6.1)) <|
  splitW ((Int.tmod (ishr .u32 x3 (IntKind.wrap .u64 y6.1)) (2 : Int)) == (1 : Int)) (ptrW x0 fun (p7 : Addr) =>
  ldW (.int .i64) p7 fun (u8 : Int) =>
  splitW (decide ((IntKind.wrap .i64 (x2 + y6.1)) ≥ (IntKind.wrap .i64 ((8 : Int) * u8)))) (K (.int .i64 (2 : Int))) <| I5 ((IntKind.wrap .i64 (y6.1 + (1 : Int))), ())) <| I5 ((IntKind.wrap .i64 (y6.1 + (1 : Int))), ())) <|
  drewW <|
  ptrW x0 fun (p9 : Addr) =>
  ldW .slc (p9.add 2) fun (u10 : (Option Addr × Nat × Nat)) =>
  ptrW x0 fun (p11 : Addr) =>
  ldW .slc (p11.add 2) fun (u12 : (Option Addr × Nat × Nat)) =>
  guardW (0 ≤ x1 ∧ x1 < ((u12.2.1 : Nat) : Int)) <|
  ptrW u12.1 fun (p13 : Addr) =>
  ldW .str (p13.add (Int.toNat x1 * 1)) fun (u14 : ByteArray) =>
  runW Tryd.prog (Go.convert 9 62 (.string u14)) .slc fun (u15 : (Option Addr × Nat × Nat)) =>
  heldW [[((p9.add 2), (.slice u10.1 u10.2.1 u10.2.2))]] <|
  callW Tryd.prog 27 [(.slice u15.1 u15.2.1 u15.2.2), (.int .i64 x2), (.int .i64 (32 : Int)), (.int .u32 x3)] (.one (.one .slc)) fun (u16 : (Option Addr × Nat × Nat)) =>
  heldW [[((p9.add 2), (.slice u10.1 u10.2.1 u10.2.2))]] <|
  runW Tryd.prog (Go.convert 62 9 (.slice u16.1 u16.2.1 u16.2.2)) .str fun (u17 : ByteArray) =>
  heldW [[((p9.add 2), (.slice u10.1 u10.2.1 u10.2.2))]] <|
  guardW (0 ≤ x1 ∧ x1 < ((u10.2.1 : Nat) : Int)) <|
  ptrW u10.1 fun (p18 : Addr) =>
  stW (p18.add (Int.toNat x1 * 1)) (.string u17) <| K (.int .i64 (0 : Int))
theorem eq33 (x0 : Option Addr) (x1 : Int) (x2 : Int) (x3 : Int) (K : Value → WP) : bodyW Tryd.prog Tryd.f33 an33 false [(.pointer x0), (.int .i64 x1), (.int .i64 x2), (.int .u32 x3)] K = S33 x0 x1 x2 x3 K := by kernel_rfl
theorem calls33 (x0 : Option Addr) (x1 : Int) (x2 : Int) (x3 : Int) {K : Value → WP} {w : World} (h : S33 x0 x1 x2 x3 K w) : Calls Tryd.prog 33 #[(.pointer x0), (.int .i64 x1), (.int .i64 x2), (.int .u32 x3)] w (Ret K) := callsR_of_bodyW mixed Tryd.func33 (of_decide_eq_true (by kernel_rfl)) (by rw [eq33]; exact h)

/-- (*shadowbook/shadowbookref03.Device).Fuse -/
def an34 : Ann := .nil
def S34 (x0 : Option Addr) (x1 : Int) (K : Value → WP) : WP := 
  ptrW x0 fun (p1 : Addr) =>
  stW (p1.add 5) (.int .i64 (if (-1 : Int) > x1 then (-1 : Int) else x1)) <| K (.tuple #[])
theorem eq34 (x0 : Option Addr) (x1 : Int) (K : Value → WP) : bodyW Tryd.prog Tryd.f34 an34 false [(.pointer x0), (.int .i64 x1)] K = S34 x0 x1 K := by kernel_rfl
theorem calls34 (x0 : Option Addr) (x1 : Int) {K : Value → WP} {w : World} (h : S34 x0 x1 K w) : Calls Tryd.prog 34 #[(.pointer x0), (.int .i64 x1)] w (Ret K) := callsR_of_bodyW mixed Tryd.func34 (of_decide_eq_true (by kernel_rfl)) (by rw [eq34]; exact h)

/-- (*shadowbook/shadowbookref03.Device).Crash -/
def an35 : Ann := (.seq .nil (.seq .nil (.seq (.seq .nil (.block (.loop [(7, .sh (.one (.int .i64)))] [0, 1, 6, 1000000] (.seq (.seq .nil (.cond .nil .nil)) (.seq (.block (.join [] [0, 1, 6, 7, 1000000] (.seq .nil (.cond (.seq .nil .nil) .nil)) (.seq .nil (.block (.loop [(8, .sh (.one (.int .i64)))] [0, 1, 6, 7, 1000000] (.seq (.seq .nil (.cond .nil .nil)) (.seq (.block (.seq .nil (.cond (.seq .nil .nil) .nil))) .nil))))))) .nil))))) (.seq .nil (.seq (.seq .nil (.block (.loop [(10, .sh (.one (.int .i64)))] [0, 1, 6, 9, 1000000] (.seq (.seq .nil (.cond .nil .nil)) (.seq (.block (.seq .nil (.seq .nil (.seq (.seq .nil (.block (.loop [(13, .sh (.one (.int .i64)))] [0, 1, 6, 9, 10, 11, 12, 1000000] (.seq (.seq .nil (.cond .nil .nil)) (.seq (.block (.seq .nil (.cond .nil .nil))) .nil))))) .nil)))) .nil))))) (.seq .nil .nil))))))
def S35 (x0 : Option Addr) (a1 : Option Addr) (n1 c1 : Nat) (K : Value → WP) : WP := 
  ptrW x0 fun (p1 : Addr) =>
  ldW (.int .i64) p1 fun (u2 : Int) =>
  loopW (Int × Unit) ((0 : Int), ()) fun (y4 : Int × Unit) (I3 : (Int × Unit) → WP) =>
  splitW (decide (y4.1 < ((n1 : Nat) : Int))) (joinW (Unit) (fun (J5 : (Unit) → WP) =>
  drewW <|
  guardW (0 ≤ y4.1 ∧ y4.1 < ((n1 : Nat) : Int)) <|
  ptrW a1 fun (p7 : Addr) =>
  ldW (.int .i64) (p7.add (Int.toNat y4.1 * 2)) fun (u8 : Int) =>
  splitW (decide (u8 < (0 : Int))) (K (.tuple #[(.pointer none), (.int .i64 (2 : Int))])) <|
  guardW (0 ≤ y4.1 ∧ y4.1 < ((n1 : Nat) : Int)) <|
  ptrW a1 fun (p9 : Addr) =>
  ldW (.int .i64) (p9.add (Int.toNat y4.1 * 2)) fun (u10 : Int) =>
  ptrW x0 fun (p11 : Addr) =>
  ldW .slc (p11.add 3) fun (u12 : (Option Addr × Nat × Nat)) =>
  splitW (decide (u10 ≥ ((u12.2.1 : Nat) : Int))) (K (.tuple #[(.pointer none), (.int .i64 (2 : Int))])) <|
  splitW (decide ((IntKind.wrap .i64 (Int.tdiv u2 (64 : Int))) < (64 : Int))) (guardW (0 ≤ y4.1 ∧ y4.1 < ((n1 : Nat) : Int)) <|
  ptrW a1 fun (p13 : Addr) =>
  ldW (.int .u64) ((p13.add (Int.toNat y4.1 * 2)).add 1) fun (u14 : Int) =>
  guardW (0 ≤ (IntKind.wrap .u64 (IntKind.wrap .i64 (Int.tdiv u2 (64 : Int))))) <|
  splitW ((ishr .u64 u14 (IntKind.wrap .u64 (IntKind.wrap .i64 (Int.tdiv u2 (64 : Int))))) != (0 : Int)) (K (.tuple #[(.pointer none), (.int .i64 (2 : Int))])) <| J5 ()) <| J5 ()) fun (y6 : Unit) =>
  loopW (Int × Unit) ((0 : Int), ()) fun (y16 : Int × Unit) (I15 : (Int × Unit) → WP) =>
  splitW (decide (y16.1 < y4.1)) (drewW <|
  guardW (0 ≤ y16.1 ∧ y16.1 < ((n1 : Nat) : Int)) <|
  ptrW a1 fun (p17 : Addr) =>
  ldW (.int .i64) (p17.add (Int.toNat y16.1 * 2)) fun (u18 : Int) =>
  guardW (0 ≤ y4.1 ∧ y4.1 < ((n1 : Nat) : Int)) <|
  ptrW a1 fun (p19 : Addr) =>
  ldW (.int .i64) (p19.add (Int.toNat y4.1 * 2)) fun (u20 : Int) =>
  splitW (u18 == u20) (K (.tuple #[(.pointer none), (.int .i64 (2 : Int))])) <| I15 ((IntKind.wrap .i64 (y16.1 + (1 : Int))), ())) <| I3 ((IntKind.wrap .i64 (y4.1 + (1 : Int))), ())) <|
  drewW <|
  ptrW x0 fun (p21 : Addr) =>
  ldAW [(.int .i64), (.int .i64)] p21 fun (u22 : (Int × Int × Unit)) =>
  ptrW x0 fun (p23 : Addr) =>
  ldW .slc (p23.add 2) fun (u24 : (Option Addr × Nat × Nat)) =>
  newW (.cells #[] 9) fun (r25 : Nat) =>
  heldW [[((p23.add 2), (.slice u24.1 u24.2.1 u24.2.2))], [(p21.add 0, (.int .i64 u22.1)), (p21.add 1, (.int .i64 u22.2.1))]] <|
  runW Tryd.prog (Builtin.append_ #[31, 31] 31 #[(.slice (some (⟨r25, 0, none⟩ : Addr)) 0 0), (.slice u24.1 u24.2.1 u24.2.2)]) .slc fun (u26 : (Option Addr × Nat × Nat)) =>
  heldW [[(p21.add 0, (.int .i64 u22.1)), (p21.add 1, (.int .i64 u22.2.1))]] <|
  newW (.cells #[(.int .i64 u22.1), (.int .i64 u22.2.1), (.slice u26.1 u26.2.1 u26.2.2), (.slice none 0 0), (.int .i64 (0 : Int)), (.int .i64 (-1 : Int))] 70) fun (r27 : Nat) =>
  loopW (Int × Unit) ((0 : Int), ()) fun (y29 : Int × Unit) (I28 : (Int × Unit) → WP) =>
  splitW (decide (y29.1 < ((n1 : Nat) : Int))) (drewW <|
  ptrW x0 fun (p30 : Addr) =>
  ldW .slc (p30.add 3) fun (u31 : (Option Addr × Nat × Nat)) =>
  guardW (0 ≤ y29.1 ∧ y29.1 < ((n1 : Nat) : Int)) <|
  ptrW a1 fun (p32 : Addr) =>
  ldW (.int .i64) (p32.add (Int.toNat y29.1 * 2)) fun (u33 : Int) =>
  guardW (0 ≤ u33 ∧ u33 < ((u31.2.1 : Nat) : Int)) <|
  ptrW u31.1 fun (p34 : Addr) =>
  ldAW [(.int .i64), .str] (p34.add (Int.toNat u33 * 2)) fun (u35 : (Int × ByteArray × Unit)) =>
  newW (.cells #[(.int .i64 (0 : Int)), (.string ByteArray.empty)] 53) fun (r36 : Nat) =>
  heldW [[((p34.add (Int.toNat u33 * 2)).add 0, (.int .i64 u35.1)), ((p34.add (Int.toNat u33 * 2)).add 1, (.string u35.2.1))], [((p32.add (Int.toNat y29.1 * 2)), (.int .i64 u33))], [((p30.add 3), (.slice u31.1 u31.2.1 u31.2.2))]] <|
  guardW ((#[(.int .i64 u35.1), (.string u35.2.1)] : Array Value).size = 2) <|
  stAW (⟨r36, 0, none⟩ : Addr) [(.int .i64 u35.1), (.string u35.2.1)] <|
  drewW <|
  ptrW (some (⟨r27, 0, none⟩ : Addr)) fun (p37 : Addr) =>
  ldW .slc (p37.add 2) fun (u38 : (Option Addr × Nat × Nat)) =>
  ldW (.int .i64) (⟨r36, 0, none⟩ : Addr) fun (u39 : Int) =>
  guardW (0 ≤ u39 ∧ u39 < ((u38.2.1 : Nat) : Int)) <|
  ptrW u38.1 fun (p40 : Addr) =>
  ldW .str (p40.add (Int.toNat u39 * 1)) fun (u41 : ByteArray) =>
  runW Tryd.prog (Go.convert 9 62 (.string u41)) .slc fun (u42 : (Option Addr × Nat × Nat)) =>
  loopW (Int × Unit) ((0 : Int), ()) fun (y44 : Int × Unit) (I43 : (Int × Unit) → WP) =>
  splitW (decide (y44.1 < (IntKind.wrap .i64 (Int.tdiv u2 (64 : Int))))) (guardW (0 ≤ y29.1 ∧ y29.1 < ((n1 : Nat) : Int)) <|
  ptrW a1 fun (p45 : Addr) =>
  ldW (.int .u64) ((p45.add (Int.toNat y29.1 * 2)).add 1) fun (u46 : Int) =>
  guardW (0 ≤ (IntKind.wrap .u64 y44.1)) <|
  splitW ((Int.tmod (ishr .u64 u46 (IntKind.wrap .u64 y44.1)) (2 : Int)) == (1 : Int)) (drewW <|
  guardW (0 ≤ (IntKind.wrap .i64 (y44.1 * (64 : Int))) ∧ (IntKind.wrap .i64 (y44.1 * (64 : Int))) ≤ (IntKind.wrap .i64 ((IntKind.wrap .i64 (y44.1 + (1 : Int))) * (64 : Int))) ∧ (IntKind.wrap .i64 ((IntKind.wrap .i64 (y44.1 + (1 : Int))) * (64 : Int))) ≤ ((u42.2.2 : Nat) : Int)) <|
  ldW .str ((⟨r36, 0, none⟩ : Addr).add 1) fun (u47 : ByteArray) =>
  guardW (0 ≤ (IntKind.wrap .i64 (y44.1 * (64 : Int))) ∧ (IntKind.wrap .i64 (y44.1 * (64 : Int))) ≤ ((u47.size : Nat) : Int)) <|
  runW Tryd.prog (Builtin.copy_ #[62, 9] 3 #[(.slice (cutAddr u42.1 (Int.toNat (IntKind.wrap .i64 (y44.1 * (64 : Int)))) u42.2.2 1) ((Int.toNat (IntKind.wrap .i64 ((IntKind.wrap .i64 (y44.1 + (1 : Int))) * (64 : Int)))) - (Int.toNat (IntKind.wrap .i64 (y44.1 * (64 : Int))))) (u42.2.2 - (Int.toNat (IntKind.wrap .i64 (y44.1 * (64 : Int)))))), (.string (ByteArray.extract u47 (Int.toNat (IntKind.wrap .i64 (y44.1 * (64 : Int)))) u47.size))]) (.int .i64) fun (u48 : Int) => I43 ((IntKind.wrap .i64 (y44.1 + (1 : Int))), ())) <| I43 ((IntKind.wrap .i64 (y44.1 + (1 : Int))), ())) <|
  drewW <|
  ptrW (some (⟨r27, 0, none⟩ : Addr)) fun (p49 : Addr) =>
  ldW .slc (p49.add 2) fun (u50 : (Option Addr × Nat × Nat)) =>
  ldW (.int .i64) (⟨r36, 0, none⟩ : Addr) fun (u51 : Int) =>
  runW Tryd.prog (Go.convert 62 9 (.slice u42.1 u42.2.1 u42.2.2)) .str fun (u52 : ByteArray) =>
  heldW [[((⟨r36, 0, none⟩ : Addr), (.int .i64 u51))], [((p49.add 2), (.slice u50.1 u50.2.1 u50.2.2))]] <|
  guardW (0 ≤ u51 ∧ u51 < ((u50.2.1 : Nat) : Int)) <|
  ptrW u50.1 fun (p53 : Addr) =>
  stW (p53.add (Int.toNat u51 * 1)) (.string u52) <| I28 ((IntKind.wrap .i64 (y29.1 + (1 : Int))), ())) <| K (.tuple #[(.pointer (some (⟨r27, 0, none⟩ : Addr))), (.int .i64 (0 : Int))])
theorem eq35 (x0 : Option Addr) (a1 : Option Addr) (n1 c1 : Nat) (K : Value → WP) : bodyW Tryd.prog Tryd.f35 an35 false [(.pointer x0), (.slice a1 n1 c1)] K = S35 x0 a1 n1 c1 K := by kernel_rfl
theorem calls35 (x0 : Option Addr) (a1 : Option Addr) (n1 c1 : Nat) {K : Value → WP} {w : World} (h : S35 x0 a1 n1 c1 K w) : Calls Tryd.prog 35 #[(.pointer x0), (.slice a1 n1 c1)] w (Ret K) := callsR_of_bodyW mixed Tryd.func35 (of_decide_eq_true (by kernel_rfl)) (by rw [eq35]; exact h)

/-- (*shadowbook/shadowbookref03.Device).Image -/
def an36 : Ann := (.seq .nil (.seq .nil (.seq (.seq .nil (.block (.loop [(3, .sh (.one .slc)), (4, .sh (.one (.int .i64)))] [0, 1000000] (.seq (.seq .nil (.cond .nil .nil)) (.seq (.block .nil) .nil))))) (.seq .nil .nil))))
def S36 (x0 : Option Addr) (K : Value → WP) : WP := 
  loopW ((Option Addr × Nat × Nat) × Int × Unit) ((none, 0, 0), (0 : Int), ()) fun (y2 : (Option Addr × Nat × Nat) × Int × Unit) (I1 : ((Option Addr × Nat × Nat) × Int × Unit) → WP) =>
  ptrW x0 fun (p3 : Addr) =>
  ldW .slc (p3.add 2) fun (u4 : (Option Addr × Nat × Nat)) =>
  splitW (decide (y2.2.1 < ((u4.2.1 : Nat) : Int))) (ptrW x0 fun (p5 : Addr) =>
  ldW .slc (p5.add 2) fun (u6 : (Option Addr × Nat × Nat)) =>
  guardW (0 ≤ y2.2.1 ∧ y2.2.1 < ((u6.2.1 : Nat) : Int)) <|
  ptrW u6.1 fun (p7 : Addr) =>
  ldW .str (p7.add (Int.toNat y2.2.1 * 1)) fun (u8 : ByteArray) =>
  runW Tryd.prog (Builtin.append_ #[62, 9] 62 #[(.slice y2.1.1 y2.1.2.1 y2.1.2.2), (.string u8)]) .slc fun (u9 : (Option Addr × Nat × Nat)) => I1 ((u9.1, u9.2.1, u9.2.2), (IntKind.wrap .i64 (y2.2.1 + (1 : Int))), ())) <|
  runW Tryd.prog (Go.convert 62 9 (.slice y2.1.1 y2.1.2.1 y2.1.2.2)) .str fun (u10 : ByteArray) => K (.string u10)
theorem eq36 (x0 : Option Addr) (K : Value → WP) : bodyW Tryd.prog Tryd.f36 an36 false [(.pointer x0)] K = S36 x0 K := by kernel_rfl
theorem calls36 (x0 : Option Addr) {K : Value → WP} {w : World} (h : S36 x0 K w) : Calls Tryd.prog 36 #[(.pointer x0)] w (Ret K) := callsR_of_bodyW mixed Tryd.func36 (of_decide_eq_true (by kernel_rfl)) (by rw [eq36]; exact h)

/-- shadowbook/shadowbookref03.Same -/
def an37 : Ann := (.seq .nil (.seq (.seq .nil (.cond (.seq .nil .nil) .nil)) (.seq (.seq .nil (.block (.loop [(5, .sh (.one (.int .i64)))] [0, 1, 1000000] (.seq (.seq .nil (.cond .nil .nil)) (.seq (.block (.seq .nil (.cond (.seq .nil .nil) .nil))) .nil))))) (.seq .nil .nil))))
def S37 (a0 : Option Addr) (n0 c0 : Nat) (a1 : Option Addr) (n1 c1 : Nat) (K : Value → WP) : WP := 
  splitW (((n0 : Nat) : Int) != ((n1 : Nat) : Int)) (K (.bool false)) <|
  loopW (Int × Unit) ((0 : Int), ()) fun (y2 : Int × Unit) (I1 : (Int × Unit) → WP) =>
  splitW (decide (y2.1 < ((n0 : Nat) : Int))) (drewW <|
  guardW (0 ≤ y2.1 ∧ y2.1 < ((n0 : Nat) : Int)) <|
  ptrW a0 fun (p3 : Addr) =>
  ldAW [(.int .i64), .str] (p3.add (Int.toNat y2.1 * 2)) fun (u4 : (Int × ByteArray × Unit)) =>
  guardW (0 ≤ y2.1 ∧ y2.1 < ((n1 : Nat) : Int)) <|
  ptrW a1 fun (p5 : Addr) =>
  ldAW [(.int .i64), .str] (p5.add (Int.toNat y2.1 * 2)) fun (u6 : (Int × ByteArray × Unit)) =>
  eqW Tryd.prog (eqS .neq 53 (.tmp 20) (.tmp 24) (.agg #[(.int .i64 u4.1), (.string u4.2.1)]) (.agg #[(.int .i64 u6.1), (.string u6.2.1)])) fun (b7 : Bool) =>
  splitW b7 (K (.bool false)) <| I1 ((IntKind.wrap .i64 (y2.1 + (1 : Int))), ())) <| K (.bool true)
theorem eq37 (a0 : Option Addr) (n0 c0 : Nat) (a1 : Option Addr) (n1 c1 : Nat) (K : Value → WP) : bodyW Tryd.prog Tryd.f37 an37 false [(.slice a0 n0 c0), (.slice a1 n1 c1)] K = S37 a0 n0 c0 a1 n1 c1 K := by kernel_rfl
theorem calls37 (a0 : Option Addr) (n0 c0 : Nat) (a1 : Option Addr) (n1 c1 : Nat) {K : Value → WP} {w : World} (h : S37 a0 n0 c0 a1 n1 c1 K w) : Calls Tryd.prog 37 #[(.slice a0 n0 c0), (.slice a1 n1 c1)] w (Ret K) := callsR_of_bodyW mixed Tryd.func37 (of_decide_eq_true (by kernel_rfl)) (by rw [eq37]; exact h)

/-- (*shadowbook/device.Device).Geo -/
def an38 : Ann := (.seq .nil (.seq (.seq .nil (.cond (.seq .nil .nil) .nil)) (.seq .nil .nil)))
def S38 (x0 : Option Addr) (K : Value → WP) : WP := 
  newW (.cells #[(.int .i64 (0 : Int)), (.int .i64 (0 : Int))] 23) fun (r1 : Nat) =>
  splitW (Option.isNone x0) (guardW ((#[(.int .i64 (0 : Int)), (.int .i64 (0 : Int))] : Array Value).size = 2) <|
  stAW (⟨r1, 0, none⟩ : Addr) [(.int .i64 (0 : Int)), (.int .i64 (0 : Int))] <|
  ldAW [(.int .i64), (.int .i64)] (⟨r1, 0, none⟩ : Addr) fun (u2 : (Int × Int × Unit)) => K (.agg #[(.int .i64 u2.1), (.int .i64 u2.2.1)])) <|
  ptrW x0 fun (p3 : Addr) =>
  ldAW [(.int .i64), (.int .i64)] p3 fun (u4 : (Int × Int × Unit)) =>
  guardW ((#[(.int .i64 u4.1), (.int .i64 u4.2.1)] : Array Value).size = 2) <|
  stAW (⟨r1, 0, none⟩ : Addr) [(.int .i64 u4.1), (.int .i64 u4.2.1)] <|
  ldAW [(.int .i64), (.int .i64)] (⟨r1, 0, none⟩ : Addr) fun (u5 : (Int × Int × Unit)) => K (.agg #[(.int .i64 u5.1), (.int .i64 u5.2.1)])
theorem eq38 (x0 : Option Addr) (K : Value → WP) : bodyW Tryd.prog Tryd.f38 an38 false [(.pointer x0)] K = S38 x0 K := by kernel_rfl
theorem calls38 (x0 : Option Addr) {K : Value → WP} {w : World} (h : S38 x0 K w) : Calls Tryd.prog 38 #[(.pointer x0)] w (Ret K) := callsR_of_bodyW mixed Tryd.func38 (of_decide_eq_true (by kernel_rfl)) (by rw [eq38]; exact h)

/-- slices.Repeat[[]string,string] -/
def an39 : Ann := (.seq .nil (.join [] [0, 1, 1000000] (.seq .nil (.cond .nil .nil)) (.seq .nil (.join [] [0, 6, 1000000] (.seq .nil (.cond .nil .nil)) (.seq .nil (.seq .nil (.seq (.block (.loop [(8, .sh (.one (.int .i64)))] [7, 1000000] (.seq (.seq .nil (.cond .nil .nil)) (.block .nil)))) (.seq .nil .nil))))))))
def S39 (a0 : Option Addr) (n0 c0 : Nat) (x1 : Int) (K : Value → WP) : WP := 
  joinW (Unit) (fun (J1 : (Unit) → WP) =>
  splitW (decide (x1 < (0 : Int))) (FalseW) <| J1 ()) fun (y2 : Unit) =>
  callW Tryd.prog 52 [(.int .u64 (IntKind.wrap .u64 ((n0 : Nat) : Int))), (.int .u64 (IntKind.wrap .u64 x1))] (.many [(.one (.int .u64)), (.one (.int .u64))]) fun (u3 : Int × Int × Unit) =>
  joinW (Unit) (fun (J4 : (Unit) → WP) =>
  splitW (decide (u3.1 > (0 : Int))) (FalseW) <|
  splitW (decide (u3.2.1 > (9223372036854775807 : Int))) (FalseW) <| J4 ()) fun (y5 : Unit) =>
  runW Tryd.prog (Instr.makeSlice 31 (.int .i64 (IntKind.wrap .i64 u3.2.1)) (.int .i64 (IntKind.wrap .i64 u3.2.1))) .slc fun (u6 : Option Addr × Nat × Nat) =>
  runW Tryd.prog (Builtin.copy_ #[31, 31] 3 #[(.slice u6.1 u6.2.1 u6.2.2), (.slice a0 n0 c0)]) (.int .i64) fun (u7 : Int) =>
  loopW (Int × Unit) (u7, ()) fun (y9 : Int × Unit) (I8 : (Int × Unit) → WP) =>
  splitW (decide (y9.1 < ((u6.2.1 : Nat) : Int))) (drewW <|
  guardW (0 ≤ y9.1 ∧ y9.1 ≤ ((u6.2.1 : Nat) : Int)) <|
  guardW (0 ≤ y9.1 ∧ y9.1 ≤ ((u6.2.2 : Nat) : Int)) <|
  runW Tryd.prog (Builtin.copy_ #[31, 31] 3 #[(.slice (cutAddr u6.1 (Int.toNat y9.1) u6.2.2 1) (u6.2.1 - (Int.toNat y9.1)) (u6.2.2 - (Int.toNat y9.1))), (.slice (cutAddr u6.1 0 u6.2.2 1) (Int.toNat y9.1) u6.2.2)]) (.int .i64) fun (u10 : Int) => I8 ((IntKind.wrap .i64 (y9.1 + u10)), ())) <| K (.slice u6.1 u6.2.1 u6.2.2)
theorem eq39 (a0 : Option Addr) (n0 c0 : Nat) (x1 : Int) (K : Value → WP) : bodyW Tryd.prog Tryd.f39 an39 false [(.slice a0 n0 c0), (.int .i64 x1)] K = S39 a0 n0 c0 x1 K := by kernel_rfl
theorem calls39 (a0 : Option Addr) (n0 c0 : Nat) (x1 : Int) {K : Value → WP} {w : World} (h : S39 a0 n0 c0 x1 K w) : Calls Tryd.prog 39 #[(.slice a0 n0 c0), (.int .i64 x1)] w (Ret K) := callsR_of_bodyW mixed Tryd.func39 (of_decide_eq_true (by kernel_rfl)) (by rw [eq39]; exact h)

/-- strings.Repeat -/
def an40 : Ann := (.seq .nil (.seq (.seq .nil (.block (.seq .nil (.cond (.seq .nil .nil) (.seq .nil (.cond (.seq .nil .nil) .nil)))))) (.join [] [0, 1, 1000000] (.seq .nil (.cond .nil .nil)) (.seq .nil (.join [] [0, 6, 1000000] (.seq .nil (.cond .nil .nil)) (.seq .nil (.seq (.seq .nil (.cond (.seq .nil .nil) .nil)) (.join [] [0, 7, 1000000] (.seq .nil (.block (.join [(43, .sh (.one .bool))] [0, 7, 1000000] (.seq .nil (.cond .nil (.seq .nil (.cond .nil (.seq .nil (.cond .nil (.seq .nil (.cond .nil .nil)))))))) (.cond (.block (.join [(49, .sh (.one .bool))] [0, 7, 1000000] .nil (.cond (.seq .nil .nil) (.join [(58, .sh (.one .bool))] [0, 7, 1000000] .nil (.cond (.seq .nil .nil) (.join [(67, .sh (.one .bool))] [0, 7, 1000000] .nil (.cond (.seq .nil .nil) (.seq .nil (.cond (.seq .nil .nil) (.seq .nil (.cond (.seq .nil .nil) .nil))))))))))) .nil)))) (.seq .nil (.join [(8, .sh (.one (.int .i64)))] [0, 7, 1000000] (.seq .nil (.cond (.seq .nil (.seq .nil (.cond .nil .nil))) .nil)) (.seq .nil (.seq .nil (.seq .nil (.seq (.block (.loop [] [7, 8, 9, 1000000] (.seq (.seq .nil (.cond .nil .nil)) (.block (.seq .nil .nil))))) (.seq .nil .nil)))))))))))))))
def S40 (x0 : ByteArray) (x1 : Int) (K : Value → WP) : WP := 
  splitW (x1 == (0 : Int)) (K (.string (ByteArray.mk #[]))) <|
  splitW (x1 == (1 : Int)) (K (.string x0)) <|
  joinW (Unit) (fun (J1 : (Unit) → WP) =>
  splitW (decide (x1 < (0 : Int))) (FalseW) <| J1 ()) fun (y2 : Unit) =>
  callW Tryd.prog 52 [(.int .u64 (IntKind.wrap .u64 ((x0.size : Nat) : Int))), (.int .u64 (IntKind.wrap .u64 x1))] (.many [(.one (.int .u64)), (.one (.int .u64))]) fun (u3 : Int × Int × Unit) =>
  joinW (Unit) (fun (J4 : (Unit) → WP) =>
  splitW (decide (u3.1 > (0 : Int))) (FalseW) <|
  splitW (decide (u3.2.1 > (9223372036854775807 : Int))) (FalseW) <| J4 ()) fun (y5 : Unit) =>
  splitW (((x0.size : Nat) : Int) == (0 : Int)) (K (.string (ByteArray.mk #[]))) <|
  joinW (Unit) (fun (J6 : (Unit) → WP) =>
  guardW (0 ≤ (0 : Int) ∧ (0 : Int) < ((x0.size : Nat) : Int)) <|
  joinW (Bool × Unit) (fun (J8 : (Bool × Unit) → WP) =>
  splitW ((bt x0 (0 : Int)) == (32 : Int)) (J8 (((bt x0 (0 : Int)) == (32 : Int)), ())) <|
  splitW ((bt x0 (0 : Int)) == (45 : Int)) (J8 (((bt x0 (0 : Int)) == (45 : Int)), ())) <|
  splitW ((bt x0 (0 : Int)) == (48 : Int)) (J8 (((bt x0 (0 : Int)) == (48 : Int)), ())) <|
  splitW ((bt x0 (0 : Int)) == (61 : Int)) (J8 (((bt x0 (0 : Int)) == (61 : Int)), ())) <| J8 (((bt x0 (0 : Int)) == (9 : Int)), ())) fun (y9 : Bool × Unit) =>
  splitW y9.1 (joinW (Bool × Unit) (fun (J10 : (Bool × Unit) → WP) =>
  splitW (decide ((IntKind.wrap .i64 u3.2.1) ≤ (128 : Int))) (callW Tryd.prog 53 [(.string (ByteArray.mk #[32, 32, 32, 32, 32, 32, 32, 32, 32, 32, 32, 32, 32, 32, 32, 32, 32, 32, 32, 32, 32, 32, 32, 32, 32, 32, 32, 32, 32, 32, 32, 32, 32, 32, 32, 32, 32, 32, 32, 32, 32, 32, 32, 32, 32, 32, 32, 32, 32, 32, 32, 32, 32, 32, 32, 32, 32, 32, 32, 32, 32, 32, 32, 32, 32, 32, 32, 32, 32, 32, 32, 32, 32, 32, 32, 32, 32, 32, 32, 32, 32, 32, 32, 32, 32, 32, 32, 32, 32, 32, 32, 32, 32, 32, 32, 32, 32, 32, 32, 32, 32, 32, 32, 32, 32, 32, 32, 32, 32, 32, 32, 32, 32, 32, 32, 32, 32, 32, 32, 32, 32, 32, 32, 32, 32, 32, 32, 32])), (.string x0)] (.one (.one .bool)) fun (u12 : Bool) => J10 (u12, ())) <| J10 (false, ())) fun (y11 : Bool × Unit) =>
  splitW y11.1 (guardW (0 ≤ (IntKind.wrap .i64 u3.2.1) ∧ (IntKind.wrap .i64 u3.2.1) ≤ (((ByteArray.mk #[32, 32, 32, 32, 32, 32, 32, 32, 32, 32, 32, 32, 32, 32, 32, 32, 32, 32, 32, 32, 32, 32, 32, 32, 32, 32, 32, 32, 32, 32, 32, 32, 32, 32, 32, 32, 32, 32, 32, 32, 32, 32, 32, 32, 32, 32, 32, 32, 32, 32, 32, 32, 32, 32, 32, 32, 32, 32, 32, 32, 32, 32, 32, 32, 32, 32, 32, 32, 32, 32, 32, 32, 32, 32, 32, 32, 32, 32, 32, 32, 32, 32, 32, 32, 32, 32, 32, 32, 32, 32, 32, 32, 32, 32, 32, 32, 32, 32, 32, 32, 32, 32, 32, 32, 32, 32, 32, 32, 32, 32, 32, 32, 32, 32, 32, 32, 32, 32, 32, 32, 32, 32, 32, 32, 32, 32, 32, 32]).size : Nat) : Int)) <| K (.string (ByteArray.extract (ByteArray.mk #[32, 32, 32, 32, 32, 32, 32, 32, 32, 32, 32, 32, 32, 32, 32, 32, 32, 32, 32, 32, 32, 32, 32, 32, 32, 32, 32, 32, 32, 32, 32, 32, 32, 32, 32, 32, 32, 32, 32, 32, 32, 32, 32, 32, 32, 32, 32, 32, 32, 32, 32, 32, 32, 32, 32, 32, 32, 32, 32, 32, 32, 32, 32, 32, 32, 32, 32, 32, 32, 32, 32, 32, 32, 32, 32, 32, 32, 32, 32, 32, 32, 32, 32, 32, 32, 32, 32, 32, 32, 32, 32, 32, 32, 32, 32, 32, 32, 32, 32, 32, 32, 32, 32, 32, 32, 32, 32, 32, 32, 32, 32, 32, 32, 32, 32, 32, 32, 32, 32, 32, 32, 32, 32, 32, 32, 32, 32, 32]) 0 (Int.toNat (IntKind.wrap .i64 u3.2.1))))) <|
  joinW (Bool × Unit) (fun (J13 : (Bool × Unit) → WP) =>
  splitW (decide ((IntKind.wrap .i64 u3.2.1) ≤ (128 : Int))) (callW Tryd.prog 53 [(.string (ByteArray.mk #[45, 45, 45, 45, 45, 45, 45, 45, 45, 45, 45, 45, 45, 45, 45, 45, 45, 45, 45, 45, 45, 45, 45, 45, 45, 45, 45, 45, 45, 45, 45, 45, 45, 45, 45, 45, 45, 45, 45, 45, 45, 45, 45, 45, 45, 45, 45, 45, 45, 45, 45, 45, 45, 45, 45, 45, 45, 45, 45, 45, 45, 45, 45, 45, 45, 45, 45, 45, 45, 45, 45, 45, 45, 45, 45, 45, 45, 45, 45, 45, 45, 45, 45, 45, 45, 45, 45, 45, 45, 45, 45, 45, 45, 45, 45, 45, 45, 45, 45, 45, 45, 45, 45, 45, 45, 45, 45, 45, 45, 45, 45, 45, 45, 45, 45, 45, 45, 45, 45, 45, 45, 45, 45, 45, 45, 45, 45, 45])), (.string x0)] (.one (.one .bool)) fun (u15 : Bool) => J13 (u15, ())) <| J13 (false, ())) fun (y14 : Bool × Unit) =>
  splitW y14.1 (guardW (0 ≤ (IntKind.wrap .i64 u3.2.1) ∧ (IntKind.wrap .i64 u3.2.1) ≤ (((ByteArray.mk #[45, 45, 45, 45, 45, 45, 45, 45, 45, 45, 45, 45, 45, 45, 45, 45, 45, 45, 45, 45, 45, 45, 45, 45, 45, 45, 45, 45, 45, 45, 45, 45, 45, 45, 45, 45, 45, 45, 45, 45, 45, 45, 45, 45, 45, 45, 45, 45, 45, 45, 45, 45, 45, 45, 45, 45, 45, 45, 45, 45, 45, 45, 45, 45, 45, 45, 45, 45, 45, 45, 45, 45, 45, 45, 45, 45, 45, 45, 45, 45, 45, 45, 45, 45, 45, 45, 45, 45, 45, 45, 45, 45, 45, 45, 45, 45, 45, 45, 45, 45, 45, 45, 45, 45, 45, 45, 45, 45, 45, 45, 45, 45, 45, 45, 45, 45, 45, 45, 45, 45, 45, 45, 45, 45, 45, 45, 45, 45]).size : Nat) : Int)) <| K (.string (ByteArray.extract (ByteArray.mk #[45, 45, 45, 45, 45, 45, 45, 45, 45, 45, 45, 45, 45, 45, 45, 45, 45, 45, 45, 45, 45, 45, 45, 45, 45, 45, 45, 45, 45, 45, 45, 45, 45, 45, 45, 45, 45, 45, 45, 45, 45, 45, 45, 45, 45, 45, 45, 45, 45, 45, 45, 45, 45, 45, 45, 45, 45, 45, 45, 45, 45, 45, 45, 45, 45, 45, 45, 45, 45, 45, 45, 45, 45, 45, 45, 45, 45, 45, 45, 45, 45, 45, 45, 45, 45, 45, 45, 45, 45, 45, 45, 45, 45, 45, 45, 45, 45, 45, 45, 45, 45, 45, 45, 45, 45, 45, 45, 45, 45, 45, 45, 45, 45, 45, 45, 45, 45, 45, 45, 45, 45, 45, 45, 45, 45, 45, 45, 45]) 0 (Int.toNat (IntKind.wrap .i64 u3.2.1))))) <|
  joinW (Bool × Unit) (fun (J16 : (Bool × Unit) → WP) =>
  splitW (decide ((IntKind.wrap .i64 u3.2.1) ≤ (64 : Int))) (callW Tryd.prog 53 [(.string (ByteArray.mk #[48, 48, 48, 48, 48, 48, 48, 48, 48, 48, 48, 48, 48, 48, 48, 48, 48, 48, 48, 48, 48, 48, 48, 48, 48, 48, 48, 48, 48, 48, 48, 48, 48, 48, 48, 48, 48, 48, 48, 48, 48, 48, 48, 48, 48, 48, 48, 48, 48, 48, 48, 48, 48, 48, 48, 48, 48, 48, 48, 48, 48, 48, 48, 48])), (.string x0)] (.one (.one .bool)) fun (u18 : Bool) => J16 (u18, ())) <| J16 (false, ())) fun (y17 : Bool × Unit) =>
  splitW y17.1 (guardW (0 ≤ (IntKind.wrap .i64 u3.2.1) ∧ (IntKind.wrap .i64 u3.2.1) ≤ (((ByteArray.mk #[48, 48, 48, 48, 48, 48, 48, 48, 48, 48, 48, 48, 48, 48, 48, 48, 48, 48, 48, 48, 48, 48, 48, 48, 48, 48, 48, 48, 48, 48, 48, 48, 48, 48, 48, 48, 48, 48, 48, 48, 48, 48, 48, 48, 48, 48, 48, 48, 48, 48, 48, 48, 48, 48, 48, 48, 48, 48, 48, 48, 48, 48, 48, 48]).size : Nat) : Int)) <| K (.string (ByteArray.extract (ByteArray.mk #[48, 48, 48, 48, 48, 48, 48, 48, 48, 48, 48, 48, 48, 48, 48, 48, 48, 48, 48, 48, 48, 48, 48, 48, 48, 48, 48, 48, 48, 48, 48, 48, 48, 48, 48, 48, 48, 48, 48, 48, 48, 48, 48, 48, 48, 48, 48, 48, 48, 48, 48, 48, 48, 48, 48, 48, 48, 48, 48, 48, 48, 48, 48, 48]) 0 (Int.toNat (IntKind.wrap .i64 u3.2.1))))) <|
  splitW (decide ((IntKind.wrap .i64 u3.2.1) ≤ (128 : Int))) (callW Tryd.prog 53 [(.string (ByteArray.mk #[61, 61, 61, 61, 61, 61, 61, 61, 61, 61, 61, 61, 61, 61, 61, 61, 61, 61, 61, 61, 61, 61, 61, 61, 61, 61, 61, 61, 61, 61, 61, 61, 61, 61, 61, 61, 61, 61, 61, 61, 61, 61, 61, 61, 61, 61, 61, 61, 61, 61, 61, 61, 61, 61, 61, 61, 61, 61, 61, 61, 61, 61, 61, 61, 61, 61, 61, 61, 61, 61, 61, 61, 61, 61, 61, 61, 61, 61, 61, 61, 61, 61, 61, 61, 61, 61, 61, 61, 61, 61, 61, 61, 61, 61, 61, 61, 61, 61, 61, 61, 61, 61, 61, 61, 61, 61, 61, 61, 61, 61, 61, 61, 61, 61, 61, 61, 61, 61, 61, 61, 61, 61, 61, 61, 61, 61, 61, 61])), (.string x0)] (.one (.one .bool)) fun (u19 : Bool) =>
  splitW u19 (guardW (0 ≤ (IntKind.wrap .i64 u3.2.1) ∧ (IntKind.wrap .i64 u3.2.1) ≤ (((ByteArray.mk #[61, 61, 61, 61, 61, 61, 61, 61, 61, 61, 61, 61, 61, 61, 61, 61, 61, 61, 61, 61, 61, 61, 61, 61, 61, 61, 61, 61, 61, 61, 61, 61, 61, 61, 61, 61, 61, 61, 61, 61, 61, 61, 61, 61, 61, 61, 61, 61, 61, 61, 61, 61, 61, 61, 61, 61, 61, 61, 61, 61, 61, 61, 61, 61, 61, 61, 61, 61, 61, 61, 61, 61, 61, 61, 61, 61, 61, 61, 61, 61, 61, 61, 61, 61, 61, 61, 61, 61, 61, 61, 61, 61, 61, 61, 61, 61, 61, 61, 61, 61, 61, 61, 61, 61, 61, 61, 61, 61, 61, 61, 61, 61, 61, 61, 61, 61, 61, 61, 61, 61, 61, 61, 61, 61, 61, 61, 61, 61]).size : Nat) : Int)) <| K (.string (ByteArray.extract (ByteArray.mk #[61, 61, 61, 61, 61, 61, 61, 61, 61, 61, 61, 61, 61, 61, 61, 61, 61, 61, 61, 61, 61, 61, 61, 61, 61, 61, 61, 61, 61, 61, 61, 61, 61, 61, 61, 61, 61, 61, 61, 61, 61, 61, 61, 61, 61, 61, 61, 61, 61, 61, 61, 61, 61, 61, 61, 61, 61, 61, 61, 61, 61, 61, 61, 61, 61, 61, 61, 61, 61, 61, 61, 61, 61, 61, 61, 61, 61, 61, 61, 61, 61, 61, 61, 61, 61, 61, 61, 61, 61, 61, 61, 61, 61, 61, 61, 61, 61, 61, 61, 61, 61, 61, 61, 61, 61, 61, 61, 61, 61, 61, 61, 61, 61, 61, 61, 61, 61, 61, 61, 61, 61, 61, 61, 61, 61, 61, 61, 61]) 0 (Int.toNat (IntKind.wrap .i64 u3.2.1))))) <|
  splitW (decide ((IntKind.wrap .i64 u3.2.1) ≤ (64 : Int))) (callW Tryd.prog 53 [(.string (ByteArray.mk #[9, 9, 9, 9, 9, 9, 9, 9, 9, 9, 9, 9, 9, 9, 9, 9, 9, 9, 9, 9, 9, 9, 9, 9, 9, 9, 9, 9, 9, 9, 9, 9, 9, 9, 9, 9, 9, 9, 9, 9, 9, 9, 9, 9, 9, 9, 9, 9, 9, 9, 9, 9, 9, 9, 9, 9, 9, 9, 9, 9, 9, 9, 9, 9])), (.string x0)] (.one (.one .bool)) fun (u20 : Bool) =>
  splitW u20 (guardW (0 ≤ (IntKind.wrap .i64 u3.2.1) ∧ (IntKind.wrap .i64 u3.2.1) ≤ (((ByteArray.mk #[9, 9, 9, 9, 9, 9, 9, 9, 9, 9, 9, 9, 9, 9, 9, 9, 9, 9, 9, 9, 9, 9, 9, 9, 9, 9, 9, 9, 9, 9, 9, 9, 9, 9, 9, 9, 9, 9, 9, 9, 9, 9, 9, 9, 9, 9, 9, 9, 9, 9, 9, 9, 9, 9, 9, 9, 9, 9, 9, 9, 9, 9, 9, 9]).size : Nat) : Int)) <| K (.string (ByteArray.extract (ByteArray.mk #[9, 9, 9, 9, 9, 9, 9, 9, 9, 9, 9, 9, 9, 9, 9, 9, 9, 9, 9, 9, 9, 9, 9, 9, 9, 9, 9, 9, 9, 9, 9, 9, 9, 9, 9, 9, 9, 9, 9, 9, 9, 9, 9, 9, 9, 9, 9, 9, 9, 9, 9, 9, 9, 9, 9, 9, 9, 9, 9, 9, 9, 9, 9, 9]) 0 (Int.toNat (IntKind.wrap .i64 u3.2.1))))) <| J6 ()) <| J6 ()) <|
  splitW (decide ((IntKind.wrap .i64 u3.2.1) ≤ (64 : Int))) (callW Tryd.prog 53 [(.string (ByteArray.mk #[9, 9, 9, 9, 9, 9, 9, 9, 9, 9, 9, 9, 9, 9, 9, 9, 9, 9, 9, 9, 9, 9, 9, 9, 9, 9, 9, 9, 9, 9, 9, 9, 9, 9, 9, 9, 9, 9, 9, 9, 9, 9, 9, 9, 9, 9, 9, 9, 9, 9, 9, 9, 9, 9, 9, 9, 9, 9, 9, 9, 9, 9, 9, 9])), (.string x0)] (.one (.one .bool)) fun (u21 : Bool) =>
  splitW u21 (guardW (0 ≤ (IntKind.wrap .i64 u3.2.1) ∧ (IntKind.wrap .i64 u3.2.1) ≤ (((ByteArray.mk #[9, 9, 9, 9, 9, 9, 9, 9, 9, 9, 9, 9, 9, 9, 9, 9, 9, 9, 9, 9, 9, 9, 9, 9, 9, 9, 9, 9, 9, 9, 9, 9, 9, 9, 9, 9, 9, 9, 9, 9, 9, 9, 9, 9, 9, 9, 9, 9, 9, 9, 9, 9, 9, 9, 9, 9, 9, 9, 9, 9, 9, 9, 9, 9]).size : Nat) : Int)) <| K (.string (ByteArray.extract (ByteArray.mk #[9, 9, 9, 9, 9, 9, 9, 9, 9, 9, 9, 9, 9, 9, 9, 9, 9, 9, 9, 9, 9, 9, 9, 9, 9, 9, 9, 9, 9, 9, 9, 9, 9, 9, 9, 9, 9, 9, 9, 9, 9, 9, 9, 9, 9, 9, 9, 9, 9, 9, 9, 9, 9, 9, 9, 9, 9, 9, 9, 9, 9, 9, 9, 9]) 0 (Int.toNat (IntKind.wrap .i64 u3.2.1))))) <| J6 ()) <| J6 ()) <| J6 ()) fun (y7 : Unit) =>
  joinW (Int × Unit) (fun (J22 : (Int × Unit) → WP) =>
  splitW (decide ((IntKind.wrap .i64 u3.2.1) > (8192 : Int))) (guardW (((x0.size : Nat) : Int) ≠ 0) <|
  splitW ((IntKind.wrap .i64 ((IntKind.wrap .i64 (Int.tdiv (8192 : Int) ((x0.size : Nat) : Int))) * ((x0.size : Nat) : Int))) == (0 : Int)) (J22 (((x0.size : Nat) : Int), ())) <| J22 ((IntKind.wrap .i64 ((IntKind.wrap .i64 (Int.tdiv (8192 : Int) ((x0.size : Nat) : Int))) * ((x0.size : Nat) : Int))), ())) <| J22 ((IntKind.wrap .i64 u3.2.1), ())) fun (y23 : Int × Unit) =>
  newW (.cells #[(.pointer none), (.slice none 0 0)] 95) fun (r24 : Nat) =>
  callW Tryd.prog 54 [(.pointer (some (⟨r24, 0, none⟩ : Addr))), (.int .i64 (IntKind.wrap .i64 u3.2.1))] .none fun (u25 : Unit) =>
  callW Tryd.prog 55 [(.pointer (some (⟨r24, 0, none⟩ : Addr))), (.string x0)] (.many [(.one (.int .i64)), (.one .any)]) fun (u26 : Int × Value × Unit) =>
  loopW (Unit) () fun (y28 : Unit) (I27 : (Unit) → WP) =>
  callW Tryd.prog 56 [(.pointer (some (⟨r24, 0, none⟩ : Addr)))] (.one (.one (.int .i64))) fun (u29 : Int) =>
  splitW (decide (u29 < (IntKind.wrap .i64 u3.2.1))) (callW Tryd.prog 56 [(.pointer (some (⟨r24, 0, none⟩ : Addr)))] (.one (.one (.int .i64))) fun (u30 : Int) =>
  callW Tryd.prog 56 [(.pointer (some (⟨r24, 0, none⟩ : Addr)))] (.one (.one (.int .i64))) fun (u31 : Int) =>
  callW Tryd.prog 57 [(.pointer (some (⟨r24, 0, none⟩ : Addr)))] (.one (.one .str)) fun (u32 : ByteArray) =>
  guardW (0 ≤ (if y23.1 < (if u31 < (IntKind.wrap .i64 ((IntKind.wrap .i64 u3.2.1) - u30)) then u31 else (IntKind.wrap .i64 ((IntKind.wrap .i64 u3.2.1) - u30))) then y23.1 else (if u31 < (IntKind.wrap .i64 ((IntKind.wrap .i64 u3.2.1) - u30)) then u31 else (IntKind.wrap .i64 ((IntKind.wrap .i64 u3.2.1) - u30)))) ∧ (if y23.1 < (if u31 < (IntKind.wrap .i64 ((IntKind.wrap .i64 u3.2.1) - u30)) then u31 else (IntKind.wrap .i64 ((IntKind.wrap .i64 u3.2.1) - u30))) then y23.1 else (if u31 < (IntKind.wrap .i64 ((IntKind.wrap .i64 u3.2.1) - u30)) then u31 else (IntKind.wrap .i64 ((IntKind.wrap .i64 u3.2.1) - u30)))) ≤ ((u32.size : Nat) : Int)) <|
  callW Tryd.prog 55 [(.pointer (some (⟨r24, 0, none⟩ : Addr))), (.string (ByteArray.extract u32 0 (Int.toNat (if y23.1 < (if u31 < (IntKind.wrap .i64 ((IntKind.wrap .i64 u3.2.1) - u30)) then u31 else (IntKind.wrap .i64 ((IntKind.wrap .i64 u3.2.1) - u30))) then y23.1 else (if u31 < (IntKind.wrap .i64 ((IntKind.wrap .i64 u3.2.1) - u30)) then u31 else (IntKind.wrap .i64 ((IntKind.wrap .i64 u3.2.1) - u30)))))))] (.many [(.one (.int .i64)), (.one .any)]) fun (u33 : Int × Value × Unit) => I27 ()) <|
  callW Tryd.prog 57 [(.pointer (some (⟨r24, 0, none⟩ : Addr)))] (.one (.one .str)) fun (u34 : ByteArray) => K (.string u34)
theorem eq40 (x0 : ByteArray) (x1 : Int) (K : Value → WP) : bodyW Tryd.prog Tryd.f40 an40 false [(.string x0), (.int .i64 x1)] K = S40 x0 x1 K := by kernel_rfl
theorem calls40 (x0 : ByteArray) (x1 : Int) {K : Value → WP} {w : World} (h : S40 x0 x1 K w) : Calls Tryd.prog 40 #[(.string x0), (.int .i64 x1)] w (Ret K) := callsR_of_bodyW mixed Tryd.func40 (of_decide_eq_true (by kernel_rfl)) (by rw [eq40]; exact h)

/-- (*shadowbook/device.Device).there -/
def an41 : Ann := (.seq .nil (.seq .nil .nil))
def S41 (x0 : Option Addr) (x1 : Int) (K : Value → WP) : WP := 
  splitW (decide (x1 ≥ (0 : Int))) (ptrW x0 fun (p1 : Addr) =>
  ldW (.int .i64) (p1.add 1) fun (u2 : Int) => K (.bool (decide (x1 < u2)))) <| K (.bool false)
theorem eq41 (x0 : Option Addr) (x1 : Int) (K : Value → WP) : bodyW Tryd.prog Tryd.f41 an41 false [(.pointer x0), (.int .i64 x1)] K = S41 x0 x1 K := by kernel_rfl
theorem calls41 (x0 : Option Addr) (x1 : Int) {K : Value → WP} {w : World} (h : S41 x0 x1 K w) : Calls Tryd.prog 41 #[(.pointer x0), (.int .i64 x1)] w (Ret K) := callsR_of_bodyW mixed Tryd.func41 (of_decide_eq_true (by kernel_rfl)) (by rw [eq41]; exact h)

/-- (*shadowbook/device.Device).done -/
def an42 : Ann := (.seq .nil (.seq (.seq .nil (.cond (.seq .nil .nil) .nil)) (.seq .nil (.seq .nil (.seq .nil .nil)))))
def S42 (x0 : Option Addr) (K : Value → WP) : WP := 
  ptrW x0 fun (p1 : Addr) =>
  ldW (.int .i64) (p1.add 5) fun (u2 : Int) =>
  splitW (u2 == (0 : Int)) (K (.bool false)) <|
  ptrW x0 fun (p3 : Addr) =>
  ldW (.int .i64) (p3.add 5) fun (u4 : Int) =>
  ptrW x0 fun (p5 : Addr) =>
  stW (p5.add 5) (.int .i64 (if (IntKind.wrap .i64 (u4 - (1 : Int))) > (-1 : Int) then (IntKind.wrap .i64 (u4 - (1 : Int))) else (-1 : Int))) <|
  ptrW x0 fun (p6 : Addr) =>
  ldW (.int .i64) (p6.add 4) fun (u7 : Int) =>
  ptrW x0 fun (p8 : Addr) =>
  stW (p8.add 4) (.int .i64 (IntKind.wrap .i64 (u7 + (1 : Int)))) <| K (.bool true)
theorem eq42 (x0 : Option Addr) (K : Value → WP) : bodyW Tryd.prog Tryd.f42 an42 false [(.pointer x0)] K = S42 x0 K := by kernel_rfl
theorem calls42 (x0 : Option Addr) {K : Value → WP} {w : World} (h : S42 x0 K w) : Calls Tryd.prog 42 #[(.pointer x0)] w (Ret K) := callsR_of_bodyW mixed Tryd.func42 (of_decide_eq_true (by kernel_rfl)) (by rw [eq42]; exact h)

/-- slices.Clone[[]shadowbook/api.Write,shadowbook/api.Write] -/
def an43 : Ann := (.seq .nil (.seq (.seq .nil (.cond (.seq .nil .nil) .nil)) (.seq .nil .nil)))
def S43 (a0 : Option Addr) (n0 c0 : Nat) (K : Value → WP) : WP := 
  splitW (Option.isNone a0) (K (.slice none 0 0)) <|
  newW (.cells #[] 53) fun (r1 : Nat) =>
  runW Tryd.prog (Builtin.append_ #[40, 40] 40 #[(.slice (some (⟨r1, 0, none⟩ : Addr)) 0 0), (.slice a0 n0 c0)]) .slc fun (u2 : (Option Addr × Nat × Nat)) => K (.slice u2.1 u2.2.1 u2.2.2)
theorem eq43 (a0 : Option Addr) (n0 c0 : Nat) (K : Value → WP) : bodyW Tryd.prog Tryd.f43 an43 false [(.slice a0 n0 c0)] K = S43 a0 n0 c0 K := by kernel_rfl
theorem calls43 (a0 : Option Addr) (n0 c0 : Nat) {K : Value → WP} {w : World} (h : S43 a0 n0 c0 K w) : Calls Tryd.prog 43 #[(.slice a0 n0 c0)] w (Ret K) := callsR_of_bodyW mixed Tryd.func43 (of_decide_eq_true (by kernel_rfl)) (by rw [eq43]; exact h)

/-- slices.Clone[[]string,string] -/
def an44 : Ann := (.seq .nil (.seq (.seq .nil (.cond (.seq .nil .nil) .nil)) (.seq .nil .nil)))
def S44 (a0 : Option Addr) (n0 c0 : Nat) (K : Value → WP) : WP := 
  splitW (Option.isNone a0) (K (.slice none 0 0)) <|
  newW (.cells #[] 9) fun (r1 : Nat) =>
  runW Tryd.prog (Builtin.append_ #[31, 31] 31 #[(.slice (some (⟨r1, 0, none⟩ : Addr)) 0 0), (.slice a0 n0 c0)]) .slc fun (u2 : (Option Addr × Nat × Nat)) => K (.slice u2.1 u2.2.1 u2.2.2)
theorem eq44 (a0 : Option Addr) (n0 c0 : Nat) (K : Value → WP) : bodyW Tryd.prog Tryd.f44 an44 false [(.slice a0 n0 c0)] K = S44 a0 n0 c0 K := by kernel_rfl
theorem calls44 (a0 : Option Addr) (n0 c0 : Nat) {K : Value → WP} {w : World} (h : S44 a0 n0 c0 K w) : Calls Tryd.prog 44 #[(.slice a0 n0 c0)] w (Ret K) := callsR_of_bodyW mixed Tryd.func44 (of_decide_eq_true (by kernel_rfl)) (by rw [eq44]; exact h)

/-- shadowbook/device.sectors -/
def an45 : Ann := (.seq .nil (.seq .nil .nil))
def S45 (x0 : Int) (K : Value → WP) : WP := 
  newW (.cells #[(.int .u64 x0)] 42) fun (r1 : Nat) => K (.func (.func 58) #[] #[(.pointer (some (⟨r1, 0, none⟩ : Addr)))])
theorem eq45 (x0 : Int) (K : Value → WP) : bodyW Tryd.prog Tryd.f45 an45 false [(.int .u64 x0)] K = S45 x0 K := by kernel_rfl
theorem calls45 (x0 : Int) {K : Value → WP} {w : World} (h : S45 x0 K w) : Calls Tryd.prog 45 #[(.int .u64 x0)] w (Ret K) := callsR_of_bodyW mixed Tryd.func45 (of_decide_eq_true (by kernel_rfl)) (by rw [eq45]; exact h)

/-- shadowbook/shadowbookkit.Times -/
def an46 : Ann := (.seq .nil (.seq .nil (.seq (.block (.loop [(0, .sh (.one .str)), (1, .sh (.one (.int .i64))), (5, .sh (.one .str))] [1000000] (.seq (.seq .nil (.cond .nil .nil)) (.seq (.block (.seq (.seq .nil (.cond .nil .nil)) .nil)) .nil)))) (.seq .nil .nil))))
def S46 (x0 : ByteArray) (x1 : Int) (K : Value → WP) : WP := 
  loopW (ByteArray × Int × ByteArray × Unit) (x0, x1, (ByteArray.mk #[]), ()) fun (y2 : ByteArray × Int × ByteArray × Unit) (I1 : (ByteArray × Int × ByteArray × Unit) → WP) =>
  splitW (decide (y2.2.1 > (0 : Int))) (splitW ((Int.tmod y2.2.1 (2 : Int)) == (1 : Int)) (guardW (((y2.2.2.1.size + y2.1.size : Nat) : Int) ≤ IntKind.i64.max) <|
  guardW (((y2.1.size + y2.1.size : Nat) : Int) ≤ IntKind.i64.max) <| I1 ((y2.1 ++ y2.1), (IntKind.wrap .i64 (Int.tdiv y2.2.1 (2 : Int))), (y2.2.2.1 ++ y2.1), ())) <|
  guardW (((y2.1.size + y2.1.size : Nat) : Int) ≤ IntKind.i64.max) <| I1 ((y2.1 ++ y2.1), (IntKind.wrap .i64 (Int.tdiv y2.2.1 (2 : Int))), y2.2.2.1, ())) <| K (.string y2.2.2.1)
theorem eq46 (x0 : ByteArray) (x1 : Int) (K : Value → WP) : bodyW Tryd.prog Tryd.f46 an46 false [(.string x0), (.int .i64 x1)] K = S46 x0 x1 K := by kernel_rfl
theorem calls46 (x0 : ByteArray) (x1 : Int) {K : Value → WP} {w : World} (h : S46 x0 x1 K w) : Calls Tryd.prog 46 #[(.string x0), (.int .i64 x1)] w (Ret K) := callsR_of_bodyW mixed Tryd.func46 (of_decide_eq_true (by kernel_rfl)) (by rw [eq46]; exact h)

/-- (*shadowbook/device.Device).latest -/
def an47 : Ann := (.seq .nil (.seq .nil .nil))
def S47 (x0 : Option Addr) (K : Value → WP) : WP := 
  ptrW x0 fun (p1 : Addr) =>
  ldW .slc (p1.add 3) fun (u2 : (Option Addr × Nat × Nat)) =>
  callW Tryd.prog 60 [(.slice u2.1 u2.2.1 u2.2.2)] (.one (.one .any)) fun (u3 : Value) => K u3
theorem eq47 (x0 : Option Addr) (K : Value → WP) : bodyW Tryd.prog Tryd.f47 an47 false [(.pointer x0)] K = S47 x0 K := by kernel_rfl
theorem calls47 (x0 : Option Addr) {K : Value → WP} {w : World} (h : S47 x0 K w) : Calls Tryd.prog 47 #[(.pointer x0)] w (Ret K) := callsR_of_bodyW mixed Tryd.func47 (of_decide_eq_true (by kernel_rfl)) (by rw [eq47]; exact h)

/-- strings.Join -/
def an48 : Ann := (.seq .nil (.seq (.seq .nil (.block (.seq .nil (.cond (.seq .nil .nil) (.seq .nil (.cond (.seq .nil .nil) .nil)))))) (.seq .nil (.join [(5, .sh (.one (.int .i64)))] [0, 1, 1000000] (.seq .nil (.cond (.seq (.seq .nil (.cond .nil .nil)) .nil) .nil)) (.seq (.seq .nil (.block (.loop [(5, .sh (.one (.int .i64))), (41, .sh (.one (.int .i64)))] [0, 1, 39, 40, 1000000] (.seq .nil (.seq (.cond .nil .nil) (.seq (.block (.seq .nil (.seq (.seq .nil (.cond .nil .nil)) .nil))) .nil)))))) (.seq .nil (.seq .nil (.seq .nil (.seq (.seq .nil (.block (.loop [(65, .sh (.one (.int .i64)))] [1, 8, 63, 64, 1000000] (.seq .nil (.seq (.cond .nil .nil) (.seq (.block (.seq .nil (.seq .nil .nil))) .nil)))))) (.seq .nil .nil))))))))))
def S48 (a0 : Option Addr) (n0 c0 : Nat) (x1 : ByteArray) (K : Value → WP) : WP := 
  splitW (((n0 : Nat) : Int) == (0 : Int)) (K (.string (ByteArray.mk #[]))) <|
  splitW (((n0 : Nat) : Int) == (1 : Int)) (guardW (0 ≤ (0 : Int) ∧ (0 : Int) < ((n0 : Nat) : Int)) <|
  ptrW a0 fun (p1 : Addr) =>
  ldW .str (p1.add (Int.toNat (0 : Int) * 1)) fun (u2 : ByteArray) => K (.string u2)) <|
  joinW (Int × Unit) (fun (J3 : (Int × Unit) → WP) =>
  splitW (decide (((x1.size : Nat) : Int) > (0 : Int))) (guardW ((IntKind.wrap .i64 (((n0 : Nat) : Int) - (1 : Int))) ≠ 0) <|
  splitW (decide (((x1.size : Nat) : Int) ≥ (IntKind.wrap .i64 (Int.tdiv (9223372036854775807 : Int) (IntKind.wrap .i64 (((n0 : Nat) : Int) - (1 : Int))))))) (FalseW) <| J3 ((IntKind.wrap .i64 ((0 : Int) + (IntKind.wrap .i64 (((x1.size : Nat) : Int) * (IntKind.wrap .i64 (((n0 : Nat) : Int) - (1 : Int))))))), ())) <| J3 ((0 : Int), ())) fun (y4 : Int × Unit) =>
  loopW (Int × Int × Unit) (y4.1, (0 : Int), ()) fun (y6 : Int × Int × Unit) (I5 : (Int × Int × Unit) → WP) =>
  splitW (decide (y6.2.1 < ((n0 : Nat) : Int))) (guardW (0 ≤ y6.2.1 ∧ y6.2.1 < ((n0 : Nat) : Int)) <|
  ptrW a0 fun (p7 : Addr) =>
  ldW .str (p7.add (Int.toNat y6.2.1 * 1)) fun (u8 : ByteArray) =>
  splitW (decide (((u8.size : Nat) : Int) > (IntKind.wrap .i64 ((9223372036854775807 : Int) - y6.1)))) (FalseW) <| I5 ((IntKind.wrap .i64 (y6.1 + ((u8.size : Nat) : Int))), (IntKind.wrap .i64 (y6.2.1 + (1 : Int))), ())) <|
  newW (.cells #[(.pointer none), (.slice none 0 0)] 95) fun (r9 : Nat) =>
  callW Tryd.prog 54 [(.pointer (some (⟨r9, 0, none⟩ : Addr))), (.int .i64 y6.1)] .none fun (u10 : Unit) =>
  guardW (0 ≤ (0 : Int) ∧ (0 : Int) < ((n0 : Nat) : Int)) <|
  ptrW a0 fun (p11 : Addr) =>
  ldW .str (p11.add (Int.toNat (0 : Int) * 1)) fun (u12 : ByteArray) =>
  callW Tryd.prog 55 [(.pointer (some (⟨r9, 0, none⟩ : Addr))), (.string u12)] (.many [(.one (.int .i64)), (.one .any)]) fun (u13 : Int × Value × Unit) =>
  guardW (0 ≤ (1 : Int) ∧ (1 : Int) ≤ ((n0 : Nat) : Int)) <|
  loopW (Int × Unit) ((0 : Int), ()) fun (y15 : Int × Unit) (I14 : (Int × Unit) → WP) =>
  splitW (decide (y15.1 < (((n0 - (Int.toNat (1 : Int))) : Nat) : Int))) (guardW (0 ≤ y15.1 ∧ y15.1 < (((n0 - (Int.toNat (1 : Int))) : Nat) : Int)) <|
  ptrW (cutAddr a0 (Int.toNat (1 : Int)) c0 1) fun (p16 : Addr) =>
  ldW .str (p16.add (Int.toNat y15.1 * 1)) fun (u17 : ByteArray) =>
  callW Tryd.prog 55 [(.pointer (some (⟨r9, 0, none⟩ : Addr))), (.string x1)] (.many [(.one (.int .i64)), (.one .any)]) fun (u18 : Int × Value × Unit) =>
  callW Tryd.prog 55 [(.pointer (some (⟨r9, 0, none⟩ : Addr))), (.string u17)] (.many [(.one (.int .i64)), (.one .any)]) fun (u19 : Int × Value × Unit) => I14 ((IntKind.wrap .i64 (y15.1 + (1 : Int))), ())) <|
  callW Tryd.prog 57 [(.pointer (some (⟨r9, 0, none⟩ : Addr)))] (.one (.one .str)) fun (u20 : ByteArray) => K (.string u20)
theorem eq48 (a0 : Option Addr) (n0 c0 : Nat) (x1 : ByteArray) (K : Value → WP) : bodyW Tryd.prog Tryd.f48 an48 false [(.slice a0 n0 c0), (.string x1)] K = S48 a0 n0 c0 x1 K := by kernel_rfl
theorem calls48 (a0 : Option Addr) (n0 c0 : Nat) (x1 : ByteArray) {K : Value → WP} {w : World} (h : S48 a0 n0 c0 x1 K w) : Calls Tryd.prog 48 #[(.slice a0 n0 c0), (.string x1)] w (Ret K) := callsR_of_bodyW mixed Tryd.func48 (of_decide_eq_true (by kernel_rfl)) (by rw [eq48]; exact h)

/-- math/bits.Len32 -/
def an49 : Ann := (.seq .nil (.seq (.seq .nil (.cond (.seq .nil .nil) .nil)) (.seq (.seq .nil (.cond (.seq .nil .nil) .nil)) (.seq .nil .nil))))
def S49 (x0 : Int) (K : Value → WP) : WP := 
  splitW (decide (x0 ≥ (65536 : Int))) (splitW (decide ((ishr .u32 x0 (16 : Int)) ≥ (256 : Int))) (guardW (0 ≤ (IntKind.wrap .u8 (ishr .u32 (ishr .u32 x0 (16 : Int)) (8 : Int))) ∧ (IntKind.wrap .u8 (ishr .u32 (ishr .u32 x0 (16 : Int)) (8 : Int))) < (((ByteArray.mk #[0, 1, 2, 2, 3, 3, 3, 3, 4, 4, 4, 4, 4, 4, 4, 4, 5, 5, 5, 5, 5, 5, 5, 5, 5, 5, 5, 5, 5, 5, 5, 5, 6, 6, 6, 6, 6, 6, 6, 6, 6, 6, 6, 6, 6, 6, 6, 6, 6, 6, 6, 6, 6, 6, 6, 6, 6, 6, 6, 6, 6, 6, 6, 6, 7, 7, 7, 7, 7, 7, 7, 7, 7, 7, 7, 7, 7, 7, 7, 7, 7, 7, 7, 7, 7, 7, 7, 7, 7, 7, 7, 7, 7, 7, 7, 7, 7, 7, 7, 7, 7, 7, 7, 7, 7, 7, 7, 7, 7, 7, 7, 7, 7, 7, 7, 7, 7, 7, 7, 7, 7, 7, 7, 7, 7, 7, 7, 7, 8, 8, 8, 8, 8, 8, 8, 8, 8, 8, 8, 8, 8, 8, 8, 8, 8, 8, 8, 8, 8, 8, 8, 8, 8, 8, 8, 8, 8, 8, 8, 8, 8, 8, 8, 8, 8, 8, 8, 8, 8, 8, 8, 8, 8, 8, 8, 8, 8, 8, 8, 8, 8, 8, 8, 8, 8, 8, 8, 8, 8, 8, 8, 8, 8, 8, 8, 8, 8, 8, 8, 8, 8, 8, 8, 8, 8, 8, 8, 8, 8, 8, 8, 8, 8, 8, 8, 8, 8, 8, 8, 8, 8, 8, 8, 8, 8, 8, 8, 8, 8, 8, 8, 8, 8, 8, 8, 8, 8, 8, 8, 8, 8, 8, 8, 8, 8, 8, 8, 8, 8, 8, 8, 8, 8, 8, 8, 8]).size : Nat) : Int)) <| K (.int .i64 (IntKind.wrap .i64 ((IntKind.wrap .i64 ((16 : Int) + (8 : Int))) + (IntKind.wrap .i64 (bt (ByteArray.mk #[0, 1, 2, 2, 3, 3, 3, 3, 4, 4, 4, 4, 4, 4, 4, 4, 5, 5, 5, 5, 5, 5, 5, 5, 5, 5, 5, 5, 5, 5, 5, 5, 6, 6, 6, 6, 6, 6, 6, 6, 6, 6, 6, 6, 6, 6, 6, 6, 6, 6, 6, 6, 6, 6, 6, 6, 6, 6, 6, 6, 6, 6, 6, 6, 7, 7, 7, 7, 7, 7, 7, 7, 7, 7, 7, 7, 7, 7, 7, 7, 7, 7, 7, 7, 7, 7, 7, 7, 7, 7, 7, 7, 7, 7, 7, 7, 7, 7, 7, 7, 7, 7, 7, 7, 7, 7, 7, 7, 7, 7, 7, 7, 7, 7, 7, 7, 7, 7, 7, 7, 7, 7, 7, 7, 7, 7, 7, 7, 8, 8, 8, 8, 8, 8, 8, 8, 8, 8, 8, 8, 8, 8, 8, 8, 8, 8, 8, 8, 8, 8, 8, 8, 8, 8, 8, 8, 8, 8, 8, 8, 8, 8, 8, 8, 8, 8, 8, 8, 8, 8, 8, 8, 8, 8, 8, 8, 8, 8, 8, 8, 8, 8, 8, 8, 8, 8, 8, 8, 8, 8, 8, 8, 8, 8, 8, 8, 8, 8, 8, 8, 8, 8, 8, 8, 8, 8, 8, 8, 8, 8, 8, 8, 8, 8, 8, 8, 8, 8, 8, 8, 8, 8, 8, 8, 8, 8, 8, 8, 8, 8, 8, 8, 8, 8, 8, 8, 8, 8, 8, 8, 8, 8, 8, 8, 8, 8, 8, 8, 8, 8, 8, 8, 8, 8, 8, 8]) (IntKind.wrap .u8 (ishr .u32 (ishr .u32 x0 (16 : Int)) (8 : Int))))))))) <|
  guardW (0 ≤ (IntKind.wrap .u8 (ishr .u32 x0 (16 : Int))) ∧ (IntKind.wrap .u8 (ishr .u32 x0 (16 : Int))) < (((ByteArray.mk #[0, 1, 2, 2, 3, 3, 3, 3, 4, 4, 4, 4, 4, 4, 4, 4, 5, 5, 5, 5, 5, 5, 5, 5, 5, 5, 5, 5, 5, 5, 5, 5, 6, 6, 6, 6, 6, 6, 6, 6, 6, 6, 6, 6, 6, 6, 6, 6, 6, 6, 6, 6, 6, 6, 6, 6, 6, 6, 6, 6, 6, 6, 6, 6, 7, 7, 7, 7, 7, 7, 7, 7, 7, 7, 7, 7, 7, 7, 7, 7, 7, 7, 7, 7, 7, 7, 7, 7, 7, 7, 7, 7, 7, 7, 7, 7, 7, 7, 7, 7, 7, 7, 7, 7, 7, 7, 7, 7, 7, 7, 7, 7, 7, 7, 7, 7, 7, 7, 7, 7, 7, 7, 7, 7, 7, 7, 7, 7, 8, 8, 8, 8, 8, 8, 8, 8, 8, 8, 8, 8, 8, 8, 8, 8, 8, 8, 8, 8, 8, 8, 8, 8, 8, 8, 8, 8, 8, 8, 8, 8, 8, 8, 8, 8, 8, 8, 8, 8, 8, 8, 8, 8, 8, 8, 8, 8, 8, 8, 8, 8, 8, 8, 8, 8, 8, 8, 8, 8, 8, 8, 8, 8, 8, 8, 8, 8, 8, 8, 8, 8, 8, 8, 8, 8, 8, 8, 8, 8, 8, 8, 8, 8, 8, 8, 8, 8, 8, 8, 8, 8, 8, 8, 8, 8, 8, 8, 8, 8, 8, 8, 8, 8, 8, 8, 8, 8, 8, 8, 8, 8, 8, 8, 8, 8, 8, 8, 8, 8, 8, 8, 8, 8, 8, 8, 8, 8]).size : Nat) : Int)) <| K (.int .i64 (IntKind.wrap .i64 ((16 : Int) + (IntKind.wrap .i64 (bt (ByteArray.mk #[0, 1, 2, 2, 3, 3, 3, 3, 4, 4, 4, 4, 4, 4, 4, 4, 5, 5, 5, 5, 5, 5, 5, 5, 5, 5, 5, 5, 5, 5, 5, 5, 6, 6, 6, 6, 6, 6, 6, 6, 6, 6, 6, 6, 6, 6, 6, 6, 6, 6, 6, 6, 6, 6, 6, 6, 6, 6, 6, 6, 6, 6, 6, 6, 7, 7, 7, 7, 7, 7, 7, 7, 7, 7, 7, 7, 7, 7, 7, 7, 7, 7, 7, 7, 7, 7, 7, 7, 7, 7, 7, 7, 7, 7, 7, 7, 7, 7, 7, 7, 7, 7, 7, 7, 7, 7, 7, 7, 7, 7, 7, 7, 7, 7, 7, 7, 7, 7, 7, 7, 7, 7, 7, 7, 7, 7, 7, 7, 8, 8, 8, 8, 8, 8, 8, 8, 8, 8, 8, 8, 8, 8, 8, 8, 8, 8, 8, 8, 8, 8, 8, 8, 8, 8, 8, 8, 8, 8, 8, 8, 8, 8, 8, 8, 8, 8, 8, 8, 8, 8, 8, 8, 8, 8, 8, 8, 8, 8, 8, 8, 8, 8, 8, 8, 8, 8, 8, 8, 8, 8, 8, 8, 8, 8, 8, 8, 8, 8, 8, 8, 8, 8, 8, 8, 8, 8, 8, 8, 8, 8, 8, 8, 8, 8, 8, 8, 8, 8, 8, 8, 8, 8, 8, 8, 8, 8, 8, 8, 8, 8, 8, 8, 8, 8, 8, 8, 8, 8, 8, 8, 8, 8, 8, 8, 8, 8, 8, 8, 8, 8, 8, 8, 8, 8, 8, 8]) (IntKind.wrap .u8 (ishr .u32 x0 (16 : Int))))))))) <|
  splitW (decide (x0 ≥ (256 : Int))) (guardW (0 ≤ (IntKind.wrap .u8 (ishr .u32 x0 (8 : Int))) ∧ (IntKind.wrap .u8 (ishr .u32 x0 (8 : Int))) < (((ByteArray.mk #[0, 1, 2, 2, 3, 3, 3, 3, 4, 4, 4, 4, 4, 4, 4, 4, 5, 5, 5, 5, 5, 5, 5, 5, 5, 5, 5, 5, 5, 5, 5, 5, 6, 6, 6, 6, 6, 6, 6, 6, 6, 6, 6, 6, 6, 6, 6, 6, 6, 6, 6, 6, 6, 6, 6, 6, 6, 6, 6, 6, 6, 6, 6, 6, 7, 7, 7, 7, 7, 7, 7, 7, 7, 7, 7, 7, 7, 7, 7, 7, 7, 7, 7, 7, 7, 7, 7, 7, 7, 7, 7, 7, 7, 7, 7, 7, 7, 7, 7, 7, 7, 7, 7, 7, 7, 7, 7, 7, 7, 7, 7, 7, 7, 7, 7, 7, 7, 7, 7, 7, 7, 7, 7, 7, 7, 7, 7, 7, 8, 8, 8, 8, 8, 8, 8, 8, 8, 8, 8, 8, 8, 8, 8, 8, 8, 8, 8, 8, 8, 8, 8, 8, 8, 8, 8, 8, 8, 8, 8, 8, 8, 8, 8, 8, 8, 8, 8, 8, 8, 8, 8, 8, 8, 8, 8, 8, 8, 8, 8, 8, 8, 8, 8, 8, 8, 8, 8, 8, 8, 8, 8, 8, 8, 8, 8, 8, 8, 8, 8, 8, 8, 8, 8, 8, 8, 8, 8, 8, 8, 8, 8, 8, 8, 8, 8, 8, 8, 8, 8, 8, 8, 8, 8, 8, 8, 8, 8, 8, 8, 8, 8, 8, 8, 8, 8, 8, 8, 8, 8, 8, 8, 8, 8, 8, 8, 8, 8, 8, 8, 8, 8, 8, 8, 8, 8, 8]).size : Nat) : Int)) <| K (.int .i64 (IntKind.wrap .i64 ((IntKind.wrap .i64 ((0 : Int) + (8 : Int))) + (IntKind.wrap .i64 (bt (ByteArray.mk #[0, 1, 2, 2, 3, 3, 3, 3, 4, 4, 4, 4, 4, 4, 4, 4, 5, 5, 5, 5, 5, 5, 5, 5, 5, 5, 5, 5, 5, 5, 5, 5, 6, 6, 6, 6, 6, 6, 6, 6, 6, 6, 6, 6, 6, 6, 6, 6, 6, 6, 6, 6, 6, 6, 6, 6, 6, 6, 6, 6, 6, 6, 6, 6, 7, 7, 7, 7, 7, 7, 7, 7, 7, 7, 7, 7, 7, 7, 7, 7, 7, 7, 7, 7, 7, 7, 7, 7, 7, 7, 7, 7, 7, 7, 7, 7, 7, 7, 7, 7, 7, 7, 7, 7, 7, 7, 7, 7, 7, 7, 7, 7, 7, 7, 7, 7, 7, 7, 7, 7, 7, 7, 7, 7, 7, 7, 7, 7, 8, 8, 8, 8, 8, 8, 8, 8, 8, 8, 8, 8, 8, 8, 8, 8, 8, 8, 8, 8, 8, 8, 8, 8, 8, 8, 8, 8, 8, 8, 8, 8, 8, 8, 8, 8, 8, 8, 8, 8, 8, 8, 8, 8, 8, 8, 8, 8, 8, 8, 8, 8, 8, 8, 8, 8, 8, 8, 8, 8, 8, 8, 8, 8, 8, 8, 8, 8, 8, 8, 8, 8, 8, 8, 8, 8, 8, 8, 8, 8, 8, 8, 8, 8, 8, 8, 8, 8, 8, 8, 8, 8, 8, 8, 8, 8, 8, 8, 8, 8, 8, 8, 8, 8, 8, 8, 8, 8, 8, 8, 8, 8, 8, 8, 8, 8, 8, 8, 8, 8, 8, 8, 8, 8, 8, 8, 8, 8]) (IntKind.wrap .u8 (ishr .u32 x0 (8 : Int))))))))) <|
  guardW (0 ≤ (IntKind.wrap .u8 x0) ∧ (IntKind.wrap .u8 x0) < (((ByteArray.mk #[0, 1, 2, 2, 3, 3, 3, 3, 4, 4, 4, 4, 4, 4, 4, 4, 5, 5, 5, 5, 5, 5, 5, 5, 5, 5, 5, 5, 5, 5, 5, 5, 6, 6, 6, 6, 6, 6, 6, 6, 6, 6, 6, 6, 6, 6, 6, 6, 6, 6, 6, 6, 6, 6, 6, 6, 6, 6, 6, 6, 6, 6, 6, 6, 7, 7, 7, 7, 7, 7, 7, 7, 7, 7, 7, 7, 7, 7, 7, 7, 7, 7, 7, 7, 7, 7, 7, 7, 7, 7, 7, 7, 7, 7, 7, 7, 7, 7, 7, 7, 7, 7, 7, 7, 7, 7, 7, 7, 7, 7, 7, 7, 7, 7, 7, 7, 7, 7, 7, 7, 7, 7, 7, 7, 7, 7, 7, 7, 8, 8, 8, 8, 8, 8, 8, 8, 8, 8, 8, 8, 8, 8, 8, 8, 8, 8, 8, 8, 8, 8, 8, 8, 8, 8, 8, 8, 8, 8, 8, 8, 8, 8, 8, 8, 8, 8, 8, 8, 8, 8, 8, 8, 8, 8, 8, 8, 8, 8, 8, 8, 8, 8, 8, 8, 8, 8, 8, 8, 8, 8, 8, 8, 8, 8, 8, 8, 8, 8, 8, 8, 8, 8, 8, 8, 8, 8, 8, 8, 8, 8, 8, 8, 8, 8, 8, 8, 8, 8, 8, 8, 8, 8, 8, 8, 8, 8, 8, 8, 8, 8, 8, 8, 8, 8, 8, 8, 8, 8, 8, 8, 8, 8, 8, 8, 8, 8, 8, 8, 8, 8, 8, 8, 8, 8, 8, 8]).size : Nat) : Int)) <| K (.int .i64 (IntKind.wrap .i64 ((0 : Int) + (IntKind.wrap .i64 (bt (ByteArray.mk #[0, 1, 2, 2, 3, 3, 3, 3, 4, 4, 4, 4, 4, 4, 4, 4, 5, 5, 5, 5, 5, 5, 5, 5, 5, 5, 5, 5, 5, 5, 5, 5, 6, 6, 6, 6, 6, 6, 6, 6, 6, 6, 6, 6, 6, 6, 6, 6, 6, 6, 6, 6, 6, 6, 6, 6, 6, 6, 6, 6, 6, 6, 6, 6, 7, 7, 7, 7, 7, 7, 7, 7, 7, 7, 7, 7, 7, 7, 7, 7, 7, 7, 7, 7, 7, 7, 7, 7, 7, 7, 7, 7, 7, 7, 7, 7, 7, 7, 7, 7, 7, 7, 7, 7, 7, 7, 7, 7, 7, 7, 7, 7, 7, 7, 7, 7, 7, 7, 7, 7, 7, 7, 7, 7, 7, 7, 7, 7, 8, 8, 8, 8, 8, 8, 8, 8, 8, 8, 8, 8, 8, 8, 8, 8, 8, 8, 8, 8, 8, 8, 8, 8, 8, 8, 8, 8, 8, 8, 8, 8, 8, 8, 8, 8, 8, 8, 8, 8, 8, 8, 8, 8, 8, 8, 8, 8, 8, 8, 8, 8, 8, 8, 8, 8, 8, 8, 8, 8, 8, 8, 8, 8, 8, 8, 8, 8, 8, 8, 8, 8, 8, 8, 8, 8, 8, 8, 8, 8, 8, 8, 8, 8, 8, 8, 8, 8, 8, 8, 8, 8, 8, 8, 8, 8, 8, 8, 8, 8, 8, 8, 8, 8, 8, 8, 8, 8, 8, 8, 8, 8, 8, 8, 8, 8, 8, 8, 8, 8, 8, 8, 8, 8, 8, 8, 8, 8]) (IntKind.wrap .u8 x0))))))
theorem eq49 (x0 : Int) (K : Value → WP) : bodyW Tryd.prog Tryd.f49 an49 false [(.int .u32 x0)] K = S49 x0 K := by kernel_rfl
theorem calls49 (x0 : Int) {K : Value → WP} {w : World} (h : S49 x0 K w) : Calls Tryd.prog 49 #[(.int .u32 x0)] w (Ret K) := callsR_of_bodyW mixed Tryd.func49 (of_decide_eq_true (by kernel_rfl)) (by rw [eq49]; exact h)

/-- shadowbook/crc.Flip -/
def an50 : Ann := (.seq .nil (.seq .nil (.join [(9, .sh (.one .slc))] [1, 2, 3, 1000000] (.seq .nil (.cond .nil .nil)) (.seq (.seq .nil (.cond (.seq .nil .nil) .nil)) (.seq (.seq .nil (.block (.loop [(29, .sh (.one (.int .i64)))] [1, 3, 9, 28, 1000000] (.seq .nil (.seq (.cond .nil .nil) (.seq (.block (.seq .nil (.seq .nil (.seq (.seq .nil (.cond .nil .nil)) .nil)))) .nil)))))) (.seq .nil .nil))))))
def S50 (a0 : Option Addr) (n0 c0 : Nat) (x1 : Int) (x2 : Int) (x3 : Int) (K : Value → WP) : WP := 
  callW Tryd.prog 61 [(.slice a0 n0 c0)] (.one (.one .slc)) fun (u1 : (Option Addr × Nat × Nat)) =>
  joinW ((Option Addr × Nat × Nat) × Unit) (fun (J2 : ((Option Addr × Nat × Nat) × Unit) → WP) =>
  splitW (Option.isNone u1.1) (newW (.cells #[] 5) fun (r4 : Nat) => J2 (((some (⟨r4, 0, none⟩ : Addr)), 0, 0), ())) <| J2 ((u1.1, u1.2.1, u1.2.2), ())) fun (y3 : (Option Addr × Nat × Nat) × Unit) =>
  splitW (decide (x1 < (0 : Int))) (K (.slice y3.1.1 y3.1.2.1 y3.1.2.2)) <|
  splitW (decide (x2 < (0 : Int))) (K (.slice y3.1.1 y3.1.2.1 y3.1.2.2)) <|
  splitW (decide (x2 > (32 : Int))) (K (.slice y3.1.1 y3.1.2.1 y3.1.2.2)) <|
  loopW (Int × Unit) ((0 : Int), ()) fun (y6 : Int × Unit) (I5 : (Int × Unit) → WP) =>
  splitW (decide (y6.1 < x2)) (splitW (decide ((IntKind.wrap .i64 ((IntKind.wrap .i64 (Int.tdiv x1 (8 : Int))) + (IntKind.wrap .i64 (Int.tdiv (IntKind.wrap .i64 ((Int.tmod x1 (8 : Int)) + y6.1)) (8 : Int))))) ≥ ((y3.1.2.1 : Nat) : Int))) (K (.slice y3.1.1 y3.1.2.1 y3.1.2.2)) <|
  drewW <|
  guardW (0 ≤ (IntKind.wrap .i64 ((IntKind.wrap .i64 (Int.tdiv x1 (8 : Int))) + (IntKind.wrap .i64 (Int.tdiv (IntKind.wrap .i64 ((Int.tmod x1 (8 : Int)) + y6.1)) (8 : Int))))) ∧ (IntKind.wrap .i64 ((IntKind.wrap .i64 (Int.tdiv x1 (8 : Int))) + (IntKind.wrap .i64 (Int.tdiv (IntKind.wrap .i64 ((Int.tmod x1 (8 : Int)) + y6.1)) (8 : Int))))) < ((y3.1.2.1 : Nat) : Int)) <|
  ptrW y3.1.1 fun (p7 : Addr) =>
  ldW (.int .u8) (p7.add (Int.toNat (IntKind.wrap .i64 ((IntKind.wrap .i64 (Int.tdiv x1 (8 : Int))) + (IntKind.wrap .i64 (Int.tdiv (IntKind.wrap .i64 ((Int.tmod x1 (8 : Int)) + y6.1)) (8 : Int))))) * 1)) fun (u8 : Int) =>
  guardW (0 ≤ y6.1) <|
  guardW (0 ≤ (Int.tmod (IntKind.wrap .i64 (x1 + y6.1)) (8 : Int))) <|
  guardW (0 ≤ (IntKind.wrap .i64 ((IntKind.wrap .i64 (Int.tdiv x1 (8 : Int))) + (IntKind.wrap .i64 (Int.tdiv (IntKind.wrap .i64 ((Int.tmod x1 (8 : Int)) + y6.1)) (8 : Int))))) ∧ (IntKind.wrap .i64 ((IntKind.wrap .i64 (Int.tdiv x1 (8 : Int))) + (IntKind.wrap .i64 (Int.tdiv (IntKind.wrap .i64 ((Int.tmod x1 (8 : Int)) + y6.1)) (8 : Int))))) < ((y3.1.2.1 : Nat) : Int)) <|
  ptrW y3.1.1 fun (p9 : Addr) =>
  stW (p9.add (Int.toNat (IntKind.wrap .i64 ((IntKind.wrap .i64 (Int.tdiv x1 (8 : Int))) + (IntKind.wrap .i64 (Int.tdiv (IntKind.wrap .i64 ((Int.tmod x1 (8 : Int)) + y6.1)) (8 : Int))))) * 1)) (.int .u8 (ixor .u8 u8 (ishl .u8 (IntKind.wrap .u8 (iand .u32 (ishr .u32 x3 y6.1) (1 : Int))) (Int.tmod (IntKind.wrap .i64 (x1 + y6.1)) (8 : Int))))) <| I5 ((IntKind.wrap .i64 (y6.1 + (1 : Int))), ())) <| K (.slice y3.1.1 y3.1.2.1 y3.1.2.2)
theorem eq50 (a0 : Option Addr) (n0 c0 : Nat) (x1 : Int) (x2 : Int) (x3 : Int) (K : Value → WP) : bodyW Tryd.prog Tryd.f50 an50 false [(.slice a0 n0 c0), (.int .i64 x1), (.int .i64 x2), (.int .u32 x3)] K = S50 a0 n0 c0 x1 x2 x3 K := by kernel_rfl
theorem calls50 (a0 : Option Addr) (n0 c0 : Nat) (x1 : Int) (x2 : Int) (x3 : Int) {K : Value → WP} {w : World} (h : S50 a0 n0 c0 x1 x2 x3 K w) : Calls Tryd.prog 50 #[(.slice a0 n0 c0), (.int .i64 x1), (.int .i64 x2), (.int .u32 x3)] w (Ret K) := callsR_of_bodyW mixed Tryd.func50 (of_decide_eq_true (by kernel_rfl)) (by rw [eq50]; exact h)

/-- (*shadowbook/shadowbookref03.Device).burn -/
def an51 : Ann := (.seq .nil (.seq (.seq .nil (.cond (.seq .nil .nil) .nil)) (.seq (.seq .nil (.cond .nil .nil)) (.seq .nil (.seq .nil .nil)))))
def S51 (x0 : Option Addr) (K : Value → WP) : WP := 
  ptrW x0 fun (p1 : Addr) =>
  ldW (.int .i64) (p1.add 5) fun (u2 : Int) =>
  splitW (u2 == (0 : Int)) (K (.bool false)) <|
  ptrW x0 fun (p3 : Addr) =>
  ldW (.int .i64) (p3.add 5) fun (u4 : Int) =>
  splitW (decide (u4 > (0 : Int))) (ptrW x0 fun (p5 : Addr) =>
  ldW (.int .i64) (p5.add 5) fun (u6 : Int) =>
  ptrW x0 fun (p7 : Addr) =>
  stW (p7.add 5) (.int .i64 (IntKind.wrap .i64 (u6 - (1 : Int)))) <|
  ptrW x0 fun (p8 : Addr) =>
  ldW (.int .i64) (p8.add 4) fun (u9 : Int) =>
  ptrW x0 fun (p10 : Addr) =>
  stW (p10.add 4) (.int .i64 (IntKind.wrap .i64 (u9 + (1 : Int)))) <| K (.bool true)) <|
  ptrW x0 fun (p11 : Addr) =>
  ldW (.int .i64) (p11.add 4) fun (u12 : Int) =>
  ptrW x0 fun (p13 : Addr) =>
  stW (p13.add 4) (.int .i64 (IntKind.wrap .i64 (u12 + (1 : Int)))) <| K (.bool true)
theorem eq51 (x0 : Option Addr) (K : Value → WP) : bodyW Tryd.prog Tryd.f51 an51 false [(.pointer x0)] K = S51 x0 K := by kernel_rfl
theorem calls51 (x0 : Option Addr) {K : Value → WP} {w : World} (h : S51 x0 K w) : Calls Tryd.prog 51 #[(.pointer x0)] w (Ret K) := callsR_of_bodyW mixed Tryd.func51 (of_decide_eq_true (by kernel_rfl)) (by rw [eq51]; exact h)

/-- math/bits.Mul -/
def an52 : Ann := (.seq .nil (.seq (.cond .nil .nil) (.seq .nil (.seq .nil .nil))))
def S52 (x0 : Int) (x1 : Int) (K : Value → WP) : WP := 
  callW Tryd.prog 63 [(.int .u64 x0), (.int .u64 x1)] (.many [(.one (.int .u64)), (.one (.int .u64))]) fun (u1 : Int × Int × Unit) => K (.tuple #[(.int .u64 u1.1), (.int .u64 u1.2.1)])
theorem eq52 (x0 : Int) (x1 : Int) (K : Value → WP) : bodyW Tryd.prog Tryd.f52 an52 false [(.int .u64 x0), (.int .u64 x1)] K = S52 x0 x1 K := by kernel_rfl
theorem calls52 (x0 : Int) (x1 : Int) {K : Value → WP} {w : World} (h : S52 x0 x1 K w) : Calls Tryd.prog 52 #[(.int .u64 x0), (.int .u64 x1)] w (Ret K) := callsR_of_bodyW mixed Tryd.func52 (of_decide_eq_true (by kernel_rfl)) (by rw [eq52]; exact h)

/-- strings.HasPrefix -/
def an53 : Ann := (.seq .nil (.seq .nil .nil))
def S53 (x0 : ByteArray) (x1 : ByteArray) (K : Value → WP) : WP := 
  callW Tryd.prog 64 [(.string x0), (.string x1)] (.one (.one .bool)) fun (u1 : Bool) => K (.bool u1)
theorem eq53 (x0 : ByteArray) (x1 : ByteArray) (K : Value → WP) : bodyW Tryd.prog Tryd.f53 an53 false [(.string x0), (.string x1)] K = S53 x0 x1 K := by kernel_rfl
theorem calls53 (x0 : ByteArray) (x1 : ByteArray) {K : Value → WP} {w : World} (h : S53 x0 x1 K w) : Calls Tryd.prog 53 #[(.string x0), (.string x1)] w (Ret K) := callsR_of_bodyW mixed Tryd.func53 (of_decide_eq_true (by kernel_rfl)) (by rw [eq53]; exact h)

/-- (*strings.Builder).Grow -/
def an54 : Ann := (.seq .nil (.join [] [0, 1, 1000000] (.seq .nil (.cond .nil .nil)) (.seq .nil (.cond .nil .nil))))
def S54 (x0 : Option Addr) (x1 : Int) (K : Value → WP) : WP := 
  callW Tryd.prog 65 [(.pointer x0)] .none fun (u1 : Unit) =>
  joinW (Unit) (fun (J2 : (Unit) → WP) =>
  splitW (decide (x1 < (0 : Int))) (FalseW) <| J2 ()) fun (y3 : Unit) =>
  drewW <|
  ptrW x0 fun (p4 : Addr) =>
  ldW .slc (p4.add 1) fun (u5 : (Option Addr × Nat × Nat)) =>
  ptrW x0 fun (p6 : Addr) =>
  ldW .slc (p6.add 1) fun (u7 : (Option Addr × Nat × Nat)) =>
  splitW (decide ((IntKind.wrap .i64 (((u5.2.2 : Nat) : Int) - ((u7.2.1 : Nat) : Int))) < x1)) (callW Tryd.prog 66 [(.pointer x0), (.int .i64 x1)] .none fun (u8 : Unit) => K (.tuple #[])) <| K (.tuple #[])
theorem eq54 (x0 : Option Addr) (x1 : Int) (K : Value → WP) : bodyW Tryd.prog Tryd.f54 an54 false [(.pointer x0), (.int .i64 x1)] K = S54 x0 x1 K := by kernel_rfl
theorem calls54 (x0 : Option Addr) (x1 : Int) {K : Value → WP} {w : World} (h : S54 x0 x1 K w) : Calls Tryd.prog 54 #[(.pointer x0), (.int .i64 x1)] w (Ret K) := callsR_of_bodyW mixed Tryd.func54 (of_decide_eq_true (by kernel_rfl)) (by rw [eq54]; exact h)

/-- (*strings.Builder).WriteString -/
def an55 : Ann := (.seq .nil (.seq .nil (.seq .nil (.seq .nil .nil))))
def S55 (x0 : Option Addr) (x1 : ByteArray) (K : Value → WP) : WP := 
  callW Tryd.prog 65 [(.pointer x0)] .none fun (u1 : Unit) =>
  ptrW x0 fun (p2 : Addr) =>
  ldW .slc (p2.add 1) fun (u3 : (Option Addr × Nat × Nat)) =>
  runW Tryd.prog (Builtin.append_ #[62, 9] 62 #[(.slice u3.1 u3.2.1 u3.2.2), (.string x1)]) .slc fun (u4 : (Option Addr × Nat × Nat)) =>
  ptrW x0 fun (p5 : Addr) =>
  stW (p5.add 1) (.slice u4.1 u4.2.1 u4.2.2) <| K (.tuple #[(.int .i64 ((x1.size : Nat) : Int)), .nilIface])
theorem eq55 (x0 : Option Addr) (x1 : ByteArray) (K : Value → WP) : bodyW Tryd.prog Tryd.f55 an55 false [(.pointer x0), (.string x1)] K = S55 x0 x1 K := by kernel_rfl
theorem calls55 (x0 : Option Addr) (x1 : ByteArray) {K : Value → WP} {w : World} (h : S55 x0 x1 K w) : Calls Tryd.prog 55 #[(.pointer x0), (.string x1)] w (Ret K) := callsR_of_bodyW mixed Tryd.func55 (of_decide_eq_true (by kernel_rfl)) (by rw [eq55]; exact h)

/-- (*strings.Builder).Len -/
def an56 : Ann := (.seq .nil (.seq .nil .nil))
def S56 (x0 : Option Addr) (K : Value → WP) : WP := 
  ptrW x0 fun (p1 : Addr) =>
  ldW .slc (p1.add 1) fun (u2 : (Option Addr × Nat × Nat)) => K (.int .i64 ((u2.2.1 : Nat) : Int))
theorem eq56 (x0 : Option Addr) (K : Value → WP) : bodyW Tryd.prog Tryd.f56 an56 false [(.pointer x0)] K = S56 x0 K := by kernel_rfl
theorem calls56 (x0 : Option Addr) {K : Value → WP} {w : World} (h : S56 x0 K w) : Calls Tryd.prog 56 #[(.pointer x0)] w (Ret K) := callsR_of_bodyW mixed Tryd.func56 (of_decide_eq_true (by kernel_rfl)) (by rw [eq56]; exact h)

/-- shadowbook/device.sectors$1 -/
def an58 : Ann := (.block (.loop [] [0, 1, 1000000] (.seq (.seq .nil (.cond .nil .nil)) (.seq (.block (.seq .nil (.cond .nil .nil))) .nil))))
def S58 (x0 : Value) (a1 : Addr) (K : Value → WP) : WP := 
  loopW (Unit) () fun (y2 : Unit) (I1 : (Unit) → WP) =>
  ldW (.int .u64) a1 fun (u3 : Int) =>
  splitW (u3 != (0 : Int)) (ldW (.int .u64) a1 fun (u4 : Int) =>
  callW Tryd.prog 59 [(.int .u64 u4)] (.one (.one (.int .i64))) fun (u5 : Int) =>
  callVW Tryd.prog x0 [(.int .i64 u5)] (.one (.one .bool)) fun (u6 : Bool) =>
  splitW (!u6) (K (.tuple #[])) <|
  ldW (.int .u64) a1 fun (u7 : Int) =>
  ldW (.int .u64) a1 fun (u8 : Int) =>
  stW a1 (.int .u64 (iand .u64 u7 (IntKind.wrap .u64 (u8 - (1 : Int))))) <| I1 ()) <| K (.tuple #[])
theorem eq58 (x0 : Value) (a1 : Addr) (K : Value → WP) : bodyW Tryd.prog Tryd.f58 an58 false [x0, (.pointer (some a1))] K = S58 x0 a1 K := by kernel_rfl
theorem calls58 (x0 : Value) (a1 : Addr) {K : Value → WP} {w : World} (h : S58 x0 a1 K w) : Calls Tryd.prog 58 #[x0, (.pointer (some a1))] w (Ret K) := callsR_of_bodyW mixed Tryd.func58 (of_decide_eq_true (by kernel_rfl)) (by rw [eq58]; exact h)

/-- math/bits.TrailingZeros64 -/
def an59 : Ann := (.seq .nil (.seq (.seq .nil (.cond (.seq .nil .nil) .nil)) (.seq .nil .nil)))
def S59 (x0 : Int) (K : Value → WP) : WP := 
  splitW (x0 == (0 : Int)) (K (.int .i64 (64 : Int))) <|
  guardW (0 ≤ (ishr .u64 (IntKind.wrap .u64 ((iand .u64 x0 (IntKind.wrap .u64 (0 - x0))) * (285870213051353865 : Int))) (58 : Int)) ∧ (ishr .u64 (IntKind.wrap .u64 ((iand .u64 x0 (IntKind.wrap .u64 (0 - x0))) * (285870213051353865 : Int))) (58 : Int)) < ((64 : Nat) : Int)) <|
  ldW (.int .u8) ((⟨0, 0, none⟩ : Addr).add (Int.toNat (ishr .u64 (IntKind.wrap .u64 ((iand .u64 x0 (IntKind.wrap .u64 (0 - x0))) * (285870213051353865 : Int))) (58 : Int)) * 1)) fun (u1 : Int) => K (.int .i64 (IntKind.wrap .i64 u1))
theorem eq59 (x0 : Int) (K : Value → WP) : bodyW Tryd.prog Tryd.f59 an59 false [(.int .u64 x0)] K = S59 x0 K := by kernel_rfl
theorem calls59 (x0 : Int) {K : Value → WP} {w : World} (h : S59 x0 K w) : Calls Tryd.prog 59 #[(.int .u64 x0)] w (Ret K) := callsR_of_bodyW mixed Tryd.func59 (of_decide_eq_true (by kernel_rfl)) (by rw [eq59]; exact h)

/-- slices.Backward[[]shadowbook/api.Write,shadowbook/api.Write] -/
def an60 : Ann := (.seq .nil (.seq .nil .nil))
def S60 (a0 : Option Addr) (n0 c0 : Nat) (K : Value → WP) : WP := 
  newW (.cells #[(.slice a0 n0 c0)] 40) fun (r1 : Nat) => K (.func (.func 67) #[] #[(.pointer (some (⟨r1, 0, none⟩ : Addr)))])
theorem eq60 (a0 : Option Addr) (n0 c0 : Nat) (K : Value → WP) : bodyW Tryd.prog Tryd.f60 an60 false [(.slice a0 n0 c0)] K = S60 a0 n0 c0 K := by kernel_rfl
theorem calls60 (a0 : Option Addr) (n0 c0 : Nat) {K : Value → WP} {w : World} (h : S60 a0 n0 c0 K w) : Calls Tryd.prog 60 #[(.slice a0 n0 c0)] w (Ret K) := callsR_of_bodyW mixed Tryd.func60 (of_decide_eq_true (by kernel_rfl)) (by rw [eq60]; exact h)

/-- slices.Clone[[]byte,byte] -/
def an61 : Ann := (.seq .nil (.seq (.seq .nil (.cond (.seq .nil .nil) .nil)) (.seq .nil .nil)))
def S61 (a0 : Option Addr) (n0 c0 : Nat) (K : Value → WP) : WP := 
  splitW (Option.isNone a0) (K (.slice none 0 0)) <|
  newW (.cells #[] 5) fun (r1 : Nat) =>
  runW Tryd.prog (Builtin.append_ #[62, 62] 62 #[(.slice (some (⟨r1, 0, none⟩ : Addr)) 0 0), (.slice a0 n0 c0)]) .slc fun (u2 : (Option Addr × Nat × Nat)) => K (.slice u2.1 u2.2.1 u2.2.2)
theorem eq61 (a0 : Option Addr) (n0 c0 : Nat) (K : Value → WP) : bodyW Tryd.prog Tryd.f61 an61 false [(.slice a0 n0 c0)] K = S61 a0 n0 c0 K := by kernel_rfl
theorem calls61 (a0 : Option Addr) (n0 c0 : Nat) {K : Value → WP} {w : World} (h : S61 a0 n0 c0 K w) : Calls Tryd.prog 61 #[(.slice a0 n0 c0)] w (Ret K) := callsR_of_bodyW mixed Tryd.func61 (of_decide_eq_true (by kernel_rfl)) (by rw [eq61]; exact h)

/-- math/bits.Mul32 -/
def an62 : Ann := (.seq .nil (.seq .nil (.seq .nil .nil)))
def S62 (x0 : Int) (x1 : Int) (K : Value → WP) : WP := 
  K (.tuple #[(.int .u32 (IntKind.wrap .u32 (ishr .u64 (IntKind.wrap .u64 ((IntKind.wrap .u64 x0) * (IntKind.wrap .u64 x1))) (32 : Int)))), (.int .u32 (IntKind.wrap .u32 (IntKind.wrap .u64 ((IntKind.wrap .u64 x0) * (IntKind.wrap .u64 x1)))))])
theorem eq62 (x0 : Int) (x1 : Int) (K : Value → WP) : bodyW Tryd.prog Tryd.f62 an62 false [(.int .u32 x0), (.int .u32 x1)] K = S62 x0 x1 K := by kernel_rfl
theorem calls62 (x0 : Int) (x1 : Int) {K : Value → WP} {w : World} (h : S62 x0 x1 K w) : Calls Tryd.prog 62 #[(.int .u32 x0), (.int .u32 x1)] w (Ret K) := callsR_of_bodyW mixed Tryd.func62 (of_decide_eq_true (by kernel_rfl)) (by rw [eq62]; exact h)

/-- math/bits.Mul64 -/
def an63 : Ann := (.seq .nil (.seq .nil (.seq .nil (.seq .nil (.seq .nil (.seq .nil (.seq .nil (.seq .nil (.seq .nil (.seq .nil (.seq .nil (.seq .nil .nil))))))))))))
def S63 (x0 : Int) (x1 : Int) (K : Value → WP) : WP := 
  K (.tuple #[(.int .u64 (IntKind.wrap .u64 ((IntKind.wrap .u64 ((IntKind.wrap .u64 ((ishr .u64 x0 (32 : Int)) * (ishr .u64 x1 (32 : Int)))) + (ishr .u64 (IntKind.wrap .u64 ((IntKind.wrap .u64 ((ishr .u64 x0 (32 : Int)) * (iand .u64 x1 (4294967295 : Int)))) + (ishr .u64 (IntKind.wrap .u64 ((iand .u64 x0 (4294967295 : Int)) * (iand .u64 x1 (4294967295 : Int)))) (32 : Int)))) (32 : Int)))) + (ishr .u64 (IntKind.wrap .u64 ((iand .u64 (IntKind.wrap .u64 ((IntKind.wrap .u64 ((ishr .u64 x0 (32 : Int)) * (iand .u64 x1 (4294967295 : Int)))) + (ishr .u64 (IntKind.wrap .u64 ((iand .u64 x0 (4294967295 : Int)) * (iand .u64 x1 (4294967295 : Int)))) (32 : Int)))) (4294967295 : Int)) + (IntKind.wrap .u64 ((iand .u64 x0 (4294967295 : Int)) * (ishr .u64 x1 (32 : Int)))))) (32 : Int))))), (.int .u64 (IntKind.wrap .u64 (x0 * x1)))])
theorem eq63 (x0 : Int) (x1 : Int) (K : Value → WP) : bodyW Tryd.prog Tryd.f63 an63 false [(.int .u64 x0), (.int .u64 x1)] K = S63 x0 x1 K := by kernel_rfl
theorem calls63 (x0 : Int) (x1 : Int) {K : Value → WP} {w : World} (h : S63 x0 x1 K w) : Calls Tryd.prog 63 #[(.int .u64 x0), (.int .u64 x1)] w (Ret K) := callsR_of_bodyW mixed Tryd.func63 (of_decide_eq_true (by kernel_rfl)) (by rw [eq63]; exact h)

/-- internal/stringslite.HasPrefix -/
def an64 : Ann := (.seq .nil (.seq .nil .nil))
def S64 (x0 : ByteArray) (x1 : ByteArray) (K : Value → WP) : WP := 
  splitW (decide (((x0.size : Nat) : Int) ≥ ((x1.size : Nat) : Int))) (guardW (0 ≤ ((x1.size : Nat) : Int) ∧ ((x1.size : Nat) : Int) ≤ ((x0.size : Nat) : Int)) <| K (.bool ((ByteArray.extract x0 0 (Int.toNat ((x1.size : Nat) : Int))).toList == x1.toList))) <| K (.bool false)
theorem eq64 (x0 : ByteArray) (x1 : ByteArray) (K : Value → WP) : bodyW Tryd.prog Tryd.f64 an64 false [(.string x0), (.string x1)] K = S64 x0 x1 K := by kernel_rfl
theorem calls64 (x0 : ByteArray) (x1 : ByteArray) {K : Value → WP} {w : World} (h : S64 x0 x1 K w) : Calls Tryd.prog 64 #[(.string x0), (.string x1)] w (Ret K) := callsR_of_bodyW mixed Tryd.func64 (of_decide_eq_true (by kernel_rfl)) (by rw [eq64]; exact h)

/-- slices.Backward[[]shadowbook/api.Write,shadowbook/api.Write]$1 -/
def an67 : Ann := (.seq .nil (.block (.loop [(3, .sh (.one (.int .i64)))] [0, 1, 1000000] (.seq (.seq .nil (.cond .nil .nil)) (.seq (.block (.seq .nil (.cond .nil .nil))) .nil)))))
def S67 (x0 : Value) (a1 : Addr) (K : Value → WP) : WP := 
  ldW .slc a1 fun (u1 : (Option Addr × Nat × Nat)) =>
  loopW (Int × Unit) ((IntKind.wrap .i64 (((u1.2.1 : Nat) : Int) - (1 : Int))), ()) fun (y3 : Int × Unit) (I2 : (Int × Unit) → WP) =>
  splitW (decide (y3.1 ≥ (0 : Int))) (ldW .slc a1 fun (u4 : (Option Addr × Nat × Nat)) =>
  guardW (0 ≤ y3.1 ∧ y3.1 < ((u4.2.1 : Nat) : Int)) <|
  ptrW u4.1 fun (p5 : Addr) =>
  ldAW [(.int .i64), .str] (p5.add (Int.toNat y3.1 * 2)) fun (u6 : (Int × ByteArray × Unit)) =>
  callVW Tryd.prog x0 [(.int .i64 y3.1), (.agg #[(.int .i64 u6.1), (.string u6.2.1)])] (.one (.one .bool)) fun (u7 : Bool) =>
  splitW (!u7) (K (.tuple #[])) <| I2 ((IntKind.wrap .i64 (y3.1 - (1 : Int))), ())) <| K (.tuple #[])
theorem eq67 (x0 : Value) (a1 : Addr) (K : Value → WP) : bodyW Tryd.prog Tryd.f67 an67 false [x0, (.pointer (some a1))] K = S67 x0 a1 K := by kernel_rfl
theorem calls67 (x0 : Value) (a1 : Addr) {K : Value → WP} {w : World} (h : S67 x0 a1 K w) : Calls Tryd.prog 67 #[x0, (.pointer (some a1))] w (Ret K) := callsR_of_bodyW mixed Tryd.func67 (of_decide_eq_true (by kernel_rfl)) (by rw [eq67]; exact h)

/-- gosem.cut.vars -/
def an90 : Ann := .nil
def S90  (K : Value → WP) : WP := 
  guardW ((#[(.int .u8 (0 : Int)), (.int .u8 (1 : Int)), (.int .u8 (56 : Int)), (.int .u8 (2 : Int)), (.int .u8 (57 : Int)), (.int .u8 (49 : Int)), (.int .u8 (28 : Int)), (.int .u8 (3 : Int)), (.int .u8 (61 : Int)), (.int .u8 (58 : Int)), (.int .u8 (42 : Int)), (.int .u8 (50 : Int)), (.int .u8 (38 : Int)), (.int .u8 (29 : Int)), (.int .u8 (17 : Int)), (.int .u8 (4 : Int)), (.int .u8 (62 : Int)), (.int .u8 (47 : Int)), (.int .u8 (59 : Int)), (.int .u8 (36 : Int)), (.int .u8 (45 : Int)), (.int .u8 (43 : Int)), (.int .u8 (51 : Int)), (.int .u8 (22 : Int)), (.int .u8 (53 : Int)), (.int .u8 (39 : Int)), (.int .u8 (33 : Int)), (.int .u8 (30 : Int)), (.int .u8 (24 : Int)), (.int .u8 (18 : Int)), (.int .u8 (12 : Int)), (.int .u8 (5 : Int)), (.int .u8 (63 : Int)), (.int .u8 (55 : Int)), (.int .u8 (48 : Int)), (.int .u8 (27 : Int)), (.int .u8 (60 : Int)), (.int .u8 (41 : Int)), (.int .u8 (37 : Int)), (.int .u8 (16 : Int)), (.int .u8 (46 : Int)), (.int .u8 (35 : Int)), (.int .u8 (44 : Int)), (.int .u8 (21 : Int)), (.int .u8 (52 : Int)), (.int .u8 (32 : Int)), (.int .u8 (23 : Int)), (.int .u8 (11 : Int)), (.int .u8 (54 : Int)), (.int .u8 (26 : Int)), (.int .u8 (40 : Int)), (.int .u8 (15 : Int)), (.int .u8 (34 : Int)), (.int .u8 (20 : Int)), (.int .u8 (31 : Int)), (.int .u8 (10 : Int)), (.int .u8 (25 : Int)), (.int .u8 (14 : Int)), (.int .u8 (19 : Int)), (.int .u8 (9 : Int)), (.int .u8 (13 : Int)), (.int .u8 (8 : Int)), (.int .u8 (7 : Int)), (.int .u8 (6 : Int))] : Array Value).size = 64) <|
  stAW (⟨0, 0, none⟩ : Addr) [(.int .u8 (0 : Int)), (.int .u8 (1 : Int)), (.int .u8 (56 : Int)), (.int .u8 (2 : Int)), (.int .u8 (57 : Int)), (.int .u8 (49 : Int)), (.int .u8 (28 : Int)), (.int .u8 (3 : Int)), (.int .u8 (61 : Int)), (.int .u8 (58 : Int)), (.int .u8 (42 : Int)), (.int .u8 (50 : Int)), (.int .u8 (38 : Int)), (.int .u8 (29 : Int)), (.int .u8 (17 : Int)), (.int .u8 (4 : Int)), (.int .u8 (62 : Int)), (.int .u8 (47 : Int)), (.int .u8 (59 : Int)), (.int .u8 (36 : Int)), (.int .u8 (45 : Int)), (.int .u8 (43 : Int)), (.int .u8 (51 : Int)), (.int .u8 (22 : Int)), (.int .u8 (53 : Int)), (.int .u8 (39 : Int)), (.int .u8 (33 : Int)), (.int .u8 (30 : Int)), (.int .u8 (24 : Int)), (.int .u8 (18 : Int)), (.int .u8 (12 : Int)), (.int .u8 (5 : Int)), (.int .u8 (63 : Int)), (.int .u8 (55 : Int)), (.int .u8 (48 : Int)), (.int .u8 (27 : Int)), (.int .u8 (60 : Int)), (.int .u8 (41 : Int)), (.int .u8 (37 : Int)), (.int .u8 (16 : Int)), (.int .u8 (46 : Int)), (.int .u8 (35 : Int)), (.int .u8 (44 : Int)), (.int .u8 (21 : Int)), (.int .u8 (52 : Int)), (.int .u8 (32 : Int)), (.int .u8 (23 : Int)), (.int .u8 (11 : Int)), (.int .u8 (54 : Int)), (.int .u8 (26 : Int)), (.int .u8 (40 : Int)), (.int .u8 (15 : Int)), (.int .u8 (34 : Int)), (.int .u8 (20 : Int)), (.int .u8 (31 : Int)), (.int .u8 (10 : Int)), (.int .u8 (25 : Int)), (.int .u8 (14 : Int)), (.int .u8 (19 : Int)), (.int .u8 (9 : Int)), (.int .u8 (13 : Int)), (.int .u8 (8 : Int)), (.int .u8 (7 : Int)), (.int .u8 (6 : Int))] <| K (.tuple #[])
theorem eq90  (K : Value → WP) : bodyW Tryd.prog Tryd.f90 an90 false [] K = S90  K := by kernel_rfl
theorem calls90  {K : Value → WP} {w : World} (h : S90  K w) : Calls Tryd.prog 90 #[] w (Ret K) := callsR_of_bodyW mixed Tryd.func90 (of_decide_eq_true (by kernel_rfl)) (by rw [eq90]; exact h)

end Go.Proofs.YtpbjbhcejgnhiaaDoor.V
