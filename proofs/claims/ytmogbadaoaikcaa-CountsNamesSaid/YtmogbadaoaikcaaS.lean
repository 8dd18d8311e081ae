/- The shallow forms of the functions, by a program of mine (wip/tool/gen.py). -/
import Derived.Test.YtmogbadaoaikcaaVE
import Derived.Test.YtmogbadaoaikcaaChecked
set_option linter.unusedVariables false
set_option maxRecDepth 100000
namespace Go.Proofs.Ytmogbadaoaikcaa.V
open Go Go.Proofs
theorem mixed : Try.prog.follows .mixedOrders = true := by kernel_rfl

/-- shadowbook/shadowbooklaw12.CountsTake -/
def an3 : Ann := (.seq .nil (.seq (.seq .nil (.cond (.seq .nil .nil) .nil)) (.seq .nil (.seq .nil (.seq (.seq .nil (.cond (.seq .nil .nil) .nil)) (.seq (.seq .nil (.block (.loop [(11, .sh (.one (.int .i64)))] [1, 2, 3, 7, 9, 1000000] (.seq (.seq .nil (.cond .nil .nil)) (.seq (.block (.seq .nil .nil)) .nil))))) (.seq .nil (.seq (.seq .nil (.block (.loop [(12, .sh (.one (.int .i64))), (13, .sh (.one (.int .i64)))] [1, 2, 3, 7, 9, 1000000] (.seq (.seq .nil (.cond .nil .nil)) (.join [(12, .sh (.one (.int .i64)))] [1, 2, 3, 7, 9, 13, 1000000] (.block (.seq .nil (.seq (.seq .nil (.cond .nil .nil)) (.seq (.seq .nil (.cond .nil .nil)) (.seq .nil (.cond .nil .nil)))))) .nil))))) (.seq .nil (.seq (.seq .nil (.block (.loop [(16, .sh (.one (.int .u32))), (17, .sh (.one (.int .i64)))] [7, 9, 12, 1000000] (.seq (.seq .nil (.cond .nil .nil)) (.seq (.block (.seq .nil (.seq .nil (.seq (.join [(137, .sh (.one .bool))] [7, 9, 12, 16, 17, 18, 19, 1000000] .nil (.cond (.seq .nil .nil) .nil)) (.seq (.seq .nil (.block (.loop [(21, .sh (.one (.int .i64)))] [7, 9, 12, 17, 18, 19, 1000000] (.seq (.seq .nil (.cond .nil .nil)) (.seq (.block (.seq .nil (.cond (.seq .nil .nil) .nil))) .nil))))) .nil))))) .nil))))) (.seq .nil (.seq .nil .nil))))))))))))
def S3 (x0_0 : Int) (x0_1 : Int) (x1 : Int) (x2 : Int) (K : Value → WP) : WP := 
  newW (.cells #[(.int .i64 x0_0), (.int .i64 x0_1)] 23) fun (r1 : Nat) =>
  callW Try.prog 8 [] (.one (.one .bool)) fun (u2 : Bool) =>
  splitW (!u2) (K (.bool false)) <|
  ldAW [(.int .i64), (.int .i64)] (⟨r1, 0, none⟩ : Addr) fun (u3 : (Int × Int × Unit)) =>
  callW Try.prog 9 [(.agg #[(.int .i64 u3.1), (.int .i64 u3.2.1)])] (.many [(.one .ptr), (.one (.int .i64))]) fun (u4 : Option Addr × Int × Unit) =>
  ldAW [(.int .i64), (.int .i64)] (⟨r1, 0, none⟩ : Addr) fun (u5 : (Int × Int × Unit)) =>
  callW Try.prog 9 [(.agg #[(.int .i64 u5.1), (.int .i64 u5.2.1)])] (.many [(.one .ptr), (.one (.int .i64))]) fun (u6 : Option Addr × Int × Unit) =>
  ldAW [(.int .i64), (.int .i64)] (⟨r1, 0, none⟩ : Addr) fun (u7 : (Int × Int × Unit)) =>
  callW Try.prog 10 [(.agg #[(.int .i64 u7.1), (.int .i64 u7.2.1)])] (.one (.one .bool)) fun (u8 : Bool) =>
  splitW (!u8) (K (.bool true)) <|
  splitW (u4.2.1 != (0 : Int)) (K (.bool true)) <|
  loopW (Int × Unit) ((2 : Int), ()) fun (y10 : Int × Unit) (I9 : (Int × Unit) → WP) =>
  ldW (.int .i64) ((⟨r1, 0, none⟩ : Addr).add 1) fun (u11 : Int) =>
  splitW (decide (y10.1 < u11)) (callW Try.prog 11 [(.pointer u4.1), (.pointer none)] (.many [(.one (.int .u32)), (.one (.int .i64))]) fun (u12 : Int × Int × Unit) =>
  callW Try.prog 11 [(.pointer u6.1), (.pointer none)] (.many [(.one (.int .u32)), (.one (.int .i64))]) fun (u13 : Int × Int × Unit) => I9 ((IntKind.wrap .i64 (y10.1 + (1 : Int))), ())) <|
  loopW (Int × Int × Unit) ((0 : Int), (2 : Int), ()) fun (y15 : Int × Int × Unit) (I14 : (Int × Int × Unit) → WP) =>
  ldW (.int .i64) ((⟨r1, 0, none⟩ : Addr).add 1) fun (u16 : Int) =>
  splitW (decide (y15.2.1 < u16)) (joinW (Int × Unit) (fun (J17 : (Int × Unit) → WP) =>
  guardW (0 ≤ (IntKind.wrap .u64 y15.2.1)) <|
  guardW (0 ≤ (IntKind.wrap .u64 y15.2.1)) <|
  splitW (!((Int.tmod (ishr .u64 x2 (IntKind.wrap .u64 y15.2.1)) (2 : Int)) == (1 : Int))) (callW Try.prog 12 [(.pointer u4.1), (.int .u32 (IntKind.wrap .u32 y15.2.1))] (.many [(.one (.int .i64)), (.one (.int .i64))]) fun (u19 : Int × Int × Unit) =>
  splitW (!((Int.tmod (ishr .u64 x1 (IntKind.wrap .u64 y15.2.1)) (2 : Int)) == (1 : Int))) (callW Try.prog 12 [(.pointer u6.1), (.int .u32 (IntKind.wrap .u32 y15.2.1))] (.many [(.one (.int .i64)), (.one (.int .i64))]) fun (u20 : Int × Int × Unit) =>
  splitW (!((Int.tmod (ishr .u64 x2 (IntKind.wrap .u64 y15.2.1)) (2 : Int)) == (1 : Int))) (splitW (!((Int.tmod (ishr .u64 x1 (IntKind.wrap .u64 y15.2.1)) (2 : Int)) == (1 : Int))) (J17 ((IntKind.wrap .i64 (y15.1 + (1 : Int))), ())) <| J17 (y15.1, ())) <| J17 (y15.1, ())) <|
  splitW (!((Int.tmod (ishr .u64 x2 (IntKind.wrap .u64 y15.2.1)) (2 : Int)) == (1 : Int))) (splitW (!((Int.tmod (ishr .u64 x1 (IntKind.wrap .u64 y15.2.1)) (2 : Int)) == (1 : Int))) (J17 ((IntKind.wrap .i64 (y15.1 + (1 : Int))), ())) <| J17 (y15.1, ())) <| J17 (y15.1, ())) <|
  splitW (!((Int.tmod (ishr .u64 x1 (IntKind.wrap .u64 y15.2.1)) (2 : Int)) == (1 : Int))) (callW Try.prog 12 [(.pointer u6.1), (.int .u32 (IntKind.wrap .u32 y15.2.1))] (.many [(.one (.int .i64)), (.one (.int .i64))]) fun (u21 : Int × Int × Unit) =>
  splitW (!((Int.tmod (ishr .u64 x2 (IntKind.wrap .u64 y15.2.1)) (2 : Int)) == (1 : Int))) (splitW (!((Int.tmod (ishr .u64 x1 (IntKind.wrap .u64 y15.2.1)) (2 : Int)) == (1 : Int))) (J17 ((IntKind.wrap .i64 (y15.1 + (1 : Int))), ())) <| J17 (y15.1, ())) <| J17 (y15.1, ())) <|
  splitW (!((Int.tmod (ishr .u64 x2 (IntKind.wrap .u64 y15.2.1)) (2 : Int)) == (1 : Int))) (splitW (!((Int.tmod (ishr .u64 x1 (IntKind.wrap .u64 y15.2.1)) (2 : Int)) == (1 : Int))) (J17 ((IntKind.wrap .i64 (y15.1 + (1 : Int))), ())) <| J17 (y15.1, ())) <| J17 (y15.1, ())) fun (y18 : Int × Unit) => I14 (y18.1, (IntKind.wrap .i64 (y15.2.1 + (1 : Int))), ())) <|
  loopW (Int × Int × Unit) ((1 : Int), (0 : Int), ()) fun (y23 : Int × Int × Unit) (I22 : (Int × Int × Unit) → WP) =>
  splitW (decide (y23.2.1 < y15.1)) (callW Try.prog 13 [(.pointer u4.1)] (.one (.one .slc)) fun (u24 : (Option Addr × Nat × Nat)) =>
  callW Try.prog 11 [(.pointer u4.1), (.pointer u6.1)] (.many [(.one (.int .u32)), (.one (.int .i64))]) fun (u25 : Int × Int × Unit) =>
  joinW (Bool × Unit) (fun (J26 : (Bool × Unit) → WP) =>
  splitW (u25.2.1 != (0 : Int)) (J26 (true, ())) <|
  splitW (decide (u25.1 ≤ y23.1)) (J26 (true, ())) <|
  splitW (decide ((IntKind.wrap .u64 u25.1) ≥ (IntKind.wrap .u64 ((u24.2.1 : Nat) : Int)))) (J26 (true, ())) <|
  guardW (0 ≤ u25.1 ∧ u25.1 < ((u24.2.1 : Nat) : Int)) <|
  ptrW u24.1 fun (p28 : Addr) =>
  ldW (.int .i64) (p28.add (Int.toNat u25.1 * 1)) fun (u29 : Int) =>
  splitW (u29 != (0 : Int)) (J26 (true, ())) <|
  callW Try.prog 14 [(.pointer u6.1), (.int .u32 u25.1)] (.one (.one (.int .i64))) fun (u30 : Int) =>
  splitW (u30 != (0 : Int)) (J26 (true, ())) <|
  callW Try.prog 14 [(.pointer u4.1), (.int .u32 u25.1)] (.one (.one (.int .i64))) fun (u31 : Int) => J26 ((u31 != (1 : Int)), ())) fun (y27 : Bool × Unit) =>
  splitW y27.1 (K (.bool false)) <|
  loopW (Int × Unit) ((IntKind.wrap .i64 ((IntKind.wrap .i64 y23.1) + (1 : Int))), ()) fun (y33 : Int × Unit) (I32 : (Int × Unit) → WP) =>
  splitW (decide (y33.1 < (IntKind.wrap .i64 u25.1))) (guardW (0 ≤ y33.1 ∧ y33.1 < ((u24.2.1 : Nat) : Int)) <|
  ptrW u24.1 fun (p34 : Addr) =>
  ldW (.int .i64) (p34.add (Int.toNat y33.1 * 1)) fun (u35 : Int) =>
  splitW (u35 == (0 : Int)) (callW Try.prog 14 [(.pointer u6.1), (.int .u32 (IntKind.wrap .u32 y33.1))] (.one (.one (.int .i64))) fun (u36 : Int) =>
  splitW (u36 == (0 : Int)) (K (.bool false)) <| I32 ((IntKind.wrap .i64 (y33.1 + (1 : Int))), ())) <| I32 ((IntKind.wrap .i64 (y33.1 + (1 : Int))), ())) <| I22 (u25.1, (IntKind.wrap .i64 (y23.2.1 + (1 : Int))), ())) <|
  callW Try.prog 11 [(.pointer u4.1), (.pointer u6.1)] (.many [(.one (.int .u32)), (.one (.int .i64))]) fun (u37 : Int × Int × Unit) => K (.bool (u37.2.1 == (9 : Int)))
theorem eq3 (x0_0 : Int) (x0_1 : Int) (x1 : Int) (x2 : Int) (K : Value → WP) : bodyW Try.prog Try.f3 an3 false [(.agg #[(.int .i64 x0_0), (.int .i64 x0_1)]), (.int .u64 x1), (.int .u64 x2)] K = S3 x0_0 x0_1 x1 x2 K := by kernel_rfl
theorem calls3 (x0_0 : Int) (x0_1 : Int) (x1 : Int) (x2 : Int) {K : Value → WP} {w : World} (h : S3 x0_0 x0_1 x1 x2 K w) : Calls Try.prog 3 #[(.agg #[(.int .i64 x0_0), (.int .i64 x0_1)]), (.int .u64 x1), (.int .u64 x2)] w (Ret K) := callsR_of_bodyW mixed Try.func3 (of_decide_eq_true (by kernel_rfl)) (by rw [eq3]; exact h)

/-- shadowbook/shadowbooklaw12.CountsSums -/
def an4 : Ann := (.seq .nil (.seq (.seq .nil (.cond (.seq .nil .nil) .nil)) (.seq .nil (.seq .nil (.seq .nil (.seq .nil (.seq (.seq .nil (.cond (.seq .nil .nil) .nil)) (.seq (.seq .nil (.block (.loop [(10, .sh (.one (.int .i64)))] [0, 1, 5, 7, 9, 1000000] (.seq (.seq .nil (.cond .nil .nil)) (.seq (.block (.seq .nil (.cond (.seq .nil .nil) .nil))) .nil))))) (.seq .nil (.seq (.seq .nil (.block (.loop [(11, .sh (.one (.int .i64))), (12, .sh (.one (.int .i64)))] [1, 5, 7, 9, 1000000] (.seq (.seq .nil (.cond .nil .nil)) (.seq (.block (.seq .nil (.seq (.seq .nil (.cond (.seq (.seq .nil (.cond (.seq .nil .nil) .nil)) .nil) .nil)) (.seq .nil (.seq .nil (.cond (.seq .nil .nil) .nil)))))) .nil))))) (.seq .nil .nil)))))))))))
def S4 (x0 : Int) (x1 : Int) (K : Value → WP) : WP := 
  callW Try.prog 8 [] (.one (.one .bool)) fun (u1 : Bool) =>
  splitW (!u1) (K (.bool false)) <|
  callW Try.prog 15 [(.int .i64 x0), (.int .i64 (300 : Int))] (.one (.one (.int .i64))) fun (u2 : Int) =>
  callW Try.prog 15 [(.int .i64 x1), (.int .i64 (400 : Int))] (.one (.one (.int .i64))) fun (u3 : Int) =>
  callW Try.prog 16 [] (.one (.agg [(.int .i64), (.int .i64)])) fun (u4 : (Int × Int × Unit)) =>
  callW Try.prog 9 [(.agg #[(.int .i64 u4.1), (.int .i64 u4.2.1)])] (.many [(.one .ptr), (.one (.int .i64))]) fun (u5 : Option Addr × Int × Unit) =>
  callW Try.prog 11 [(.pointer u5.1), (.pointer none)] (.many [(.one (.int .u32)), (.one (.int .i64))]) fun (u6 : Int × Int × Unit) =>
  callW Try.prog 17 [(.pointer u5.1)] (.one (.one .ptr)) fun (u7 : Option Addr) =>
  splitW (u6.2.1 != (0 : Int)) (K (.bool false)) <|
  splitW (Option.isNone u7) (K (.bool false)) <|
  loopW (Int × Unit) ((0 : Int), ()) fun (y9 : Int × Unit) (I8 : (Int × Unit) → WP) =>
  splitW (decide (y9.1 < u2)) (callW Try.prog 18 [(.pointer u5.1), (.int .u32 u6.1)] (.one (.one (.int .i64))) fun (u10 : Int) =>
  splitW (u10 != (0 : Int)) (K (.bool false)) <| I8 ((IntKind.wrap .i64 (y9.1 + (1 : Int))), ())) <|
  loopW (Int × Int × Unit) ((IntKind.wrap .i64 (u2 + (1 : Int))), (0 : Int), ()) fun (y12 : Int × Int × Unit) (I11 : (Int × Int × Unit) → WP) =>
  splitW (decide (y12.2.1 < u3)) (callW Try.prog 12 [(.pointer u5.1), (.int .u32 u6.1)] (.many [(.one (.int .i64)), (.one (.int .i64))]) fun (u13 : Int × Int × Unit) =>
  splitW (y12.1 == (0 : Int)) (splitW (u13.2.1 != (8 : Int)) (K (.bool false)) <| I11 (y12.1, (IntKind.wrap .i64 (y12.2.1 + (1 : Int))), ())) <|
  splitW (u13.2.1 != (0 : Int)) (K (.bool false)) <|
  splitW (u13.1 != (IntKind.wrap .i64 (y12.1 - (1 : Int)))) (K (.bool false)) <| I11 ((IntKind.wrap .i64 (y12.1 - (1 : Int))), (IntKind.wrap .i64 (y12.2.1 + (1 : Int))), ())) <|
  callW Try.prog 14 [(.pointer u5.1), (.int .u32 u6.1)] (.one (.one (.int .i64))) fun (u14 : Int) =>
  splitW (u14 == y12.1) (callW Try.prog 14 [(.pointer u7), (.int .u32 u6.1)] (.one (.one (.int .i64))) fun (u15 : Int) =>
  splitW (u15 == (1 : Int)) (splitW (decide (y12.1 > (0 : Int))) (K (.bool true)) <|
  callW Try.prog 18 [(.pointer u5.1), (.int .u32 u6.1)] (.one (.one (.int .i64))) fun (u16 : Int) => K (.bool (u16 == (8 : Int)))) <| K (.bool false)) <| K (.bool false)
theorem eq4 (x0 : Int) (x1 : Int) (K : Value → WP) : bodyW Try.prog Try.f4 an4 false [(.int .i64 x0), (.int .i64 x1)] K = S4 x0 x1 K := by kernel_rfl
theorem calls4 (x0 : Int) (x1 : Int) {K : Value → WP} {w : World} (h : S4 x0 x1 K w) : Calls Try.prog 4 #[(.int .i64 x0), (.int .i64 x1)] w (Ret K) := callsR_of_bodyW mixed Try.func4 (of_decide_eq_true (by kernel_rfl)) (by rw [eq4]; exact h)

/-- shadowbook/shadowbooklaw12.CountsApart -/
def an5 : Ann := (.seq .nil (.seq (.seq .nil (.cond (.seq .nil .nil) .nil)) (.seq .nil (.seq (.seq .nil (.cond (.seq .nil .nil) .nil)) (.seq .nil (.seq .nil (.seq (.seq .nil (.block (.loop [(9, .sh (.one (.int .i64)))] [1, 2, 3, 7, 1000000] (.seq (.seq .nil (.cond .nil .nil)) (.seq (.block .nil) .nil))))) (.seq .nil (.seq (.seq .nil (.block (.loop [(12, .sh (.one (.int .i64)))] [1, 2, 7, 10, 11, 1000000] (.seq (.seq .nil (.cond .nil .nil)) (.seq (.block (.seq .nil (.cond (.seq .nil .nil) .nil))) .nil))))) (.seq .nil (.seq (.seq .nil (.cond (.seq .nil .nil) .nil)) (.seq (.seq .nil (.block (.loop [(15, .sh (.one (.int .i64)))] [1, 2, 10, 11, 13, 14, 1000000] (.seq (.seq .nil (.cond .nil .nil)) (.seq (.block (.seq .nil (.cond (.seq .nil .nil) .nil))) .nil))))) (.seq .nil (.seq (.seq .nil (.block (.loop [(16, .sh (.one (.int .i64))), (17, .sh (.one (.int .i64)))] [2, 11, 14, 1000000] (.seq (.seq .nil (.cond .nil .nil)) (.seq (.block (.seq (.seq .nil (.cond (.seq .nil .nil) .nil)) (.seq .nil (.block (.loop [(16, .sh (.one (.int .i64))), (18, .sh (.one (.int .i64)))] [2, 11, 14, 17, 1000000] (.seq (.seq .nil (.cond .nil .nil)) (.seq (.block (.seq .nil (.cond .nil .nil))) .nil))))))) .nil))))) (.seq .nil .nil)))))))))))))))
def S5 (x0_0 : Int) (x0_1 : Int) (x1 : Int) (x2 : Int) (K : Value → WP) : WP := 
  newW (.cells #[(.int .i64 x0_0), (.int .i64 x0_1)] 23) fun (r1 : Nat) =>
  callW Try.prog 8 [] (.one (.one .bool)) fun (u2 : Bool) =>
  splitW (!u2) (K (.bool false)) <|
  ldAW [(.int .i64), (.int .i64)] (⟨r1, 0, none⟩ : Addr) fun (u3 : (Int × Int × Unit)) =>
  callW Try.prog 9 [(.agg #[(.int .i64 u3.1), (.int .i64 u3.2.1)])] (.many [(.one .ptr), (.one (.int .i64))]) fun (u4 : Option Addr × Int × Unit) =>
  ldAW [(.int .i64), (.int .i64)] (⟨r1, 0, none⟩ : Addr) fun (u5 : (Int × Int × Unit)) =>
  callW Try.prog 10 [(.agg #[(.int .i64 u5.1), (.int .i64 u5.2.1)])] (.one (.one .bool)) fun (u6 : Bool) =>
  splitW (!u6) (K (.bool true)) <|
  splitW (u4.2.1 != (0 : Int)) (K (.bool true)) <|
  ldW (.int .i64) ((⟨r1, 0, none⟩ : Addr).add 1) fun (u7 : Int) =>
  guardW ((IntKind.wrap .u32 (IntKind.wrap .i64 (u7 - (2 : Int)))) ≠ 0) <|
  callW Try.prog 15 [(.int .i64 x2), (.int .i64 (300 : Int))] (.one (.one (.int .i64))) fun (u8 : Int) =>
  loopW (Int × Unit) ((2 : Int), ()) fun (y10 : Int × Unit) (I9 : (Int × Unit) → WP) =>
  ldW (.int .i64) ((⟨r1, 0, none⟩ : Addr).add 1) fun (u11 : Int) =>
  splitW (decide (y10.1 < u11)) (callW Try.prog 11 [(.pointer u4.1), (.pointer none)] (.many [(.one (.int .u32)), (.one (.int .i64))]) fun (u12 : Int × Int × Unit) => I9 ((IntKind.wrap .i64 (y10.1 + (1 : Int))), ())) <|
  callW Try.prog 13 [(.pointer u4.1)] (.one (.one .slc)) fun (u13 : (Option Addr × Nat × Nat)) =>
  callW Try.prog 19 [(.pointer u4.1)] (.one (.one .slc)) fun (u14 : (Option Addr × Nat × Nat)) =>
  loopW (Int × Unit) ((0 : Int), ()) fun (y16 : Int × Unit) (I15 : (Int × Unit) → WP) =>
  splitW (decide (y16.1 < u8)) (callW Try.prog 18 [(.pointer u4.1), (.int .u32 (IntKind.wrap .u32 ((2 : Int) + (Int.tmod x1 (IntKind.wrap .u32 (IntKind.wrap .i64 (u7 - (2 : Int))))))))] (.one (.one (.int .i64))) fun (u17 : Int) =>
  splitW (u17 != (0 : Int)) (K (.bool false)) <| I15 ((IntKind.wrap .i64 (y16.1 + (1 : Int))), ())) <|
  callW Try.prog 13 [(.pointer u4.1)] (.one (.one .slc)) fun (u18 : (Option Addr × Nat × Nat)) =>
  callW Try.prog 19 [(.pointer u4.1)] (.one (.one .slc)) fun (u19 : (Option Addr × Nat × Nat)) =>
  splitW (((u18.2.1 : Nat) : Int) != ((u13.2.1 : Nat) : Int)) (K (.bool false)) <|
  splitW (((u19.2.1 : Nat) : Int) != ((u14.2.1 : Nat) : Int)) (K (.bool false)) <|
  loopW (Int × Unit) ((0 : Int), ()) fun (y21 : Int × Unit) (I20 : (Int × Unit) → WP) =>
  splitW (decide (y21.1 < ((u18.2.1 : Nat) : Int))) (drewW <|
  splitW ((IntKind.wrap .u32 y21.1) == (IntKind.wrap .u32 ((2 : Int) + (Int.tmod x1 (IntKind.wrap .u32 (IntKind.wrap .i64 (u7 - (2 : Int)))))))) (guardW (0 ≤ y21.1 ∧ y21.1 < ((u18.2.1 : Nat) : Int)) <|
  ptrW u18.1 fun (p22 : Addr) =>
  ldW (.int .i64) (p22.add (Int.toNat y21.1 * 1)) fun (u23 : Int) =>
  splitW (u23 != (IntKind.wrap .i64 (u8 + (1 : Int)))) (K (.bool false)) <|
  splitW ((IntKind.wrap .u32 y21.1) != (IntKind.wrap .u32 ((2 : Int) + (Int.tmod x1 (IntKind.wrap .u32 (IntKind.wrap .i64 (u7 - (2 : Int)))))))) (guardW (0 ≤ y21.1 ∧ y21.1 < ((u18.2.1 : Nat) : Int)) <|
  ptrW u18.1 fun (p24 : Addr) =>
  ldW (.int .i64) (p24.add (Int.toNat y21.1 * 1)) fun (u25 : Int) =>
  guardW (0 ≤ y21.1 ∧ y21.1 < ((u13.2.1 : Nat) : Int)) <|
  ptrW u13.1 fun (p26 : Addr) =>
  ldW (.int .i64) (p26.add (Int.toNat y21.1 * 1)) fun (u27 : Int) =>
  splitW (u25 != u27) (K (.bool false)) <| I20 ((IntKind.wrap .i64 (y21.1 + (1 : Int))), ())) <| I20 ((IntKind.wrap .i64 (y21.1 + (1 : Int))), ())) <|
  splitW ((IntKind.wrap .u32 y21.1) != (IntKind.wrap .u32 ((2 : Int) + (Int.tmod x1 (IntKind.wrap .u32 (IntKind.wrap .i64 (u7 - (2 : Int)))))))) (guardW (0 ≤ y21.1 ∧ y21.1 < ((u18.2.1 : Nat) : Int)) <|
  ptrW u18.1 fun (p28 : Addr) =>
  ldW (.int .i64) (p28.add (Int.toNat y21.1 * 1)) fun (u29 : Int) =>
  guardW (0 ≤ y21.1 ∧ y21.1 < ((u13.2.1 : Nat) : Int)) <|
  ptrW u13.1 fun (p30 : Addr) =>
  ldW (.int .i64) (p30.add (Int.toNat y21.1 * 1)) fun (u31 : Int) =>
  splitW (u29 != u31) (K (.bool false)) <| I20 ((IntKind.wrap .i64 (y21.1 + (1 : Int))), ())) <| I20 ((IntKind.wrap .i64 (y21.1 + (1 : Int))), ())) <|
  loopW (Int × Int × Unit) ((0 : Int), (0 : Int), ()) fun (y33 : Int × Int × Unit) (I32 : (Int × Int × Unit) → WP) =>
  splitW (decide (y33.2.1 < ((u19.2.1 : Nat) : Int))) (drewW <|
  guardW (0 ≤ y33.2.1 ∧ y33.2.1 < ((u19.2.1 : Nat) : Int)) <|
  ptrW u19.1 fun (p34 : Addr) =>
  ldW .str (p34.add (Int.toNat y33.2.1 * 1)) fun (u35 : ByteArray) =>
  guardW (0 ≤ y33.2.1 ∧ y33.2.1 < ((u14.2.1 : Nat) : Int)) <|
  ptrW u14.1 fun (p36 : Addr) =>
  ldW .str (p36.add (Int.toNat y33.2.1 * 1)) fun (u37 : ByteArray) =>
  splitW (((u35.size : Nat) : Int) != ((u37.size : Nat) : Int)) (K (.bool false)) <|
  loopW (Int × Int × Unit) (y33.1, (0 : Int), ()) fun (y39 : Int × Int × Unit) (I38 : (Int × Int × Unit) → WP) =>
  guardW (0 ≤ y33.2.1 ∧ y33.2.1 < ((u19.2.1 : Nat) : Int)) <|
  ptrW u19.1 fun (p40 : Addr) =>
  ldW .str (p40.add (Int.toNat y33.2.1 * 1)) fun (u41 : ByteArray) =>
  splitW (decide (y39.2.1 < ((u41.size : Nat) : Int))) (drewW <|
  guardW (0 ≤ y33.2.1 ∧ y33.2.1 < ((u19.2.1 : Nat) : Int)) <|
  ptrW u19.1 fun (p42 : Addr) =>
  ldW .str (p42.add (Int.toNat y33.2.1 * 1)) fun (u43 : ByteArray) =>
  guardW (0 ≤ y39.2.1 ∧ y39.2.1 < ((u43.size : Nat) : Int)) <|
  guardW (0 ≤ y33.2.1 ∧ y33.2.1 < ((u14.2.1 : Nat) : Int)) <|
  ptrW u14.1 fun (p44 : Addr) =>
  ldW .str (p44.add (Int.toNat y33.2.1 * 1)) fun (u45 : ByteArray) =>
  guardW (0 ≤ y39.2.1 ∧ y39.2.1 < ((u45.size : Nat) : Int)) <|
  splitW ((bt u43 y39.2.1) != (bt u45 y39.2.1)) (I38 ((IntKind.wrap .i64 (y39.1 + (1 : Int))), (IntKind.wrap .i64 (y39.2.1 + (1 : Int))), ())) <| I38 (y39.1, (IntKind.wrap .i64 (y39.2.1 + (1 : Int))), ())) <| I32 (y39.1, (IntKind.wrap .i64 (y33.2.1 + (1 : Int))), ())) <|
  splitW (decide (y33.1 ≤ (2 : Int))) (K (.bool ((y33.1 == (0 : Int)) == (u8 == (0 : Int))))) <| K (.bool false)
theorem eq5 (x0_0 : Int) (x0_1 : Int) (x1 : Int) (x2 : Int) (K : Value → WP) : bodyW Try.prog Try.f5 an5 false [(.agg #[(.int .i64 x0_0), (.int .i64 x0_1)]), (.int .u32 x1), (.int .i64 x2)] K = S5 x0_0 x0_1 x1 x2 K := by kernel_rfl
theorem calls5 (x0_0 : Int) (x0_1 : Int) (x1 : Int) (x2 : Int) {K : Value → WP} {w : World} (h : S5 x0_0 x0_1 x1 x2 K w) : Calls Try.prog 5 #[(.agg #[(.int .i64 x0_0), (.int .i64 x0_1)]), (.int .u32 x1), (.int .i64 x2)] w (Ret K) := callsR_of_bodyW mixed Try.func5 (of_decide_eq_true (by kernel_rfl)) (by rw [eq5]; exact h)

/-- shadowbook/shadowbooklaw12.CountsLoads -/
def an6 : Ann := (.seq .nil (.seq (.seq .nil (.cond (.seq .nil .nil) .nil)) (.seq (.seq .nil (.cond (.seq .nil .nil) .nil)) (.seq .nil (.seq .nil (.seq (.seq .nil (.cond (.seq .nil .nil) .nil)) (.seq .nil .nil)))))))
def S6 (x0_0 : Int) (x0_1 : Int) (a1 : Option Addr) (n1 c1 : Nat) (K : Value → WP) : WP := 
  newW (.cells #[(.int .i64 x0_0), (.int .i64 x0_1)] 23) fun (r1 : Nat) =>
  callW Try.prog 8 [] (.one (.one .bool)) fun (u2 : Bool) =>
  splitW (!u2) (K (.bool false)) <|
  ldAW [(.int .i64), (.int .i64)] (⟨r1, 0, none⟩ : Addr) fun (u3 : (Int × Int × Unit)) =>
  callW Try.prog 10 [(.agg #[(.int .i64 u3.1), (.int .i64 u3.2.1)])] (.one (.one .bool)) fun (u4 : Bool) =>
  splitW (!u4) (K (.bool true)) <|
  callW Try.prog 20 [(.slice a1 n1 c1), (.int .i64 (20 : Int)), (.int .i64 (6000 : Int))] (.one (.one .bool)) fun (u5 : Bool) =>
  splitW (!u5) (K (.bool true)) <|
  ldAW [(.int .i64), (.int .i64)] (⟨r1, 0, none⟩ : Addr) fun (u6 : (Int × Int × Unit)) =>
  callW Try.prog 21 [(.agg #[(.int .i64 u6.1), (.int .i64 u6.2.1)]), (.slice a1 n1 c1)] (.many [(.one .ptr), (.one (.int .i64))]) fun (u7 : Option Addr × Int × Unit) =>
  ldAW [(.int .i64), (.int .i64)] (⟨r1, 0, none⟩ : Addr) fun (u8 : (Int × Int × Unit)) =>
  callW Try.prog 22 [(.agg #[(.int .i64 u8.1), (.int .i64 u8.2.1)]), (.slice a1 n1 c1)] (.many [(.one .ptr), (.one (.int .i64))]) fun (u9 : Option Addr × Int × Unit) =>
  splitW (u7.2.1 != u9.2.1) (K (.bool false)) <|
  splitW (!((Option.isNone u7.1) == (Option.isNone u9.1))) (K (.bool false)) <|
  drewW <|
  splitW (Option.isNone u7.1) (K (.bool true)) <|
  ptrW u9.1 fun (p10 : Addr) =>
  ldW .slc (p10.add 2) fun (u11 : (Option Addr × Nat × Nat)) =>
  callW Try.prog 13 [(.pointer u7.1)] (.one (.one .slc)) fun (u12 : (Option Addr × Nat × Nat)) =>
  heldW [[((p10.add 2), (.slice u11.1 u11.2.1 u11.2.2))]] <|
  callW Try.prog 23 [(.slice u12.1 u12.2.1 u12.2.2), (.slice u11.1 u11.2.1 u11.2.2)] (.one (.one .bool)) fun (u13 : Bool) =>
  splitW u13 (callW Try.prog 19 [(.pointer u7.1)] (.one (.one .slc)) fun (u14 : (Option Addr × Nat × Nat)) =>
  callW Try.prog 24 [(.slice u14.1 u14.2.1 u14.2.2), (.slice a1 n1 c1)] (.one (.one .bool)) fun (u15 : Bool) =>
  splitW u15 (ldAW [(.int .i64), (.int .i64)] (⟨r1, 0, none⟩ : Addr) fun (u16 : (Int × Int × Unit)) =>
  callW Try.prog 25 [(.agg #[(.int .i64 u16.1), (.int .i64 u16.2.1)])] (.one (.one (.int .i64))) fun (u17 : Int) => K (.bool (((n1 : Nat) : Int) == u17))) <| K (.bool false)) <| K (.bool false)
theorem eq6 (x0_0 : Int) (x0_1 : Int) (a1 : Option Addr) (n1 c1 : Nat) (K : Value → WP) : bodyW Try.prog Try.f6 an6 false [(.agg #[(.int .i64 x0_0), (.int .i64 x0_1)]), (.slice a1 n1 c1)] K = S6 x0_0 x0_1 a1 n1 c1 K := by kernel_rfl
theorem calls6 (x0_0 : Int) (x0_1 : Int) (a1 : Option Addr) (n1 c1 : Nat) {K : Value → WP} {w : World} (h : S6 x0_0 x0_1 a1 n1 c1 K w) : Calls Try.prog 6 #[(.agg #[(.int .i64 x0_0), (.int .i64 x0_1)]), (.slice a1 n1 c1)] w (Ret K) := callsR_of_bodyW mixed Try.func6 (of_decide_eq_true (by kernel_rfl)) (by rw [eq6]; exact h)

/-- shadowbook/shadowbooklaw12.CountsNames -/
def an7 : Ann := (.seq .nil (.seq (.seq .nil (.cond (.seq .nil .nil) .nil)) (.seq .nil (.seq .nil (.seq .nil (.seq .nil (.seq .nil (.seq .nil (.seq .nil (.seq .nil (.seq .nil (.seq .nil (.seq .nil (.seq .nil (.seq .nil (.seq (.seq .nil (.block (.loop [(20, .sh (.one (.int .i64)))] [1, 6, 7, 8, 9, 11, 12, 13, 14, 16, 18, 19, 1000000] (.seq (.seq .nil (.cond .nil .nil)) (.seq (.block .nil) .nil))))) (.seq .nil (.seq .nil (.seq (.seq .nil (.cond (.seq .nil .nil) .nil)) (.seq .nil (.seq .nil (.seq .nil (.seq .nil (.join [(0, .sh (.one .bool))] [1000000] .nil .nil))))))))))))))))))))))))
def S7  (K : Value → WP) : WP := 
  callW Try.prog 8 [] (.one (.one .bool)) fun (u1 : Bool) =>
  splitW (!u1) (K (.bool false)) <|
  callW Try.prog 16 [] (.one (.agg [(.int .i64), (.int .i64)])) fun (u2 : (Int × Int × Unit)) =>
  callW Try.prog 9 [(.agg #[(.int .i64 u2.1), (.int .i64 u2.2.1)])] (.many [(.one .ptr), (.one (.int .i64))]) fun (u3 : Option Addr × Int × Unit) =>
  callW Try.prog 9 [(.agg #[(.int .i64 (128 : Int)), (.int .i64 (9 : Int))])] (.many [(.one .ptr), (.one (.int .i64))]) fun (u4 : Option Addr × Int × Unit) =>
  callW Try.prog 9 [(.agg #[(.int .i64 (0 : Int)), (.int .i64 (0 : Int))])] (.many [(.one .ptr), (.one (.int .i64))]) fun (u5 : Option Addr × Int × Unit) =>
  callW Try.prog 17 [(.pointer u3.1)] (.one (.one .ptr)) fun (u6 : Option Addr) =>
  callW Try.prog 11 [(.pointer u6), (.pointer none)] (.many [(.one (.int .u32)), (.one (.int .i64))]) fun (u7 : Int × Int × Unit) =>
  callW Try.prog 11 [(.pointer u3.1), (.pointer u6)] (.many [(.one (.int .u32)), (.one (.int .i64))]) fun (u8 : Int × Int × Unit) =>
  callW Try.prog 11 [(.pointer u3.1), (.pointer u4.1)] (.many [(.one (.int .u32)), (.one (.int .i64))]) fun (u9 : Int × Int × Unit) =>
  callW Try.prog 18 [(.pointer u3.1), (.int .u32 (3 : Int))] (.one (.one (.int .i64))) fun (u10 : Int) =>
  callW Try.prog 18 [(.pointer u3.1), (.int .u32 (2 : Int))] (.one (.one (.int .i64))) fun (u11 : Int) =>
  callW Try.prog 18 [(.pointer u3.1), (.int .u32 (1 : Int))] (.one (.one (.int .i64))) fun (u12 : Int) =>
  callW Try.prog 12 [(.pointer u3.1), (.int .u32 (9 : Int))] (.many [(.one (.int .i64)), (.one (.int .i64))]) fun (u13 : Int × Int × Unit) =>
  callW Try.prog 12 [(.pointer u3.1), (.int .u32 (4 : Int))] (.many [(.one (.int .i64)), (.one (.int .i64))]) fun (u14 : Int × Int × Unit) =>
  callW Try.prog 19 [(.pointer u3.1)] (.one (.one .slc)) fun (u15 : (Option Addr × Nat × Nat)) =>
  loopW (Int × Unit) ((0 : Int), ()) fun (y17 : Int × Unit) (I16 : (Int × Unit) → WP) =>
  splitW (decide (y17.1 < (4 : Int))) (callW Try.prog 11 [(.pointer u3.1), (.pointer u6)] (.many [(.one (.int .u32)), (.one (.int .i64))]) fun (u18 : Int × Int × Unit) => I16 ((IntKind.wrap .i64 (y17.1 + (1 : Int))), ())) <|
  callW Try.prog 11 [(.pointer u3.1), (.pointer u6)] (.many [(.one (.int .u32)), (.one (.int .i64))]) fun (u19 : Int × Int × Unit) =>
  callW Try.prog 16 [] (.one (.agg [(.int .i64), (.int .i64)])) fun (u20 : (Int × Int × Unit)) =>
  newW (.cells #[(.string (ByteArray.mk #[1, 0, 1, 0, 0, 0, 2, 0, 0, 0, 0, 0, 0, 0, 0, 1]))] 9) fun (r21 : Nat) =>
  callW Try.prog 21 [(.agg #[(.int .i64 u20.1), (.int .i64 u20.2.1)]), (.slice (some (⟨r21, 0, none⟩ : Addr)) 1 1)] (.many [(.one .ptr), (.one (.int .i64))]) fun (u22 : Option Addr × Int × Unit) =>
  splitW (u22.2.1 != (0 : Int)) (K (.bool false)) <|
  splitW (((u15.2.1 : Nat) : Int) != (1 : Int)) (K (.bool false)) <|
  callW Try.prog 16 [] (.one (.agg [(.int .i64), (.int .i64)])) fun (u23 : (Int × Int × Unit)) =>
  newW (.cells #[(.string (ByteArray.mk #[2, 0, 1, 0, 0, 0, 2, 0, 0, 0, 0, 0, 0, 0, 0, 1]))] 9) fun (r24 : Nat) =>
  callW Try.prog 21 [(.agg #[(.int .i64 u23.1), (.int .i64 u23.2.1)]), (.slice (some (⟨r24, 0, none⟩ : Addr)) 1 1)] (.many [(.one .ptr), (.one (.int .i64))]) fun (u25 : Option Addr × Int × Unit) =>
  callW Try.prog 16 [] (.one (.agg [(.int .i64), (.int .i64)])) fun (u26 : (Int × Int × Unit)) =>
  callW Try.prog 21 [(.agg #[(.int .i64 u26.1), (.int .i64 u26.2.1)]), (.slice none 0 0)] (.many [(.one .ptr), (.one (.int .i64))]) fun (u27 : Option Addr × Int × Unit) =>
  callW Try.prog 11 [(.pointer none), (.pointer none)] (.many [(.one (.int .u32)), (.one (.int .i64))]) fun (u28 : Int × Int × Unit) =>
  joinW (Bool × Unit) (fun (J29 : (Bool × Unit) → WP) =>
  splitW (u5.2.1 == (2 : Int)) (splitW (u8.2.1 == (0 : Int)) (splitW (u8.1 == (3 : Int)) (splitW (u9.2.1 == (2 : Int)) (splitW (u10 == (0 : Int)) (splitW (u11 == (8 : Int)) (splitW (u12 == (2 : Int)) (splitW (u13.2.1 == (2 : Int)) (splitW (u14.2.1 == (8 : Int)) (guardW (0 ≤ (0 : Int) ∧ (0 : Int) < ((u15.2.1 : Nat) : Int)) <|
  ptrW u15.1 fun (p31 : Addr) =>
  ldW .str (p31.add (Int.toNat (0 : Int) * 1)) fun (u32 : ByteArray) =>
  splitW (u32.toList == (ByteArray.mk #[1, 0, 1, 0, 0, 0, 2, 0, 0, 0, 0, 0, 0, 0, 0, 0]).toList) (splitW (u19.2.1 == (9 : Int)) (callW Try.prog 14 [(.pointer u22.1), (.int .u32 (3 : Int))] (.one (.one (.int .i64))) fun (u33 : Int) =>
  splitW (u33 == (2 : Int)) (callW Try.prog 14 [(.pointer u22.1), (.int .u32 (7 : Int))] (.one (.one (.int .i64))) fun (u34 : Int) =>
  splitW (u34 == (256 : Int)) (callW Try.prog 26 [(.pointer u22.1)] (.one (.one (.int .i64))) fun (u35 : Int) =>
  splitW (u35 == (4 : Int)) (splitW (u25.2.1 == (4 : Int)) (splitW (u27.2.1 == (4 : Int)) (callW Try.prog 26 [(.pointer u3.1)] (.one (.one (.int .i64))) fun (u36 : Int) =>
  splitW (u36 == (7 : Int)) (callW Try.prog 14 [(.pointer u3.1), (.int .u32 (2 : Int))] (.one (.one (.int .i64))) fun (u37 : Int) =>
  splitW (u37 == (0 : Int)) (callW Try.prog 14 [(.pointer u3.1), (.int .u32 (99 : Int))] (.one (.one (.int .i64))) fun (u38 : Int) =>
  splitW (u38 == (0 : Int)) (callW Try.prog 14 [(.pointer u3.1), (.int .u32 (0 : Int))] (.one (.one (.int .i64))) fun (u39 : Int) =>
  splitW (u39 == (1 : Int)) (splitW (u28.2.1 == (1 : Int)) (callW Try.prog 26 [(.pointer none)] (.one (.one (.int .i64))) fun (u40 : Int) =>
  splitW (u40 == (0 : Int)) (callW Try.prog 18 [(.pointer none), (.int .u32 (2 : Int))] (.one (.one (.int .i64))) fun (u41 : Int) =>
  splitW (u41 == (1 : Int)) (callW Try.prog 17 [(.pointer none)] (.one (.one .ptr)) fun (u42 : Option Addr) => J29 ((Option.isNone u42), ())) <| J29 (false, ())) <| J29 (false, ())) <| J29 (false, ())) <| J29 (false, ())) <| J29 (false, ())) <| J29 (false, ())) <| J29 (false, ())) <| J29 (false, ())) <| J29 (false, ())) <| J29 (false, ())) <| J29 (false, ())) <| J29 (false, ())) <| J29 (false, ())) <| J29 (false, ())) <| J29 (false, ())) <| J29 (false, ())) <| J29 (false, ())) <| J29 (false, ())) <| J29 (false, ())) <| J29 (false, ())) <| J29 (false, ())) <| J29 (false, ())) <| J29 (false, ())) fun (y30 : Bool × Unit) => K (.bool y30.1)
theorem eq7  (K : Value → WP) : bodyW Try.prog Try.f7 an7 false [] K = S7  K := by kernel_rfl
theorem calls7  {K : Value → WP} {w : World} (h : S7  K w) : Calls Try.prog 7 #[] w (Ret K) := callsR_of_bodyW mixed Try.func7 (of_decide_eq_true (by kernel_rfl)) (by rw [eq7]; exact h)

/-- shadowbook/shadowbooklaw12.lives -/
def an8 : Ann := (.seq .nil (.seq .nil (.seq (.seq .nil (.cond (.seq .nil .nil) .nil)) (.seq .nil (.seq .nil (.seq .nil (.seq .nil (.seq .nil .nil))))))))
def S8  (K : Value → WP) : WP := 
  callW Try.prog 16 [] (.one (.agg [(.int .i64), (.int .i64)])) fun (u1 : (Int × Int × Unit)) =>
  callW Try.prog 9 [(.agg #[(.int .i64 u1.1), (.int .i64 u1.2.1)])] (.many [(.one .ptr), (.one (.int .i64))]) fun (u2 : Option Addr × Int × Unit) =>
  splitW (u2.2.1 != (0 : Int)) (K (.bool false)) <|
  splitW (Option.isNone u2.1) (K (.bool false)) <|
  callW Try.prog 11 [(.pointer u2.1), (.pointer none)] (.many [(.one (.int .u32)), (.one (.int .i64))]) fun (u3 : Int × Int × Unit) =>
  callW Try.prog 11 [(.pointer u2.1), (.pointer none)] (.many [(.one (.int .u32)), (.one (.int .i64))]) fun (u4 : Int × Int × Unit) =>
  callW Try.prog 12 [(.pointer u2.1), (.int .u32 (2 : Int))] (.many [(.one (.int .i64)), (.one (.int .i64))]) fun (u5 : Int × Int × Unit) =>
  callW Try.prog 11 [(.pointer u2.1), (.pointer none)] (.many [(.one (.int .u32)), (.one (.int .i64))]) fun (u6 : Int × Int × Unit) =>
  splitW (u3.2.1 == (0 : Int)) (splitW (u3.1 == (2 : Int)) (splitW (u4.2.1 == (0 : Int)) (splitW (u4.1 == (3 : Int)) (splitW (u5.2.1 == (0 : Int)) (splitW (u5.1 == (0 : Int)) (splitW (u6.2.1 == (0 : Int)) (K (.bool (u6.1 == (2 : Int)))) <| K (.bool false)) <| K (.bool false)) <| K (.bool false)) <| K (.bool false)) <| K (.bool false)) <| K (.bool false)) <| K (.bool false)
theorem eq8  (K : Value → WP) : bodyW Try.prog Try.f8 an8 false [] K = S8  K := by kernel_rfl
theorem calls8  {K : Value → WP} {w : World} (h : S8  K w) : Calls Try.prog 8 #[] w (Ret K) := callsR_of_bodyW mixed Try.func8 (of_decide_eq_true (by kernel_rfl)) (by rw [eq8]; exact h)

/-- shadowbook/counts.New -/
def an9 : Ann := (.seq .nil (.seq (.seq .nil (.cond (.seq .nil .nil) .nil)) (.seq .nil (.seq .nil (.seq .nil .nil)))))
def S9 (x0_0 : Int) (x0_1 : Int) (K : Value → WP) : WP := 
  newW (.cells #[(.int .i64 x0_0), (.int .i64 x0_1)] 23) fun (r1 : Nat) =>
  ldAW [(.int .i64), (.int .i64)] (⟨r1, 0, none⟩ : Addr) fun (u2 : (Int × Int × Unit)) =>
  callW Try.prog 27 [(.agg #[(.int .i64 u2.1), (.int .i64 u2.2.1)])] (.one (.one (.int .i64))) fun (u3 : Int) =>
  splitW (u3 != (0 : Int)) (K (.tuple #[(.pointer none), (.int .i64 (2 : Int))])) <|
  drewW <|
  ldAW [(.int .i64), (.int .i64)] (⟨r1, 0, none⟩ : Addr) fun (u4 : (Int × Int × Unit)) =>
  ldW (.int .i64) ((⟨r1, 0, none⟩ : Addr).add 1) fun (u5 : Int) =>
  runW Try.prog (Instr.makeSlice 62 (.int .i64 u5) (.int .i64 u5)) .slc fun (u6 : Option Addr × Nat × Nat) =>
  heldW [[((⟨r1, 0, none⟩ : Addr).add 0, (.int .i64 u4.1)), ((⟨r1, 0, none⟩ : Addr).add 1, (.int .i64 u4.2.1))]] <|
  newW (.cells #[(.int .i64 u4.1), (.int .i64 u4.2.1), (.slice u6.1 u6.2.1 u6.2.2)] 64) fun (r7 : Nat) =>
  drewW <|
  ptrW (some (⟨r7, 0, none⟩ : Addr)) fun (p8 : Addr) =>
  ldW .slc (p8.add 2) fun (u9 : (Option Addr × Nat × Nat)) =>
  ptrW (some (⟨r7, 0, none⟩ : Addr)) fun (p10 : Addr) =>
  ldW .slc (p10.add 2) fun (u11 : (Option Addr × Nat × Nat)) =>
  guardW (0 ≤ (0 : Int) ∧ (0 : Int) < ((u9.2.1 : Nat) : Int)) <|
  ptrW u9.1 fun (p12 : Addr) =>
  stW (p12.add (Int.toNat (0 : Int) * 1)) (.int .u16 (1 : Int)) <|
  guardW (0 ≤ (1 : Int) ∧ (1 : Int) < ((u11.2.1 : Nat) : Int)) <|
  ptrW u11.1 fun (p13 : Addr) =>
  stW (p13.add (Int.toNat (1 : Int) * 1)) (.int .u16 (1 : Int)) <| K (.tuple #[(.pointer (some (⟨r7, 0, none⟩ : Addr))), (.int .i64 (0 : Int))])
theorem eq9 (x0_0 : Int) (x0_1 : Int) (K : Value → WP) : bodyW Try.prog Try.f9 an9 false [(.agg #[(.int .i64 x0_0), (.int .i64 x0_1)])] K = S9 x0_0 x0_1 K := by kernel_rfl
theorem calls9 (x0_0 : Int) (x0_1 : Int) {K : Value → WP} {w : World} (h : S9 x0_0 x0_1 K w) : Calls Try.prog 9 #[(.agg #[(.int .i64 x0_0), (.int .i64 x0_1)])] w (Ret K) := callsR_of_bodyW mixed Try.func9 (of_decide_eq_true (by kernel_rfl)) (by rw [eq9]; exact h)

/-- shadowbook/shadowbookkit.LightGeo -/
def an10 : Ann := (.seq .nil (.seq (.seq .nil (.cond (.seq .nil .nil) .nil)) (.seq .nil .nil)))
def S10 (x0_0 : Int) (x0_1 : Int) (K : Value → WP) : WP := 
  newW (.cells #[(.int .i64 x0_0), (.int .i64 x0_1)] 23) fun (r1 : Nat) =>
  ldW (.int .i64) (⟨r1, 0, none⟩ : Addr) fun (u2 : Int) =>
  splitW (decide (u2 < (128 : Int))) (K (.bool true)) <|
  ldW (.int .i64) (⟨r1, 0, none⟩ : Addr) fun (u3 : Int) =>
  splitW (decide (u3 > (4096 : Int))) (K (.bool true)) <|
  ldW (.int .i64) ((⟨r1, 0, none⟩ : Addr).add 1) fun (u4 : Int) =>
  splitW (decide (u4 < (8 : Int))) (K (.bool true)) <|
  ldW (.int .i64) ((⟨r1, 0, none⟩ : Addr).add 1) fun (u5 : Int) =>
  splitW (decide (u5 > (4096 : Int))) (K (.bool true)) <|
  ldW (.int .i64) (⟨r1, 0, none⟩ : Addr) fun (u6 : Int) =>
  splitW (decide (u6 ≤ (512 : Int))) (ldW (.int .i64) ((⟨r1, 0, none⟩ : Addr).add 1) fun (u7 : Int) => K (.bool (decide (u7 ≤ (40 : Int))))) <| K (.bool false)
theorem eq10 (x0_0 : Int) (x0_1 : Int) (K : Value → WP) : bodyW Try.prog Try.f10 an10 false [(.agg #[(.int .i64 x0_0), (.int .i64 x0_1)])] K = S10 x0_0 x0_1 K := by kernel_rfl
theorem calls10 (x0_0 : Int) (x0_1 : Int) {K : Value → WP} {w : World} (h : S10 x0_0 x0_1 K w) : Calls Try.prog 10 #[(.agg #[(.int .i64 x0_0), (.int .i64 x0_1)])] w (Ret K) := callsR_of_bodyW mixed Try.func10 (of_decide_eq_true (by kernel_rfl)) (by rw [eq10]; exact h)

/-- (*shadowbook/counts.Counts).Take -/
def an11 : Ann := (.seq .nil (.join [] [0, 1, 1000000] (.block (.seq .nil (.cond (.seq .nil .nil) (.seq .nil (.cond (.seq .nil .nil) .nil))))) (.seq (.seq .nil (.block (.loop [(30, .sh (.one (.int .i64)))] [0, 1, 28, 29, 1000000] (.seq .nil (.seq (.cond .nil .nil) (.seq (.block (.seq .nil (.seq .nil (.cond (.seq .nil (.seq .nil .nil)) .nil)))) .nil)))))) (.seq .nil .nil))))
def S11 (x0 : Option Addr) (x1 : Option Addr) (K : Value → WP) : WP := 
  joinW (Unit) (fun (J1 : (Unit) → WP) =>
  splitW (Option.isNone x0) (K (.tuple #[(.int .u32 (0 : Int)), (.int .i64 (1 : Int))])) <|
  drewW <|
  splitW (!(Option.isNone x1)) (ptrW x1 fun (p3 : Addr) =>
  ldAW [(.int .i64), (.int .i64)] p3 fun (u4 : (Int × Int × Unit)) =>
  ptrW x0 fun (p5 : Addr) =>
  ldAW [(.int .i64), (.int .i64)] p5 fun (u6 : (Int × Int × Unit)) =>
  eqW Try.prog (eqS .neq 23 (.tmp 18) (.tmp 22) (.agg #[(.int .i64 u4.1), (.int .i64 u4.2.1)]) (.agg #[(.int .i64 u6.1), (.int .i64 u6.2.1)])) fun (b7 : Bool) =>
  splitW b7 (K (.tuple #[(.int .u32 (0 : Int)), (.int .i64 (2 : Int))])) <| J1 ()) <| J1 ()) fun (y2 : Unit) =>
  ptrW x0 fun (p8 : Addr) =>
  ldW .slc (p8.add 2) fun (u9 : (Option Addr × Nat × Nat)) =>
  loopW (Int × Unit) ((0 : Int), ()) fun (y11 : Int × Unit) (I10 : (Int × Unit) → WP) =>
  splitW (decide (y11.1 < ((u9.2.1 : Nat) : Int))) (guardW (0 ≤ y11.1 ∧ y11.1 < ((u9.2.1 : Nat) : Int)) <|
  ptrW u9.1 fun (p12 : Addr) =>
  ldW (.int .u16) (p12.add (Int.toNat y11.1 * 1)) fun (u13 : Int) =>
  splitW (u13 == (0 : Int)) (callW Try.prog 14 [(.pointer x1), (.int .u32 (IntKind.wrap .u32 y11.1))] (.one (.one (.int .i64))) fun (u14 : Int) =>
  splitW (u14 == (0 : Int)) (ptrW x0 fun (p15 : Addr) =>
  ldW .slc (p15.add 2) fun (u16 : (Option Addr × Nat × Nat)) =>
  guardW (0 ≤ y11.1 ∧ y11.1 < ((u16.2.1 : Nat) : Int)) <|
  ptrW u16.1 fun (p17 : Addr) =>
  stW (p17.add (Int.toNat y11.1 * 1)) (.int .u16 (1 : Int)) <| K (.tuple #[(.int .u32 (IntKind.wrap .u32 y11.1)), (.int .i64 (0 : Int))])) <| I10 ((IntKind.wrap .i64 (y11.1 + (1 : Int))), ())) <| I10 ((IntKind.wrap .i64 (y11.1 + (1 : Int))), ())) <| K (.tuple #[(.int .u32 (0 : Int)), (.int .i64 (9 : Int))])
theorem eq11 (x0 : Option Addr) (x1 : Option Addr) (K : Value → WP) : bodyW Try.prog Try.f11 an11 false [(.pointer x0), (.pointer x1)] K = S11 x0 x1 K := by kernel_rfl
theorem calls11 (x0 : Option Addr) (x1 : Option Addr) {K : Value → WP} {w : World} (h : S11 x0 x1 K w) : Calls Try.prog 11 #[(.pointer x0), (.pointer x1)] w (Ret K) := callsR_of_bodyW mixed Try.func11 (of_decide_eq_true (by kernel_rfl)) (by rw [eq11]; exact h)

/-- (*shadowbook/counts.Counts).Sub -/
def an12 : Ann := (.seq .nil (.seq .nil (.seq (.seq .nil (.cond (.seq .nil .nil) .nil)) (.seq .nil (.seq .nil .nil)))))
def S12 (x0 : Option Addr) (x1 : Int) (K : Value → WP) : WP := 
  callW Try.prog 28 [(.pointer x0), (.int .u32 x1)] (.many [(.one .ptr), (.one (.int .i64))]) fun (u1 : Option Addr × Int × Unit) =>
  splitW (u1.2.1 != (0 : Int)) (K (.tuple #[(.int .i64 (0 : Int)), (.int .i64 u1.2.1)])) <|
  ptrW u1.1 fun (p2 : Addr) =>
  ldW (.int .u16) p2 fun (u3 : Int) =>
  ptrW u1.1 fun (p4 : Addr) =>
  stW p4 (.int .u16 (IntKind.wrap .u16 (u3 - (1 : Int)))) <|
  ptrW u1.1 fun (p5 : Addr) =>
  ldW (.int .u16) p5 fun (u6 : Int) => K (.tuple #[(.int .i64 (IntKind.wrap .i64 u6)), (.int .i64 (0 : Int))])
theorem eq12 (x0 : Option Addr) (x1 : Int) (K : Value → WP) : bodyW Try.prog Try.f12 an12 false [(.pointer x0), (.int .u32 x1)] K = S12 x0 x1 K := by kernel_rfl
theorem calls12 (x0 : Option Addr) (x1 : Int) {K : Value → WP} {w : World} (h : S12 x0 x1 K w) : Calls Try.prog 12 #[(.pointer x0), (.int .u32 x1)] w (Ret K) := callsR_of_bodyW mixed Try.func12 (of_decide_eq_true (by kernel_rfl)) (by rw [eq12]; exact h)

/-- (*shadowbook/counts.Counts).All -/
def an13 : Ann := (.seq .nil (.seq (.seq .nil (.cond (.seq .nil .nil) .nil)) (.seq (.seq .nil (.block (.loop [(2, .sh (.one .slc)), (12, .sh (.one (.int .i64)))] [10, 11, 1000000] (.seq .nil (.seq (.cond .nil .nil) (.seq (.block (.seq .nil .nil)) .nil)))))) (.seq .nil .nil))))
def S13 (x0 : Option Addr) (K : Value → WP) : WP := 
  splitW (Option.isNone x0) (K (.slice none 0 0)) <|
  ptrW x0 fun (p1 : Addr) =>
  ldW .slc (p1.add 2) fun (u2 : (Option Addr × Nat × Nat)) =>
  loopW ((Option Addr × Nat × Nat) × Int × Unit) ((none, 0, 0), (0 : Int), ()) fun (y4 : (Option Addr × Nat × Nat) × Int × Unit) (I3 : ((Option Addr × Nat × Nat) × Int × Unit) → WP) =>
  splitW (decide (y4.2.1 < ((u2.2.1 : Nat) : Int))) (guardW (0 ≤ y4.2.1 ∧ y4.2.1 < ((u2.2.1 : Nat) : Int)) <|
  ptrW u2.1 fun (p5 : Addr) =>
  ldW (.int .u16) (p5.add (Int.toNat y4.2.1 * 1)) fun (u6 : Int) =>
  newW (.cells #[(.int .i64 (IntKind.wrap .i64 u6))] 3) fun (r7 : Nat) =>
  runW Try.prog (Builtin.append_ #[37, 37] 37 #[(.slice y4.1.1 y4.1.2.1 y4.1.2.2), (.slice (some (⟨r7, 0, none⟩ : Addr)) 1 1)]) .slc fun (u8 : (Option Addr × Nat × Nat)) => I3 ((u8.1, u8.2.1, u8.2.2), (IntKind.wrap .i64 (y4.2.1 + (1 : Int))), ())) <| K (.slice y4.1.1 y4.1.2.1 y4.1.2.2)
theorem eq13 (x0 : Option Addr) (K : Value → WP) : bodyW Try.prog Try.f13 an13 false [(.pointer x0)] K = S13 x0 K := by kernel_rfl
theorem calls13 (x0 : Option Addr) {K : Value → WP} {w : World} (h : S13 x0 K w) : Calls Try.prog 13 #[(.pointer x0)] w (Ret K) := callsR_of_bodyW mixed Try.func13 (of_decide_eq_true (by kernel_rfl)) (by rw [eq13]; exact h)

/-- (*shadowbook/counts.Counts).Get -/
def an14 : Ann := (.seq .nil (.seq (.seq .nil (.cond (.seq .nil .nil) .nil)) (.seq .nil .nil)))
def S14 (x0 : Option Addr) (x1 : Int) (K : Value → WP) : WP := 
  splitW (Option.isNone x0) (K (.int .i64 (0 : Int))) <|
  ptrW x0 fun (p1 : Addr) =>
  ldW .slc (p1.add 2) fun (u2 : (Option Addr × Nat × Nat)) =>
  splitW (decide ((IntKind.wrap .u64 x1) ≥ (IntKind.wrap .u64 ((u2.2.1 : Nat) : Int)))) (K (.int .i64 (0 : Int))) <|
  ptrW x0 fun (p3 : Addr) =>
  ldW .slc (p3.add 2) fun (u4 : (Option Addr × Nat × Nat)) =>
  guardW (0 ≤ x1 ∧ x1 < ((u4.2.1 : Nat) : Int)) <|
  ptrW u4.1 fun (p5 : Addr) =>
  ldW (.int .u16) (p5.add (Int.toNat x1 * 1)) fun (u6 : Int) => K (.int .i64 (IntKind.wrap .i64 u6))
theorem eq14 (x0 : Option Addr) (x1 : Int) (K : Value → WP) : bodyW Try.prog Try.f14 an14 false [(.pointer x0), (.int .u32 x1)] K = S14 x0 x1 K := by kernel_rfl
theorem calls14 (x0 : Option Addr) (x1 : Int) {K : Value → WP} {w : World} (h : S14 x0 x1 K w) : Calls Try.prog 14 #[(.pointer x0), (.int .u32 x1)] w (Ret K) := callsR_of_bodyW mixed Try.func14 (of_decide_eq_true (by kernel_rfl)) (by rw [eq14]; exact h)

/-- shadowbook/shadowbookkit.Pick -/
def an15 : Ann := (.seq .nil (.seq (.seq .nil (.cond (.seq .nil .nil) .nil)) (.seq .nil (.seq (.seq .nil (.cond .nil .nil)) (.seq .nil .nil)))))
def S15 (x0 : Int) (x1 : Int) (K : Value → WP) : WP := 
  splitW (decide (x1 < (1 : Int))) (K (.int .i64 (0 : Int))) <|
  guardW (x1 ≠ 0) <|
  splitW (decide ((Int.tmod x0 x1) < (0 : Int))) (K (.int .i64 (IntKind.wrap .i64 ((Int.tmod x0 x1) + x1)))) <| K (.int .i64 (Int.tmod x0 x1))
theorem eq15 (x0 : Int) (x1 : Int) (K : Value → WP) : bodyW Try.prog Try.f15 an15 false [(.int .i64 x0), (.int .i64 x1)] K = S15 x0 x1 K := by kernel_rfl
theorem calls15 (x0 : Int) (x1 : Int) {K : Value → WP} {w : World} (h : S15 x0 x1 K w) : Calls Try.prog 15 #[(.int .i64 x0), (.int .i64 x1)] w (Ret K) := callsR_of_bodyW mixed Try.func15 (of_decide_eq_true (by kernel_rfl)) (by rw [eq15]; exact h)

/-- shadowbook/shadowbooklaw12.small -/
def an16 : Ann := (.seq .nil (.seq .nil .nil))
def S16  (K : Value → WP) : WP := 
  newW (.cells #[(.int .i64 (0 : Int)), (.int .i64 (0 : Int))] 23) fun (r1 : Nat) =>
  guardW ((#[(.int .i64 (128 : Int)), (.int .i64 (8 : Int))] : Array Value).size = 2) <|
  stAW (⟨r1, 0, none⟩ : Addr) [(.int .i64 (128 : Int)), (.int .i64 (8 : Int))] <|
  ldAW [(.int .i64), (.int .i64)] (⟨r1, 0, none⟩ : Addr) fun (u2 : (Int × Int × Unit)) => K (.agg #[(.int .i64 u2.1), (.int .i64 u2.2.1)])
theorem eq16  (K : Value → WP) : bodyW Try.prog Try.f16 an16 false [] K = S16  K := by kernel_rfl
theorem calls16  {K : Value → WP} {w : World} (h : S16  K w) : Calls Try.prog 16 #[] w (Ret K) := callsR_of_bodyW mixed Try.func16 (of_decide_eq_true (by kernel_rfl)) (by rw [eq16]; exact h)

/-- (*shadowbook/counts.Counts).Clone -/
def an17 : Ann := (.seq .nil (.seq (.seq .nil (.cond (.seq .nil .nil) .nil)) (.seq .nil .nil)))
def S17 (x0 : Option Addr) (K : Value → WP) : WP := 
  splitW (Option.isNone x0) (K (.pointer none)) <|
  drewW <|
  ptrW x0 fun (p1 : Addr) =>
  ldAW [(.int .i64), (.int .i64)] p1 fun (u2 : (Int × Int × Unit)) =>
  ptrW x0 fun (p3 : Addr) =>
  ldW .slc (p3.add 2) fun (u4 : (Option Addr × Nat × Nat)) =>
  callW Try.prog 29 [(.slice u4.1 u4.2.1 u4.2.2)] (.one (.one .slc)) fun (u5 : (Option Addr × Nat × Nat)) =>
  heldW [[(p1.add 0, (.int .i64 u2.1)), (p1.add 1, (.int .i64 u2.2.1))]] <|
  newW (.cells #[(.int .i64 u2.1), (.int .i64 u2.2.1), (.slice u5.1 u5.2.1 u5.2.2)] 64) fun (r6 : Nat) => K (.pointer (some (⟨r6, 0, none⟩ : Addr)))
theorem eq17 (x0 : Option Addr) (K : Value → WP) : bodyW Try.prog Try.f17 an17 false [(.pointer x0)] K = S17 x0 K := by kernel_rfl
theorem calls17 (x0 : Option Addr) {K : Value → WP} {w : World} (h : S17 x0 K w) : Calls Try.prog 17 #[(.pointer x0)] w (Ret K) := callsR_of_bodyW mixed Try.func17 (of_decide_eq_true (by kernel_rfl)) (by rw [eq17]; exact h)

/-- (*shadowbook/counts.Counts).Add -/
def an18 : Ann := (.seq .nil (.seq .nil (.seq (.seq .nil (.cond (.seq .nil .nil) .nil)) (.seq (.seq .nil (.cond (.seq .nil .nil) .nil)) (.seq .nil (.seq .nil .nil))))))
def S18 (x0 : Option Addr) (x1 : Int) (K : Value → WP) : WP := 
  callW Try.prog 28 [(.pointer x0), (.int .u32 x1)] (.many [(.one .ptr), (.one (.int .i64))]) fun (u1 : Option Addr × Int × Unit) =>
  splitW (u1.2.1 != (0 : Int)) (K (.int .i64 u1.2.1)) <|
  ptrW u1.1 fun (p2 : Addr) =>
  ldW (.int .u16) p2 fun (u3 : Int) =>
  splitW (u3 == (65535 : Int)) (K (.int .i64 (12 : Int))) <|
  ptrW u1.1 fun (p4 : Addr) =>
  ldW (.int .u16) p4 fun (u5 : Int) =>
  ptrW u1.1 fun (p6 : Addr) =>
  stW p6 (.int .u16 (IntKind.wrap .u16 (u5 + (1 : Int)))) <| K (.int .i64 (0 : Int))
theorem eq18 (x0 : Option Addr) (x1 : Int) (K : Value → WP) : bodyW Try.prog Try.f18 an18 false [(.pointer x0), (.int .u32 x1)] K = S18 x0 x1 K := by kernel_rfl
theorem calls18 (x0 : Option Addr) (x1 : Int) {K : Value → WP} {w : World} (h : S18 x0 x1 K w) : Calls Try.prog 18 #[(.pointer x0), (.int .u32 x1)] w (Ret K) := callsR_of_bodyW mixed Try.func18 (of_decide_eq_true (by kernel_rfl)) (by rw [eq18]; exact h)

/-- (*shadowbook/counts.Counts).Pages -/
def an19 : Ann := (.seq .nil (.seq (.seq .nil (.cond (.seq .nil .nil) .nil)) (.seq (.seq .nil (.block (.loop [(21, .sh (.one .slc))] [] (.seq .nil (.block (.seq .nil (.seq (.seq .nil (.block (.loop [(4, .sh (.one .slc)), (24, .sh (.one (.int .i64)))] [2, 22, 23, 1000000] (.seq .nil (.seq (.cond .nil .nil) (.seq (.block (.seq .nil .nil)) .nil)))))) .nil))))))) (.seq .nil .nil))))
def S19 (x0 : Option Addr) (K : Value → WP) : WP := 
  newW (.cells #[(.slice none 0 0)] 46) fun (r1 : Nat) =>
  splitW (Option.isNone x0) (stW (⟨r1, 0, none⟩ : Addr) (.slice none 0 0) <|
  leaveW Try.prog [] <|
  ldW .slc (⟨r1, 0, none⟩ : Addr) fun (u2 : (Option Addr × Nat × Nat)) => K (.slice u2.1 u2.2.1 u2.2.2)) <|
  drewW <|
  ptrW x0 fun (p3 : Addr) =>
  ldW .slc (p3.add 2) fun (u4 : (Option Addr × Nat × Nat)) =>
  ptrW x0 fun (p5 : Addr) =>
  ldW (.int .i64) p5 fun (u6 : Int) =>
  callW Try.prog 31 [(.int .i64 u6)] (.one (.one (.int .i64))) fun (u7 : Int) =>
  heldW [[((p3.add 2), (.slice u4.1 u4.2.1 u4.2.2))]] <|
  callW Try.prog 30 [(.slice u4.1 u4.2.1 u4.2.2), (.int .i64 (IntKind.wrap .i64 (Int.tdiv u7 (2 : Int))))] (.one (.one .any)) fun (u8 : Value) =>
  rangeW Try.prog u8 ((Option Addr × Nat × Nat) × Unit) (fun (t9 : (Option Addr × Nat × Nat) × Unit) => [(.slice t9.1.1 t9.1.2.1 t9.1.2.2)]) (fun (t9 : (Option Addr × Nat × Nat) × Unit) (B10 : WP → WP) (N11 : WP) (Q12 : Code → WP) => B10 (loopW ((Option Addr × Nat × Nat) × Int × Unit) ((none, 0, 0), (0 : Int), ()) fun (y16 : (Option Addr × Nat × Nat) × Int × Unit) (I15 : ((Option Addr × Nat × Nat) × Int × Unit) → WP) =>
  splitW (decide (y16.2.1 < ((t9.1.2.1 : Nat) : Int))) (guardW (0 ≤ y16.2.1 ∧ y16.2.1 < ((t9.1.2.1 : Nat) : Int)) <|
  ptrW t9.1.1 fun (p17 : Addr) =>
  ldW (.int .u16) (p17.add (Int.toNat y16.2.1 * 1)) fun (u18 : Int) =>
  callW Try.prog 32 [(.slice y16.1.1 y16.1.2.1 y16.1.2.2), (.int .u64 (IntKind.wrap .u64 u18)), (.int .i64 (2 : Int))] (.one (.one .slc)) fun (u19 : (Option Addr × Nat × Nat)) => I15 ((u19.1, u19.2.1, u19.2.2), (IntKind.wrap .i64 (y16.2.1 + (1 : Int))), ())) <|
  ldW .slc (⟨r1, 0, none⟩ : Addr) fun (u20 : (Option Addr × Nat × Nat)) =>
  runW Try.prog (Go.convert 74 9 (.slice y16.1.1 y16.1.2.1 y16.1.2.2)) .str fun (u21 : ByteArray) =>
  newW (.cells #[(.string u21)] 9) fun (r22 : Nat) =>
  runW Try.prog (Builtin.append_ #[46, 46] 46 #[(.slice u20.1 u20.2.1 u20.2.2), (.slice (some (⟨r22, 0, none⟩ : Addr)) 1 1)]) .slc fun (u23 : (Option Addr × Nat × Nat)) =>
  stW (⟨r1, 0, none⟩ : Addr) (.slice u23.1 u23.2.1 u23.2.2) <| N11)) fun (r13 : Nat) (p14 : Option Code) =>
  jumpK (ldW .slc (⟨r1, 0, none⟩ : Addr) fun (u24 : (Option Addr × Nat × Nat)) =>
  stW (⟨r1, 0, none⟩ : Addr) (.slice u24.1 u24.2.1 u24.2.2) <|
  leaveW Try.prog (⟨.collected r13, #[]⟩ :: []) <|
  ldW .slc (⟨r1, 0, none⟩ : Addr) fun (u25 : (Option Addr × Nat × Nat)) => K (.slice u25.1 u25.2.1 u25.2.2)) (leaveW Try.prog (⟨.collected r13, #[]⟩ :: []) <|
  ldW .slc (⟨r1, 0, none⟩ : Addr) fun (u26 : (Option Addr × Nat × Nat)) => K (.slice u26.1 u26.2.1 u26.2.2)) [] p14
theorem eq19 (x0 : Option Addr) (K : Value → WP) : bodyW Try.prog Try.f19 an19 true [(.pointer x0)] K = S19 x0 K := by kernel_rfl
theorem calls19 (x0 : Option Addr) {K : Value → WP} {w : World} (h : S19 x0 K w) : Calls Try.prog 19 #[(.pointer x0)] w (Ret K) := callsR_of_bodyW mixed Try.func19 (of_decide_eq_true (by kernel_rfl)) (by rw [eq19]; exact h)

/-- shadowbook/shadowbookkit.LightTexts -/
def an20 : Ann := (.seq .nil (.seq (.seq .nil (.cond (.seq .nil .nil) .nil)) (.seq .nil (.seq (.seq .nil (.block (.loop [(7, .sh (.one (.int .i64))), (8, .sh (.one (.int .i64)))] [0, 2, 1000000] (.seq (.seq .nil (.cond .nil .nil)) (.seq (.block (.seq .nil (.seq .nil (.cond (.seq .nil .nil) .nil)))) .nil))))) (.seq .nil .nil)))))
def S20 (a0 : Option Addr) (n0 c0 : Nat) (x1 : Int) (x2 : Int) (K : Value → WP) : WP := 
  splitW (decide (((n0 : Nat) : Int) > x1)) (K (.bool false)) <|
  loopW (Int × Int × Unit) ((0 : Int), (0 : Int), ()) fun (y2 : Int × Int × Unit) (I1 : (Int × Int × Unit) → WP) =>
  splitW (decide (y2.2.1 < ((n0 : Nat) : Int))) (guardW (0 ≤ y2.2.1 ∧ y2.2.1 < ((n0 : Nat) : Int)) <|
  ptrW a0 fun (p3 : Addr) =>
  ldW .str (p3.add (Int.toNat y2.2.1 * 1)) fun (u4 : ByteArray) =>
  splitW (decide ((IntKind.wrap .i64 (y2.1 + ((u4.size : Nat) : Int))) > x2)) (K (.bool false)) <| I1 ((IntKind.wrap .i64 (y2.1 + ((u4.size : Nat) : Int))), (IntKind.wrap .i64 (y2.2.1 + (1 : Int))), ())) <| K (.bool true)
theorem eq20 (a0 : Option Addr) (n0 c0 : Nat) (x1 : Int) (x2 : Int) (K : Value → WP) : bodyW Try.prog Try.f20 an20 false [(.slice a0 n0 c0), (.int .i64 x1), (.int .i64 x2)] K = S20 a0 n0 c0 x1 x2 K := by kernel_rfl
theorem calls20 (a0 : Option Addr) (n0 c0 : Nat) (x1 : Int) (x2 : Int) {K : Value → WP} {w : World} (h : S20 a0 n0 c0 x1 x2 K w) : Calls Try.prog 20 #[(.slice a0 n0 c0), (.int .i64 x1), (.int .i64 x2)] w (Ret K) := callsR_of_bodyW mixed Try.func20 (of_decide_eq_true (by kernel_rfl)) (by rw [eq20]; exact h)

/-- shadowbook/counts.Load -/
def an21 : Ann := (.seq .nil (.seq .nil (.seq (.seq .nil (.cond (.seq .nil .nil) .nil)) (.seq .nil (.seq (.seq .nil (.cond (.seq .nil .nil) .nil)) (.seq .nil (.seq (.seq .nil (.block (.loop [(36, .sh (.one (.int .i64))), (1000000, .ds)] [4, 5, 6, 9, 34, 35] (.seq .nil (.seq (.cond .nil .nil) (.seq (.block (.seq .nil (.seq .nil (.block (.loop [(43, .sh (.one .slc))] [] (.seq .nil (.block (.seq .nil .nil)))))))) .nil)))))) (.seq (.seq .nil (.cond (.seq .nil .nil) .nil)) (.seq .nil .nil)))))))))
def S21 (x0_0 : Int) (x0_1 : Int) (a1 : Option Addr) (n1 c1 : Nat) (K : Value → WP) : WP := 
  newW (.cells #[(.int .i64 x0_0), (.int .i64 x0_1)] 23) fun (r1 : Nat) =>
  ldAW [(.int .i64), (.int .i64)] (⟨r1, 0, none⟩ : Addr) fun (u2 : (Int × Int × Unit)) =>
  callW Try.prog 9 [(.agg #[(.int .i64 u2.1), (.int .i64 u2.2.1)])] (.many [(.one .ptr), (.one (.int .i64))]) fun (u3 : Option Addr × Int × Unit) =>
  newW (.cells #[(.pointer none)] 26) fun (r4 : Nat) =>
  stW (⟨r4, 0, none⟩ : Addr) (.pointer u3.1) <|
  splitW (u3.2.1 != (0 : Int)) (leaveW Try.prog [] <| K (.tuple #[(.pointer none), (.int .i64 u3.2.1)])) <|
  ldAW [(.int .i64), (.int .i64)] (⟨r1, 0, none⟩ : Addr) fun (u5 : (Int × Int × Unit)) =>
  callW Try.prog 34 [(.agg #[(.int .i64 u5.1), (.int .i64 u5.2.1)])] (.one (.one (.int .i64))) fun (u6 : Int) =>
  splitW (((n1 : Nat) : Int) != u6) (leaveW Try.prog [] <| K (.tuple #[(.pointer none), (.int .i64 (4 : Int))])) <|
  ldW .ptr (⟨r4, 0, none⟩ : Addr) fun (u7 : Option Addr) =>
  callW Try.prog 19 [(.pointer u7)] (.one (.one .slc)) fun (u8 : (Option Addr × Nat × Nat)) =>
  callW Try.prog 35 [(.slice a1 n1 c1), (.slice u8.1 u8.2.1 u8.2.2), (.func (.func 33) #[] #[])] (.one (.one .bool)) fun (u9 : Bool) =>
  splitW (!u9) (leaveW Try.prog [] <| K (.tuple #[(.pointer none), (.int .i64 (4 : Int))])) <|
  newW (.cells #[(.int .i64 (0 : Int))] 3) fun (r10 : Nat) =>
  stW (⟨r10, 0, none⟩ : Addr) (.int .i64 (0 : Int)) <|
  loopW (Int × List Deferred × Unit) ((0 : Int), [], ()) fun (y12 : Int × List Deferred × Unit) (I11 : (Int × List Deferred × Unit) → WP) =>
  splitW (decide (y12.1 < ((n1 : Nat) : Int))) (guardW (0 ≤ y12.1 ∧ y12.1 < ((n1 : Nat) : Int)) <|
  ptrW a1 fun (p13 : Addr) =>
  ldW .str (p13.add (Int.toNat y12.1 * 1)) fun (u14 : ByteArray) =>
  runW Try.prog (Go.convert 9 74 (.string u14)) .slc fun (u15 : (Option Addr × Nat × Nat)) =>
  callW Try.prog 36 [(.slice u15.1 u15.2.1 u15.2.2), (.int .i64 (2 : Int))] (.one (.one .any)) fun (u16 : Value) =>
  rangeW Try.prog u16 ((Option Addr × Nat × Nat) × Unit) (fun (t17 : (Option Addr × Nat × Nat) × Unit) => [(.slice t17.1.1 t17.1.2.1 t17.1.2.2)]) (fun (t17 : (Option Addr × Nat × Nat) × Unit) (B18 : WP → WP) (N19 : WP) (Q20 : Code → WP) => B18 (drewW <|
  ldW .ptr (⟨r4, 0, none⟩ : Addr) fun (u23 : Option Addr) =>
  ptrW u23 fun (p24 : Addr) =>
  ldW .slc (p24.add 2) fun (u25 : (Option Addr × Nat × Nat)) =>
  ldW (.int .i64) (⟨r10, 0, none⟩ : Addr) fun (u26 : Int) =>
  callW Try.prog 37 [(.slice t17.1.1 t17.1.2.1 t17.1.2.2)] (.one (.one (.int .u64))) fun (u27 : Int) =>
  heldW [[((⟨r10, 0, none⟩ : Addr), (.int .i64 u26))], [((p24.add 2), (.slice u25.1 u25.2.1 u25.2.2))], [((⟨r4, 0, none⟩ : Addr), (.pointer u23))]] <|
  guardW (0 ≤ u26 ∧ u26 < ((u25.2.1 : Nat) : Int)) <|
  ptrW u25.1 fun (p28 : Addr) =>
  stW (p28.add (Int.toNat u26 * 1)) (.int .u16 (IntKind.wrap .u16 u27)) <|
  ldW (.int .i64) (⟨r10, 0, none⟩ : Addr) fun (u29 : Int) =>
  stW (⟨r10, 0, none⟩ : Addr) (.int .i64 (IntKind.wrap .i64 (u29 + (1 : Int)))) <| N19)) fun (r21 : Nat) (p22 : Option Code) =>
  jumpK (I11 ((IntKind.wrap .i64 (y12.1 + (1 : Int))), (⟨.collected r21, #[]⟩ :: y12.2.1), ())) (leaveW Try.prog (⟨.collected r21, #[]⟩ :: y12.2.1) <| K (.tuple #[(.pointer none), (.int .i64 (0 : Int))])) [] p22) <|
  ldW .ptr (⟨r4, 0, none⟩ : Addr) fun (u30 : Option Addr) =>
  ptrW u30 fun (p31 : Addr) =>
  ldW .slc (p31.add 2) fun (u32 : (Option Addr × Nat × Nat)) =>
  guardW (0 ≤ (0 : Int) ∧ (0 : Int) < ((u32.2.1 : Nat) : Int)) <|
  ptrW u32.1 fun (p33 : Addr) =>
  ldW (.int .u16) (p33.add (Int.toNat (0 : Int) * 1)) fun (u34 : Int) =>
  splitW (u34 != (1 : Int)) (leaveW Try.prog y12.2.1 <| K (.tuple #[(.pointer none), (.int .i64 (4 : Int))])) <|
  ldW .ptr (⟨r4, 0, none⟩ : Addr) fun (u35 : Option Addr) =>
  ptrW u35 fun (p36 : Addr) =>
  ldW .slc (p36.add 2) fun (u37 : (Option Addr × Nat × Nat)) =>
  guardW (0 ≤ (1 : Int) ∧ (1 : Int) < ((u37.2.1 : Nat) : Int)) <|
  ptrW u37.1 fun (p38 : Addr) =>
  ldW (.int .u16) (p38.add (Int.toNat (1 : Int) * 1)) fun (u39 : Int) =>
  splitW (u39 != (1 : Int)) (leaveW Try.prog y12.2.1 <| K (.tuple #[(.pointer none), (.int .i64 (4 : Int))])) <|
  ldW .ptr (⟨r4, 0, none⟩ : Addr) fun (u40 : Option Addr) =>
  leaveW Try.prog y12.2.1 <| K (.tuple #[(.pointer u40), (.int .i64 (0 : Int))])
theorem eq21 (x0_0 : Int) (x0_1 : Int) (a1 : Option Addr) (n1 c1 : Nat) (K : Value → WP) : bodyW Try.prog Try.f21 an21 true [(.agg #[(.int .i64 x0_0), (.int .i64 x0_1)]), (.slice a1 n1 c1)] K = S21 x0_0 x0_1 a1 n1 c1 K := by kernel_rfl
theorem calls21 (x0_0 : Int) (x0_1 : Int) (a1 : Option Addr) (n1 c1 : Nat) {K : Value → WP} {w : World} (h : S21 x0_0 x0_1 a1 n1 c1 K w) : Calls Try.prog 21 #[(.agg #[(.int .i64 x0_0), (.int .i64 x0_1)]), (.slice a1 n1 c1)] w (Ret K) := callsR_of_bodyW mixed Try.func21 (of_decide_eq_true (by kernel_rfl)) (by rw [eq21]; exact h)

/-- shadowbook/shadowbookref12.Load -/
def an22 : Ann := (.seq .nil (.seq .nil (.seq (.seq .nil (.cond (.seq .nil .nil) .nil)) (.seq (.seq .nil (.cond (.seq .nil .nil) .nil)) (.seq .nil (.seq .nil (.seq (.seq .nil (.block (.loop [(9, .sh (.one (.int .i64))), (10, .sh (.one (.int .i64)))] [1, 6, 8, 1000000] (.seq (.seq .nil (.cond .nil .nil)) (.seq (.block (.seq (.seq .nil (.cond (.seq .nil .nil) .nil)) (.seq .nil (.block (.loop [(9, .sh (.one (.int .i64))), (11, .sh (.one (.int .i64)))] [1, 6, 8, 10, 1000000] (.seq (.seq .nil (.cond .nil .nil)) (.seq (.block (.seq .nil .nil)) .nil))))))) .nil))))) (.seq (.seq .nil (.cond (.seq .nil .nil) .nil)) (.seq .nil .nil)))))))))
def S22 (x0_0 : Int) (x0_1 : Int) (a1 : Option Addr) (n1 c1 : Nat) (K : Value → WP) : WP := 
  newW (.cells #[(.int .i64 x0_0), (.int .i64 x0_1)] 23) fun (r1 : Nat) =>
  ldAW [(.int .i64), (.int .i64)] (⟨r1, 0, none⟩ : Addr) fun (u2 : (Int × Int × Unit)) =>
  callW Try.prog 38 [(.agg #[(.int .i64 u2.1), (.int .i64 u2.2.1)])] (.many [(.one .ptr), (.one (.int .i64))]) fun (u3 : Option Addr × Int × Unit) =>
  splitW (u3.2.1 != (0 : Int)) (K (.tuple #[(.pointer none), (.int .i64 u3.2.1)])) <|
  ldAW [(.int .i64), (.int .i64)] (⟨r1, 0, none⟩ : Addr) fun (u4 : (Int × Int × Unit)) =>
  callW Try.prog 25 [(.agg #[(.int .i64 u4.1), (.int .i64 u4.2.1)])] (.one (.one (.int .i64))) fun (u5 : Int) =>
  splitW (((n1 : Nat) : Int) != u5) (K (.tuple #[(.pointer none), (.int .i64 (4 : Int))])) <|
  callW Try.prog 39 [(.pointer u3.1)] (.one (.one .slc)) fun (u6 : (Option Addr × Nat × Nat)) =>
  loopW (Int × Int × Unit) ((0 : Int), (0 : Int), ()) fun (y8 : Int × Int × Unit) (I7 : (Int × Int × Unit) → WP) =>
  splitW (decide (y8.2.1 < ((n1 : Nat) : Int))) (drewW <|
  guardW (0 ≤ y8.2.1 ∧ y8.2.1 < ((n1 : Nat) : Int)) <|
  ptrW a1 fun (p9 : Addr) =>
  ldW .str (p9.add (Int.toNat y8.2.1 * 1)) fun (u10 : ByteArray) =>
  guardW (0 ≤ y8.2.1 ∧ y8.2.1 < ((u6.2.1 : Nat) : Int)) <|
  ptrW u6.1 fun (p11 : Addr) =>
  ldW .str (p11.add (Int.toNat y8.2.1 * 1)) fun (u12 : ByteArray) =>
  splitW (((u10.size : Nat) : Int) != ((u12.size : Nat) : Int)) (K (.tuple #[(.pointer none), (.int .i64 (4 : Int))])) <|
  loopW (Int × Int × Unit) (y8.1, (0 : Int), ()) fun (y14 : Int × Int × Unit) (I13 : (Int × Int × Unit) → WP) =>
  guardW (0 ≤ y8.2.1 ∧ y8.2.1 < ((n1 : Nat) : Int)) <|
  ptrW a1 fun (p15 : Addr) =>
  ldW .str (p15.add (Int.toNat y8.2.1 * 1)) fun (u16 : ByteArray) =>
  splitW (decide (y14.2.1 < ((u16.size : Nat) : Int))) (drewW <|
  ptrW u3.1 fun (p17 : Addr) =>
  ldW .slc (p17.add 2) fun (u18 : (Option Addr × Nat × Nat)) =>
  guardW (0 ≤ y8.2.1 ∧ y8.2.1 < ((n1 : Nat) : Int)) <|
  ptrW a1 fun (p19 : Addr) =>
  ldW .str (p19.add (Int.toNat y8.2.1 * 1)) fun (u20 : ByteArray) =>
  guardW (0 ≤ y14.2.1 ∧ y14.2.1 < ((u20.size : Nat) : Int)) <|
  guardW (0 ≤ y8.2.1 ∧ y8.2.1 < ((n1 : Nat) : Int)) <|
  ptrW a1 fun (p21 : Addr) =>
  ldW .str (p21.add (Int.toNat y8.2.1 * 1)) fun (u22 : ByteArray) =>
  guardW (0 ≤ (IntKind.wrap .i64 (y14.2.1 + (1 : Int))) ∧ (IntKind.wrap .i64 (y14.2.1 + (1 : Int))) < ((u22.size : Nat) : Int)) <|
  guardW (0 ≤ y14.1 ∧ y14.1 < ((u18.2.1 : Nat) : Int)) <|
  ptrW u18.1 fun (p23 : Addr) =>
  stW (p23.add (Int.toNat y14.1 * 1)) (.int .i64 (IntKind.wrap .i64 ((IntKind.wrap .i64 (bt u20 y14.2.1)) + (IntKind.wrap .i64 ((256 : Int) * (IntKind.wrap .i64 (bt u22 (IntKind.wrap .i64 (y14.2.1 + (1 : Int)))))))))) <| I13 ((IntKind.wrap .i64 (y14.1 + (1 : Int))), (IntKind.wrap .i64 (y14.2.1 + (2 : Int))), ())) <| I7 (y14.1, (IntKind.wrap .i64 (y8.2.1 + (1 : Int))), ())) <|
  ptrW u3.1 fun (p24 : Addr) =>
  ldW .slc (p24.add 2) fun (u25 : (Option Addr × Nat × Nat)) =>
  guardW (0 ≤ (0 : Int) ∧ (0 : Int) < ((u25.2.1 : Nat) : Int)) <|
  ptrW u25.1 fun (p26 : Addr) =>
  ldW (.int .i64) (p26.add (Int.toNat (0 : Int) * 1)) fun (u27 : Int) =>
  splitW (u27 != (1 : Int)) (K (.tuple #[(.pointer none), (.int .i64 (4 : Int))])) <|
  ptrW u3.1 fun (p28 : Addr) =>
  ldW .slc (p28.add 2) fun (u29 : (Option Addr × Nat × Nat)) =>
  guardW (0 ≤ (1 : Int) ∧ (1 : Int) < ((u29.2.1 : Nat) : Int)) <|
  ptrW u29.1 fun (p30 : Addr) =>
  ldW (.int .i64) (p30.add (Int.toNat (1 : Int) * 1)) fun (u31 : Int) =>
  splitW (u31 != (1 : Int)) (K (.tuple #[(.pointer none), (.int .i64 (4 : Int))])) <| K (.tuple #[(.pointer u3.1), (.int .i64 (0 : Int))])
theorem eq22 (x0_0 : Int) (x0_1 : Int) (a1 : Option Addr) (n1 c1 : Nat) (K : Value → WP) : bodyW Try.prog Try.f22 an22 false [(.agg #[(.int .i64 x0_0), (.int .i64 x0_1)]), (.slice a1 n1 c1)] K = S22 x0_0 x0_1 a1 n1 c1 K := by kernel_rfl
theorem calls22 (x0_0 : Int) (x0_1 : Int) (a1 : Option Addr) (n1 c1 : Nat) {K : Value → WP} {w : World} (h : S22 x0_0 x0_1 a1 n1 c1 K w) : Calls Try.prog 22 #[(.agg #[(.int .i64 x0_0), (.int .i64 x0_1)]), (.slice a1 n1 c1)] w (Ret K) := callsR_of_bodyW mixed Try.func22 (of_decide_eq_true (by kernel_rfl)) (by rw [eq22]; exact h)

/-- shadowbook/shadowbookkit.Same[int] -/
def an23 : Ann := (.seq .nil (.seq (.seq .nil (.cond (.seq .nil .nil) .nil)) (.seq (.seq .nil (.block (.loop [(5, .sh (.one (.int .i64)))] [0, 1, 1000000] (.seq (.seq .nil (.cond .nil .nil)) (.seq (.block (.seq .nil (.cond (.seq .nil .nil) .nil))) .nil))))) (.seq .nil .nil))))
def S23 (a0 : Option Addr) (n0 c0 : Nat) (a1 : Option Addr) (n1 c1 : Nat) (K : Value → WP) : WP := 
  splitW (((n0 : Nat) : Int) != ((n1 : Nat) : Int)) (K (.bool false)) <|
  loopW (Int × Unit) ((0 : Int), ()) fun (y2 : Int × Unit) (I1 : (Int × Unit) → WP) =>
  splitW (decide (y2.1 < ((n0 : Nat) : Int))) (drewW <|
  guardW (0 ≤ y2.1 ∧ y2.1 < ((n0 : Nat) : Int)) <|
  ptrW a0 fun (p3 : Addr) =>
  ldW (.int .i64) (p3.add (Int.toNat y2.1 * 1)) fun (u4 : Int) =>
  guardW (0 ≤ y2.1 ∧ y2.1 < ((n1 : Nat) : Int)) <|
  ptrW a1 fun (p5 : Addr) =>
  ldW (.int .i64) (p5.add (Int.toNat y2.1 * 1)) fun (u6 : Int) =>
  splitW (u4 != u6) (K (.bool false)) <| I1 ((IntKind.wrap .i64 (y2.1 + (1 : Int))), ())) <| K (.bool true)
theorem eq23 (a0 : Option Addr) (n0 c0 : Nat) (a1 : Option Addr) (n1 c1 : Nat) (K : Value → WP) : bodyW Try.prog Try.f23 an23 false [(.slice a0 n0 c0), (.slice a1 n1 c1)] K = S23 a0 n0 c0 a1 n1 c1 K := by kernel_rfl
theorem calls23 (a0 : Option Addr) (n0 c0 : Nat) (a1 : Option Addr) (n1 c1 : Nat) {K : Value → WP} {w : World} (h : S23 a0 n0 c0 a1 n1 c1 K w) : Calls Try.prog 23 #[(.slice a0 n0 c0), (.slice a1 n1 c1)] w (Ret K) := callsR_of_bodyW mixed Try.func23 (of_decide_eq_true (by kernel_rfl)) (by rw [eq23]; exact h)

/-- shadowbook/shadowbookkit.Same[string] -/
def an24 : Ann := (.seq .nil (.seq (.seq .nil (.cond (.seq .nil .nil) .nil)) (.seq (.seq .nil (.block (.loop [(5, .sh (.one (.int .i64)))] [0, 1, 1000000] (.seq (.seq .nil (.cond .nil .nil)) (.seq (.block (.seq .nil (.cond (.seq .nil .nil) .nil))) .nil))))) (.seq .nil .nil))))
def S24 (a0 : Option Addr) (n0 c0 : Nat) (a1 : Option Addr) (n1 c1 : Nat) (K : Value → WP) : WP := 
  splitW (((n0 : Nat) : Int) != ((n1 : Nat) : Int)) (K (.bool false)) <|
  loopW (Int × Unit) ((0 : Int), ()) fun (y2 : Int × Unit) (I1 : (Int × Unit) → WP) =>
  splitW (decide (y2.1 < ((n0 : Nat) : Int))) (drewW <|
  guardW (0 ≤ y2.1 ∧ y2.1 < ((n0 : Nat) : Int)) <|
  ptrW a0 fun (p3 : Addr) =>
  ldW .str (p3.add (Int.toNat y2.1 * 1)) fun (u4 : ByteArray) =>
  guardW (0 ≤ y2.1 ∧ y2.1 < ((n1 : Nat) : Int)) <|
  ptrW a1 fun (p5 : Addr) =>
  ldW .str (p5.add (Int.toNat y2.1 * 1)) fun (u6 : ByteArray) =>
  splitW (!(u4.toList == u6.toList)) (K (.bool false)) <| I1 ((IntKind.wrap .i64 (y2.1 + (1 : Int))), ())) <| K (.bool true)
theorem eq24 (a0 : Option Addr) (n0 c0 : Nat) (a1 : Option Addr) (n1 c1 : Nat) (K : Value → WP) : bodyW Try.prog Try.f24 an24 false [(.slice a0 n0 c0), (.slice a1 n1 c1)] K = S24 a0 n0 c0 a1 n1 c1 K := by kernel_rfl
theorem calls24 (a0 : Option Addr) (n0 c0 : Nat) (a1 : Option Addr) (n1 c1 : Nat) {K : Value → WP} {w : World} (h : S24 a0 n0 c0 a1 n1 c1 K w) : Calls Try.prog 24 #[(.slice a0 n0 c0), (.slice a1 n1 c1)] w (Ret K) := callsR_of_bodyW mixed Try.func24 (of_decide_eq_true (by kernel_rfl)) (by rw [eq24]; exact h)

/-- shadowbook/shadowbookref11.Pages -/
def an25 : Ann := (.seq .nil (.seq (.seq .nil (.cond (.seq .nil .nil) .nil)) (.seq .nil (.seq .nil .nil))))
def S25 (x0_0 : Int) (x0_1 : Int) (K : Value → WP) : WP := 
  newW (.cells #[(.int .i64 x0_0), (.int .i64 x0_1)] 23) fun (r1 : Nat) =>
  ldAW [(.int .i64), (.int .i64)] (⟨r1, 0, none⟩ : Addr) fun (u2 : (Int × Int × Unit)) =>
  callW Try.prog 40 [(.agg #[(.int .i64 u2.1), (.int .i64 u2.2.1)])] (.one (.one (.int .i64))) fun (u3 : Int) =>
  splitW (u3 != (0 : Int)) (K (.int .i64 (0 : Int))) <|
  ldW (.int .i64) (⟨r1, 0, none⟩ : Addr) fun (u4 : Int) =>
  callW Try.prog 41 [(.int .i64 u4)] (.one (.one (.int .i64))) fun (u5 : Int) =>
  ldW (.int .i64) ((⟨r1, 0, none⟩ : Addr).add 1) fun (u6 : Int) =>
  guardW (u5 ≠ 0) <| K (.int .i64 (IntKind.wrap .i64 (Int.tdiv (IntKind.wrap .i64 ((IntKind.wrap .i64 ((IntKind.wrap .i64 ((2 : Int) * u6)) + u5)) - (1 : Int))) u5)))
theorem eq25 (x0_0 : Int) (x0_1 : Int) (K : Value → WP) : bodyW Try.prog Try.f25 an25 false [(.agg #[(.int .i64 x0_0), (.int .i64 x0_1)])] K = S25 x0_0 x0_1 K := by kernel_rfl
theorem calls25 (x0_0 : Int) (x0_1 : Int) {K : Value → WP} {w : World} (h : S25 x0_0 x0_1 K w) : Calls Try.prog 25 #[(.agg #[(.int .i64 x0_0), (.int .i64 x0_1)])] w (Ret K) := callsR_of_bodyW mixed Try.func25 (of_decide_eq_true (by kernel_rfl)) (by rw [eq25]; exact h)

/-- (*shadowbook/counts.Counts).Used -/
def an26 : Ann := (.seq .nil (.seq (.seq .nil (.cond (.seq .nil .nil) .nil)) (.seq (.seq .nil (.block (.loop [(2, .sh (.one (.int .i64))), (12, .sh (.one (.int .i64)))] [10, 11, 1000000] (.seq .nil (.seq (.cond .nil .nil) (.seq (.block (.seq .nil (.seq .nil (.cond .nil .nil)))) .nil)))))) (.seq .nil .nil))))
def S26 (x0 : Option Addr) (K : Value → WP) : WP := 
  splitW (Option.isNone x0) (K (.int .i64 (0 : Int))) <|
  ptrW x0 fun (p1 : Addr) =>
  ldW .slc (p1.add 2) fun (u2 : (Option Addr × Nat × Nat)) =>
  loopW (Int × Int × Unit) ((0 : Int), (0 : Int), ()) fun (y4 : Int × Int × Unit) (I3 : (Int × Int × Unit) → WP) =>
  splitW (decide (y4.2.1 < ((u2.2.1 : Nat) : Int))) (guardW (0 ≤ y4.2.1 ∧ y4.2.1 < ((u2.2.1 : Nat) : Int)) <|
  ptrW u2.1 fun (p5 : Addr) =>
  ldW (.int .u16) (p5.add (Int.toNat y4.2.1 * 1)) fun (u6 : Int) =>
  splitW (decide (u6 > (0 : Int))) (I3 ((IntKind.wrap .i64 (y4.1 + (1 : Int))), (IntKind.wrap .i64 (y4.2.1 + (1 : Int))), ())) <| I3 (y4.1, (IntKind.wrap .i64 (y4.2.1 + (1 : Int))), ())) <| K (.int .i64 y4.1)
theorem eq26 (x0 : Option Addr) (K : Value → WP) : bodyW Try.prog Try.f26 an26 false [(.pointer x0)] K = S26 x0 K := by kernel_rfl
theorem calls26 (x0 : Option Addr) {K : Value → WP} {w : World} (h : S26 x0 K w) : Calls Try.prog 26 #[(.pointer x0)] w (Ret K) := callsR_of_bodyW mixed Try.func26 (of_decide_eq_true (by kernel_rfl)) (by rw [eq26]; exact h)

/-- shadowbook/device.Check -/
def an27 : Ann := (.seq .nil (.seq (.seq .nil (.cond (.seq .nil .nil) .nil)) (.seq .nil .nil)))
def S27 (x0_0 : Int) (x0_1 : Int) (K : Value → WP) : WP := 
  newW (.cells #[(.int .i64 x0_0), (.int .i64 x0_1)] 23) fun (r1 : Nat) =>
  ldW (.int .i64) (⟨r1, 0, none⟩ : Addr) fun (u2 : Int) =>
  splitW (decide (u2 < (128 : Int))) (K (.int .i64 (2 : Int))) <|
  ldW (.int .i64) (⟨r1, 0, none⟩ : Addr) fun (u3 : Int) =>
  splitW (decide (u3 > (4096 : Int))) (K (.int .i64 (2 : Int))) <|
  ldW (.int .i64) (⟨r1, 0, none⟩ : Addr) fun (u4 : Int) =>
  splitW ((Int.tmod u4 (64 : Int)) != (0 : Int)) (K (.int .i64 (2 : Int))) <|
  ldW (.int .i64) ((⟨r1, 0, none⟩ : Addr).add 1) fun (u5 : Int) =>
  splitW (decide (u5 < (8 : Int))) (K (.int .i64 (2 : Int))) <|
  ldW (.int .i64) ((⟨r1, 0, none⟩ : Addr).add 1) fun (u6 : Int) =>
  splitW (decide (u6 > (4096 : Int))) (K (.int .i64 (2 : Int))) <| K (.int .i64 (0 : Int))
theorem eq27 (x0_0 : Int) (x0_1 : Int) (K : Value → WP) : bodyW Try.prog Try.f27 an27 false [(.agg #[(.int .i64 x0_0), (.int .i64 x0_1)])] K = S27 x0_0 x0_1 K := by kernel_rfl
theorem calls27 (x0_0 : Int) (x0_1 : Int) {K : Value → WP} {w : World} (h : S27 x0_0 x0_1 K w) : Calls Try.prog 27 #[(.agg #[(.int .i64 x0_0), (.int .i64 x0_1)])] w (Ret K) := callsR_of_bodyW mixed Try.func27 (of_decide_eq_true (by kernel_rfl)) (by rw [eq27]; exact h)

/-- (*shadowbook/counts.Counts).at -/
def an28 : Ann := (.seq .nil (.seq (.block (.seq .nil (.cond (.seq .nil .nil) (.seq .nil (.cond (.seq .nil .nil) (.seq .nil (.cond (.seq .nil .nil) .nil))))))) (.seq .nil .nil)))
def S28 (x0 : Option Addr) (x1 : Int) (K : Value → WP) : WP := 
  splitW (Option.isNone x0) (K (.tuple #[(.pointer none), (.int .i64 (1 : Int))])) <|
  splitW (decide (x1 < (2 : Int))) (K (.tuple #[(.pointer none), (.int .i64 (2 : Int))])) <|
  ptrW x0 fun (p1 : Addr) =>
  ldW .slc (p1.add 2) fun (u2 : (Option Addr × Nat × Nat)) =>
  splitW (decide ((IntKind.wrap .u64 x1) ≥ (IntKind.wrap .u64 ((u2.2.1 : Nat) : Int)))) (K (.tuple #[(.pointer none), (.int .i64 (2 : Int))])) <|
  ptrW x0 fun (p3 : Addr) =>
  ldW .slc (p3.add 2) fun (u4 : (Option Addr × Nat × Nat)) =>
  guardW (0 ≤ x1 ∧ x1 < ((u4.2.1 : Nat) : Int)) <|
  ptrW u4.1 fun (p5 : Addr) =>
  ldW (.int .u16) (p5.add (Int.toNat x1 * 1)) fun (u6 : Int) =>
  splitW (u6 == (0 : Int)) (K (.tuple #[(.pointer none), (.int .i64 (8 : Int))])) <|
  ptrW x0 fun (p7 : Addr) =>
  ldW .slc (p7.add 2) fun (u8 : (Option Addr × Nat × Nat)) =>
  guardW (0 ≤ x1 ∧ x1 < ((u8.2.1 : Nat) : Int)) <|
  ptrW u8.1 fun (p9 : Addr) => K (.tuple #[(.pointer (some (p9.add (Int.toNat x1 * 1)))), (.int .i64 (0 : Int))])
theorem eq28 (x0 : Option Addr) (x1 : Int) (K : Value → WP) : bodyW Try.prog Try.f28 an28 false [(.pointer x0), (.int .u32 x1)] K = S28 x0 x1 K := by kernel_rfl
theorem calls28 (x0 : Option Addr) (x1 : Int) {K : Value → WP} {w : World} (h : S28 x0 x1 K w) : Calls Try.prog 28 #[(.pointer x0), (.int .u32 x1)] w (Ret K) := callsR_of_bodyW mixed Try.func28 (of_decide_eq_true (by kernel_rfl)) (by rw [eq28]; exact h)

/-- slices.Clone[[]uint16,uint16] -/
def an29 : Ann := (.seq .nil (.seq (.seq .nil (.cond (.seq .nil .nil) .nil)) (.seq .nil .nil)))
def S29 (a0 : Option Addr) (n0 c0 : Nat) (K : Value → WP) : WP := 
  splitW (Option.isNone a0) (K (.slice none 0 0)) <|
  newW (.cells #[] 65) fun (r1 : Nat) =>
  runW Try.prog (Builtin.append_ #[62, 62] 62 #[(.slice (some (⟨r1, 0, none⟩ : Addr)) 0 0), (.slice a0 n0 c0)]) .slc fun (u2 : (Option Addr × Nat × Nat)) => K (.slice u2.1 u2.2.1 u2.2.2)
theorem eq29 (a0 : Option Addr) (n0 c0 : Nat) (K : Value → WP) : bodyW Try.prog Try.f29 an29 false [(.slice a0 n0 c0)] K = S29 a0 n0 c0 K := by kernel_rfl
theorem calls29 (a0 : Option Addr) (n0 c0 : Nat) {K : Value → WP} {w : World} (h : S29 a0 n0 c0 K w) : Calls Try.prog 29 #[(.slice a0 n0 c0)] w (Ret K) := callsR_of_bodyW mixed Try.func29 (of_decide_eq_true (by kernel_rfl)) (by rw [eq29]; exact h)

/-- slices.Chunk[[]uint16,uint16] -/
def an30 : Ann := (.seq .nil (.seq (.seq .nil (.cond .nil .nil)) (.seq .nil .nil)))
def S30 (a0 : Option Addr) (n0 c0 : Nat) (x1 : Int) (K : Value → WP) : WP := 
  newW (.cells #[(.slice a0 n0 c0)] 62) fun (r1 : Nat) =>
  newW (.cells #[(.int .i64 x1)] 3) fun (r2 : Nat) =>
  ldW (.int .i64) (⟨r2, 0, none⟩ : Addr) fun (u3 : Int) =>
  splitW (decide (u3 < (1 : Int))) (FalseW) <| K (.func (.func 42) #[] #[(.pointer (some (⟨r1, 0, none⟩ : Addr))), (.pointer (some (⟨r2, 0, none⟩ : Addr)))])
theorem eq30 (a0 : Option Addr) (n0 c0 : Nat) (x1 : Int) (K : Value → WP) : bodyW Try.prog Try.f30 an30 false [(.slice a0 n0 c0), (.int .i64 x1)] K = S30 a0 n0 c0 x1 K := by kernel_rfl
theorem calls30 (a0 : Option Addr) (n0 c0 : Nat) (x1 : Int) {K : Value → WP} {w : World} (h : S30 a0 n0 c0 x1 K w) : Calls Try.prog 30 #[(.slice a0 n0 c0), (.int .i64 x1)] w (Ret K) := callsR_of_bodyW mixed Try.func30 (of_decide_eq_true (by kernel_rfl)) (by rw [eq30]; exact h)

/-- shadowbook/frame.Room -/
def an31 : Ann := (.seq .nil (.seq (.seq .nil (.cond (.seq .nil .nil) .nil)) (.seq .nil .nil)))
def S31 (x0 : Int) (K : Value → WP) : WP := 
  callW Try.prog 27 [(.agg #[(.int .i64 x0), (.int .i64 (8 : Int))])] (.one (.one (.int .i64))) fun (u1 : Int) =>
  splitW (u1 != (0 : Int)) (K (.int .i64 (0 : Int))) <| K (.int .i64 (IntKind.wrap .i64 ((IntKind.wrap .i64 (x0 - (12 : Int))) - (4 : Int))))
theorem eq31 (x0 : Int) (K : Value → WP) : bodyW Try.prog Try.f31 an31 false [(.int .i64 x0)] K = S31 x0 K := by kernel_rfl
theorem calls31 (x0 : Int) {K : Value → WP} {w : World} (h : S31 x0 K w) : Calls Try.prog 31 #[(.int .i64 x0)] w (Ret K) := callsR_of_bodyW mixed Try.func31 (of_decide_eq_true (by kernel_rfl)) (by rw [eq31]; exact h)

/-- shadowbook/octet.Put -/
def an32 : Ann := (.seq .nil (.seq (.seq .nil (.cond (.seq .nil .nil) .nil)) (.seq (.seq .nil (.block (.loop [(0, .sh (.one .slc)), (16, .sh (.one (.int .i64)))] [1, 15, 1000000] (.seq .nil (.seq (.cond .nil .nil) (.seq (.block (.seq .nil .nil)) .nil)))))) (.seq .nil .nil))))
def S32 (a0 : Option Addr) (n0 c0 : Nat) (x1 : Int) (x2 : Int) (K : Value → WP) : WP := 
  splitW (decide (x2 < (1 : Int))) (K (.slice a0 n0 c0)) <|
  splitW (decide (x2 > (8 : Int))) (K (.slice a0 n0 c0)) <|
  loopW ((Option Addr × Nat × Nat) × Int × Unit) ((a0, n0, c0), (0 : Int), ()) fun (y2 : (Option Addr × Nat × Nat) × Int × Unit) (I1 : ((Option Addr × Nat × Nat) × Int × Unit) → WP) =>
  splitW (decide (y2.2.1 < x2)) (guardW (0 ≤ (IntKind.wrap .i64 ((8 : Int) * y2.2.1))) <|
  newW (.cells #[(.int .u8 (IntKind.wrap .u8 (ishr .u64 x1 (IntKind.wrap .i64 ((8 : Int) * y2.2.1)))))] 5) fun (r3 : Nat) =>
  runW Try.prog (Builtin.append_ #[74, 74] 74 #[(.slice y2.1.1 y2.1.2.1 y2.1.2.2), (.slice (some (⟨r3, 0, none⟩ : Addr)) 1 1)]) .slc fun (u4 : (Option Addr × Nat × Nat)) => I1 ((u4.1, u4.2.1, u4.2.2), (IntKind.wrap .i64 (y2.2.1 + (1 : Int))), ())) <| K (.slice y2.1.1 y2.1.2.1 y2.1.2.2)
theorem eq32 (a0 : Option Addr) (n0 c0 : Nat) (x1 : Int) (x2 : Int) (K : Value → WP) : bodyW Try.prog Try.f32 an32 false [(.slice a0 n0 c0), (.int .u64 x1), (.int .i64 x2)] K = S32 a0 n0 c0 x1 x2 K := by kernel_rfl
theorem calls32 (a0 : Option Addr) (n0 c0 : Nat) (x1 : Int) (x2 : Int) {K : Value → WP} {w : World} (h : S32 a0 n0 c0 x1 x2 K w) : Calls Try.prog 32 #[(.slice a0 n0 c0), (.int .u64 x1), (.int .i64 x2)] w (Ret K) := callsR_of_bodyW mixed Try.func32 (of_decide_eq_true (by kernel_rfl)) (by rw [eq32]; exact h)

/-- shadowbook/counts.Load$1 -/
def an33 : Ann := (.seq .nil (.seq .nil .nil))
def S33 (x0 : ByteArray) (x1 : ByteArray) (K : Value → WP) : WP := 
  K (.bool (((x0.size : Nat) : Int) == ((x1.size : Nat) : Int)))
theorem eq33 (x0 : ByteArray) (x1 : ByteArray) (K : Value → WP) : bodyW Try.prog Try.f33 an33 false [(.string x0), (.string x1)] K = S33 x0 x1 K := by kernel_rfl
theorem calls33 (x0 : ByteArray) (x1 : ByteArray) {K : Value → WP} {w : World} (h : S33 x0 x1 K w) : Calls Try.prog 33 #[(.string x0), (.string x1)] w (Ret K) := callsR_of_bodyW mixed Try.func33 (of_decide_eq_true (by kernel_rfl)) (by rw [eq33]; exact h)

/-- shadowbook/super.Pages -/
def an34 : Ann := (.seq .nil (.seq (.seq .nil (.cond (.seq .nil .nil) .nil)) (.seq .nil (.seq .nil .nil))))
def S34 (x0_0 : Int) (x0_1 : Int) (K : Value → WP) : WP := 
  newW (.cells #[(.int .i64 x0_0), (.int .i64 x0_1)] 23) fun (r1 : Nat) =>
  ldAW [(.int .i64), (.int .i64)] (⟨r1, 0, none⟩ : Addr) fun (u2 : (Int × Int × Unit)) =>
  callW Try.prog 27 [(.agg #[(.int .i64 u2.1), (.int .i64 u2.2.1)])] (.one (.one (.int .i64))) fun (u3 : Int) =>
  splitW (u3 != (0 : Int)) (K (.int .i64 (0 : Int))) <|
  ldW (.int .i64) (⟨r1, 0, none⟩ : Addr) fun (u4 : Int) =>
  callW Try.prog 31 [(.int .i64 u4)] (.one (.one (.int .i64))) fun (u5 : Int) =>
  ldW (.int .i64) ((⟨r1, 0, none⟩ : Addr).add 1) fun (u6 : Int) =>
  guardW (u5 ≠ 0) <| K (.int .i64 (IntKind.wrap .i64 (Int.tdiv (IntKind.wrap .i64 ((IntKind.wrap .i64 ((IntKind.wrap .i64 ((2 : Int) * u6)) + u5)) - (1 : Int))) u5)))
theorem eq34 (x0_0 : Int) (x0_1 : Int) (K : Value → WP) : bodyW Try.prog Try.f34 an34 false [(.agg #[(.int .i64 x0_0), (.int .i64 x0_1)])] K = S34 x0_0 x0_1 K := by kernel_rfl
theorem calls34 (x0_0 : Int) (x0_1 : Int) {K : Value → WP} {w : World} (h : S34 x0_0 x0_1 K w) : Calls Try.prog 34 #[(.agg #[(.int .i64 x0_0), (.int .i64 x0_1)])] w (Ret K) := callsR_of_bodyW mixed Try.func34 (of_decide_eq_true (by kernel_rfl)) (by rw [eq34]; exact h)

/-- slices.EqualFunc[[]string,[]string,string,string] -/
def an35 : Ann := (.seq .nil (.seq (.seq .nil (.cond (.seq .nil .nil) .nil)) (.seq (.seq .nil (.block (.loop [(17, .sh (.one (.int .i64)))] [1, 2, 15, 16, 1000000] (.seq .nil (.seq (.cond .nil .nil) (.seq (.block (.seq .nil (.seq .nil (.seq .nil (.cond (.seq .nil .nil) .nil))))) .nil)))))) (.seq .nil .nil))))
def S35 (a0 : Option Addr) (n0 c0 : Nat) (a1 : Option Addr) (n1 c1 : Nat) (x2 : Value) (K : Value → WP) : WP := 
  splitW (((n0 : Nat) : Int) != ((n1 : Nat) : Int)) (K (.bool false)) <|
  loopW (Int × Unit) ((0 : Int), ()) fun (y2 : Int × Unit) (I1 : (Int × Unit) → WP) =>
  splitW (decide (y2.1 < ((n0 : Nat) : Int))) (guardW (0 ≤ y2.1 ∧ y2.1 < ((n0 : Nat) : Int)) <|
  ptrW a0 fun (p3 : Addr) =>
  ldW .str (p3.add (Int.toNat y2.1 * 1)) fun (u4 : ByteArray) =>
  guardW (0 ≤ y2.1 ∧ y2.1 < ((n1 : Nat) : Int)) <|
  ptrW a1 fun (p5 : Addr) =>
  ldW .str (p5.add (Int.toNat y2.1 * 1)) fun (u6 : ByteArray) =>
  callVW Try.prog x2 [(.string u4), (.string u6)] (.one (.one .bool)) fun (u7 : Bool) =>
  splitW (!u7) (K (.bool false)) <| I1 ((IntKind.wrap .i64 (y2.1 + (1 : Int))), ())) <| K (.bool true)
theorem eq35 (a0 : Option Addr) (n0 c0 : Nat) (a1 : Option Addr) (n1 c1 : Nat) (x2 : Value) (K : Value → WP) : bodyW Try.prog Try.f35 an35 false [(.slice a0 n0 c0), (.slice a1 n1 c1), x2] K = S35 a0 n0 c0 a1 n1 c1 x2 K := by kernel_rfl
theorem calls35 (a0 : Option Addr) (n0 c0 : Nat) (a1 : Option Addr) (n1 c1 : Nat) (x2 : Value) {K : Value → WP} {w : World} (h : S35 a0 n0 c0 a1 n1 c1 x2 K w) : Calls Try.prog 35 #[(.slice a0 n0 c0), (.slice a1 n1 c1), x2] w (Ret K) := callsR_of_bodyW mixed Try.func35 (of_decide_eq_true (by kernel_rfl)) (by rw [eq35]; exact h)

/-- slices.Chunk[[]byte,byte] -/
def an36 : Ann := (.seq .nil (.seq (.seq .nil (.cond .nil .nil)) (.seq .nil .nil)))
def S36 (a0 : Option Addr) (n0 c0 : Nat) (x1 : Int) (K : Value → WP) : WP := 
  newW (.cells #[(.slice a0 n0 c0)] 74) fun (r1 : Nat) =>
  newW (.cells #[(.int .i64 x1)] 3) fun (r2 : Nat) =>
  ldW (.int .i64) (⟨r2, 0, none⟩ : Addr) fun (u3 : Int) =>
  splitW (decide (u3 < (1 : Int))) (FalseW) <| K (.func (.func 43) #[] #[(.pointer (some (⟨r1, 0, none⟩ : Addr))), (.pointer (some (⟨r2, 0, none⟩ : Addr)))])
theorem eq36 (a0 : Option Addr) (n0 c0 : Nat) (x1 : Int) (K : Value → WP) : bodyW Try.prog Try.f36 an36 false [(.slice a0 n0 c0), (.int .i64 x1)] K = S36 a0 n0 c0 x1 K := by kernel_rfl
theorem calls36 (a0 : Option Addr) (n0 c0 : Nat) (x1 : Int) {K : Value → WP} {w : World} (h : S36 a0 n0 c0 x1 K w) : Calls Try.prog 36 #[(.slice a0 n0 c0), (.int .i64 x1)] w (Ret K) := callsR_of_bodyW mixed Try.func36 (of_decide_eq_true (by kernel_rfl)) (by rw [eq36]; exact h)

/-- shadowbook/octet.Of -/
def an37 : Ann := (.seq .nil (.seq (.seq .nil (.cond (.seq .nil .nil) .nil)) (.seq (.seq .nil (.block (.loop [(10, .sh (.one (.int .i64))), (11, .sh (.one (.int .u8)))] [] (.seq .nil (.block .nil))))) (.seq .nil .nil))))
def S37 (a0 : Option Addr) (n0 c0 : Nat) (K : Value → WP) : WP := 
  newW (.cells #[(.int .u64 (0 : Int))] 24) fun (r1 : Nat) =>
  splitW (decide (((n0 : Nat) : Int) > (8 : Int))) (stW (⟨r1, 0, none⟩ : Addr) (.int .u64 (0 : Int)) <|
  leaveW Try.prog [] <|
  ldW (.int .u64) (⟨r1, 0, none⟩ : Addr) fun (u2 : Int) => K (.int .u64 u2)) <|
  callW Try.prog 44 [(.slice a0 n0 c0)] (.one (.one .any)) fun (u3 : Value) =>
  rangeW Try.prog u3 (Int × Int × Unit) (fun (t4 : Int × Int × Unit) => [(.int .i64 t4.1), (.int .u8 t4.2.1)]) (fun (t4 : Int × Int × Unit) (B5 : WP → WP) (N6 : WP) (Q7 : Code → WP) => B5 (ldW (.int .u64) (⟨r1, 0, none⟩ : Addr) fun (u10 : Int) =>
  stW (⟨r1, 0, none⟩ : Addr) (.int .u64 (ior .u64 (ishl .u64 u10 (8 : Int)) (IntKind.wrap .u64 t4.2.1))) <| N6)) fun (r8 : Nat) (p9 : Option Code) =>
  jumpK (ldW (.int .u64) (⟨r1, 0, none⟩ : Addr) fun (u11 : Int) =>
  stW (⟨r1, 0, none⟩ : Addr) (.int .u64 u11) <|
  leaveW Try.prog (⟨.collected r8, #[]⟩ :: []) <|
  ldW (.int .u64) (⟨r1, 0, none⟩ : Addr) fun (u12 : Int) => K (.int .u64 u12)) (leaveW Try.prog (⟨.collected r8, #[]⟩ :: []) <|
  ldW (.int .u64) (⟨r1, 0, none⟩ : Addr) fun (u13 : Int) => K (.int .u64 u13)) [] p9
theorem eq37 (a0 : Option Addr) (n0 c0 : Nat) (K : Value → WP) : bodyW Try.prog Try.f37 an37 true [(.slice a0 n0 c0)] K = S37 a0 n0 c0 K := by kernel_rfl
theorem calls37 (a0 : Option Addr) (n0 c0 : Nat) {K : Value → WP} {w : World} (h : S37 a0 n0 c0 K w) : Calls Try.prog 37 #[(.slice a0 n0 c0)] w (Ret K) := callsR_of_bodyW mixed Try.func37 (of_decide_eq_true (by kernel_rfl)) (by rw [eq37]; exact h)

/-- shadowbook/shadowbookref12.New -/
def an38 : Ann := (.seq .nil (.seq (.seq .nil (.cond (.seq .nil .nil) .nil)) (.seq .nil (.seq .nil (.seq .nil .nil)))))
def S38 (x0_0 : Int) (x0_1 : Int) (K : Value → WP) : WP := 
  newW (.cells #[(.int .i64 x0_0), (.int .i64 x0_1)] 23) fun (r1 : Nat) =>
  ldAW [(.int .i64), (.int .i64)] (⟨r1, 0, none⟩ : Addr) fun (u2 : (Int × Int × Unit)) =>
  callW Try.prog 40 [(.agg #[(.int .i64 u2.1), (.int .i64 u2.2.1)])] (.one (.one (.int .i64))) fun (u3 : Int) =>
  splitW (u3 != (0 : Int)) (K (.tuple #[(.pointer none), (.int .i64 (2 : Int))])) <|
  drewW <|
  ldAW [(.int .i64), (.int .i64)] (⟨r1, 0, none⟩ : Addr) fun (u4 : (Int × Int × Unit)) =>
  ldW (.int .i64) ((⟨r1, 0, none⟩ : Addr).add 1) fun (u5 : Int) =>
  runW Try.prog (Instr.makeSlice 37 (.int .i64 u5) (.int .i64 u5)) .slc fun (u6 : Option Addr × Nat × Nat) =>
  heldW [[((⟨r1, 0, none⟩ : Addr).add 0, (.int .i64 u4.1)), ((⟨r1, 0, none⟩ : Addr).add 1, (.int .i64 u4.2.1))]] <|
  newW (.cells #[(.int .i64 u4.1), (.int .i64 u4.2.1), (.slice u6.1 u6.2.1 u6.2.2)] 56) fun (r7 : Nat) =>
  drewW <|
  ptrW (some (⟨r7, 0, none⟩ : Addr)) fun (p8 : Addr) =>
  ldW .slc (p8.add 2) fun (u9 : (Option Addr × Nat × Nat)) =>
  ptrW (some (⟨r7, 0, none⟩ : Addr)) fun (p10 : Addr) =>
  ldW .slc (p10.add 2) fun (u11 : (Option Addr × Nat × Nat)) =>
  guardW (0 ≤ (0 : Int) ∧ (0 : Int) < ((u9.2.1 : Nat) : Int)) <|
  ptrW u9.1 fun (p12 : Addr) =>
  stW (p12.add (Int.toNat (0 : Int) * 1)) (.int .i64 (1 : Int)) <|
  guardW (0 ≤ (1 : Int) ∧ (1 : Int) < ((u11.2.1 : Nat) : Int)) <|
  ptrW u11.1 fun (p13 : Addr) =>
  stW (p13.add (Int.toNat (1 : Int) * 1)) (.int .i64 (1 : Int)) <| K (.tuple #[(.pointer (some (⟨r7, 0, none⟩ : Addr))), (.int .i64 (0 : Int))])
theorem eq38 (x0_0 : Int) (x0_1 : Int) (K : Value → WP) : bodyW Try.prog Try.f38 an38 false [(.agg #[(.int .i64 x0_0), (.int .i64 x0_1)])] K = S38 x0_0 x0_1 K := by kernel_rfl
theorem calls38 (x0_0 : Int) (x0_1 : Int) {K : Value → WP} {w : World} (h : S38 x0_0 x0_1 K w) : Calls Try.prog 38 #[(.agg #[(.int .i64 x0_0), (.int .i64 x0_1)])] w (Ret K) := callsR_of_bodyW mixed Try.func38 (of_decide_eq_true (by kernel_rfl)) (by rw [eq38]; exact h)

/-- (*shadowbook/shadowbookref12.Counts).Pages -/
def an39 : Ann := (.seq .nil (.seq .nil (.seq .nil (.seq (.seq .nil (.block (.loop [(4, .sh (.one .slc)), (5, .sh (.one (.int .i64)))] [0, 3, 1000000] (.seq (.seq .nil (.cond .nil .nil)) (.seq (.block (.seq .nil (.seq (.seq .nil (.block (.loop [(6, .sh (.one .slc)), (7, .sh (.one (.int .i64)))] [0, 3, 4, 5, 1000000] (.seq (.seq .nil (.cond .nil .nil)) (.seq (.block .nil) .nil))))) .nil))) .nil))))) (.seq .nil .nil)))))
def S39 (x0 : Option Addr) (K : Value → WP) : WP := 
  ptrW x0 fun (p1 : Addr) =>
  ldW (.int .i64) p1 fun (u2 : Int) =>
  callW Try.prog 41 [(.int .i64 u2)] (.one (.one (.int .i64))) fun (u3 : Int) =>
  loopW ((Option Addr × Nat × Nat) × Int × Unit) ((none, 0, 0), (0 : Int), ()) fun (y5 : (Option Addr × Nat × Nat) × Int × Unit) (I4 : ((Option Addr × Nat × Nat) × Int × Unit) → WP) =>
  ptrW x0 fun (p6 : Addr) =>
  ldW .slc (p6.add 2) fun (u7 : (Option Addr × Nat × Nat)) =>
  splitW (decide (y5.2.1 < ((u7.2.1 : Nat) : Int))) (loopW ((Option Addr × Nat × Nat) × Int × Unit) ((none, 0, 0), y5.2.1, ()) fun (y9 : (Option Addr × Nat × Nat) × Int × Unit) (I8 : ((Option Addr × Nat × Nat) × Int × Unit) → WP) =>
  ptrW x0 fun (p10 : Addr) =>
  ldW .slc (p10.add 2) fun (u11 : (Option Addr × Nat × Nat)) =>
  splitW (decide (y9.2.1 < ((u11.2.1 : Nat) : Int))) (splitW (decide (y9.2.1 < (IntKind.wrap .i64 (y5.2.1 + (IntKind.wrap .i64 (Int.tdiv u3 (2 : Int))))))) (ptrW x0 fun (p12 : Addr) =>
  ldW .slc (p12.add 2) fun (u13 : (Option Addr × Nat × Nat)) =>
  guardW (0 ≤ y9.2.1 ∧ y9.2.1 < ((u13.2.1 : Nat) : Int)) <|
  ptrW u13.1 fun (p14 : Addr) =>
  ldW (.int .i64) (p14.add (Int.toNat y9.2.1 * 1)) fun (u15 : Int) =>
  callW Try.prog 45 [(.slice y9.1.1 y9.1.2.1 y9.1.2.2), (.int .u64 (IntKind.wrap .u64 u15)), (.int .i64 (2 : Int))] (.one (.one .slc)) fun (u16 : (Option Addr × Nat × Nat)) => I8 ((u16.1, u16.2.1, u16.2.2), (IntKind.wrap .i64 (y9.2.1 + (1 : Int))), ())) <|
  runW Try.prog (Go.convert 74 9 (.slice y9.1.1 y9.1.2.1 y9.1.2.2)) .str fun (u17 : ByteArray) =>
  newW (.cells #[(.string u17)] 9) fun (r18 : Nat) =>
  runW Try.prog (Builtin.append_ #[46, 46] 46 #[(.slice y5.1.1 y5.1.2.1 y5.1.2.2), (.slice (some (⟨r18, 0, none⟩ : Addr)) 1 1)]) .slc fun (u19 : (Option Addr × Nat × Nat)) => I4 ((u19.1, u19.2.1, u19.2.2), (IntKind.wrap .i64 (y5.2.1 + (IntKind.wrap .i64 (Int.tdiv u3 (2 : Int))))), ())) <|
  runW Try.prog (Go.convert 74 9 (.slice y9.1.1 y9.1.2.1 y9.1.2.2)) .str fun (u20 : ByteArray) =>
  newW (.cells #[(.string u20)] 9) fun (r21 : Nat) =>
  runW Try.prog (Builtin.append_ #[46, 46] 46 #[(.slice y5.1.1 y5.1.2.1 y5.1.2.2), (.slice (some (⟨r21, 0, none⟩ : Addr)) 1 1)]) .slc fun (u22 : (Option Addr × Nat × Nat)) => I4 ((u22.1, u22.2.1, u22.2.2), (IntKind.wrap .i64 (y5.2.1 + (IntKind.wrap .i64 (Int.tdiv u3 (2 : Int))))), ())) <| K (.slice y5.1.1 y5.1.2.1 y5.1.2.2)
theorem eq39 (x0 : Option Addr) (K : Value → WP) : bodyW Try.prog Try.f39 an39 false [(.pointer x0)] K = S39 x0 K := by kernel_rfl
theorem calls39 (x0 : Option Addr) {K : Value → WP} {w : World} (h : S39 x0 K w) : Calls Try.prog 39 #[(.pointer x0)] w (Ret K) := callsR_of_bodyW mixed Try.func39 (of_decide_eq_true (by kernel_rfl)) (by rw [eq39]; exact h)

/-- shadowbook/shadowbookref03.Check -/
def an40 : Ann := (.seq .nil (.seq (.seq .nil (.cond (.seq .nil .nil) .nil)) (.seq .nil .nil)))
def S40 (x0_0 : Int) (x0_1 : Int) (K : Value → WP) : WP := 
  newW (.cells #[(.int .i64 x0_0), (.int .i64 x0_1)] 23) fun (r1 : Nat) =>
  ldW (.int .i64) (⟨r1, 0, none⟩ : Addr) fun (u2 : Int) =>
  splitW (decide (u2 < (128 : Int))) (K (.int .i64 (2 : Int))) <|
  ldW (.int .i64) (⟨r1, 0, none⟩ : Addr) fun (u3 : Int) =>
  splitW (decide (u3 > (4096 : Int))) (K (.int .i64 (2 : Int))) <|
  ldW (.int .i64) (⟨r1, 0, none⟩ : Addr) fun (u4 : Int) =>
  splitW ((Int.tmod u4 (64 : Int)) != (0 : Int)) (K (.int .i64 (2 : Int))) <|
  ldW (.int .i64) ((⟨r1, 0, none⟩ : Addr).add 1) fun (u5 : Int) =>
  splitW (decide (u5 < (8 : Int))) (K (.int .i64 (2 : Int))) <|
  ldW (.int .i64) ((⟨r1, 0, none⟩ : Addr).add 1) fun (u6 : Int) =>
  splitW (decide (u6 > (4096 : Int))) (K (.int .i64 (2 : Int))) <| K (.int .i64 (0 : Int))
theorem eq40 (x0_0 : Int) (x0_1 : Int) (K : Value → WP) : bodyW Try.prog Try.f40 an40 false [(.agg #[(.int .i64 x0_0), (.int .i64 x0_1)])] K = S40 x0_0 x0_1 K := by kernel_rfl
theorem calls40 (x0_0 : Int) (x0_1 : Int) {K : Value → WP} {w : World} (h : S40 x0_0 x0_1 K w) : Calls Try.prog 40 #[(.agg #[(.int .i64 x0_0), (.int .i64 x0_1)])] w (Ret K) := callsR_of_bodyW mixed Try.func40 (of_decide_eq_true (by kernel_rfl)) (by rw [eq40]; exact h)

/-- shadowbook/shadowbookref04.Room -/
def an41 : Ann := (.seq .nil (.seq (.seq .nil (.cond (.seq .nil .nil) .nil)) (.seq .nil .nil)))
def S41 (x0 : Int) (K : Value → WP) : WP := 
  callW Try.prog 40 [(.agg #[(.int .i64 x0), (.int .i64 (8 : Int))])] (.one (.one (.int .i64))) fun (u1 : Int) =>
  splitW (u1 != (0 : Int)) (K (.int .i64 (0 : Int))) <| K (.int .i64 (IntKind.wrap .i64 (x0 - (16 : Int))))
theorem eq41 (x0 : Int) (K : Value → WP) : bodyW Try.prog Try.f41 an41 false [(.int .i64 x0)] K = S41 x0 K := by kernel_rfl
theorem calls41 (x0 : Int) {K : Value → WP} {w : World} (h : S41 x0 K w) : Calls Try.prog 41 #[(.int .i64 x0)] w (Ret K) := callsR_of_bodyW mixed Try.func41 (of_decide_eq_true (by kernel_rfl)) (by rw [eq41]; exact h)

/-- slices.Chunk[[]uint16,uint16]$1 -/
def an42 : Ann := (.seq .nil (.block (.loop [(4, .sh (.one (.int .i64)))] [0, 1, 2, 1000000] (.seq (.seq .nil (.cond .nil .nil)) (.seq (.block (.seq .nil (.seq .nil (.cond .nil .nil)))) .nil)))))
def S42 (x0 : Value) (a1 : Addr) (a2 : Addr) (K : Value → WP) : WP := 
  loopW (Int × Unit) ((0 : Int), ()) fun (y2 : Int × Unit) (I1 : (Int × Unit) → WP) =>
  ldW .slc a1 fun (u3 : (Option Addr × Nat × Nat)) =>
  splitW (decide (y2.1 < ((u3.2.1 : Nat) : Int))) (drewW <|
  ldW (.int .i64) a2 fun (u4 : Int) =>
  ldW .slc a1 fun (u5 : (Option Addr × Nat × Nat)) =>
  guardW (0 ≤ y2.1 ∧ y2.1 ≤ ((u5.2.1 : Nat) : Int)) <|
  ldW .slc a1 fun (u6 : (Option Addr × Nat × Nat)) =>
  guardW (0 ≤ y2.1 ∧ y2.1 ≤ (IntKind.wrap .i64 (y2.1 + (if (((u5.2.1 - (Int.toNat y2.1)) : Nat) : Int) < u4 then (((u5.2.1 - (Int.toNat y2.1)) : Nat) : Int) else u4))) ∧ (IntKind.wrap .i64 (y2.1 + (if (((u5.2.1 - (Int.toNat y2.1)) : Nat) : Int) < u4 then (((u5.2.1 - (Int.toNat y2.1)) : Nat) : Int) else u4))) ≤ (IntKind.wrap .i64 (y2.1 + (if (((u5.2.1 - (Int.toNat y2.1)) : Nat) : Int) < u4 then (((u5.2.1 - (Int.toNat y2.1)) : Nat) : Int) else u4))) ∧ (IntKind.wrap .i64 (y2.1 + (if (((u5.2.1 - (Int.toNat y2.1)) : Nat) : Int) < u4 then (((u5.2.1 - (Int.toNat y2.1)) : Nat) : Int) else u4))) ≤ ((u6.2.2 : Nat) : Int)) <|
  callVW Try.prog x0 [(.slice (cutAddr u6.1 (Int.toNat y2.1) (Int.toNat (IntKind.wrap .i64 (y2.1 + (if (((u5.2.1 - (Int.toNat y2.1)) : Nat) : Int) < u4 then (((u5.2.1 - (Int.toNat y2.1)) : Nat) : Int) else u4)))) 1) ((Int.toNat (IntKind.wrap .i64 (y2.1 + (if (((u5.2.1 - (Int.toNat y2.1)) : Nat) : Int) < u4 then (((u5.2.1 - (Int.toNat y2.1)) : Nat) : Int) else u4)))) - (Int.toNat y2.1)) ((Int.toNat (IntKind.wrap .i64 (y2.1 + (if (((u5.2.1 - (Int.toNat y2.1)) : Nat) : Int) < u4 then (((u5.2.1 - (Int.toNat y2.1)) : Nat) : Int) else u4)))) - (Int.toNat y2.1)))] (.one (.one .bool)) fun (u7 : Bool) =>
  splitW (!u7) (K (.tuple #[])) <|
  ldW (.int .i64) a2 fun (u8 : Int) => I1 ((IntKind.wrap .i64 (y2.1 + u8)), ())) <| K (.tuple #[])
theorem eq42 (x0 : Value) (a1 : Addr) (a2 : Addr) (K : Value → WP) : bodyW Try.prog Try.f42 an42 false [x0, (.pointer (some a1)), (.pointer (some a2))] K = S42 x0 a1 a2 K := by kernel_rfl
theorem calls42 (x0 : Value) (a1 : Addr) (a2 : Addr) {K : Value → WP} {w : World} (h : S42 x0 a1 a2 K w) : Calls Try.prog 42 #[x0, (.pointer (some a1)), (.pointer (some a2))] w (Ret K) := callsR_of_bodyW mixed Try.func42 (of_decide_eq_true (by kernel_rfl)) (by rw [eq42]; exact h)

/-- slices.Chunk[[]byte,byte]$1 -/
def an43 : Ann := (.seq .nil (.block (.loop [(4, .sh (.one (.int .i64)))] [0, 1, 2, 1000000] (.seq (.seq .nil (.cond .nil .nil)) (.seq (.block (.seq .nil (.seq .nil (.cond .nil .nil)))) .nil)))))
def S43 (x0 : Value) (a1 : Addr) (a2 : Addr) (K : Value → WP) : WP := 
  loopW (Int × Unit) ((0 : Int), ()) fun (y2 : Int × Unit) (I1 : (Int × Unit) → WP) =>
  ldW .slc a1 fun (u3 : (Option Addr × Nat × Nat)) =>
  splitW (decide (y2.1 < ((u3.2.1 : Nat) : Int))) (drewW <|
  ldW (.int .i64) a2 fun (u4 : Int) =>
  ldW .slc a1 fun (u5 : (Option Addr × Nat × Nat)) =>
  guardW (0 ≤ y2.1 ∧ y2.1 ≤ ((u5.2.1 : Nat) : Int)) <|
  ldW .slc a1 fun (u6 : (Option Addr × Nat × Nat)) =>
  guardW (0 ≤ y2.1 ∧ y2.1 ≤ (IntKind.wrap .i64 (y2.1 + (if (((u5.2.1 - (Int.toNat y2.1)) : Nat) : Int) < u4 then (((u5.2.1 - (Int.toNat y2.1)) : Nat) : Int) else u4))) ∧ (IntKind.wrap .i64 (y2.1 + (if (((u5.2.1 - (Int.toNat y2.1)) : Nat) : Int) < u4 then (((u5.2.1 - (Int.toNat y2.1)) : Nat) : Int) else u4))) ≤ (IntKind.wrap .i64 (y2.1 + (if (((u5.2.1 - (Int.toNat y2.1)) : Nat) : Int) < u4 then (((u5.2.1 - (Int.toNat y2.1)) : Nat) : Int) else u4))) ∧ (IntKind.wrap .i64 (y2.1 + (if (((u5.2.1 - (Int.toNat y2.1)) : Nat) : Int) < u4 then (((u5.2.1 - (Int.toNat y2.1)) : Nat) : Int) else u4))) ≤ ((u6.2.2 : Nat) : Int)) <|
  callVW Try.prog x0 [(.slice (cutAddr u6.1 (Int.toNat y2.1) (Int.toNat (IntKind.wrap .i64 (y2.1 + (if (((u5.2.1 - (Int.toNat y2.1)) : Nat) : Int) < u4 then (((u5.2.1 - (Int.toNat y2.1)) : Nat) : Int) else u4)))) 1) ((Int.toNat (IntKind.wrap .i64 (y2.1 + (if (((u5.2.1 - (Int.toNat y2.1)) : Nat) : Int) < u4 then (((u5.2.1 - (Int.toNat y2.1)) : Nat) : Int) else u4)))) - (Int.toNat y2.1)) ((Int.toNat (IntKind.wrap .i64 (y2.1 + (if (((u5.2.1 - (Int.toNat y2.1)) : Nat) : Int) < u4 then (((u5.2.1 - (Int.toNat y2.1)) : Nat) : Int) else u4)))) - (Int.toNat y2.1)))] (.one (.one .bool)) fun (u7 : Bool) =>
  splitW (!u7) (K (.tuple #[])) <|
  ldW (.int .i64) a2 fun (u8 : Int) => I1 ((IntKind.wrap .i64 (y2.1 + u8)), ())) <| K (.tuple #[])
theorem eq43 (x0 : Value) (a1 : Addr) (a2 : Addr) (K : Value → WP) : bodyW Try.prog Try.f43 an43 false [x0, (.pointer (some a1)), (.pointer (some a2))] K = S43 x0 a1 a2 K := by kernel_rfl
theorem calls43 (x0 : Value) (a1 : Addr) (a2 : Addr) {K : Value → WP} {w : World} (h : S43 x0 a1 a2 K w) : Calls Try.prog 43 #[x0, (.pointer (some a1)), (.pointer (some a2))] w (Ret K) := callsR_of_bodyW mixed Try.func43 (of_decide_eq_true (by kernel_rfl)) (by rw [eq43]; exact h)

/-- slices.Backward[[]byte,byte] -/
def an44 : Ann := (.seq .nil (.seq .nil .nil))
def S44 (a0 : Option Addr) (n0 c0 : Nat) (K : Value → WP) : WP := 
  newW (.cells #[(.slice a0 n0 c0)] 74) fun (r1 : Nat) => K (.func (.func 46) #[] #[(.pointer (some (⟨r1, 0, none⟩ : Addr)))])
theorem eq44 (a0 : Option Addr) (n0 c0 : Nat) (K : Value → WP) : bodyW Try.prog Try.f44 an44 false [(.slice a0 n0 c0)] K = S44 a0 n0 c0 K := by kernel_rfl
theorem calls44 (a0 : Option Addr) (n0 c0 : Nat) {K : Value → WP} {w : World} (h : S44 a0 n0 c0 K w) : Calls Try.prog 44 #[(.slice a0 n0 c0)] w (Ret K) := callsR_of_bodyW mixed Try.func44 (of_decide_eq_true (by kernel_rfl)) (by rw [eq44]; exact h)

/-- shadowbook/shadowbookref01.Put -/
def an45 : Ann := (.seq .nil (.seq (.seq .nil (.cond (.seq .nil .nil) .nil)) (.seq (.seq .nil (.block (.loop [(0, .sh (.one .slc)), (7, .sh (.one (.int .i64)))] [1, 2, 1000000] (.seq (.seq .nil (.cond .nil .nil)) (.seq (.block .nil) .nil))))) (.seq .nil .nil))))
def S45 (a0 : Option Addr) (n0 c0 : Nat) (x1 : Int) (x2 : Int) (K : Value → WP) : WP := 
  splitW (decide (x2 < (1 : Int))) (K (.slice a0 n0 c0)) <|
  splitW (decide (x2 > (8 : Int))) (K (.slice a0 n0 c0)) <|
  loopW ((Option Addr × Nat × Nat) × Int × Unit) ((a0, n0, c0), (0 : Int), ()) fun (y2 : (Option Addr × Nat × Nat) × Int × Unit) (I1 : ((Option Addr × Nat × Nat) × Int × Unit) → WP) =>
  splitW (decide (y2.2.1 < x2)) (guardW (0 ≤ (IntKind.wrap .u64 (IntKind.wrap .i64 ((8 : Int) * y2.2.1)))) <|
  newW (.cells #[(.int .u8 (IntKind.wrap .u8 (ishr .u64 x1 (IntKind.wrap .u64 (IntKind.wrap .i64 ((8 : Int) * y2.2.1))))))] 5) fun (r3 : Nat) =>
  runW Try.prog (Builtin.append_ #[74, 74] 74 #[(.slice y2.1.1 y2.1.2.1 y2.1.2.2), (.slice (some (⟨r3, 0, none⟩ : Addr)) 1 1)]) .slc fun (u4 : (Option Addr × Nat × Nat)) => I1 ((u4.1, u4.2.1, u4.2.2), (IntKind.wrap .i64 (y2.2.1 + (1 : Int))), ())) <| K (.slice y2.1.1 y2.1.2.1 y2.1.2.2)
theorem eq45 (a0 : Option Addr) (n0 c0 : Nat) (x1 : Int) (x2 : Int) (K : Value → WP) : bodyW Try.prog Try.f45 an45 false [(.slice a0 n0 c0), (.int .u64 x1), (.int .i64 x2)] K = S45 a0 n0 c0 x1 x2 K := by kernel_rfl
theorem calls45 (a0 : Option Addr) (n0 c0 : Nat) (x1 : Int) (x2 : Int) {K : Value → WP} {w : World} (h : S45 a0 n0 c0 x1 x2 K w) : Calls Try.prog 45 #[(.slice a0 n0 c0), (.int .u64 x1), (.int .i64 x2)] w (Ret K) := callsR_of_bodyW mixed Try.func45 (of_decide_eq_true (by kernel_rfl)) (by rw [eq45]; exact h)

/-- slices.Backward[[]byte,byte]$1 -/
def an46 : Ann := (.seq .nil (.block (.loop [(3, .sh (.one (.int .i64)))] [0, 1, 1000000] (.seq (.seq .nil (.cond .nil .nil)) (.seq (.block (.seq .nil (.cond .nil .nil))) .nil)))))
def S46 (x0 : Value) (a1 : Addr) (K : Value → WP) : WP := 
  ldW .slc a1 fun (u1 : (Option Addr × Nat × Nat)) =>
  loopW (Int × Unit) ((IntKind.wrap .i64 (((u1.2.1 : Nat) : Int) - (1 : Int))), ()) fun (y3 : Int × Unit) (I2 : (Int × Unit) → WP) =>
  splitW (decide (y3.1 ≥ (0 : Int))) (ldW .slc a1 fun (u4 : (Option Addr × Nat × Nat)) =>
  guardW (0 ≤ y3.1 ∧ y3.1 < ((u4.2.1 : Nat) : Int)) <|
  ptrW u4.1 fun (p5 : Addr) =>
  ldW (.int .u8) (p5.add (Int.toNat y3.1 * 1)) fun (u6 : Int) =>
  callVW Try.prog x0 [(.int .i64 y3.1), (.int .u8 u6)] (.one (.one .bool)) fun (u7 : Bool) =>
  splitW (!u7) (K (.tuple #[])) <| I2 ((IntKind.wrap .i64 (y3.1 - (1 : Int))), ())) <| K (.tuple #[])
theorem eq46 (x0 : Value) (a1 : Addr) (K : Value → WP) : bodyW Try.prog Try.f46 an46 false [x0, (.pointer (some a1))] K = S46 x0 a1 K := by kernel_rfl
theorem calls46 (x0 : Value) (a1 : Addr) {K : Value → WP} {w : World} (h : S46 x0 a1 K w) : Calls Try.prog 46 #[x0, (.pointer (some a1))] w (Ret K) := callsR_of_bodyW mixed Try.func46 (of_decide_eq_true (by kernel_rfl)) (by rw [eq46]; exact h)

end Go.Proofs.Ytmogbadaoaikcaa.V
