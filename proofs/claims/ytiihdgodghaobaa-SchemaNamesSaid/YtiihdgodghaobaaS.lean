/- The shallow forms of the functions, by a program of mine (wip/tool/gen.py). -/
import Derived.Test.YtiihdgodghaobaaVE
import Derived.Test.YtiihdgodghaobaaChecked
set_option linter.unusedVariables false
set_option maxRecDepth 100000
namespace Go.Proofs.Ytiihdgodghaobaa.V
open Go Go.Proofs
theorem mixed : Try.prog.follows .mixedOrders = true := by kernel_rfl

/-- shadowbook/shadowbooklaw17.SchemaFinds -/
def an3 : Ann := (.seq .nil (.seq (.seq .nil (.cond (.seq .nil .nil) .nil)) (.seq (.seq .nil (.cond (.seq .nil .nil) .nil)) (.seq .nil (.seq .nil (.seq .nil (.seq .nil (.seq (.seq .nil (.cond (.seq .nil .nil) .nil)) (.seq (.seq .nil (.cond (.seq .nil .nil) .nil)) (.seq .nil .nil))))))))))
def S3 (a0 : Option Addr) (n0 c0 : Nat) (x1 : Int) (x2 : ByteArray) (K : Value → WP) : WP := 
  callW Try.prog 9 [] (.one (.one .bool)) fun (u1 : Bool) =>
  splitW (!u1) (K (.bool false)) <|
  callW Try.prog 10 [(.slice a0 n0 c0)] (.one (.one .bool)) fun (u2 : Bool) =>
  splitW (!u2) (K (.bool true)) <|
  callW Try.prog 11 [(.slice a0 n0 c0)] (.one (.one (.int .i64))) fun (u3 : Int) =>
  splitW (u3 != (0 : Int)) (K (.bool true)) <|
  splitW (decide (((x2.size : Nat) : Int) > (60 : Int))) (K (.bool true)) <|
  callW Try.prog 12 [(.int .i64 x1), (.int .i64 ((n0 : Nat) : Int))] (.one (.one (.int .i64))) fun (u4 : Int) =>
  guardW (0 ≤ u4 ∧ u4 < ((n0 : Nat) : Int)) <|
  ptrW a0 fun (p5 : Addr) =>
  ldW .str (p5.add (Int.toNat u4 * 3)) fun (u6 : ByteArray) =>
  callW Try.prog 13 [(.slice a0 n0 c0), (.string u6)] (.many [(.one (.int .i64)), (.one (.int .i64))]) fun (u7 : Int × Int × Unit) =>
  callW Try.prog 13 [(.slice a0 n0 c0), (.string x2)] (.many [(.one (.int .i64)), (.one (.int .i64))]) fun (u8 : Int × Int × Unit) =>
  newW (.cells #[] 31) fun (r9 : Nat) =>
  runW Try.prog (Builtin.append_ #[22, 22] 22 #[(.slice (some (⟨r9, 0, none⟩ : Addr)) 0 0), (.slice a0 n0 c0)]) .slc fun (u10 : (Option Addr × Nat × Nat)) =>
  newW (.cells #[(.string x2), (.int .i64 (1 : Int)), (.bool false)] 31) fun (r11 : Nat) =>
  runW Try.prog (Builtin.append_ #[22, 22] 22 #[(.slice u10.1 u10.2.1 u10.2.2), (.slice (some (⟨r11, 0, none⟩ : Addr)) 1 1)]) .slc fun (u12 : (Option Addr × Nat × Nat)) =>
  callW Try.prog 13 [(.slice u12.1 u12.2.1 u12.2.2), (.string x2)] (.many [(.one (.int .i64)), (.one (.int .i64))]) fun (u13 : Int × Int × Unit) =>
  splitW (u7.2.1 != (0 : Int)) (K (.bool false)) <|
  splitW (u7.1 != u4) (K (.bool false)) <|
  splitW (u13.2.1 != (0 : Int)) (K (.bool false)) <|
  splitW (u8.2.1 != (0 : Int)) (splitW (u8.2.1 == (172 : Int)) (K (.bool (u13.1 == ((n0 : Nat) : Int)))) <| K (.bool false)) <|
  splitW (decide (u8.1 ≥ (0 : Int))) (splitW (decide (u8.1 < ((n0 : Nat) : Int))) (guardW (0 ≤ u8.1 ∧ u8.1 < ((n0 : Nat) : Int)) <|
  ptrW a0 fun (p14 : Addr) =>
  ldW .str (p14.add (Int.toNat u8.1 * 3)) fun (u15 : ByteArray) =>
  splitW (u15.toList == x2.toList) (K (.bool (u13.1 == u8.1))) <| K (.bool false)) <| K (.bool false)) <| K (.bool false)
theorem eq3 (a0 : Option Addr) (n0 c0 : Nat) (x1 : Int) (x2 : ByteArray) (K : Value → WP) : bodyW Try.prog Try.f3 an3 false [(.slice a0 n0 c0), (.int .i64 x1), (.string x2)] K = S3 a0 n0 c0 x1 x2 K := by kernel_rfl
theorem calls3 (a0 : Option Addr) (n0 c0 : Nat) (x1 : Int) (x2 : ByteArray) {K : Value → WP} {w : World} (h : S3 a0 n0 c0 x1 x2 K w) : Calls Try.prog 3 #[(.slice a0 n0 c0), (.int .i64 x1), (.string x2)] w (Ret K) := callsR_of_bodyW mixed Try.func3 (of_decide_eq_true (by kernel_rfl)) (by rw [eq3]; exact h)

/-- shadowbook/shadowbooklaw17.SchemaBack -/
def an4 : Ann := (.seq .nil (.seq (.seq .nil (.cond (.seq .nil .nil) .nil)) (.seq (.seq .nil (.cond (.seq .nil .nil) .nil)) (.seq .nil (.seq (.seq .nil (.cond (.seq .nil .nil) .nil)) (.seq .nil (.seq (.seq .nil (.cond (.seq .nil .nil) .nil)) (.seq .nil (.seq .nil (.seq .nil .nil))))))))))
def S4 (a0 : Option Addr) (n0 c0 : Nat) (x1 : ByteArray) (K : Value → WP) : WP := 
  callW Try.prog 9 [] (.one (.one .bool)) fun (u1 : Bool) =>
  splitW (!u1) (K (.bool false)) <|
  callW Try.prog 10 [(.slice a0 n0 c0)] (.one (.one .bool)) fun (u2 : Bool) =>
  splitW (!u2) (K (.bool true)) <|
  splitW (decide (((x1.size : Nat) : Int) > (300 : Int))) (K (.bool true)) <|
  callW Try.prog 14 [(.slice a0 n0 c0)] (.many [(.one .str), (.one (.int .i64))]) fun (u3 : ByteArray × Int × Unit) =>
  splitW (u3.2.1 != (0 : Int)) (callW Try.prog 11 [(.slice a0 n0 c0)] (.one (.one (.int .i64))) fun (u4 : Int) =>
  splitW (u3.2.1 == u4) (K (.bool (u3.1.toList == (ByteArray.mk #[]).toList))) <| K (.bool false)) <|
  guardW (((u3.1.size + x1.size : Nat) : Int) ≤ IntKind.i64.max) <|
  callW Try.prog 15 [(.string (u3.1 ++ x1))] (.many [(.one .slc), (.one .str), (.one (.int .i64))]) fun (u5 : (Option Addr × Nat × Nat) × ByteArray × Int × Unit) =>
  splitW (u5.2.2.1 != (0 : Int)) (K (.bool false)) <|
  splitW (!(u5.2.1.toList == x1.toList)) (K (.bool false)) <|
  callW Try.prog 16 [(.slice u5.1.1 u5.1.2.1 u5.1.2.2), (.slice a0 n0 c0)] (.one (.one .bool)) fun (u6 : Bool) =>
  splitW (!u6) (K (.bool false)) <|
  callW Try.prog 15 [(.string x1)] (.many [(.one .slc), (.one .str), (.one (.int .i64))]) fun (u7 : (Option Addr × Nat × Nat) × ByteArray × Int × Unit) =>
  callW Try.prog 14 [(.slice u7.1.1 u7.1.2.1 u7.1.2.2)] (.many [(.one .str), (.one (.int .i64))]) fun (u8 : ByteArray × Int × Unit) =>
  splitW (u7.2.2.1 != (0 : Int)) (K (.bool true)) <|
  splitW (u8.2.1 == (0 : Int)) (guardW (((u8.1.size + u7.2.1.size : Nat) : Int) ≤ IntKind.i64.max) <| K (.bool ((u8.1 ++ u7.2.1).toList == x1.toList))) <| K (.bool false)
theorem eq4 (a0 : Option Addr) (n0 c0 : Nat) (x1 : ByteArray) (K : Value → WP) : bodyW Try.prog Try.f4 an4 false [(.slice a0 n0 c0), (.string x1)] K = S4 a0 n0 c0 x1 K := by kernel_rfl
theorem calls4 (a0 : Option Addr) (n0 c0 : Nat) (x1 : ByteArray) {K : Value → WP} {w : World} (h : S4 a0 n0 c0 x1 K w) : Calls Try.prog 4 #[(.slice a0 n0 c0), (.string x1)] w (Ret K) := callsR_of_bodyW mixed Try.func4 (of_decide_eq_true (by kernel_rfl)) (by rw [eq4]; exact h)

/-- shadowbook/shadowbooklaw17.SchemaPrefix -/
def an5 : Ann := (.seq .nil (.seq (.seq .nil (.cond (.seq .nil .nil) .nil)) (.seq (.seq .nil (.cond (.seq .nil .nil) .nil)) (.seq (.seq .nil (.cond (.seq .nil .nil) .nil)) (.seq .nil (.seq .nil (.seq .nil (.seq (.join [(84, .sh (.one .bool))] [0, 5, 6, 8, 1000000] .nil (.cond (.seq .nil .nil) .nil)) (.seq .nil (.seq .nil .nil))))))))))
def S5 (a0 : Option Addr) (n0 c0 : Nat) (x1 : Int) (K : Value → WP) : WP := 
  callW Try.prog 9 [] (.one (.one .bool)) fun (u1 : Bool) =>
  splitW (!u1) (K (.bool false)) <|
  callW Try.prog 10 [(.slice a0 n0 c0)] (.one (.one .bool)) fun (u2 : Bool) =>
  splitW (!u2) (K (.bool true)) <|
  callW Try.prog 11 [(.slice a0 n0 c0)] (.one (.one (.int .i64))) fun (u3 : Int) =>
  splitW (u3 != (0 : Int)) (K (.bool true)) <|
  splitW (((n0 : Nat) : Int) == (0 : Int)) (K (.bool false)) <|
  callW Try.prog 12 [(.int .i64 x1), (.int .i64 ((n0 : Nat) : Int))] (.one (.one (.int .i64))) fun (u4 : Int) =>
  callW Try.prog 14 [(.slice a0 n0 c0)] (.many [(.one .str), (.one (.int .i64))]) fun (u5 : ByteArray × Int × Unit) =>
  guardW (0 ≤ (IntKind.wrap .i64 ((1 : Int) + u4)) ∧ (IntKind.wrap .i64 ((1 : Int) + u4)) ≤ ((c0 : Nat) : Int)) <|
  callW Try.prog 14 [(.slice (cutAddr a0 0 c0 3) (Int.toNat (IntKind.wrap .i64 ((1 : Int) + u4))) c0)] (.many [(.one .str), (.one (.int .i64))]) fun (u6 : ByteArray × Int × Unit) =>
  joinW (Bool × Unit) (fun (J7 : (Bool × Unit) → WP) =>
  drewW <|
  splitW (u5.2.1 != (0 : Int)) (J7 (true, ())) <|
  splitW (u6.2.1 != (0 : Int)) (J7 (true, ())) <|
  splitW (decide (((u5.1.size : Nat) : Int) < ((u6.1.size : Nat) : Int))) (J7 (true, ())) <|
  splitW (decide (((u6.1.size : Nat) : Int) < (1 : Int))) (J7 (true, ())) <|
  guardW (0 ≤ (0 : Int) ∧ (0 : Int) < ((u5.1.size : Nat) : Int)) <|
  splitW ((IntKind.wrap .i64 (bt u5.1 (0 : Int))) != ((n0 : Nat) : Int)) (J7 (true, ())) <|
  guardW (0 ≤ (0 : Int) ∧ (0 : Int) < ((u6.1.size : Nat) : Int)) <|
  splitW ((IntKind.wrap .i64 (bt u6.1 (0 : Int))) != (IntKind.wrap .i64 ((1 : Int) + u4))) (J7 (true, ())) <|
  guardW (0 ≤ (1 : Int) ∧ (1 : Int) ≤ ((u6.1.size : Nat) : Int) ∧ ((u6.1.size : Nat) : Int) ≤ ((u5.1.size : Nat) : Int)) <|
  guardW (0 ≤ (1 : Int) ∧ (1 : Int) ≤ ((u6.1.size : Nat) : Int)) <| J7 ((!((ByteArray.extract u5.1 (Int.toNat (1 : Int)) (Int.toNat ((u6.1.size : Nat) : Int))).toList == (ByteArray.extract u6.1 (Int.toNat (1 : Int)) u6.1.size).toList)), ())) fun (y8 : Bool × Unit) =>
  splitW y8.1 (K (.bool false)) <|
  drewW <|
  guardW (0 ≤ (1 : Int) ∧ (1 : Int) ≤ ((u6.1.size : Nat) : Int)) <|
  guardW (0 ≤ (1 : Int) ∧ (1 : Int) ≤ ((u5.1.size : Nat) : Int)) <|
  guardW ((((ByteArray.extract u6.1 0 (Int.toNat (1 : Int))).size + (ByteArray.extract u5.1 (Int.toNat (1 : Int)) u5.1.size).size : Nat) : Int) ≤ IntKind.i64.max) <|
  callW Try.prog 15 [(.string ((ByteArray.extract u6.1 0 (Int.toNat (1 : Int))) ++ (ByteArray.extract u5.1 (Int.toNat (1 : Int)) u5.1.size)))] (.many [(.one .slc), (.one .str), (.one (.int .i64))]) fun (u9 : (Option Addr × Nat × Nat) × ByteArray × Int × Unit) =>
  splitW (u9.2.2.1 == (0 : Int)) (guardW (0 ≤ (IntKind.wrap .i64 ((1 : Int) + u4)) ∧ (IntKind.wrap .i64 ((1 : Int) + u4)) ≤ ((c0 : Nat) : Int)) <|
  callW Try.prog 16 [(.slice u9.1.1 u9.1.2.1 u9.1.2.2), (.slice (cutAddr a0 0 c0 3) (Int.toNat (IntKind.wrap .i64 ((1 : Int) + u4))) c0)] (.one (.one .bool)) fun (u10 : Bool) =>
  splitW u10 (guardW (0 ≤ ((u6.1.size : Nat) : Int) ∧ ((u6.1.size : Nat) : Int) ≤ ((u5.1.size : Nat) : Int)) <| K (.bool (u9.2.1.toList == (ByteArray.extract u5.1 (Int.toNat ((u6.1.size : Nat) : Int)) u5.1.size).toList))) <| K (.bool false)) <| K (.bool false)
theorem eq5 (a0 : Option Addr) (n0 c0 : Nat) (x1 : Int) (K : Value → WP) : bodyW Try.prog Try.f5 an5 false [(.slice a0 n0 c0), (.int .i64 x1)] K = S5 a0 n0 c0 x1 K := by kernel_rfl
theorem calls5 (a0 : Option Addr) (n0 c0 : Nat) (x1 : Int) {K : Value → WP} {w : World} (h : S5 a0 n0 c0 x1 K w) : Calls Try.prog 5 #[(.slice a0 n0 c0), (.int .i64 x1)] w (Ret K) := callsR_of_bodyW mixed Try.func5 (of_decide_eq_true (by kernel_rfl)) (by rw [eq5]; exact h)

/-- shadowbook/shadowbooklaw17.SchemaRows -/
def an6 : Ann := (.seq .nil (.seq (.seq .nil (.cond (.seq .nil .nil) .nil)) (.seq (.seq .nil (.cond (.seq .nil .nil) .nil)) (.seq .nil (.join [(7, .sh (.one .bool))] [0, 1, 2, 1000000] (.seq .nil (.block (.loop [(7, .sh (.one .bool)), (8, .sh (.one (.int .i64)))] [0, 1, 2, 1000000] (.seq (.seq .nil (.cond .nil .nil)) (.join [(7, .sh (.one .bool))] [0, 1, 2, 8, 1000000] (.block (.join [(9, .sh (.one .bool))] [0, 1, 2, 8, 1000000] .nil .nil)) .nil))))) (.seq (.seq .nil (.cond (.seq .nil .nil) .nil)) (.seq .nil (.seq (.seq .nil (.cond (.seq .nil .nil) .nil)) (.seq .nil (.seq (.seq .nil (.cond (.seq .nil .nil) .nil)) (.seq .nil .nil)))))))))))
def S6 (a0 : Option Addr) (n0 c0 : Nat) (a1 : Option Addr) (n1 c1 : Nat) (a2 : Option Addr) (n2 c2 : Nat) (K : Value → WP) : WP := 
  callW Try.prog 9 [] (.one (.one .bool)) fun (u1 : Bool) =>
  splitW (!u1) (K (.bool false)) <|
  callW Try.prog 10 [(.slice a0 n0 c0)] (.one (.one .bool)) fun (u2 : Bool) =>
  splitW (!u2) (K (.bool true)) <|
  callW Try.prog 17 [(.slice a1 n1 c1)] (.one (.one .bool)) fun (u3 : Bool) =>
  splitW (!u3) (K (.bool true)) <|
  splitW (decide (((n2 : Nat) : Int) > (20 : Int))) (K (.bool true)) <|
  callW Try.prog 11 [(.slice a0 n0 c0)] (.one (.one (.int .i64))) fun (u4 : Int) =>
  splitW (u4 != (0 : Int)) (K (.bool true)) <|
  joinW (Bool × Unit) (fun (J5 : (Bool × Unit) → WP) =>
  loopW (Bool × Int × Unit) ((((n1 : Nat) : Int) == ((n0 : Nat) : Int)), (0 : Int), ()) fun (y8 : Bool × Int × Unit) (I7 : (Bool × Int × Unit) → WP) =>
  splitW (decide (y8.2.1 < ((n1 : Nat) : Int))) (splitW y8.1 (joinW (Bool × Unit) (fun (J9 : (Bool × Unit) → WP) =>
  joinW (Bool × Unit) (fun (J11 : (Bool × Unit) → WP) =>
  guardW (0 ≤ y8.2.1 ∧ y8.2.1 < ((n1 : Nat) : Int)) <|
  ptrW a1 fun (p13 : Addr) =>
  ldW (.int .i64) (p13.add (Int.toNat y8.2.1 * 3)) fun (u14 : Int) =>
  splitW (u14 == (0 : Int)) (guardW (0 ≤ y8.2.1 ∧ y8.2.1 < ((n0 : Nat) : Int)) <|
  ptrW a0 fun (p15 : Addr) =>
  ldW .bool ((p15.add (Int.toNat y8.2.1 * 3)).add 2) fun (u16 : Bool) => J11 (u16, ())) <| J11 (false, ())) fun (y12 : Bool × Unit) =>
  drewW <|
  guardW (0 ≤ y8.2.1 ∧ y8.2.1 < ((n1 : Nat) : Int)) <|
  ptrW a1 fun (p17 : Addr) =>
  ldAW [(.int .i64), (.int .i64), .str] (p17.add (Int.toNat y8.2.1 * 3)) fun (u18 : (Int × Int × ByteArray × Unit)) =>
  callW Try.prog 18 [(.agg #[(.int .i64 u18.1), (.int .i64 u18.2.1), (.string u18.2.2.1)])] (.one (.one (.int .i64))) fun (u19 : Int) =>
  splitW (u19 == (0 : Int)) (guardW (0 ≤ y8.2.1 ∧ y8.2.1 < ((n1 : Nat) : Int)) <|
  ptrW a1 fun (p20 : Addr) =>
  ldW (.int .i64) (p20.add (Int.toNat y8.2.1 * 3)) fun (u21 : Int) =>
  guardW (0 ≤ y8.2.1 ∧ y8.2.1 < ((n0 : Nat) : Int)) <|
  ptrW a0 fun (p22 : Addr) =>
  ldW (.int .i64) ((p22.add (Int.toNat y8.2.1 * 3)).add 1) fun (u23 : Int) =>
  splitW (u21 == u23) (J9 (true, ())) <| J9 (y12.1, ())) <| J9 (false, ())) fun (y10 : Bool × Unit) => I7 (y10.1, (IntKind.wrap .i64 (y8.2.1 + (1 : Int))), ())) <| J5 (y8.1, ())) <| J5 (y8.1, ())) fun (y6 : Bool × Unit) =>
  callW Try.prog 19 [(.slice a0 n0 c0), (.slice a1 n1 c1)] (.one (.one (.int .i64))) fun (u24 : Int) =>
  splitW (!((u24 == (0 : Int)) == y6.1)) (K (.bool false)) <|
  callW Try.prog 20 [(.slice a0 n0 c0), (.slice a2 n2 c2)] (.many [(.one .slc), (.one (.int .i64))]) fun (u25 : (Option Addr × Nat × Nat) × Int × Unit) =>
  splitW (u25.2.1 != (0 : Int)) (splitW (u25.2.1 == (0 : Int)) (K (.bool true)) <| K (.bool (((u25.1.2.1 : Nat) : Int) == (0 : Int)))) <|
  splitW (!y6.1) (splitW (u25.2.1 == (0 : Int)) (K (.bool true)) <| K (.bool (((u25.1.2.1 : Nat) : Int) == (0 : Int)))) <|
  callW Try.prog 21 [(.slice a1 n1 c1), (.slice a2 n2 c2)] (.one (.one .slc)) fun (u26 : (Option Addr × Nat × Nat)) =>
  splitW (((u25.1.2.1 : Nat) : Int) != ((n2 : Nat) : Int)) (K (.bool false)) <|
  splitW (((u26.2.1 : Nat) : Int) != ((n2 : Nat) : Int)) (K (.bool false)) <|
  callW Try.prog 11 [(.slice u25.1.1 u25.1.2.1 u25.1.2.2)] (.one (.one (.int .i64))) fun (u27 : Int) =>
  splitW (u27 != (0 : Int)) (K (.bool true)) <|
  callW Try.prog 19 [(.slice u25.1.1 u25.1.2.1 u25.1.2.2), (.slice u26.1 u26.2.1 u26.2.2)] (.one (.one (.int .i64))) fun (u28 : Int) => K (.bool (u28 == (0 : Int)))
theorem eq6 (a0 : Option Addr) (n0 c0 : Nat) (a1 : Option Addr) (n1 c1 : Nat) (a2 : Option Addr) (n2 c2 : Nat) (K : Value → WP) : bodyW Try.prog Try.f6 an6 false [(.slice a0 n0 c0), (.slice a1 n1 c1), (.slice a2 n2 c2)] K = S6 a0 n0 c0 a1 n1 c1 a2 n2 c2 K := by kernel_rfl
theorem calls6 (a0 : Option Addr) (n0 c0 : Nat) (a1 : Option Addr) (n1 c1 : Nat) (a2 : Option Addr) (n2 c2 : Nat) {K : Value → WP} {w : World} (h : S6 a0 n0 c0 a1 n1 c1 a2 n2 c2 K w) : Calls Try.prog 6 #[(.slice a0 n0 c0), (.slice a1 n1 c1), (.slice a2 n2 c2)] w (Ret K) := callsR_of_bodyW mixed Try.func6 (of_decide_eq_true (by kernel_rfl)) (by rw [eq6]; exact h)

/-- shadowbook/shadowbooklaw17.SchemaNames -/
def an7 : Ann := (.seq .nil (.seq (.seq .nil (.cond (.seq .nil .nil) .nil)) (.seq .nil (.seq .nil (.seq .nil (.seq .nil (.seq .nil (.seq .nil (.seq .nil (.seq .nil (.seq .nil (.seq (.seq .nil (.block (.loop [(15, .sh (.one .bool)), (62, .sh (.one (.int .i64)))] [1, 2, 3, 4, 5, 7, 8, 9, 11, 12, 13, 14, 60, 61, 1000000] (.seq .nil (.seq (.cond .nil .nil) (.seq (.block (.seq .nil (.seq .nil .nil))) .nil)))))) (.join [(0, .sh (.one .bool))] [1000000] (.cuts [⟨0, 1, 0, 0, some 78, [15]⟩, ⟨1, 2, 1, 0, some 79, [78]⟩, ⟨2, 4, 2, 0, some 80, [79]⟩, ⟨3, 8, 6, 0, some 81, [80, 79]⟩, ⟨4, 16, 10, 0, some 82, [79, 81]⟩, ⟨5, 32, 20, 0, some 83, [82]⟩, ⟨6, 64, 32, 0, some 84, [83]⟩, ⟨7, 128, 96, 0, some 85, [84, 83]⟩, ⟨8, 256, 160, 0, some 86, [83, 85]⟩, ⟨9, 512, 320, 0, some 87, [86]⟩, ⟨10, 1024, 512, 0, some 88, [87]⟩, ⟨11, 2048, 1536, 0, some 89, [88, 87]⟩, ⟨12, 4096, 2560, 0, some 90, [87, 89]⟩, ⟨13, 8192, 5120, 0, some 91, [90]⟩, ⟨14, 16384, 8192, 0, some 92, [91]⟩, ⟨15, 32768, 24576, 0, some 93, [92, 91]⟩, ⟨16, 65536, 40960, 0, some 94, [91, 93]⟩, ⟨17, 131072, 81920, 0, some 95, [94]⟩, ⟨18, 262144, 131072, 0, some 96, [95]⟩, ⟨19, 524288, 393216, 0, some 97, [96, 95]⟩, ⟨20, 1048576, 655360, 0, some 98, [97, 95]⟩, ⟨21, 2097152, 1179648, 0, some 99, [95, 98]⟩, ⟨22, 4194304, 2621440, 0, some 100, [99]⟩, ⟨23, 8388608, 4194304, 0, some 101, [1, 100]⟩, ⟨24, 16777216, 12582912, 0, some 102, [101, 100]⟩, ⟨25, 33554432, 20971520, 0, some 103, [102, 100]⟩, ⟨26, 67108864, 37748736, 0, some 104, [100, 103]⟩, ⟨27, 134217728, 83886080, 0, some 105, [104]⟩, ⟨28, 268435456, 134217728, 0, some 106, [105]⟩, ⟨29, 536870912, 402653184, 0, some 107, [106, 105]⟩, ⟨30, 1073741824, 671088640, 0, some 108, [105, 107]⟩, ⟨31, 2147483648, 1342177280, 0, some 109, [108]⟩, ⟨32, 4294967296, 2147483648, 0, some 110, [2, 109]⟩, ⟨33, 8589934592, 6442450944, 0, some 111, [110, 109]⟩, ⟨34, 17179869184, 10737418240, 0, some 112, [111, 109]⟩, ⟨35, 34359738368, 19327352832, 0, some 113, [109, 112]⟩, ⟨36, 68719476736, 42949672960, 0, some 114, [113]⟩, ⟨37, 137438953472, 68719476736, 0, some 115, [3, 114]⟩, ⟨38, 274877906944, 206158430208, 0, some 116, [115, 114]⟩, ⟨39, 549755813888, 343597383680, 0, some 117, [116, 114]⟩, ⟨40, 1099511627776, 618475290624, 0, some 118, [114, 117]⟩, ⟨41, 2199023255552, 1374389534720, 0, some 119, [118]⟩, ⟨42, 4398046511104, 2199023255552, 0, some 120, [119]⟩, ⟨43, 8796093022208, 6597069766656, 0, some 121, [120, 119]⟩, ⟨44, 17592186044416, 10995116277760, 0, some 122, [121, 119]⟩, ⟨45, 35184372088832, 19791209299968, 0, some 123, [122, 119]⟩, ⟨46, 70368744177664, 37383395344384, 0, some 124, [119, 123]⟩, ⟨47, 140737488355328, 87960930222080, 0, some 125, [124]⟩, ⟨48, 281474976710656, 140737488355328, 0, some 126, [1, 125]⟩, ⟨49, 562949953421312, 140737488355328, 0, some 127, [125]⟩, ⟨50, 1125899906842624, 985162418487296, 0, some 128, [126, 127, 125]⟩, ⟨51, 2251799813685248, 1266637395197952, 0, some 129, [128, 125]⟩, ⟨52, 4503599627370496, 2392537302040576, 0, some 130, [125, 129]⟩, ⟨53, 9007199254740992, 5629499534213120, 0, some 131, [130]⟩, ⟨54, 18014398509481984, 9007199254740992, 0, some 132, [1, 131]⟩, ⟨55, 36028797018963968, 9007199254740992, 0, some 133, [131]⟩, ⟨56, 72057594037927936, 9007199254740992, 0, some 134, [131]⟩, ⟨57, 144115188075855872, 117093590311632896, 0, some 135, [133, 134, 131]⟩, ⟨58, 288230376151711744, 207165582859042816, 0, some 136, [132, 135, 131]⟩, ⟨59, 576460752303423488, 297237575406452736, 0, some 137, [136, 131]⟩, ⟨60, 1152921504606846976, 585467951558164480, 0, some 138, [131, 137]⟩, ⟨61, 2305843009213693952, 1441151880758558720, 0, some 139, [138]⟩, ⟨62, 4611686018427387904, 2305843009213693952, 0, some 140, [1, 139]⟩, ⟨63, 9223372036854775808, 2305843009213693952, 0, some 141, [139]⟩, ⟨64, 18446744073709551616, 2305843009213693952, 0, some 142, [139]⟩, ⟨65, 36893488147419103232, 29975959119778021376, 0, some 143, [141, 142, 139]⟩, ⟨66, 73786976294838206464, 43811017175060185088, 0, some 144, [140, 143, 139]⟩, ⟨67, 147573952589676412928, 76092819304051900416, 0, some 145, [144, 139]⟩, ⟨68, 295147905179352825856, 149879795598890106880, 0, some 146, [139, 145]⟩, ⟨69, 590295810358705651712, 368934881474191032320, 0, some 147, [146]⟩, ⟨70, 1180591620717411303424, 590295810358705651712, 0, some 148, [1, 147]⟩, ⟨71, 2361183241434822606848, 1770887431076116955136, 0, some 149, [148, 147]⟩, ⟨72, 4722366482869645213696, 2951479051793528258560, 0, some 150, [149, 147]⟩, ⟨73, 9444732965739290427392, 5312662293228350865408, 0, some 151, [147, 150]⟩, ⟨74, 18889465931478580854784, 11805916207174113034240, 0, some 152, [151]⟩, ⟨75, 37778931862957161709568, 18889465931478580854784, 0, some 153, [1, 152]⟩, ⟨76, 75557863725914323419136, 18889465931478580854784, 0, some 154, [152]⟩, ⟨77, 151115727451828646838272, 18889465931478580854784, 0, some 155, [152]⟩, ⟨78, 302231454903657293676544, 245563057109221551112192, 0, some 156, [154, 155, 152]⟩, ⟨79, 604462909807314587353088, 434457716424007359660032, 0, some 157, [153, 156, 152]⟩, ⟨80, 1208925819614629174706176, 623352375738793168207872, 0, some 158, [157, 152]⟩, ⟨81, 2417851639229258349412352, 1227815285546107755560960, 0, some 159, [152, 158]⟩, ⟨82, 4835703278458516698824704, 3022314549036572936765440, 0, some 160, [159]⟩, ⟨83, 9671406556917033397649408, 4835703278458516698824704, 0, some 161, [4, 160]⟩, ⟨84, 19342813113834066795298816, 14507109835375550096474112, 0, some 162, [161, 160]⟩, ⟨85, 38685626227668133590597632, 24178516392292583494123520, 0, some 163, [160, 162]⟩, ⟨86, 77371252455336267181195264, 43521329506126650289422336, 0, some 164, [163]⟩, ⟨87, 154742504910672534362390528, 77371252455336267181195264, 0, some 165, [5, 164]⟩, ⟨88, 309485009821345068724781056, 232113757366008801543585792, 0, some 166, [165, 164]⟩, ⟨89, 618970019642690137449562112, 386856262276681335905976320, 0, some 167, [164, 166]⟩, ⟨90, 1237940039285380274899124224, 696341272098026404630757376, 0, some 168, [167]⟩, ⟨91, 2475880078570760549798248448, 1237940039285380274899124224, 0, some 169, [7, 168]⟩, ⟨92, 4951760157141521099596496896, 3713820117856140824697372672, 0, some 170, [169, 168]⟩, ⟨93, 9903520314283042199192993792, 6189700196426901374495621120, 0, some 171, [168, 170]⟩, ⟨94, 19807040628566084398385987584, 11141460353568422474092118016, 0, some 172, [171]⟩, ⟨95, 39614081257132168796771975168, 19807040628566084398385987584, 0, some 173, [9, 172]⟩, ⟨96, 79228162514264337593543950336, 59421121885698253195157962752, 0, some 174, [173, 172]⟩, ⟨97, 158456325028528675187087900672, 99035203142830421991929937920, 0, some 175, [172, 174]⟩, ⟨98, 316912650057057350374175801344, 178263365657094759585473888256, 0, some 176, [175]⟩, ⟨99, 633825300114114700748351602688, 316912650057057350374175801344, 0, some 177, [8, 176]⟩, ⟨100, 1267650600228229401496703205376, 950737950171172051122527404032, 0, some 178, [177, 176]⟩, ⟨101, 2535301200456458802993406410752, 1584563250285286751870879006720, 0, some 179, [178, 176]⟩, ⟨102, 5070602400912917605986812821504, 2852213850513516153367582212096, 0, some 180, [176, 179]⟩, ⟨103, 10141204801825835211973625643008, 5387515050969974956360988622848, 0, some 181, [180]⟩, ⟨104, 20282409603651670423947251286016, 10141204801825835211973625643008, 0, some 182, [8, 181]⟩, ⟨105, 40564819207303340847894502572032, 30423614405477505635920876929024, 0, some 183, [182, 181]⟩, ⟨106, 81129638414606681695789005144064, 50706024009129176059868128215040, 178405961586946910917652039274054267965538304, some 184, [183, 181]⟩, ⟨107, 162259276829213363391578010288128, 10141204801825835211973625643008, 0, some 185, [1, 181]⟩, ⟨108, 324518553658426726783156020576256, 172400481631039198603551635931136, 0, some 186, [185, 181]⟩, ⟨109, 649037107316853453566312041152512, 334659758460252561995129646219264, 178405961586946910917652039274054267965538304, some 187, [186, 181]⟩, ⟨110, 1298074214633706907132624082305024, 740307950533285970474074671939584, 0, some 188, [184, 187, 181]⟩, ⟨111, 2596148429267413814265248164610048, 1308215419435532742344597707948032, 0, some 189, [181, 188]⟩, ⟨112, 5192296858534827628530496329220096, 2606289634069239649477221790253056, 0, some 190, [189]⟩, ⟨113, 10384593717069655257060992658440192, 5192296858534827628530496329220096, 0, some 191, [11, 190]⟩, ⟨114, 20769187434139310514121985316880384, 15576890575604482885591488987660288, 0, some 192, [191, 190]⟩, ⟨115, 41538374868278621028243970633760768, 25961484292674138142652481646100480, 0, some 193, [190, 192]⟩, ⟨116, 83076749736557242056487941267521536, 46730671726813448656774466962980864, 0, some 194, [193]⟩, ⟨117, 166153499473114484112975882535043072, 83076749736557242056487941267521536, 0, some 195, [14, 194]⟩, ⟨118, 332306998946228968225951765070086144, 249230249209671726169463823802564608, 0, some 196, [195, 194]⟩, ⟨119, 664613997892457936451903530140172288, 415383748682786210282439706337607680, 0, some 197, [194, 196]⟩, ⟨120, 1329227995784915872903807060280344576, 747690747629015178508391471407693824, 0, some 198, [197]⟩, ⟨121, 2658455991569831745807614120560689152, 1329227995784915872903807060280344576, 0, some 199, [13, 198]⟩, ⟨122, 5316911983139663491615228241121378304, 3987683987354747618711421180841033728, 0, some 200, [199, 198]⟩, ⟨123, 10633823966279326983230456482242756608, 6646139978924579364519035301401722880, 0, some 201, [198, 200]⟩, ⟨124, 21267647932558653966460912964485513216, 11963051962064242856134263542523101184, 0, some 202, [201]⟩, ⟨125, 42535295865117307932921825928971026432, 21267647932558653966460912964485513216, 0, some 203, [12, 202]⟩, ⟨126, 85070591730234615865843651857942052864, 63802943797675961899382738893456539648, 0, some 204, [203, 202]⟩, ⟨127, 170141183460469231731687303715884105728, 106338239662793269832304564822427566080, 0, some 205, [204, 202]⟩, ⟨128, 340282366920938463463374607431768211456, 191408831393027885698148216680369618944, 0, some 206, [202, 205]⟩, ⟨129, 680564733841876926926749214863536422912, 361550014853497117429835520396253724672, 0, some 207, [206]⟩, ⟨130, 1361129467683753853853498429727072845824, 680564733841876926926749214863536422912, 0, some 208, [12, 207]⟩, ⟨131, 2722258935367507707706996859454145691648, 2041694201525630780780247644590609268736, 0, some 209, [208, 207]⟩, ⟨132, 5444517870735015415413993718908291383296, 3402823669209384634633746074317682114560, 0, some 210, [209, 207]⟩, ⟨133, 10889035741470030830827987437816582766592, 6125082604576892342340742933771827806208, 178384183516762045070624090206311258882310144, some 211, [210, 207]⟩, ⟨134, 21778071482940061661655974875633165533184, 11569600475311907757754736652680119189504, 0, some 212, [207, 211]⟩, ⟨135, 43556142965880123323311949751266331066368, 22458636216781938588582724090496701956096, 0, some 213, [212]⟩, ⟨136, 87112285931760246646623899502532662132736, 43556142965880123323311949751266331066368, 0, some 214, [213]⟩, ⟨137, 174224571863520493293247799005065324265472, 43556142965880123323311949751266331066368, 0, some 215, [213]⟩, ⟨138, 348449143727040986586495598010130648530944, 304893000761160863263183648258864317464576, 0, some 216, [214, 215, 213]⟩, ⟨139, 696898287454081973172991196020261297061888, 392005286692921109909807547761396979597312, 0, some 217, [216, 213]⟩, ⟨140, 1393796574908163946345982392040522594123776, 392005286692921109909807547761396979597312, 0, some 218, [213]⟩, ⟨141, 2787593149816327892691964784081045188247552, 43556142965880123323311949751266331066368, 0, some 219, [213]⟩, ⟨142, 5575186299632655785383929568162090376495104, 4224945867690371962361259125872834113437696, 0, some 220, [218, 219, 213]⟩, ⟨143, 11150372599265311570767859136324180752990208, 5618742442598535908707241517913356707561472, 0, some 221, [220, 213]⟩, ⟨144, 22300745198530623141535718272648361505980416, 13284623604593437613610144674136230975242240, 0, some 222, [217, 221, 213]⟩, ⟨145, 44601490397061246283071436545296723011960832, 22344301341496503264859030222399627837046784, 0, some 223, [213, 222]⟩, ⟨146, 89202980794122492566142873090593446023921664, 89202980794122492566142873090593446023921663, 0, some 0, [223]⟩] [⟨16383, [(91, .sh (.one .bool))], [1, 2, 3, 4, 5, 7, 8, 9, 11, 12, 13, 14, 1000000]⟩, ⟨268435455, [(105, .sh (.one .bool))], [1, 2, 3, 4, 5, 7, 8, 9, 11, 12, 13, 14, 1000000]⟩, ⟨4398046511103, [(119, .sh (.one .bool))], [1, 4, 5, 7, 8, 9, 11, 12, 13, 14, 1000000]⟩, ⟨18014398509481983, [(131, .sh (.one .bool))], [1, 4, 5, 7, 8, 9, 11, 12, 13, 14, 1000000]⟩, ⟨1180591620717411303423, [(147, .sh (.one .bool))], [1, 4, 5, 7, 8, 9, 11, 12, 13, 14, 1000000]⟩, ⟨9671406556917033397649407, [(160, .sh (.one .bool))], [1, 4, 5, 7, 8, 9, 11, 12, 13, 14, 1000000]⟩, ⟨39614081257132168796771975167, [(172, .sh (.one .bool))], [1, 8, 9, 11, 12, 13, 14, 1000000]⟩, ⟨10384593717069655257060992658440191, [(190, .sh (.one .bool))], [11, 12, 13, 14, 1000000]⟩, ⟨42535295865117307932921825928971026431, [(202, .sh (.one .bool))], [12, 1000000]⟩]) .nil)))))))))))))
def S7  (K : Value → WP) : WP := 
  callW Try.prog 9 [] (.one (.one .bool)) fun (u1 : Bool) =>
  splitW (!u1) (K (.bool false)) <|
  callW Try.prog 22 [] (.one (.one .slc)) fun (u2 : (Option Addr × Nat × Nat)) =>
  drewW <|
  guardW (0 ≤ (0 : Int) ∧ (0 : Int) < ((u2.2.1 : Nat) : Int)) <|
  ptrW u2.1 fun (p3 : Addr) =>
  ldAW [.str, (.int .i64), .bool] (p3.add (Int.toNat (0 : Int) * 3)) fun (u4 : (ByteArray × Int × Bool × Unit)) =>
  guardW (0 ≤ (0 : Int) ∧ (0 : Int) < ((u2.2.1 : Nat) : Int)) <|
  ptrW u2.1 fun (p5 : Addr) =>
  ldAW [.str, (.int .i64), .bool] (p5.add (Int.toNat (0 : Int) * 3)) fun (u6 : (ByteArray × Int × Bool × Unit)) =>
  newW (.cells #[(.string u4.1), (.int .i64 u4.2.1), (.bool u4.2.2.1), (.string u6.1), (.int .i64 u6.2.1), (.bool u6.2.2.1)] 31) fun (r7 : Nat) =>
  newW (.cells #[(.string (ByteArray.mk #[97])), (.int .i64 (0 : Int)), (.bool false)] 31) fun (r8 : Nat) =>
  callW Try.prog 13 [(.slice u2.1 u2.2.1 u2.2.2), (.string (ByteArray.mk #[118]))] (.many [(.one (.int .i64)), (.one (.int .i64))]) fun (u9 : Int × Int × Unit) =>
  callW Try.prog 13 [(.slice u2.1 u2.2.1 u2.2.2), (.string (ByteArray.mk #[119]))] (.many [(.one (.int .i64)), (.one (.int .i64))]) fun (u10 : Int × Int × Unit) =>
  newW (.cells #[(.int .i64 (1 : Int)), (.int .i64 (0 : Int)), (.int .i64 (1 : Int))] 3) fun (r11 : Nat) =>
  callW Try.prog 20 [(.slice u2.1 u2.2.1 u2.2.2), (.slice (some (⟨r11, 0, none⟩ : Addr)) 3 3)] (.many [(.one .slc), (.one (.int .i64))]) fun (u12 : (Option Addr × Nat × Nat) × Int × Unit) =>
  newW (.cells #[(.int .i64 (2 : Int))] 3) fun (r13 : Nat) =>
  callW Try.prog 20 [(.slice u2.1 u2.2.1 u2.2.2), (.slice (some (⟨r13, 0, none⟩ : Addr)) 1 1)] (.many [(.one .slc), (.one (.int .i64))]) fun (u14 : (Option Addr × Nat × Nat) × Int × Unit) =>
  callW Try.prog 15 [(.string (ByteArray.mk #[1, 129, 1, 97, 88, 89]))] (.many [(.one .slc), (.one .str), (.one (.int .i64))]) fun (u15 : (Option Addr × Nat × Nat) × ByteArray × Int × Unit) =>
  newW (.cells #[(.string (ByteArray.mk #[])), (.string (ByteArray.mk #[1])), (.string (ByteArray.mk #[1, 129, 2, 97])), (.string (ByteArray.mk #[0])), (.string (ByteArray.mk #[1, 129, 1, 49])), (.string (ByteArray.mk #[1, 128, 1, 97])), (.string (ByteArray.mk #[2, 1, 1, 97, 1, 1, 97]))] 9) fun (r16 : Nat) =>
  loopW (Bool × Int × Unit) (true, (0 : Int), ()) fun (y18 : Bool × Int × Unit) (I17 : (Bool × Int × Unit) → WP) =>
  splitW (decide (y18.2.1 < ((7 : Nat) : Int))) (guardW (0 ≤ y18.2.1 ∧ y18.2.1 < ((7 : Nat) : Int)) <|
  ptrW (some (⟨r16, 0, none⟩ : Addr)) fun (p19 : Addr) =>
  ldW .str (p19.add (Int.toNat y18.2.1 * 1)) fun (u20 : ByteArray) =>
  callW Try.prog 15 [(.string u20)] (.many [(.one .slc), (.one .str), (.one (.int .i64))]) fun (u21 : (Option Addr × Nat × Nat) × ByteArray × Int × Unit) =>
  splitW y18.1 (I17 ((u21.2.2.1 == (171 : Int)), (IntKind.wrap .i64 (y18.2.1 + (1 : Int))), ())) <| I17 (false, (IntKind.wrap .i64 (y18.2.1 + (1 : Int))), ())) <|
  joinW (Bool × Unit) (fun (J22 : (Bool × Unit) → WP) =>
  drewW <|
  joinW (Bool × Unit) (fun (J24 : (Bool × Unit) → WP) =>
  splitW y18.1 (callW Try.prog 23 [(.string (ByteArray.mk #[97, 95, 57]))] (.one (.one (.int .i64))) fun (u26 : Int) =>
  splitW (u26 == (0 : Int)) (callW Try.prog 23 [(.string (ByteArray.mk #[57, 97]))] (.one (.one (.int .i64))) fun (u27 : Int) =>
  splitW (u27 == (170 : Int)) (callW Try.prog 23 [(.string (ByteArray.mk #[]))] (.one (.one (.int .i64))) fun (u28 : Int) =>
  splitW (u28 == (170 : Int)) (J24 (true, ())) <| J24 (false, ())) <| J24 (false, ())) <| J24 (false, ())) <| J24 (false, ())) fun (y25 : Bool × Unit) =>
  joinW (Bool × Unit) (fun (J29 : (Bool × Unit) → WP) =>
  splitW y25.1 (callW Try.prog 23 [(.string (ByteArray.mk #[97, 45]))] (.one (.one (.int .i64))) fun (u31 : Int) =>
  splitW (u31 == (170 : Int)) (callW Try.prog 24 [(.string (ByteArray.mk #[97])), (.int .i64 (33 : Int))] (.one (.one .str)) fun (u32 : ByteArray) =>
  callW Try.prog 23 [(.string u32)] (.one (.one (.int .i64))) fun (u33 : Int) =>
  splitW (u33 == (170 : Int)) (callW Try.prog 11 [(.slice u2.1 u2.2.1 u2.2.2)] (.one (.one (.int .i64))) fun (u34 : Int) =>
  splitW (u34 == (0 : Int)) (J29 (true, ())) <| J29 (false, ())) <| J29 (false, ())) <| J29 (false, ())) <| J29 (false, ())) fun (y30 : Bool × Unit) =>
  joinW (Bool × Unit) (fun (J35 : (Bool × Unit) → WP) =>
  splitW y30.1 (callW Try.prog 11 [(.slice none 0 0)] (.one (.one (.int .i64))) fun (u37 : Int) =>
  splitW (u37 == (171 : Int)) (callW Try.prog 11 [(.slice (some (⟨r7, 0, none⟩ : Addr)) 2 2)] (.one (.one (.int .i64))) fun (u38 : Int) =>
  splitW (u38 == (171 : Int)) (callW Try.prog 11 [(.slice (some (⟨r8, 0, none⟩ : Addr)) 1 1)] (.one (.one (.int .i64))) fun (u39 : Int) =>
  splitW (u39 == (171 : Int)) (J35 (true, ())) <| J35 (false, ())) <| J35 (false, ())) <| J35 (false, ())) <| J35 (false, ())) fun (y36 : Bool × Unit) =>
  joinW (Bool × Unit) (fun (J40 : (Bool × Unit) → WP) =>
  splitW y36.1 (newW (.cells #[(.string (ByteArray.mk #[])), (.int .i64 (1 : Int)), (.bool false)] 31) fun (r42 : Nat) =>
  callW Try.prog 11 [(.slice (some (⟨r42, 0, none⟩ : Addr)) 1 1)] (.one (.one (.int .i64))) fun (u43 : Int) =>
  splitW (u43 == (170 : Int)) (callW Try.prog 25 [(.string (ByteArray.mk #[97])), (.int .i64 (1 : Int))] (.one (.one .slc)) fun (u44 : (Option Addr × Nat × Nat)) =>
  callW Try.prog 19 [(.slice u2.1 u2.2.1 u2.2.2), (.slice u44.1 u44.2.1 u44.2.2)] (.one (.one (.int .i64))) fun (u45 : Int) =>
  splitW (u45 == (0 : Int)) (J40 (true, ())) <| J40 (false, ())) <| J40 (false, ())) <| J40 (false, ())) fun (y41 : Bool × Unit) =>
  joinW (Bool × Unit) (fun (J46 : (Bool × Unit) → WP) =>
  splitW y41.1 (callW Try.prog 26 [(.string (ByteArray.mk #[97]))] (.one (.agg [(.int .i64), (.int .i64), .str])) fun (u48 : (Int × Int × ByteArray × Unit)) =>
  newW (.cells #[(.int .i64 u48.1), (.int .i64 u48.2.1), (.string u48.2.2.1), (.int .i64 (0 : Int)), (.int .i64 (0 : Int)), (.string ByteArray.empty)] 44) fun (r49 : Nat) =>
  callW Try.prog 19 [(.slice u2.1 u2.2.1 u2.2.2), (.slice (some (⟨r49, 0, none⟩ : Addr)) 2 2)] (.one (.one (.int .i64))) fun (u50 : Int) =>
  splitW (u50 == (0 : Int)) (newW (.cells #[(.int .i64 (0 : Int)), (.int .i64 (0 : Int)), (.string ByteArray.empty), (.int .i64 (0 : Int)), (.int .i64 (0 : Int)), (.string ByteArray.empty)] 44) fun (r51 : Nat) =>
  callW Try.prog 19 [(.slice u2.1 u2.2.1 u2.2.2), (.slice (some (⟨r51, 0, none⟩ : Addr)) 2 2)] (.one (.one (.int .i64))) fun (u52 : Int) =>
  splitW (u52 == (173 : Int)) (J46 (true, ())) <| J46 (false, ())) <| J46 (false, ())) <| J46 (false, ())) fun (y47 : Bool × Unit) =>
  joinW (Bool × Unit) (fun (J53 : (Bool × Unit) → WP) =>
  splitW y47.1 (callW Try.prog 19 [(.slice u2.1 u2.2.1 u2.2.2), (.slice none 0 0)] (.one (.one (.int .i64))) fun (u55 : Int) =>
  splitW (u55 == (173 : Int)) (callW Try.prog 26 [(.string (ByteArray.mk #[97]))] (.one (.agg [(.int .i64), (.int .i64), .str])) fun (u56 : (Int × Int × ByteArray × Unit)) =>
  newW (.cells #[(.int .i64 u56.1), (.int .i64 u56.2.1), (.string u56.2.2.1), (.int .i64 (9 : Int)), (.int .i64 (0 : Int)), (.string ByteArray.empty)] 44) fun (r57 : Nat) =>
  callW Try.prog 19 [(.slice u2.1 u2.2.1 u2.2.2), (.slice (some (⟨r57, 0, none⟩ : Addr)) 2 2)] (.one (.one (.int .i64))) fun (u58 : Int) =>
  splitW (u58 == (160 : Int)) (J53 (true, ())) <| J53 (false, ())) <| J53 (false, ())) <| J53 (false, ())) fun (y54 : Bool × Unit) =>
  joinW (Bool × Unit) (fun (J59 : (Bool × Unit) → WP) =>
  splitW y54.1 (splitW (u9.1 == (1 : Int)) (splitW (u9.2.1 == (0 : Int)) (splitW (u10.2.1 == (172 : Int)) (J59 (true, ())) <| J59 (false, ())) <| J59 (false, ())) <| J59 (false, ())) <| J59 (false, ())) fun (y60 : Bool × Unit) =>
  joinW (Bool × Unit) (fun (J61 : (Bool × Unit) → WP) =>
  splitW y60.1 (splitW (u12.2.1 == (0 : Int)) (splitW (((u12.1.2.1 : Nat) : Int) == (3 : Int)) (guardW (0 ≤ (0 : Int) ∧ (0 : Int) < ((u12.1.2.1 : Nat) : Int)) <|
  ptrW u12.1.1 fun (p63 : Addr) =>
  ldAW [.str, (.int .i64), .bool] (p63.add (Int.toNat (0 : Int) * 3)) fun (u64 : (ByteArray × Int × Bool × Unit)) =>
  guardW (0 ≤ (1 : Int) ∧ (1 : Int) < ((u2.2.1 : Nat) : Int)) <|
  ptrW u2.1 fun (p65 : Addr) =>
  ldAW [.str, (.int .i64), .bool] (p65.add (Int.toNat (1 : Int) * 3)) fun (u66 : (ByteArray × Int × Bool × Unit)) =>
  eqW Try.prog (eqS .eql 31 (.tmp 184) (.tmp 187) (.agg #[(.string u64.1), (.int .i64 u64.2.1), (.bool u64.2.2.1)]) (.agg #[(.string u66.1), (.int .i64 u66.2.1), (.bool u66.2.2.1)])) fun (b67 : Bool) =>
  splitW b67 (J61 (true, ())) <| J61 (false, ())) <| J61 (false, ())) <| J61 (false, ())) <| J61 (false, ())) fun (y62 : Bool × Unit) =>
  joinW (Bool × Unit) (fun (J68 : (Bool × Unit) → WP) =>
  splitW y62.1 (splitW (u14.2.1 == (172 : Int)) (splitW (u15.2.2.1 == (0 : Int)) (splitW (u15.2.1.toList == (ByteArray.mk #[88, 89]).toList) (J68 (true, ())) <| J68 (false, ())) <| J68 (false, ())) <| J68 (false, ())) <| J68 (false, ())) fun (y69 : Bool × Unit) =>
  splitW y69.1 (splitW (((u15.1.2.1 : Nat) : Int) == (1 : Int)) (guardW (0 ≤ (0 : Int) ∧ (0 : Int) < ((u15.1.2.1 : Nat) : Int)) <|
  ptrW u15.1.1 fun (p70 : Addr) =>
  ldW .bool ((p70.add (Int.toNat (0 : Int) * 3)).add 2) fun (u71 : Bool) =>
  splitW u71 (bothW (callW Try.prog 25 [(.string (ByteArray.mk #[97])), (.int .i64 (1 : Int))] (.one (.one .slc)) fun (u72 : (Option Addr × Nat × Nat)) =>
  newW (.cells #[(.int .i64 (1 : Int)), (.int .i64 (7 : Int))] 3) fun (r73 : Nat) =>
  callW Try.prog 21 [(.slice u72.1 u72.2.1 u72.2.2), (.slice (some (⟨r73, 0, none⟩ : Addr)) 2 2)] (.one (.one .slc)) fun (u74 : (Option Addr × Nat × Nat)) =>
  bothW (newW (.cells #[(.slice u74.1 u74.2.1 u74.2.2)] 40) fun (r75 : Nat) =>
  callW Try.prog 28 [(.int .i64 (1 : Int))] (.one (.agg [(.int .i64), (.int .i64), .str])) fun (u76 : (Int × Int × ByteArray × Unit)) =>
  newW (.cells #[(.int .i64 u76.1), (.int .i64 u76.2.1), (.string u76.2.2.1), (.int .i64 (0 : Int)), (.int .i64 (0 : Int)), (.string ByteArray.empty)] 44) fun (r77 : Nat) =>
  newW (.cells #[(.slice (some (⟨r77, 0, none⟩ : Addr)) 2 2)] 40) fun (r78 : Nat) =>
  callW Try.prog 27 [(.slice (some (⟨r75, 0, none⟩ : Addr)) 1 1), (.slice (some (⟨r78, 0, none⟩ : Addr)) 1 1)] (.one (.one .bool)) fun (u79 : Bool) => J22 (u79, ())) <|
  callW Try.prog 28 [(.int .i64 (1 : Int))] (.one (.agg [(.int .i64), (.int .i64), .str])) fun (u80 : (Int × Int × ByteArray × Unit)) =>
  bothW (newW (.cells #[(.slice u74.1 u74.2.1 u74.2.2)] 40) fun (r81 : Nat) =>
  newW (.cells #[(.int .i64 u80.1), (.int .i64 u80.2.1), (.string u80.2.2.1), (.int .i64 (0 : Int)), (.int .i64 (0 : Int)), (.string ByteArray.empty)] 44) fun (r82 : Nat) =>
  newW (.cells #[(.slice (some (⟨r82, 0, none⟩ : Addr)) 2 2)] 40) fun (r83 : Nat) =>
  callW Try.prog 27 [(.slice (some (⟨r81, 0, none⟩ : Addr)) 1 1), (.slice (some (⟨r83, 0, none⟩ : Addr)) 1 1)] (.one (.one .bool)) fun (u84 : Bool) => J22 (u84, ())) <|
  newW (.cells #[(.int .i64 u80.1), (.int .i64 u80.2.1), (.string u80.2.2.1), (.int .i64 (0 : Int)), (.int .i64 (0 : Int)), (.string ByteArray.empty)] 44) fun (r85 : Nat) =>
  bothW (newW (.cells #[(.slice u74.1 u74.2.1 u74.2.2)] 40) fun (r86 : Nat) =>
  newW (.cells #[(.slice (some (⟨r85, 0, none⟩ : Addr)) 2 2)] 40) fun (r87 : Nat) =>
  callW Try.prog 27 [(.slice (some (⟨r86, 0, none⟩ : Addr)) 1 1), (.slice (some (⟨r87, 0, none⟩ : Addr)) 1 1)] (.one (.one .bool)) fun (u88 : Bool) => J22 (u88, ())) <|
  newW (.cells #[(.slice (some (⟨r85, 0, none⟩ : Addr)) 2 2)] 40) fun (r89 : Nat) =>
  newW (.cells #[(.slice u74.1 u74.2.1 u74.2.2)] 40) fun (r90 : Nat) =>
  callW Try.prog 27 [(.slice (some (⟨r90, 0, none⟩ : Addr)) 1 1), (.slice (some (⟨r89, 0, none⟩ : Addr)) 1 1)] (.one (.one .bool)) fun (u91 : Bool) => J22 (u91, ())) <|
  newW (.cells #[(.int .i64 (1 : Int)), (.int .i64 (7 : Int))] 3) fun (r92 : Nat) =>
  callW Try.prog 25 [(.string (ByteArray.mk #[97])), (.int .i64 (1 : Int))] (.one (.one .slc)) fun (u93 : (Option Addr × Nat × Nat)) =>
  callW Try.prog 21 [(.slice u93.1 u93.2.1 u93.2.2), (.slice (some (⟨r92, 0, none⟩ : Addr)) 2 2)] (.one (.one .slc)) fun (u94 : (Option Addr × Nat × Nat)) =>
  bothW (newW (.cells #[(.slice u94.1 u94.2.1 u94.2.2)] 40) fun (r95 : Nat) =>
  callW Try.prog 28 [(.int .i64 (1 : Int))] (.one (.agg [(.int .i64), (.int .i64), .str])) fun (u96 : (Int × Int × ByteArray × Unit)) =>
  newW (.cells #[(.int .i64 u96.1), (.int .i64 u96.2.1), (.string u96.2.2.1), (.int .i64 (0 : Int)), (.int .i64 (0 : Int)), (.string ByteArray.empty)] 44) fun (r97 : Nat) =>
  newW (.cells #[(.slice (some (⟨r97, 0, none⟩ : Addr)) 2 2)] 40) fun (r98 : Nat) =>
  callW Try.prog 27 [(.slice (some (⟨r95, 0, none⟩ : Addr)) 1 1), (.slice (some (⟨r98, 0, none⟩ : Addr)) 1 1)] (.one (.one .bool)) fun (u99 : Bool) => J22 (u99, ())) <|
  callW Try.prog 28 [(.int .i64 (1 : Int))] (.one (.agg [(.int .i64), (.int .i64), .str])) fun (u100 : (Int × Int × ByteArray × Unit)) =>
  bothW (newW (.cells #[(.slice u94.1 u94.2.1 u94.2.2)] 40) fun (r101 : Nat) =>
  newW (.cells #[(.int .i64 u100.1), (.int .i64 u100.2.1), (.string u100.2.2.1), (.int .i64 (0 : Int)), (.int .i64 (0 : Int)), (.string ByteArray.empty)] 44) fun (r102 : Nat) =>
  newW (.cells #[(.slice (some (⟨r102, 0, none⟩ : Addr)) 2 2)] 40) fun (r103 : Nat) =>
  callW Try.prog 27 [(.slice (some (⟨r101, 0, none⟩ : Addr)) 1 1), (.slice (some (⟨r103, 0, none⟩ : Addr)) 1 1)] (.one (.one .bool)) fun (u104 : Bool) => J22 (u104, ())) <|
  newW (.cells #[(.int .i64 u100.1), (.int .i64 u100.2.1), (.string u100.2.2.1), (.int .i64 (0 : Int)), (.int .i64 (0 : Int)), (.string ByteArray.empty)] 44) fun (r105 : Nat) =>
  bothW (newW (.cells #[(.slice u94.1 u94.2.1 u94.2.2)] 40) fun (r106 : Nat) =>
  newW (.cells #[(.slice (some (⟨r105, 0, none⟩ : Addr)) 2 2)] 40) fun (r107 : Nat) =>
  callW Try.prog 27 [(.slice (some (⟨r106, 0, none⟩ : Addr)) 1 1), (.slice (some (⟨r107, 0, none⟩ : Addr)) 1 1)] (.one (.one .bool)) fun (u108 : Bool) => J22 (u108, ())) <|
  newW (.cells #[(.slice (some (⟨r105, 0, none⟩ : Addr)) 2 2)] 40) fun (r109 : Nat) =>
  newW (.cells #[(.slice u94.1 u94.2.1 u94.2.2)] 40) fun (r110 : Nat) =>
  callW Try.prog 27 [(.slice (some (⟨r110, 0, none⟩ : Addr)) 1 1), (.slice (some (⟨r109, 0, none⟩ : Addr)) 1 1)] (.one (.one .bool)) fun (u111 : Bool) => J22 (u111, ())) <| J22 (false, ())) <| J22 (false, ())) <| J22 (false, ())) fun (y23 : Bool × Unit) => K (.bool y23.1)
theorem eq7  (K : Value → WP) : bodyW Try.prog Try.f7 an7 false [] K = S7  K := by kernel_rfl
theorem calls7  {K : Value → WP} {w : World} (h : S7  K w) : Calls Try.prog 7 #[] w (Ret K) := callsR_of_bodyW mixed Try.func7 (of_decide_eq_true (by kernel_rfl)) (by rw [eq7]; exact h)

/-- shadowbook/shadowbooklaw17.SchemaCalls -/
def an8 : Ann := (.seq .nil (.seq (.seq .nil (.cond (.seq .nil .nil) .nil)) (.seq (.seq .nil (.cond (.seq .nil .nil) .nil)) (.seq .nil (.seq .nil (.seq .nil (.seq .nil (.seq .nil (.seq .nil (.seq .nil (.seq .nil (.join [(10, .sh (.one .bool))] [1000000] .nil .nil))))))))))))
def S8 (a0 : Option Addr) (n0 c0 : Nat) (a1 : Option Addr) (n1 c1 : Nat) (x2 : ByteArray) (a3 : Option Addr) (n3 c3 : Nat) (x4 : ByteArray) (K : Value → WP) : WP := 
  callW Try.prog 9 [] (.one (.one .bool)) fun (u1 : Bool) =>
  splitW (!u1) (K (.bool false)) <|
  callW Try.prog 10 [(.slice a0 n0 c0)] (.one (.one .bool)) fun (u2 : Bool) =>
  splitW (!u2) (K (.bool true)) <|
  callW Try.prog 17 [(.slice a1 n1 c1)] (.one (.one .bool)) fun (u3 : Bool) =>
  splitW (!u3) (K (.bool true)) <|
  splitW (decide (((x2.size : Nat) : Int) > (300 : Int))) (K (.bool true)) <|
  splitW (decide (((n3 : Nat) : Int) > (20 : Int))) (K (.bool true)) <|
  splitW (decide (((x4.size : Nat) : Int) > (300 : Int))) (K (.bool true)) <|
  callW Try.prog 13 [(.slice a0 n0 c0), (.string x2)] (.many [(.one (.int .i64)), (.one (.int .i64))]) fun (u4 : Int × Int × Unit) =>
  callW Try.prog 29 [(.slice a0 n0 c0), (.string x2)] (.many [(.one (.int .i64)), (.one (.int .i64))]) fun (u5 : Int × Int × Unit) =>
  callW Try.prog 20 [(.slice a0 n0 c0), (.slice a3 n3 c3)] (.many [(.one .slc), (.one (.int .i64))]) fun (u6 : (Option Addr × Nat × Nat) × Int × Unit) =>
  callW Try.prog 30 [(.slice a0 n0 c0), (.slice a3 n3 c3)] (.many [(.one .slc), (.one (.int .i64))]) fun (u7 : (Option Addr × Nat × Nat) × Int × Unit) =>
  callW Try.prog 14 [(.slice a0 n0 c0)] (.many [(.one .str), (.one (.int .i64))]) fun (u8 : ByteArray × Int × Unit) =>
  callW Try.prog 31 [(.slice a0 n0 c0)] (.many [(.one .str), (.one (.int .i64))]) fun (u9 : ByteArray × Int × Unit) =>
  callW Try.prog 15 [(.string x4)] (.many [(.one .slc), (.one .str), (.one (.int .i64))]) fun (u10 : (Option Addr × Nat × Nat) × ByteArray × Int × Unit) =>
  callW Try.prog 32 [(.string x4)] (.many [(.one .slc), (.one .str), (.one (.int .i64))]) fun (u11 : (Option Addr × Nat × Nat) × ByteArray × Int × Unit) =>
  joinW (Bool × Unit) (fun (J12 : (Bool × Unit) → WP) =>
  callW Try.prog 23 [(.string x2)] (.one (.one (.int .i64))) fun (u14 : Int) =>
  callW Try.prog 33 [(.string x2)] (.one (.one (.int .i64))) fun (u15 : Int) =>
  splitW (u14 == u15) (callW Try.prog 11 [(.slice a0 n0 c0)] (.one (.one (.int .i64))) fun (u16 : Int) =>
  callW Try.prog 34 [(.slice a0 n0 c0)] (.one (.one (.int .i64))) fun (u17 : Int) =>
  splitW (u16 == u17) (callW Try.prog 19 [(.slice a0 n0 c0), (.slice a1 n1 c1)] (.one (.one (.int .i64))) fun (u18 : Int) =>
  callW Try.prog 35 [(.slice a0 n0 c0), (.slice a1 n1 c1)] (.one (.one (.int .i64))) fun (u19 : Int) =>
  splitW (u18 == u19) (splitW (u4.1 == u5.1) (splitW (u4.2.1 == u5.2.1) (callW Try.prog 16 [(.slice u6.1.1 u6.1.2.1 u6.1.2.2), (.slice u7.1.1 u7.1.2.1 u7.1.2.2)] (.one (.one .bool)) fun (u20 : Bool) =>
  splitW u20 (splitW (u6.2.1 == u7.2.1) (splitW (u8.1.toList == u9.1.toList) (splitW (u8.2.1 == u9.2.1) (callW Try.prog 16 [(.slice u10.1.1 u10.1.2.1 u10.1.2.2), (.slice u11.1.1 u11.1.2.1 u11.1.2.2)] (.one (.one .bool)) fun (u21 : Bool) =>
  splitW u21 (splitW (u10.2.1.toList == u11.2.1.toList) (splitW (u10.2.2.1 == u11.2.2.1) (callW Try.prog 21 [(.slice a1 n1 c1), (.slice a3 n3 c3)] (.one (.one .slc)) fun (u22 : (Option Addr × Nat × Nat)) =>
  newW (.cells #[(.slice u22.1 u22.2.1 u22.2.2)] 40) fun (r23 : Nat) =>
  callW Try.prog 36 [(.slice a1 n1 c1), (.slice a3 n3 c3)] (.one (.one .slc)) fun (u24 : (Option Addr × Nat × Nat)) =>
  newW (.cells #[(.slice u24.1 u24.2.1 u24.2.2)] 40) fun (r25 : Nat) =>
  callW Try.prog 27 [(.slice (some (⟨r23, 0, none⟩ : Addr)) 1 1), (.slice (some (⟨r25, 0, none⟩ : Addr)) 1 1)] (.one (.one .bool)) fun (u26 : Bool) => J12 (u26, ())) <| J12 (false, ())) <| J12 (false, ())) <| J12 (false, ())) <| J12 (false, ())) <| J12 (false, ())) <| J12 (false, ())) <| J12 (false, ())) <| J12 (false, ())) <| J12 (false, ())) <| J12 (false, ())) <| J12 (false, ())) <| J12 (false, ())) fun (y13 : Bool × Unit) => K (.bool y13.1)
theorem eq8 (a0 : Option Addr) (n0 c0 : Nat) (a1 : Option Addr) (n1 c1 : Nat) (x2 : ByteArray) (a3 : Option Addr) (n3 c3 : Nat) (x4 : ByteArray) (K : Value → WP) : bodyW Try.prog Try.f8 an8 false [(.slice a0 n0 c0), (.slice a1 n1 c1), (.string x2), (.slice a3 n3 c3), (.string x4)] K = S8 a0 n0 c0 a1 n1 c1 x2 a3 n3 c3 x4 K := by kernel_rfl
theorem calls8 (a0 : Option Addr) (n0 c0 : Nat) (a1 : Option Addr) (n1 c1 : Nat) (x2 : ByteArray) (a3 : Option Addr) (n3 c3 : Nat) (x4 : ByteArray) {K : Value → WP} {w : World} (h : S8 a0 n0 c0 a1 n1 c1 x2 a3 n3 c3 x4 K w) : Calls Try.prog 8 #[(.slice a0 n0 c0), (.slice a1 n1 c1), (.string x2), (.slice a3 n3 c3), (.string x4)] w (Ret K) := callsR_of_bodyW mixed Try.func8 (of_decide_eq_true (by kernel_rfl)) (by rw [eq8]; exact h)

/-- shadowbook/shadowbooklaw17.lives -/
def an9 : Ann := (.seq .nil (.seq .nil (.seq .nil .nil)))
def S9  (K : Value → WP) : WP := 
  newW (.cells #[(.string (ByteArray.mk #[97])), (.int .i64 (1 : Int)), (.bool true)] 31) fun (r1 : Nat) =>
  callW Try.prog 14 [(.slice (some (⟨r1, 0, none⟩ : Addr)) 1 1)] (.many [(.one .str), (.one (.int .i64))]) fun (u2 : ByteArray × Int × Unit) =>
  splitW (u2.2.1 == (0 : Int)) (K (.bool (u2.1.toList == (ByteArray.mk #[1, 129, 1, 97]).toList))) <| K (.bool false)
theorem eq9  (K : Value → WP) : bodyW Try.prog Try.f9 an9 false [] K = S9  K := by kernel_rfl
theorem calls9  {K : Value → WP} {w : World} (h : S9  K w) : Calls Try.prog 9 #[] w (Ret K) := callsR_of_bodyW mixed Try.func9 (of_decide_eq_true (by kernel_rfl)) (by rw [eq9]; exact h)

/-- shadowbook/shadowbookkit.LightCols -/
def an10 : Ann := (.seq .nil (.seq (.seq .nil (.block (.loop [(3, .sh (.one (.int .i64)))] [0, 1000000] (.seq (.seq .nil (.cond .nil .nil)) (.seq (.block (.seq .nil (.cond (.seq .nil .nil) .nil))) .nil))))) (.seq .nil .nil)))
def S10 (a0 : Option Addr) (n0 c0 : Nat) (K : Value → WP) : WP := 
  loopW (Int × Unit) ((0 : Int), ()) fun (y2 : Int × Unit) (I1 : (Int × Unit) → WP) =>
  splitW (decide (y2.1 < ((n0 : Nat) : Int))) (guardW (0 ≤ y2.1 ∧ y2.1 < ((n0 : Nat) : Int)) <|
  ptrW a0 fun (p3 : Addr) =>
  ldW .str (p3.add (Int.toNat y2.1 * 3)) fun (u4 : ByteArray) =>
  splitW (decide (((u4.size : Nat) : Int) > (60 : Int))) (K (.bool false)) <| I1 ((IntKind.wrap .i64 (y2.1 + (1 : Int))), ())) <| K (.bool (decide (((n0 : Nat) : Int) ≤ (20 : Int))))
theorem eq10 (a0 : Option Addr) (n0 c0 : Nat) (K : Value → WP) : bodyW Try.prog Try.f10 an10 false [(.slice a0 n0 c0)] K = S10 a0 n0 c0 K := by kernel_rfl
theorem calls10 (a0 : Option Addr) (n0 c0 : Nat) {K : Value → WP} {w : World} (h : S10 a0 n0 c0 K w) : Calls Try.prog 10 #[(.slice a0 n0 c0)] w (Ret K) := callsR_of_bodyW mixed Try.func10 (of_decide_eq_true (by kernel_rfl)) (by rw [eq10]; exact h)

/-- shadowbook/schema.Check -/
def an11 : Ann := (.seq .nil (.seq (.seq .nil (.cond (.seq .nil .nil) .nil)) (.seq (.seq .nil (.block (.loop [(16, .sh (.one (.int .i64)))] [0, 14, 15, 1000000] (.seq .nil (.seq (.cond .nil .nil) (.seq (.block (.seq .nil (.seq (.seq .nil (.seq .nil (.cond (.seq .nil .nil) .nil))) (.seq .nil (.cond (.seq .nil .nil) .nil))))) .nil)))))) (.seq .nil .nil))))
def S11 (a0 : Option Addr) (n0 c0 : Nat) (K : Value → WP) : WP := 
  splitW (decide (((n0 : Nat) : Int) < (1 : Int))) (K (.int .i64 (171 : Int))) <|
  splitW (decide (((n0 : Nat) : Int) > (16 : Int))) (K (.int .i64 (171 : Int))) <|
  loopW (Int × Unit) ((0 : Int), ()) fun (y2 : Int × Unit) (I1 : (Int × Unit) → WP) =>
  splitW (decide (y2.1 < ((n0 : Nat) : Int))) (guardW (0 ≤ y2.1 ∧ y2.1 < ((n0 : Nat) : Int)) <|
  ptrW a0 fun (p3 : Addr) =>
  ldAW [.str, (.int .i64), .bool] (p3.add (Int.toNat y2.1 * 3)) fun (u4 : (ByteArray × Int × Bool × Unit)) =>
  newW (.cells #[(.string ByteArray.empty), (.int .i64 (0 : Int)), (.bool false)] 31) fun (r5 : Nat) =>
  guardW ((#[(.string u4.1), (.int .i64 u4.2.1), (.bool u4.2.2.1)] : Array Value).size = 3) <|
  stAW (⟨r5, 0, none⟩ : Addr) [(.string u4.1), (.int .i64 u4.2.1), (.bool u4.2.2.1)] <|
  ldW .str (⟨r5, 0, none⟩ : Addr) fun (u6 : ByteArray) =>
  callW Try.prog 23 [(.string u6)] (.one (.one (.int .i64))) fun (u7 : Int) =>
  splitW (u7 != (0 : Int)) (K (.int .i64 u7)) <|
  ldW (.int .i64) ((⟨r5, 0, none⟩ : Addr).add 1) fun (u8 : Int) =>
  splitW (decide (u8 < (1 : Int))) (K (.int .i64 (171 : Int))) <|
  ldW (.int .i64) ((⟨r5, 0, none⟩ : Addr).add 1) fun (u9 : Int) =>
  splitW (decide (u9 > (3 : Int))) (K (.int .i64 (171 : Int))) <|
  guardW (0 ≤ y2.1 ∧ y2.1 ≤ ((c0 : Nat) : Int)) <|
  callW Try.prog 37 [(.slice (cutAddr a0 0 c0 3) (Int.toNat y2.1) c0), (.func (.func 38) #[] #[(.pointer (some (⟨r5, 0, none⟩ : Addr)))])] (.one (.one .bool)) fun (u10 : Bool) =>
  splitW u10 (K (.int .i64 (171 : Int))) <| I1 ((IntKind.wrap .i64 (y2.1 + (1 : Int))), ())) <| K (.int .i64 (0 : Int))
theorem eq11 (a0 : Option Addr) (n0 c0 : Nat) (K : Value → WP) : bodyW Try.prog Try.f11 an11 false [(.slice a0 n0 c0)] K = S11 a0 n0 c0 K := by kernel_rfl
theorem calls11 (a0 : Option Addr) (n0 c0 : Nat) {K : Value → WP} {w : World} (h : S11 a0 n0 c0 K w) : Calls Try.prog 11 #[(.slice a0 n0 c0)] w (Ret K) := callsR_of_bodyW mixed Try.func11 (of_decide_eq_true (by kernel_rfl)) (by rw [eq11]; exact h)

/-- shadowbook/shadowbookkit.Pick -/
def an12 : Ann := (.seq .nil (.seq (.seq .nil (.cond (.seq .nil .nil) .nil)) (.seq .nil (.seq (.seq .nil (.cond .nil .nil)) (.seq .nil .nil)))))
def S12 (x0 : Int) (x1 : Int) (K : Value → WP) : WP := 
  splitW (decide (x1 < (1 : Int))) (K (.int .i64 (0 : Int))) <|
  guardW (x1 ≠ 0) <|
  splitW (decide ((Int.tmod x0 x1) < (0 : Int))) (K (.int .i64 (IntKind.wrap .i64 ((Int.tmod x0 x1) + x1)))) <| K (.int .i64 (Int.tmod x0 x1))
theorem eq12 (x0 : Int) (x1 : Int) (K : Value → WP) : bodyW Try.prog Try.f12 an12 false [(.int .i64 x0), (.int .i64 x1)] K = S12 x0 x1 K := by kernel_rfl
theorem calls12 (x0 : Int) (x1 : Int) {K : Value → WP} {w : World} (h : S12 x0 x1 K w) : Calls Try.prog 12 #[(.int .i64 x0), (.int .i64 x1)] w (Ret K) := callsR_of_bodyW mixed Try.func12 (of_decide_eq_true (by kernel_rfl)) (by rw [eq12]; exact h)

/-- shadowbook/schema.Find -/
def an13 : Ann := (.seq .nil (.seq .nil (.seq (.seq .nil (.cond (.seq .nil .nil) .nil)) (.seq .nil .nil))))
def S13 (a0 : Option Addr) (n0 c0 : Nat) (x1 : ByteArray) (K : Value → WP) : WP := 
  newW (.cells #[(.string x1)] 9) fun (r1 : Nat) =>
  callW Try.prog 39 [(.slice a0 n0 c0), (.func (.func 40) #[] #[(.pointer (some (⟨r1, 0, none⟩ : Addr)))])] (.one (.one (.int .i64))) fun (u2 : Int) =>
  splitW (decide (u2 < (0 : Int))) (K (.tuple #[(.int .i64 (0 : Int)), (.int .i64 (172 : Int))])) <| K (.tuple #[(.int .i64 u2), (.int .i64 (0 : Int))])
theorem eq13 (a0 : Option Addr) (n0 c0 : Nat) (x1 : ByteArray) (K : Value → WP) : bodyW Try.prog Try.f13 an13 false [(.slice a0 n0 c0), (.string x1)] K = S13 a0 n0 c0 x1 K := by kernel_rfl
theorem calls13 (a0 : Option Addr) (n0 c0 : Nat) (x1 : ByteArray) {K : Value → WP} {w : World} (h : S13 a0 n0 c0 x1 K w) : Calls Try.prog 13 #[(.slice a0 n0 c0), (.string x1)] w (Ret K) := callsR_of_bodyW mixed Try.func13 (of_decide_eq_true (by kernel_rfl)) (by rw [eq13]; exact h)

/-- shadowbook/schema.Bytes -/
def an14 : Ann := (.seq .nil (.seq (.seq .nil (.seq .nil (.cond (.seq .nil .nil) .nil))) (.seq .nil (.seq (.seq .nil (.block (.loop [(5, .sh (.one .slc)), (20, .sh (.one (.int .i64)))] [18, 19, 1000000] (.seq .nil (.seq (.cond .nil .nil) (.seq (.block (.seq .nil (.seq .nil (.seq (.seq .nil (.cond .nil .nil)) .nil)))) .nil)))))) (.seq .nil .nil)))))
def S14 (a0 : Option Addr) (n0 c0 : Nat) (K : Value → WP) : WP := 
  callW Try.prog 11 [(.slice a0 n0 c0)] (.one (.one (.int .i64))) fun (u1 : Int) =>
  splitW (u1 != (0 : Int)) (K (.tuple #[(.string (ByteArray.mk #[])), (.int .i64 u1)])) <|
  newW (.cells #[(.int .u8 (IntKind.wrap .u8 ((n0 : Nat) : Int)))] 5) fun (r2 : Nat) =>
  loopW ((Option Addr × Nat × Nat) × Int × Unit) (((some (⟨r2, 0, none⟩ : Addr)), 1, 1), (0 : Int), ()) fun (y4 : (Option Addr × Nat × Nat) × Int × Unit) (I3 : ((Option Addr × Nat × Nat) × Int × Unit) → WP) =>
  splitW (decide (y4.2.1 < ((n0 : Nat) : Int))) (guardW (0 ≤ y4.2.1 ∧ y4.2.1 < ((n0 : Nat) : Int)) <|
  ptrW a0 fun (p5 : Addr) =>
  ldAW [.str, (.int .i64), .bool] (p5.add (Int.toNat y4.2.1 * 3)) fun (u6 : (ByteArray × Int × Bool × Unit)) =>
  newW (.cells #[(.string ByteArray.empty), (.int .i64 (0 : Int)), (.bool false)] 31) fun (r7 : Nat) =>
  guardW ((#[(.string u6.1), (.int .i64 u6.2.1), (.bool u6.2.2.1)] : Array Value).size = 3) <|
  stAW (⟨r7, 0, none⟩ : Addr) [(.string u6.1), (.int .i64 u6.2.1), (.bool u6.2.2.1)] <|
  ldW (.int .i64) ((⟨r7, 0, none⟩ : Addr).add 1) fun (u8 : Int) =>
  ldW .bool ((⟨r7, 0, none⟩ : Addr).add 2) fun (u9 : Bool) =>
  splitW u9 (drewW <|
  ldW .str (⟨r7, 0, none⟩ : Addr) fun (u10 : ByteArray) =>
  ldW .str (⟨r7, 0, none⟩ : Addr) fun (u11 : ByteArray) =>
  newW (.cells #[(.int .u8 (ior .u8 (IntKind.wrap .u8 u8) (128 : Int))), (.int .u8 (IntKind.wrap .u8 ((u10.size : Nat) : Int)))] 5) fun (r12 : Nat) =>
  heldW [[((⟨r7, 0, none⟩ : Addr), (.string u11))]] <|
  runW Try.prog (Builtin.append_ #[64, 64] 64 #[(.slice y4.1.1 y4.1.2.1 y4.1.2.2), (.slice (some (⟨r12, 0, none⟩ : Addr)) 2 2)]) .slc fun (u13 : (Option Addr × Nat × Nat)) =>
  heldW [[((⟨r7, 0, none⟩ : Addr), (.string u11))]] <|
  runW Try.prog (Builtin.append_ #[64, 9] 64 #[(.slice u13.1 u13.2.1 u13.2.2), (.string u11)]) .slc fun (u14 : (Option Addr × Nat × Nat)) => I3 ((u14.1, u14.2.1, u14.2.2), (IntKind.wrap .i64 (y4.2.1 + (1 : Int))), ())) <|
  drewW <|
  ldW .str (⟨r7, 0, none⟩ : Addr) fun (u15 : ByteArray) =>
  ldW .str (⟨r7, 0, none⟩ : Addr) fun (u16 : ByteArray) =>
  newW (.cells #[(.int .u8 (IntKind.wrap .u8 u8)), (.int .u8 (IntKind.wrap .u8 ((u15.size : Nat) : Int)))] 5) fun (r17 : Nat) =>
  heldW [[((⟨r7, 0, none⟩ : Addr), (.string u16))]] <|
  runW Try.prog (Builtin.append_ #[64, 64] 64 #[(.slice y4.1.1 y4.1.2.1 y4.1.2.2), (.slice (some (⟨r17, 0, none⟩ : Addr)) 2 2)]) .slc fun (u18 : (Option Addr × Nat × Nat)) =>
  heldW [[((⟨r7, 0, none⟩ : Addr), (.string u16))]] <|
  runW Try.prog (Builtin.append_ #[64, 9] 64 #[(.slice u18.1 u18.2.1 u18.2.2), (.string u16)]) .slc fun (u19 : (Option Addr × Nat × Nat)) => I3 ((u19.1, u19.2.1, u19.2.2), (IntKind.wrap .i64 (y4.2.1 + (1 : Int))), ())) <|
  runW Try.prog (Go.convert 64 9 (.slice y4.1.1 y4.1.2.1 y4.1.2.2)) .str fun (u20 : ByteArray) => K (.tuple #[(.string u20), (.int .i64 (0 : Int))])
theorem eq14 (a0 : Option Addr) (n0 c0 : Nat) (K : Value → WP) : bodyW Try.prog Try.f14 an14 false [(.slice a0 n0 c0)] K = S14 a0 n0 c0 K := by kernel_rfl
theorem calls14 (a0 : Option Addr) (n0 c0 : Nat) {K : Value → WP} {w : World} (h : S14 a0 n0 c0 K w) : Calls Try.prog 14 #[(.slice a0 n0 c0)] w (Ret K) := callsR_of_bodyW mixed Try.func14 (of_decide_eq_true (by kernel_rfl)) (by rw [eq14]; exact h)

/-- shadowbook/schema.Read -/
def an15 : Ann := (.seq .nil (.seq (.seq .nil (.cond (.seq .nil .nil) .nil)) (.seq .nil (.seq (.seq .nil (.block (.loop [(2, .sh (.one .slc)), (3, .sh (.one .str)), (17, .sh (.one (.int .i64)))] [16, 1000000] (.seq .nil (.seq (.cond .nil .nil) (.seq (.block (.seq .nil (.seq (.seq .nil (.cond (.seq .nil .nil) .nil)) .nil))) .nil)))))) (.seq (.seq .nil (.cond (.seq .nil .nil) .nil)) (.seq .nil .nil))))))
def S15 (x0 : ByteArray) (K : Value → WP) : WP := 
  splitW (x0.toList == (ByteArray.mk #[]).toList) (K (.tuple #[(.slice none 0 0), (.string (ByteArray.mk #[])), (.int .i64 (171 : Int))])) <|
  drewW <|
  guardW (0 ≤ (0 : Int) ∧ (0 : Int) < ((x0.size : Nat) : Int)) <|
  guardW (0 ≤ (1 : Int) ∧ (1 : Int) ≤ ((x0.size : Nat) : Int)) <|
  loopW ((Option Addr × Nat × Nat) × ByteArray × Int × Unit) ((none, 0, 0), (ByteArray.extract x0 (Int.toNat (1 : Int)) x0.size), (0 : Int), ()) fun (y2 : (Option Addr × Nat × Nat) × ByteArray × Int × Unit) (I1 : ((Option Addr × Nat × Nat) × ByteArray × Int × Unit) → WP) =>
  splitW (decide (y2.2.2.1 < (IntKind.wrap .i64 (bt x0 (0 : Int))))) (callW Try.prog 41 [(.string y2.2.1)] (.many [(.agg [.str, (.int .i64), .bool]), (.one .str), (.one .bool)]) fun (u3 : (ByteArray × Int × Bool × Unit) × ByteArray × Bool × Unit) =>
  newW (.cells #[(.string ByteArray.empty), (.int .i64 (0 : Int)), (.bool false)] 31) fun (r4 : Nat) =>
  guardW ((#[(.string u3.1.1), (.int .i64 u3.1.2.1), (.bool u3.1.2.2.1)] : Array Value).size = 3) <|
  stAW (⟨r4, 0, none⟩ : Addr) [(.string u3.1.1), (.int .i64 u3.1.2.1), (.bool u3.1.2.2.1)] <|
  splitW (!u3.2.2.1) (K (.tuple #[(.slice none 0 0), (.string (ByteArray.mk #[])), (.int .i64 (171 : Int))])) <|
  ldAW [.str, (.int .i64), .bool] (⟨r4, 0, none⟩ : Addr) fun (u5 : (ByteArray × Int × Bool × Unit)) =>
  newW (.cells #[(.string u5.1), (.int .i64 u5.2.1), (.bool u5.2.2.1)] 31) fun (r6 : Nat) =>
  runW Try.prog (Builtin.append_ #[22, 22] 22 #[(.slice y2.1.1 y2.1.2.1 y2.1.2.2), (.slice (some (⟨r6, 0, none⟩ : Addr)) 1 1)]) .slc fun (u7 : (Option Addr × Nat × Nat)) => I1 ((u7.1, u7.2.1, u7.2.2), u3.2.1, (IntKind.wrap .i64 (y2.2.2.1 + (1 : Int))), ())) <|
  callW Try.prog 11 [(.slice y2.1.1 y2.1.2.1 y2.1.2.2)] (.one (.one (.int .i64))) fun (u8 : Int) =>
  splitW (u8 != (0 : Int)) (K (.tuple #[(.slice none 0 0), (.string (ByteArray.mk #[])), (.int .i64 (171 : Int))])) <| K (.tuple #[(.slice y2.1.1 y2.1.2.1 y2.1.2.2), (.string y2.2.1), (.int .i64 (0 : Int))])
theorem eq15 (x0 : ByteArray) (K : Value → WP) : bodyW Try.prog Try.f15 an15 false [(.string x0)] K = S15 x0 K := by kernel_rfl
theorem calls15 (x0 : ByteArray) {K : Value → WP} {w : World} (h : S15 x0 K w) : Calls Try.prog 15 #[(.string x0)] w (Ret K) := callsR_of_bodyW mixed Try.func15 (of_decide_eq_true (by kernel_rfl)) (by rw [eq15]; exact h)

/-- shadowbook/shadowbookkit.Same[shadowbook/api.Col] -/
def an16 : Ann := (.seq .nil (.seq (.seq .nil (.cond (.seq .nil .nil) .nil)) (.seq (.seq .nil (.block (.loop [(5, .sh (.one (.int .i64)))] [0, 1, 1000000] (.seq (.seq .nil (.cond .nil .nil)) (.seq (.block (.seq .nil (.cond (.seq .nil .nil) .nil))) .nil))))) (.seq .nil .nil))))
def S16 (a0 : Option Addr) (n0 c0 : Nat) (a1 : Option Addr) (n1 c1 : Nat) (K : Value → WP) : WP := 
  splitW (((n0 : Nat) : Int) != ((n1 : Nat) : Int)) (K (.bool false)) <|
  loopW (Int × Unit) ((0 : Int), ()) fun (y2 : Int × Unit) (I1 : (Int × Unit) → WP) =>
  splitW (decide (y2.1 < ((n0 : Nat) : Int))) (drewW <|
  guardW (0 ≤ y2.1 ∧ y2.1 < ((n0 : Nat) : Int)) <|
  ptrW a0 fun (p3 : Addr) =>
  ldAW [.str, (.int .i64), .bool] (p3.add (Int.toNat y2.1 * 3)) fun (u4 : (ByteArray × Int × Bool × Unit)) =>
  guardW (0 ≤ y2.1 ∧ y2.1 < ((n1 : Nat) : Int)) <|
  ptrW a1 fun (p5 : Addr) =>
  ldAW [.str, (.int .i64), .bool] (p5.add (Int.toNat y2.1 * 3)) fun (u6 : (ByteArray × Int × Bool × Unit)) =>
  eqW Try.prog (eqS .neq 31 (.tmp 20) (.tmp 24) (.agg #[(.string u4.1), (.int .i64 u4.2.1), (.bool u4.2.2.1)]) (.agg #[(.string u6.1), (.int .i64 u6.2.1), (.bool u6.2.2.1)])) fun (b7 : Bool) =>
  splitW b7 (K (.bool false)) <| I1 ((IntKind.wrap .i64 (y2.1 + (1 : Int))), ())) <| K (.bool true)
theorem eq16 (a0 : Option Addr) (n0 c0 : Nat) (a1 : Option Addr) (n1 c1 : Nat) (K : Value → WP) : bodyW Try.prog Try.f16 an16 false [(.slice a0 n0 c0), (.slice a1 n1 c1)] K = S16 a0 n0 c0 a1 n1 c1 K := by kernel_rfl
theorem calls16 (a0 : Option Addr) (n0 c0 : Nat) (a1 : Option Addr) (n1 c1 : Nat) {K : Value → WP} {w : World} (h : S16 a0 n0 c0 a1 n1 c1 K w) : Calls Try.prog 16 #[(.slice a0 n0 c0), (.slice a1 n1 c1)] w (Ret K) := callsR_of_bodyW mixed Try.func16 (of_decide_eq_true (by kernel_rfl)) (by rw [eq16]; exact h)

/-- shadowbook/shadowbookkit.LightRow -/
def an17 : Ann := (.seq .nil (.seq (.seq .nil (.block (.loop [(3, .sh (.one (.int .i64)))] [0, 1000000] (.seq (.seq .nil (.cond .nil .nil)) (.seq (.block (.seq .nil (.cond (.seq .nil .nil) .nil))) .nil))))) (.seq .nil .nil)))
def S17 (a0 : Option Addr) (n0 c0 : Nat) (K : Value → WP) : WP := 
  loopW (Int × Unit) ((0 : Int), ()) fun (y2 : Int × Unit) (I1 : (Int × Unit) → WP) =>
  splitW (decide (y2.1 < ((n0 : Nat) : Int))) (guardW (0 ≤ y2.1 ∧ y2.1 < ((n0 : Nat) : Int)) <|
  ptrW a0 fun (p3 : Addr) =>
  ldW .str ((p3.add (Int.toNat y2.1 * 3)).add 2) fun (u4 : ByteArray) =>
  splitW (decide (((u4.size : Nat) : Int) > (300 : Int))) (K (.bool false)) <| I1 ((IntKind.wrap .i64 (y2.1 + (1 : Int))), ())) <| K (.bool (decide (((n0 : Nat) : Int) ≤ (20 : Int))))
theorem eq17 (a0 : Option Addr) (n0 c0 : Nat) (K : Value → WP) : bodyW Try.prog Try.f17 an17 false [(.slice a0 n0 c0)] K = S17 a0 n0 c0 K := by kernel_rfl
theorem calls17 (a0 : Option Addr) (n0 c0 : Nat) {K : Value → WP} {w : World} (h : S17 a0 n0 c0 K w) : Calls Try.prog 17 #[(.slice a0 n0 c0)] w (Ret K) := callsR_of_bodyW mixed Try.func17 (of_decide_eq_true (by kernel_rfl)) (by rw [eq17]; exact h)

/-- shadowbook/shadowbookref16.Check -/
def an18 : Ann := (.seq .nil (.seq .nil (.join [(3, .sh (.one .bool))] [1000000] (.seq .nil (.block (.seq .nil (.cond .nil (.seq .nil (.cond .nil (.seq .nil (.cond .nil (.seq .nil (.cond .nil .nil)))))))))) (.seq (.seq .nil (.cond (.seq .nil .nil) .nil)) (.seq .nil .nil)))))
def S18 (x0_0 : Int) (x0_1 : Int) (x0_2 : ByteArray) (K : Value → WP) : WP := 
  newW (.cells #[(.int .i64 x0_0), (.int .i64 x0_1), (.string x0_2)] 44) fun (r1 : Nat) =>
  joinW (Bool × Unit) (fun (J2 : (Bool × Unit) → WP) =>
  ldW (.int .i64) (⟨r1, 0, none⟩ : Addr) fun (u4 : Int) =>
  splitW (u4 == (0 : Int)) (ldW (.int .i64) ((⟨r1, 0, none⟩ : Addr).add 1) fun (u5 : Int) =>
  splitW (u5 == (0 : Int)) (ldW .str ((⟨r1, 0, none⟩ : Addr).add 2) fun (u6 : ByteArray) => J2 ((u6.toList == (ByteArray.mk #[]).toList), ())) <| J2 (false, ())) <|
  splitW (u4 == (1 : Int)) (ldW .str ((⟨r1, 0, none⟩ : Addr).add 2) fun (u7 : ByteArray) => J2 ((u7.toList == (ByteArray.mk #[]).toList), ())) <|
  splitW (u4 == (2 : Int)) (ldW .str ((⟨r1, 0, none⟩ : Addr).add 2) fun (u8 : ByteArray) =>
  splitW (u8.toList == (ByteArray.mk #[]).toList) (ldW (.int .i64) ((⟨r1, 0, none⟩ : Addr).add 1) fun (u9 : Int) =>
  splitW (u9 == (0 : Int)) (J2 (true, ())) <|
  ldW (.int .i64) ((⟨r1, 0, none⟩ : Addr).add 1) fun (u10 : Int) => J2 ((u10 == (1 : Int)), ())) <| J2 (false, ())) <|
  splitW (u4 == (3 : Int)) (ldW (.int .i64) ((⟨r1, 0, none⟩ : Addr).add 1) fun (u11 : Int) =>
  splitW (u11 == (0 : Int)) (ldW .str ((⟨r1, 0, none⟩ : Addr).add 2) fun (u12 : ByteArray) => J2 ((decide (((u12.size : Nat) : Int) ≤ (256 : Int))), ())) <| J2 (false, ())) <| J2 (false, ())) fun (y3 : Bool × Unit) =>
  splitW (!y3.1) (K (.int .i64 (160 : Int))) <| K (.int .i64 (0 : Int))
theorem eq18 (x0_0 : Int) (x0_1 : Int) (x0_2 : ByteArray) (K : Value → WP) : bodyW Try.prog Try.f18 an18 false [(.agg #[(.int .i64 x0_0), (.int .i64 x0_1), (.string x0_2)])] K = S18 x0_0 x0_1 x0_2 K := by kernel_rfl
theorem calls18 (x0_0 : Int) (x0_1 : Int) (x0_2 : ByteArray) {K : Value → WP} {w : World} (h : S18 x0_0 x0_1 x0_2 K w) : Calls Try.prog 18 #[(.agg #[(.int .i64 x0_0), (.int .i64 x0_1), (.string x0_2)])] w (Ret K) := callsR_of_bodyW mixed Try.func18 (of_decide_eq_true (by kernel_rfl)) (by rw [eq18]; exact h)

/-- shadowbook/schema.Row -/
def an19 : Ann := (.seq .nil (.seq (.seq .nil (.seq .nil (.cond (.seq .nil .nil) .nil))) (.seq (.seq .nil (.cond (.seq .nil .nil) .nil)) (.seq (.seq .nil (.block (.loop [(21, .sh (.one (.int .i64)))] [1, 19, 20, 1000000] (.seq .nil (.seq (.cond .nil .nil) (.seq (.block (.seq .nil (.seq .nil (.seq .nil (.cond (.seq .nil .nil) .nil))))) .nil)))))) (.seq .nil .nil)))))
def S19 (a0 : Option Addr) (n0 c0 : Nat) (a1 : Option Addr) (n1 c1 : Nat) (K : Value → WP) : WP := 
  callW Try.prog 11 [(.slice a0 n0 c0)] (.one (.one (.int .i64))) fun (u1 : Int) =>
  splitW (u1 != (0 : Int)) (K (.int .i64 u1)) <|
  splitW (((n1 : Nat) : Int) != ((n0 : Nat) : Int)) (K (.int .i64 (173 : Int))) <|
  loopW (Int × Unit) ((0 : Int), ()) fun (y3 : Int × Unit) (I2 : (Int × Unit) → WP) =>
  splitW (decide (y3.1 < ((n0 : Nat) : Int))) (guardW (0 ≤ y3.1 ∧ y3.1 < ((n0 : Nat) : Int)) <|
  ptrW a0 fun (p4 : Addr) =>
  ldAW [.str, (.int .i64), .bool] (p4.add (Int.toNat y3.1 * 3)) fun (u5 : (ByteArray × Int × Bool × Unit)) =>
  newW (.cells #[(.string ByteArray.empty), (.int .i64 (0 : Int)), (.bool false)] 31) fun (r6 : Nat) =>
  guardW ((#[(.string u5.1), (.int .i64 u5.2.1), (.bool u5.2.2.1)] : Array Value).size = 3) <|
  stAW (⟨r6, 0, none⟩ : Addr) [(.string u5.1), (.int .i64 u5.2.1), (.bool u5.2.2.1)] <|
  drewW <|
  ldAW [.str, (.int .i64), .bool] (⟨r6, 0, none⟩ : Addr) fun (u7 : (ByteArray × Int × Bool × Unit)) =>
  guardW (0 ≤ y3.1 ∧ y3.1 < ((n1 : Nat) : Int)) <|
  ptrW a1 fun (p8 : Addr) =>
  ldAW [(.int .i64), (.int .i64), .str] (p8.add (Int.toNat y3.1 * 3)) fun (u9 : (Int × Int × ByteArray × Unit)) =>
  callW Try.prog 42 [(.agg #[(.string u7.1), (.int .i64 u7.2.1), (.bool u7.2.2.1)]), (.agg #[(.int .i64 u9.1), (.int .i64 u9.2.1), (.string u9.2.2.1)])] (.one (.one (.int .i64))) fun (u10 : Int) =>
  splitW (u10 != (0 : Int)) (K (.int .i64 u10)) <| I2 ((IntKind.wrap .i64 (y3.1 + (1 : Int))), ())) <| K (.int .i64 (0 : Int))
theorem eq19 (a0 : Option Addr) (n0 c0 : Nat) (a1 : Option Addr) (n1 c1 : Nat) (K : Value → WP) : bodyW Try.prog Try.f19 an19 false [(.slice a0 n0 c0), (.slice a1 n1 c1)] K = S19 a0 n0 c0 a1 n1 c1 K := by kernel_rfl
theorem calls19 (a0 : Option Addr) (n0 c0 : Nat) (a1 : Option Addr) (n1 c1 : Nat) {K : Value → WP} {w : World} (h : S19 a0 n0 c0 a1 n1 c1 K w) : Calls Try.prog 19 #[(.slice a0 n0 c0), (.slice a1 n1 c1)] w (Ret K) := callsR_of_bodyW mixed Try.func19 (of_decide_eq_true (by kernel_rfl)) (by rw [eq19]; exact h)

/-- shadowbook/schema.Take -/
def an20 : Ann := (.seq .nil (.seq .nil (.seq (.seq .nil (.block (.loop [(6, .sh (.one .slc)), (11, .sh (.one (.int .i64)))] [0, 9, 10, 1000000] (.seq .nil (.seq (.cond .nil .nil) (.seq (.block (.seq .nil (.seq (.seq .nil (.cond (.seq .nil .nil) .nil)) .nil))) .nil)))))) (.seq .nil .nil))))
def S20 (a0 : Option Addr) (n0 c0 : Nat) (a1 : Option Addr) (n1 c1 : Nat) (K : Value → WP) : WP := 
  loopW ((Option Addr × Nat × Nat) × Int × Unit) ((none, 0, 0), (0 : Int), ()) fun (y2 : (Option Addr × Nat × Nat) × Int × Unit) (I1 : ((Option Addr × Nat × Nat) × Int × Unit) → WP) =>
  splitW (decide (y2.2.1 < ((n1 : Nat) : Int))) (guardW (0 ≤ y2.2.1 ∧ y2.2.1 < ((n1 : Nat) : Int)) <|
  ptrW a1 fun (p3 : Addr) =>
  ldW (.int .i64) (p3.add (Int.toNat y2.2.1 * 1)) fun (u4 : Int) =>
  splitW (decide (u4 < (0 : Int))) (K (.tuple #[(.slice none 0 0), (.int .i64 (172 : Int))])) <|
  splitW (decide (u4 ≥ ((n0 : Nat) : Int))) (K (.tuple #[(.slice none 0 0), (.int .i64 (172 : Int))])) <|
  guardW (0 ≤ u4 ∧ u4 < ((n0 : Nat) : Int)) <|
  ptrW a0 fun (p5 : Addr) =>
  ldAW [.str, (.int .i64), .bool] (p5.add (Int.toNat u4 * 3)) fun (u6 : (ByteArray × Int × Bool × Unit)) =>
  newW (.cells #[(.string u6.1), (.int .i64 u6.2.1), (.bool u6.2.2.1)] 31) fun (r7 : Nat) =>
  runW Try.prog (Builtin.append_ #[22, 22] 22 #[(.slice y2.1.1 y2.1.2.1 y2.1.2.2), (.slice (some (⟨r7, 0, none⟩ : Addr)) 1 1)]) .slc fun (u8 : (Option Addr × Nat × Nat)) => I1 ((u8.1, u8.2.1, u8.2.2), (IntKind.wrap .i64 (y2.2.1 + (1 : Int))), ())) <| K (.tuple #[(.slice y2.1.1 y2.1.2.1 y2.1.2.2), (.int .i64 (0 : Int))])
theorem eq20 (a0 : Option Addr) (n0 c0 : Nat) (a1 : Option Addr) (n1 c1 : Nat) (K : Value → WP) : bodyW Try.prog Try.f20 an20 false [(.slice a0 n0 c0), (.slice a1 n1 c1)] K = S20 a0 n0 c0 a1 n1 c1 K := by kernel_rfl
theorem calls20 (a0 : Option Addr) (n0 c0 : Nat) (a1 : Option Addr) (n1 c1 : Nat) {K : Value → WP} {w : World} (h : S20 a0 n0 c0 a1 n1 c1 K w) : Calls Try.prog 20 #[(.slice a0 n0 c0), (.slice a1 n1 c1)] w (Ret K) := callsR_of_bodyW mixed Try.func20 (of_decide_eq_true (by kernel_rfl)) (by rw [eq20]; exact h)

/-- shadowbook/schema.Pick -/
def an21 : Ann := (.seq .nil (.seq .nil (.seq (.seq .nil (.block (.loop [(5, .sh (.one .slc)), (11, .sh (.one (.int .i64)))] [0, 9, 10, 1000000] (.seq .nil (.seq (.cond .nil .nil) (.seq (.block (.seq .nil (.seq .nil (.seq (.seq .nil (.cond .nil .nil)) .nil)))) .nil)))))) (.seq .nil .nil))))
def S21 (a0 : Option Addr) (n0 c0 : Nat) (a1 : Option Addr) (n1 c1 : Nat) (K : Value → WP) : WP := 
  loopW ((Option Addr × Nat × Nat) × Int × Unit) ((none, 0, 0), (0 : Int), ()) fun (y2 : (Option Addr × Nat × Nat) × Int × Unit) (I1 : ((Option Addr × Nat × Nat) × Int × Unit) → WP) =>
  splitW (decide (y2.2.1 < ((n1 : Nat) : Int))) (guardW (0 ≤ y2.2.1 ∧ y2.2.1 < ((n1 : Nat) : Int)) <|
  ptrW a1 fun (p3 : Addr) =>
  ldW (.int .i64) (p3.add (Int.toNat y2.2.1 * 1)) fun (u4 : Int) =>
  newW (.cells #[(.int .i64 (0 : Int)), (.int .i64 (0 : Int)), (.string ByteArray.empty)] 44) fun (r5 : Nat) =>
  guardW ((#[(.int .i64 (0 : Int)), (.int .i64 (0 : Int)), (.string ByteArray.empty)] : Array Value).size = 3) <|
  stAW (⟨r5, 0, none⟩ : Addr) [(.int .i64 (0 : Int)), (.int .i64 (0 : Int)), (.string ByteArray.empty)] <|
  splitW (decide (u4 ≥ (0 : Int))) (splitW (decide (u4 < ((n0 : Nat) : Int))) (guardW (0 ≤ u4 ∧ u4 < ((n0 : Nat) : Int)) <|
  ptrW a0 fun (p6 : Addr) =>
  ldAW [(.int .i64), (.int .i64), .str] (p6.add (Int.toNat u4 * 3)) fun (u7 : (Int × Int × ByteArray × Unit)) =>
  guardW ((#[(.int .i64 u7.1), (.int .i64 u7.2.1), (.string u7.2.2.1)] : Array Value).size = 3) <|
  stAW (⟨r5, 0, none⟩ : Addr) [(.int .i64 u7.1), (.int .i64 u7.2.1), (.string u7.2.2.1)] <|
  ldAW [(.int .i64), (.int .i64), .str] (⟨r5, 0, none⟩ : Addr) fun (u8 : (Int × Int × ByteArray × Unit)) =>
  newW (.cells #[(.int .i64 u8.1), (.int .i64 u8.2.1), (.string u8.2.2.1)] 44) fun (r9 : Nat) =>
  runW Try.prog (Builtin.append_ #[40, 40] 40 #[(.slice y2.1.1 y2.1.2.1 y2.1.2.2), (.slice (some (⟨r9, 0, none⟩ : Addr)) 1 1)]) .slc fun (u10 : (Option Addr × Nat × Nat)) => I1 ((u10.1, u10.2.1, u10.2.2), (IntKind.wrap .i64 (y2.2.1 + (1 : Int))), ())) <|
  ldAW [(.int .i64), (.int .i64), .str] (⟨r5, 0, none⟩ : Addr) fun (u11 : (Int × Int × ByteArray × Unit)) =>
  newW (.cells #[(.int .i64 u11.1), (.int .i64 u11.2.1), (.string u11.2.2.1)] 44) fun (r12 : Nat) =>
  runW Try.prog (Builtin.append_ #[40, 40] 40 #[(.slice y2.1.1 y2.1.2.1 y2.1.2.2), (.slice (some (⟨r12, 0, none⟩ : Addr)) 1 1)]) .slc fun (u13 : (Option Addr × Nat × Nat)) => I1 ((u13.1, u13.2.1, u13.2.2), (IntKind.wrap .i64 (y2.2.1 + (1 : Int))), ())) <|
  ldAW [(.int .i64), (.int .i64), .str] (⟨r5, 0, none⟩ : Addr) fun (u14 : (Int × Int × ByteArray × Unit)) =>
  newW (.cells #[(.int .i64 u14.1), (.int .i64 u14.2.1), (.string u14.2.2.1)] 44) fun (r15 : Nat) =>
  runW Try.prog (Builtin.append_ #[40, 40] 40 #[(.slice y2.1.1 y2.1.2.1 y2.1.2.2), (.slice (some (⟨r15, 0, none⟩ : Addr)) 1 1)]) .slc fun (u16 : (Option Addr × Nat × Nat)) => I1 ((u16.1, u16.2.1, u16.2.2), (IntKind.wrap .i64 (y2.2.1 + (1 : Int))), ())) <| K (.slice y2.1.1 y2.1.2.1 y2.1.2.2)
theorem eq21 (a0 : Option Addr) (n0 c0 : Nat) (a1 : Option Addr) (n1 c1 : Nat) (K : Value → WP) : bodyW Try.prog Try.f21 an21 false [(.slice a0 n0 c0), (.slice a1 n1 c1)] K = S21 a0 n0 c0 a1 n1 c1 K := by kernel_rfl
theorem calls21 (a0 : Option Addr) (n0 c0 : Nat) (a1 : Option Addr) (n1 c1 : Nat) {K : Value → WP} {w : World} (h : S21 a0 n0 c0 a1 n1 c1 K w) : Calls Try.prog 21 #[(.slice a0 n0 c0), (.slice a1 n1 c1)] w (Ret K) := callsR_of_bodyW mixed Try.func21 (of_decide_eq_true (by kernel_rfl)) (by rw [eq21]; exact h)

/-- shadowbook/shadowbookkit.Pair -/
def an22 : Ann := (.seq .nil (.seq .nil .nil))
def S22  (K : Value → WP) : WP := 
  newW (.cells #[(.string (ByteArray.mk #[107])), (.int .i64 (3 : Int)), (.bool false), (.string (ByteArray.mk #[118])), (.int .i64 (1 : Int)), (.bool true)] 31) fun (r1 : Nat) => K (.slice (some (⟨r1, 0, none⟩ : Addr)) 2 2)
theorem eq22  (K : Value → WP) : bodyW Try.prog Try.f22 an22 false [] K = S22  K := by kernel_rfl
theorem calls22  {K : Value → WP} {w : World} (h : S22  K w) : Calls Try.prog 22 #[] w (Ret K) := callsR_of_bodyW mixed Try.func22 (of_decide_eq_true (by kernel_rfl)) (by rw [eq22]; exact h)

/-- shadowbook/schema.Name -/
def an23 : Ann := (.seq .nil (.seq (.seq .nil (.cond (.seq .nil .nil) .nil)) (.seq .nil (.seq (.seq .nil (.block (.loop [] [14, 1000000] (.seq .nil (.seq (.cond .nil .nil) (.block (.seq .nil (.join [] [1000000] (.block (.join [(19, .sh (.one .bool))] [3, 4, 14, 1000000] (.seq .nil (.cond .nil (.seq .nil (.cond .nil .nil)))) (.cond .nil (.seq .nil (.cond .nil .nil))))) (.seq .nil .nil))))))))) (.seq .nil .nil)))))
def S23 (x0 : ByteArray) (K : Value → WP) : WP := 
  splitW (decide (((x0.size : Nat) : Int) < (1 : Int))) (K (.int .i64 (170 : Int))) <|
  splitW (decide (((x0.size : Nat) : Int) > (32 : Int))) (K (.int .i64 (170 : Int))) <|
  newW (.stringIter x0 0) fun (r1 : Nat) =>
  loopW (Unit) () fun (y3 : Unit) (I2 : (Unit) → WP) =>
  nextW r1 (fun (i4 c5 : Int) =>
  splitW true (joinW (Unit) (fun (J6 : (Unit) → WP) =>
  joinW (Bool × Unit) (fun (J8 : (Bool × Unit) → WP) =>
  splitW (decide (c5 ≥ (97 : Int))) (splitW (decide (c5 ≤ (122 : Int))) (J8 ((decide (c5 ≤ (122 : Int))), ())) <|
  splitW (decide (c5 ≥ (65 : Int))) (splitW (decide (c5 ≤ (90 : Int))) (J8 ((decide (c5 ≤ (90 : Int))), ())) <| J8 ((c5 == (95 : Int)), ())) <| J8 ((c5 == (95 : Int)), ())) <|
  splitW (decide (c5 ≥ (65 : Int))) (splitW (decide (c5 ≤ (90 : Int))) (J8 ((decide (c5 ≤ (90 : Int))), ())) <| J8 ((c5 == (95 : Int)), ())) <| J8 ((c5 == (95 : Int)), ())) fun (y9 : Bool × Unit) =>
  splitW y9.1 (I2 ()) <|
  splitW (decide (i4 > (0 : Int))) (splitW (decide (c5 ≥ (48 : Int))) (splitW (decide (c5 ≤ (57 : Int))) (I2 ()) <| J6 ()) <| J6 ()) <| J6 ()) fun (y7 : Unit) => K (.int .i64 (170 : Int))) <| K (.int .i64 (0 : Int))) <|
  splitW false (FalseW) <| K (.int .i64 (0 : Int))
theorem eq23 (x0 : ByteArray) (K : Value → WP) : bodyW Try.prog Try.f23 an23 false [(.string x0)] K = S23 x0 K := by kernel_rfl
theorem calls23 (x0 : ByteArray) {K : Value → WP} {w : World} (h : S23 x0 K w) : Calls Try.prog 23 #[(.string x0)] w (Ret K) := callsR_of_bodyW mixed Try.func23 (of_decide_eq_true (by kernel_rfl)) (by rw [eq23]; exact h)

/-- shadowbook/shadowbookkit.Times -/
def an24 : Ann := (.seq .nil (.seq .nil (.seq (.block (.loop [(0, .sh (.one .str)), (1, .sh (.one (.int .i64))), (5, .sh (.one .str))] [1000000] (.seq (.seq .nil (.cond .nil .nil)) (.seq (.block (.seq (.seq .nil (.cond .nil .nil)) .nil)) .nil)))) (.seq .nil .nil))))
def S24 (x0 : ByteArray) (x1 : Int) (K : Value → WP) : WP := 
  loopW (ByteArray × Int × ByteArray × Unit) (x0, x1, (ByteArray.mk #[]), ()) fun (y2 : ByteArray × Int × ByteArray × Unit) (I1 : (ByteArray × Int × ByteArray × Unit) → WP) =>
  splitW (decide (y2.2.1 > (0 : Int))) (splitW ((Int.tmod y2.2.1 (2 : Int)) == (1 : Int)) (guardW (((y2.2.2.1.size + y2.1.size : Nat) : Int) ≤ IntKind.i64.max) <|
  guardW (((y2.1.size + y2.1.size : Nat) : Int) ≤ IntKind.i64.max) <| I1 ((y2.1 ++ y2.1), (IntKind.wrap .i64 (Int.tdiv y2.2.1 (2 : Int))), (y2.2.2.1 ++ y2.1), ())) <|
  guardW (((y2.1.size + y2.1.size : Nat) : Int) ≤ IntKind.i64.max) <| I1 ((y2.1 ++ y2.1), (IntKind.wrap .i64 (Int.tdiv y2.2.1 (2 : Int))), y2.2.2.1, ())) <| K (.string y2.2.2.1)
theorem eq24 (x0 : ByteArray) (x1 : Int) (K : Value → WP) : bodyW Try.prog Try.f24 an24 false [(.string x0), (.int .i64 x1)] K = S24 x0 x1 K := by kernel_rfl
theorem calls24 (x0 : ByteArray) (x1 : Int) {K : Value → WP} {w : World} (h : S24 x0 x1 K w) : Calls Try.prog 24 #[(.string x0), (.int .i64 x1)] w (Ret K) := callsR_of_bodyW mixed Try.func24 (of_decide_eq_true (by kernel_rfl)) (by rw [eq24]; exact h)

/-- shadowbook/shadowbookkit.Row -/
def an25 : Ann := (.seq .nil (.seq .nil .nil))
def S25 (x0 : ByteArray) (x1 : Int) (K : Value → WP) : WP := 
  callW Try.prog 26 [(.string x0)] (.one (.agg [(.int .i64), (.int .i64), .str])) fun (u1 : (Int × Int × ByteArray × Unit)) =>
  callW Try.prog 28 [(.int .i64 x1)] (.one (.agg [(.int .i64), (.int .i64), .str])) fun (u2 : (Int × Int × ByteArray × Unit)) =>
  newW (.cells #[(.int .i64 u1.1), (.int .i64 u1.2.1), (.string u1.2.2.1), (.int .i64 u2.1), (.int .i64 u2.2.1), (.string u2.2.2.1)] 44) fun (r3 : Nat) => K (.slice (some (⟨r3, 0, none⟩ : Addr)) 2 2)
theorem eq25 (x0 : ByteArray) (x1 : Int) (K : Value → WP) : bodyW Try.prog Try.f25 an25 false [(.string x0), (.int .i64 x1)] K = S25 x0 x1 K := by kernel_rfl
theorem calls25 (x0 : ByteArray) (x1 : Int) {K : Value → WP} {w : World} (h : S25 x0 x1 K w) : Calls Try.prog 25 #[(.string x0), (.int .i64 x1)] w (Ret K) := callsR_of_bodyW mixed Try.func25 (of_decide_eq_true (by kernel_rfl)) (by rw [eq25]; exact h)

/-- shadowbook/shadowbookkit.Str -/
def an26 : Ann := (.seq .nil (.seq .nil .nil))
def S26 (x0 : ByteArray) (K : Value → WP) : WP := 
  newW (.cells #[(.int .i64 (0 : Int)), (.int .i64 (0 : Int)), (.string ByteArray.empty)] 44) fun (r1 : Nat) =>
  guardW ((#[(.int .i64 (3 : Int)), (.int .i64 (0 : Int)), (.string x0)] : Array Value).size = 3) <|
  stAW (⟨r1, 0, none⟩ : Addr) [(.int .i64 (3 : Int)), (.int .i64 (0 : Int)), (.string x0)] <|
  ldAW [(.int .i64), (.int .i64), .str] (⟨r1, 0, none⟩ : Addr) fun (u2 : (Int × Int × ByteArray × Unit)) => K (.agg #[(.int .i64 u2.1), (.int .i64 u2.2.1), (.string u2.2.2.1)])
theorem eq26 (x0 : ByteArray) (K : Value → WP) : bodyW Try.prog Try.f26 an26 false [(.string x0)] K = S26 x0 K := by kernel_rfl
theorem calls26 (x0 : ByteArray) {K : Value → WP} {w : World} (h : S26 x0 K w) : Calls Try.prog 26 #[(.string x0)] w (Ret K) := callsR_of_bodyW mixed Try.func26 (of_decide_eq_true (by kernel_rfl)) (by rw [eq26]; exact h)

/-- shadowbook/shadowbookkit.SameRows -/
def an27 : Ann := (.seq .nil (.seq (.seq .nil (.cond (.seq .nil .nil) .nil)) (.seq (.seq .nil (.block (.loop [(5, .sh (.one (.int .i64)))] [0, 1, 1000000] (.seq (.seq .nil (.cond .nil .nil)) (.seq (.block (.seq (.seq .nil (.cond (.seq .nil .nil) .nil)) (.seq .nil (.block (.loop [(6, .sh (.one (.int .i64)))] [0, 1, 5, 1000000] (.seq (.seq .nil (.cond .nil .nil)) (.seq (.block (.seq .nil (.cond (.seq .nil .nil) .nil))) .nil))))))) .nil))))) (.seq .nil .nil))))
def S27 (a0 : Option Addr) (n0 c0 : Nat) (a1 : Option Addr) (n1 c1 : Nat) (K : Value → WP) : WP := 
  splitW (((n0 : Nat) : Int) != ((n1 : Nat) : Int)) (K (.bool false)) <|
  loopW (Int × Unit) ((0 : Int), ()) fun (y2 : Int × Unit) (I1 : (Int × Unit) → WP) =>
  splitW (decide (y2.1 < ((n0 : Nat) : Int))) (drewW <|
  guardW (0 ≤ y2.1 ∧ y2.1 < ((n0 : Nat) : Int)) <|
  ptrW a0 fun (p3 : Addr) =>
  ldW .slc (p3.add (Int.toNat y2.1 * 1)) fun (u4 : (Option Addr × Nat × Nat)) =>
  guardW (0 ≤ y2.1 ∧ y2.1 < ((n1 : Nat) : Int)) <|
  ptrW a1 fun (p5 : Addr) =>
  ldW .slc (p5.add (Int.toNat y2.1 * 1)) fun (u6 : (Option Addr × Nat × Nat)) =>
  splitW (((u4.2.1 : Nat) : Int) != ((u6.2.1 : Nat) : Int)) (K (.bool false)) <|
  loopW (Int × Unit) ((0 : Int), ()) fun (y8 : Int × Unit) (I7 : (Int × Unit) → WP) =>
  guardW (0 ≤ y2.1 ∧ y2.1 < ((n0 : Nat) : Int)) <|
  ptrW a0 fun (p9 : Addr) =>
  ldW .slc (p9.add (Int.toNat y2.1 * 1)) fun (u10 : (Option Addr × Nat × Nat)) =>
  splitW (decide (y8.1 < ((u10.2.1 : Nat) : Int))) (drewW <|
  guardW (0 ≤ y2.1 ∧ y2.1 < ((n0 : Nat) : Int)) <|
  ptrW a0 fun (p11 : Addr) =>
  ldW .slc (p11.add (Int.toNat y2.1 * 1)) fun (u12 : (Option Addr × Nat × Nat)) =>
  guardW (0 ≤ y8.1 ∧ y8.1 < ((u12.2.1 : Nat) : Int)) <|
  ptrW u12.1 fun (p13 : Addr) =>
  ldAW [(.int .i64), (.int .i64), .str] (p13.add (Int.toNat y8.1 * 3)) fun (u14 : (Int × Int × ByteArray × Unit)) =>
  guardW (0 ≤ y2.1 ∧ y2.1 < ((n1 : Nat) : Int)) <|
  ptrW a1 fun (p15 : Addr) =>
  ldW .slc (p15.add (Int.toNat y2.1 * 1)) fun (u16 : (Option Addr × Nat × Nat)) =>
  guardW (0 ≤ y8.1 ∧ y8.1 < ((u16.2.1 : Nat) : Int)) <|
  ptrW u16.1 fun (p17 : Addr) =>
  ldAW [(.int .i64), (.int .i64), .str] (p17.add (Int.toNat y8.1 * 3)) fun (u18 : (Int × Int × ByteArray × Unit)) =>
  eqW Try.prog (eqS .neq 44 (.tmp 44) (.tmp 51) (.agg #[(.int .i64 u14.1), (.int .i64 u14.2.1), (.string u14.2.2.1)]) (.agg #[(.int .i64 u18.1), (.int .i64 u18.2.1), (.string u18.2.2.1)])) fun (b19 : Bool) =>
  splitW b19 (K (.bool false)) <| I7 ((IntKind.wrap .i64 (y8.1 + (1 : Int))), ())) <| I1 ((IntKind.wrap .i64 (y2.1 + (1 : Int))), ())) <| K (.bool true)
theorem eq27 (a0 : Option Addr) (n0 c0 : Nat) (a1 : Option Addr) (n1 c1 : Nat) (K : Value → WP) : bodyW Try.prog Try.f27 an27 false [(.slice a0 n0 c0), (.slice a1 n1 c1)] K = S27 a0 n0 c0 a1 n1 c1 K := by kernel_rfl
theorem calls27 (a0 : Option Addr) (n0 c0 : Nat) (a1 : Option Addr) (n1 c1 : Nat) {K : Value → WP} {w : World} (h : S27 a0 n0 c0 a1 n1 c1 K w) : Calls Try.prog 27 #[(.slice a0 n0 c0), (.slice a1 n1 c1)] w (Ret K) := callsR_of_bodyW mixed Try.func27 (of_decide_eq_true (by kernel_rfl)) (by rw [eq27]; exact h)

/-- shadowbook/shadowbookkit.Num -/
def an28 : Ann := (.seq .nil (.seq .nil .nil))
def S28 (x0 : Int) (K : Value → WP) : WP := 
  newW (.cells #[(.int .i64 (0 : Int)), (.int .i64 (0 : Int)), (.string ByteArray.empty)] 44) fun (r1 : Nat) =>
  guardW ((#[(.int .i64 (1 : Int)), (.int .i64 x0), (.string ByteArray.empty)] : Array Value).size = 3) <|
  stAW (⟨r1, 0, none⟩ : Addr) [(.int .i64 (1 : Int)), (.int .i64 x0), (.string ByteArray.empty)] <|
  ldAW [(.int .i64), (.int .i64), .str] (⟨r1, 0, none⟩ : Addr) fun (u2 : (Int × Int × ByteArray × Unit)) => K (.agg #[(.int .i64 u2.1), (.int .i64 u2.2.1), (.string u2.2.2.1)])
theorem eq28 (x0 : Int) (K : Value → WP) : bodyW Try.prog Try.f28 an28 false [(.int .i64 x0)] K = S28 x0 K := by kernel_rfl
theorem calls28 (x0 : Int) {K : Value → WP} {w : World} (h : S28 x0 K w) : Calls Try.prog 28 #[(.int .i64 x0)] w (Ret K) := callsR_of_bodyW mixed Try.func28 (of_decide_eq_true (by kernel_rfl)) (by rw [eq28]; exact h)

/-- shadowbook/shadowbookref17.Find -/
def an29 : Ann := (.seq .nil (.seq (.seq .nil (.block (.loop [(6, .sh (.one (.int .i64)))] [0, 1, 1000000] (.seq (.seq .nil (.cond .nil .nil)) (.seq (.block (.seq .nil (.cond (.seq .nil .nil) .nil))) .nil))))) (.seq .nil .nil)))
def S29 (a0 : Option Addr) (n0 c0 : Nat) (x1 : ByteArray) (K : Value → WP) : WP := 
  loopW (Int × Unit) ((0 : Int), ()) fun (y2 : Int × Unit) (I1 : (Int × Unit) → WP) =>
  splitW (decide (y2.1 < ((n0 : Nat) : Int))) (guardW (0 ≤ y2.1 ∧ y2.1 < ((n0 : Nat) : Int)) <|
  ptrW a0 fun (p3 : Addr) =>
  ldW .str (p3.add (Int.toNat y2.1 * 3)) fun (u4 : ByteArray) =>
  splitW (u4.toList == x1.toList) (K (.tuple #[(.int .i64 y2.1), (.int .i64 (0 : Int))])) <| I1 ((IntKind.wrap .i64 (y2.1 + (1 : Int))), ())) <| K (.tuple #[(.int .i64 (0 : Int)), (.int .i64 (172 : Int))])
theorem eq29 (a0 : Option Addr) (n0 c0 : Nat) (x1 : ByteArray) (K : Value → WP) : bodyW Try.prog Try.f29 an29 false [(.slice a0 n0 c0), (.string x1)] K = S29 a0 n0 c0 x1 K := by kernel_rfl
theorem calls29 (a0 : Option Addr) (n0 c0 : Nat) (x1 : ByteArray) {K : Value → WP} {w : World} (h : S29 a0 n0 c0 x1 K w) : Calls Try.prog 29 #[(.slice a0 n0 c0), (.string x1)] w (Ret K) := callsR_of_bodyW mixed Try.func29 (of_decide_eq_true (by kernel_rfl)) (by rw [eq29]; exact h)

/-- shadowbook/shadowbookref17.Take -/
def an30 : Ann := (.seq .nil (.seq .nil (.seq (.seq .nil (.block (.loop [(6, .sh (.one .slc)), (7, .sh (.one (.int .i64)))] [0, 1, 1000000] (.seq (.seq .nil (.cond .nil .nil)) (.seq (.block (.seq (.seq .nil (.cond (.seq .nil .nil) .nil)) .nil)) .nil))))) (.seq .nil .nil))))
def S30 (a0 : Option Addr) (n0 c0 : Nat) (a1 : Option Addr) (n1 c1 : Nat) (K : Value → WP) : WP := 
  loopW ((Option Addr × Nat × Nat) × Int × Unit) ((none, 0, 0), (0 : Int), ()) fun (y2 : (Option Addr × Nat × Nat) × Int × Unit) (I1 : ((Option Addr × Nat × Nat) × Int × Unit) → WP) =>
  splitW (decide (y2.2.1 < ((n1 : Nat) : Int))) (guardW (0 ≤ y2.2.1 ∧ y2.2.1 < ((n1 : Nat) : Int)) <|
  ptrW a1 fun (p3 : Addr) =>
  ldW (.int .i64) (p3.add (Int.toNat y2.2.1 * 1)) fun (u4 : Int) =>
  splitW (decide (u4 < (0 : Int))) (K (.tuple #[(.slice none 0 0), (.int .i64 (172 : Int))])) <|
  guardW (0 ≤ y2.2.1 ∧ y2.2.1 < ((n1 : Nat) : Int)) <|
  ptrW a1 fun (p5 : Addr) =>
  ldW (.int .i64) (p5.add (Int.toNat y2.2.1 * 1)) fun (u6 : Int) =>
  splitW (decide (u6 ≥ ((n0 : Nat) : Int))) (K (.tuple #[(.slice none 0 0), (.int .i64 (172 : Int))])) <|
  guardW (0 ≤ y2.2.1 ∧ y2.2.1 < ((n1 : Nat) : Int)) <|
  ptrW a1 fun (p7 : Addr) =>
  ldW (.int .i64) (p7.add (Int.toNat y2.2.1 * 1)) fun (u8 : Int) =>
  guardW (0 ≤ u8 ∧ u8 < ((n0 : Nat) : Int)) <|
  ptrW a0 fun (p9 : Addr) =>
  ldAW [.str, (.int .i64), .bool] (p9.add (Int.toNat u8 * 3)) fun (u10 : (ByteArray × Int × Bool × Unit)) =>
  newW (.cells #[(.string u10.1), (.int .i64 u10.2.1), (.bool u10.2.2.1)] 31) fun (r11 : Nat) =>
  runW Try.prog (Builtin.append_ #[22, 22] 22 #[(.slice y2.1.1 y2.1.2.1 y2.1.2.2), (.slice (some (⟨r11, 0, none⟩ : Addr)) 1 1)]) .slc fun (u12 : (Option Addr × Nat × Nat)) => I1 ((u12.1, u12.2.1, u12.2.2), (IntKind.wrap .i64 (y2.2.1 + (1 : Int))), ())) <| K (.tuple #[(.slice y2.1.1 y2.1.2.1 y2.1.2.2), (.int .i64 (0 : Int))])
theorem eq30 (a0 : Option Addr) (n0 c0 : Nat) (a1 : Option Addr) (n1 c1 : Nat) (K : Value → WP) : bodyW Try.prog Try.f30 an30 false [(.slice a0 n0 c0), (.slice a1 n1 c1)] K = S30 a0 n0 c0 a1 n1 c1 K := by kernel_rfl
theorem calls30 (a0 : Option Addr) (n0 c0 : Nat) (a1 : Option Addr) (n1 c1 : Nat) {K : Value → WP} {w : World} (h : S30 a0 n0 c0 a1 n1 c1 K w) : Calls Try.prog 30 #[(.slice a0 n0 c0), (.slice a1 n1 c1)] w (Ret K) := callsR_of_bodyW mixed Try.func30 (of_decide_eq_true (by kernel_rfl)) (by rw [eq30]; exact h)

/-- shadowbook/shadowbookref17.Bytes -/
def an31 : Ann := (.seq .nil (.seq .nil (.seq (.seq .nil (.cond (.seq .nil .nil) .nil)) (.seq .nil (.seq (.seq .nil (.block (.loop [(5, .sh (.one .slc)), (6, .sh (.one (.int .i64)))] [0, 1000000] (.seq (.seq .nil (.cond .nil .nil)) (.seq (.block (.seq .nil (.join [(7, .sh (.one (.int .u8)))] [0, 5, 6, 1000000] (.seq .nil (.cond .nil .nil)) (.seq .nil .nil)))) .nil))))) (.seq .nil .nil))))))
def S31 (a0 : Option Addr) (n0 c0 : Nat) (K : Value → WP) : WP := 
  callW Try.prog 34 [(.slice a0 n0 c0)] (.one (.one (.int .i64))) fun (u1 : Int) =>
  splitW (u1 != (0 : Int)) (K (.tuple #[(.string (ByteArray.mk #[])), (.int .i64 u1)])) <|
  newW (.cells #[(.int .u8 (IntKind.wrap .u8 ((n0 : Nat) : Int)))] 5) fun (r2 : Nat) =>
  loopW ((Option Addr × Nat × Nat) × Int × Unit) (((some (⟨r2, 0, none⟩ : Addr)), 1, 1), (0 : Int), ()) fun (y4 : (Option Addr × Nat × Nat) × Int × Unit) (I3 : ((Option Addr × Nat × Nat) × Int × Unit) → WP) =>
  splitW (decide (y4.2.1 < ((n0 : Nat) : Int))) (guardW (0 ≤ y4.2.1 ∧ y4.2.1 < ((n0 : Nat) : Int)) <|
  ptrW a0 fun (p5 : Addr) =>
  ldW (.int .i64) ((p5.add (Int.toNat y4.2.1 * 3)).add 1) fun (u6 : Int) =>
  joinW (Int × Unit) (fun (J7 : (Int × Unit) → WP) =>
  guardW (0 ≤ y4.2.1 ∧ y4.2.1 < ((n0 : Nat) : Int)) <|
  ptrW a0 fun (p9 : Addr) =>
  ldW .bool ((p9.add (Int.toNat y4.2.1 * 3)).add 2) fun (u10 : Bool) =>
  splitW u10 (J7 ((IntKind.wrap .u8 ((IntKind.wrap .u8 u6) + (128 : Int))), ())) <| J7 ((IntKind.wrap .u8 u6), ())) fun (y8 : Int × Unit) =>
  guardW (0 ≤ y4.2.1 ∧ y4.2.1 < ((n0 : Nat) : Int)) <|
  ptrW a0 fun (p11 : Addr) =>
  ldW .str (p11.add (Int.toNat y4.2.1 * 3)) fun (u12 : ByteArray) =>
  newW (.cells #[(.int .u8 y8.1), (.int .u8 (IntKind.wrap .u8 ((u12.size : Nat) : Int)))] 5) fun (r13 : Nat) =>
  runW Try.prog (Builtin.append_ #[64, 64] 64 #[(.slice y4.1.1 y4.1.2.1 y4.1.2.2), (.slice (some (⟨r13, 0, none⟩ : Addr)) 2 2)]) .slc fun (u14 : (Option Addr × Nat × Nat)) =>
  guardW (0 ≤ y4.2.1 ∧ y4.2.1 < ((n0 : Nat) : Int)) <|
  ptrW a0 fun (p15 : Addr) =>
  ldW .str (p15.add (Int.toNat y4.2.1 * 3)) fun (u16 : ByteArray) =>
  runW Try.prog (Builtin.append_ #[64, 9] 64 #[(.slice u14.1 u14.2.1 u14.2.2), (.string u16)]) .slc fun (u17 : (Option Addr × Nat × Nat)) => I3 ((u17.1, u17.2.1, u17.2.2), (IntKind.wrap .i64 (y4.2.1 + (1 : Int))), ())) <|
  runW Try.prog (Go.convert 64 9 (.slice y4.1.1 y4.1.2.1 y4.1.2.2)) .str fun (u18 : ByteArray) => K (.tuple #[(.string u18), (.int .i64 (0 : Int))])
theorem eq31 (a0 : Option Addr) (n0 c0 : Nat) (K : Value → WP) : bodyW Try.prog Try.f31 an31 false [(.slice a0 n0 c0)] K = S31 a0 n0 c0 K := by kernel_rfl
theorem calls31 (a0 : Option Addr) (n0 c0 : Nat) {K : Value → WP} {w : World} (h : S31 a0 n0 c0 K w) : Calls Try.prog 31 #[(.slice a0 n0 c0)] w (Ret K) := callsR_of_bodyW mixed Try.func31 (of_decide_eq_true (by kernel_rfl)) (by rw [eq31]; exact h)

/-- shadowbook/shadowbookref17.Read -/
def an32 : Ann := (.seq .nil (.seq (.seq .nil (.cond (.seq .nil .nil) .nil)) (.seq .nil (.seq .nil (.seq .nil (.seq (.seq .nil (.block (.loop [(0, .sh (.one .str)), (6, .sh (.one .slc)), (7, .sh (.one (.int .i64)))] [5, 1000000] (.seq (.seq .nil (.cond .nil .nil)) (.seq (.block (.seq (.seq .nil (.cond (.seq .nil .nil) .nil)) (.seq .nil .nil))) .nil))))) (.seq (.seq .nil (.cond (.seq .nil .nil) .nil)) (.seq .nil .nil))))))))
def S32 (x0 : ByteArray) (K : Value → WP) : WP := 
  splitW (x0.toList == (ByteArray.mk #[]).toList) (K (.tuple #[(.slice none 0 0), (.string (ByteArray.mk #[])), (.int .i64 (171 : Int))])) <|
  guardW (0 ≤ (0 : Int) ∧ (0 : Int) < ((x0.size : Nat) : Int)) <|
  guardW (0 ≤ (1 : Int) ∧ (1 : Int) ≤ ((x0.size : Nat) : Int)) <|
  loopW (ByteArray × (Option Addr × Nat × Nat) × Int × Unit) ((ByteArray.extract x0 (Int.toNat (1 : Int)) x0.size), (none, 0, 0), (0 : Int), ()) fun (y2 : ByteArray × (Option Addr × Nat × Nat) × Int × Unit) (I1 : (ByteArray × (Option Addr × Nat × Nat) × Int × Unit) → WP) =>
  splitW (decide (y2.2.2.1 < (IntKind.wrap .i64 (bt x0 (0 : Int))))) (splitW (decide (((y2.1.size : Nat) : Int) < (2 : Int))) (K (.tuple #[(.slice none 0 0), (.string (ByteArray.mk #[])), (.int .i64 (171 : Int))])) <|
  guardW (0 ≤ (1 : Int) ∧ (1 : Int) < ((y2.1.size : Nat) : Int)) <|
  splitW (decide (((y2.1.size : Nat) : Int) < (IntKind.wrap .i64 ((2 : Int) + (IntKind.wrap .i64 (bt y2.1 (1 : Int))))))) (K (.tuple #[(.slice none 0 0), (.string (ByteArray.mk #[])), (.int .i64 (171 : Int))])) <|
  drewW <|
  guardW (0 ≤ (1 : Int) ∧ (1 : Int) < ((y2.1.size : Nat) : Int)) <|
  guardW (0 ≤ (2 : Int) ∧ (2 : Int) ≤ (IntKind.wrap .i64 ((2 : Int) + (IntKind.wrap .i64 (bt y2.1 (1 : Int))))) ∧ (IntKind.wrap .i64 ((2 : Int) + (IntKind.wrap .i64 (bt y2.1 (1 : Int))))) ≤ ((y2.1.size : Nat) : Int)) <|
  guardW (0 ≤ (0 : Int) ∧ (0 : Int) < ((y2.1.size : Nat) : Int)) <|
  guardW (0 ≤ (0 : Int) ∧ (0 : Int) < ((y2.1.size : Nat) : Int)) <|
  newW (.cells #[(.string (ByteArray.extract y2.1 (Int.toNat (2 : Int)) (Int.toNat (IntKind.wrap .i64 ((2 : Int) + (IntKind.wrap .i64 (bt y2.1 (1 : Int)))))))), (.int .i64 (IntKind.wrap .i64 (Int.tmod (bt y2.1 (0 : Int)) (128 : Int)))), (.bool (decide ((bt y2.1 (0 : Int)) ≥ (128 : Int))))] 31) fun (r3 : Nat) =>
  runW Try.prog (Builtin.append_ #[22, 22] 22 #[(.slice y2.2.1.1 y2.2.1.2.1 y2.2.1.2.2), (.slice (some (⟨r3, 0, none⟩ : Addr)) 1 1)]) .slc fun (u4 : (Option Addr × Nat × Nat)) =>
  guardW (0 ≤ (1 : Int) ∧ (1 : Int) < ((y2.1.size : Nat) : Int)) <|
  guardW (0 ≤ (IntKind.wrap .i64 ((2 : Int) + (IntKind.wrap .i64 (bt y2.1 (1 : Int))))) ∧ (IntKind.wrap .i64 ((2 : Int) + (IntKind.wrap .i64 (bt y2.1 (1 : Int))))) ≤ ((y2.1.size : Nat) : Int)) <| I1 ((ByteArray.extract y2.1 (Int.toNat (IntKind.wrap .i64 ((2 : Int) + (IntKind.wrap .i64 (bt y2.1 (1 : Int)))))) y2.1.size), (u4.1, u4.2.1, u4.2.2), (IntKind.wrap .i64 (y2.2.2.1 + (1 : Int))), ())) <|
  callW Try.prog 34 [(.slice y2.2.1.1 y2.2.1.2.1 y2.2.1.2.2)] (.one (.one (.int .i64))) fun (u5 : Int) =>
  splitW (u5 != (0 : Int)) (K (.tuple #[(.slice none 0 0), (.string (ByteArray.mk #[])), (.int .i64 (171 : Int))])) <| K (.tuple #[(.slice y2.2.1.1 y2.2.1.2.1 y2.2.1.2.2), (.string y2.1), (.int .i64 (0 : Int))])
theorem eq32 (x0 : ByteArray) (K : Value → WP) : bodyW Try.prog Try.f32 an32 false [(.string x0)] K = S32 x0 K := by kernel_rfl
theorem calls32 (x0 : ByteArray) {K : Value → WP} {w : World} (h : S32 x0 K w) : Calls Try.prog 32 #[(.string x0)] w (Ret K) := callsR_of_bodyW mixed Try.func32 (of_decide_eq_true (by kernel_rfl)) (by rw [eq32]; exact h)

/-- shadowbook/shadowbookref17.Name -/
def an33 : Ann := (.seq .nil (.seq (.seq .nil (.cond (.seq .nil .nil) .nil)) (.seq (.seq .nil (.block (.loop [(3, .sh (.one (.int .i64)))] [0, 1000000] (.seq (.seq .nil (.cond .nil .nil)) (.join [] [0, 3, 1000000] (.block (.seq .nil (.join [(5, .sh (.one .bool))] [0, 3, 4, 1000000] .nil (.join [(54, .sh (.one .bool))] [0, 3, 1000000] .nil (.cond (.seq .nil .nil) .nil))))) .nil))))) (.seq .nil .nil))))
def S33 (x0 : ByteArray) (K : Value → WP) : WP := 
  splitW (decide (((x0.size : Nat) : Int) < (1 : Int))) (K (.int .i64 (170 : Int))) <|
  splitW (decide (((x0.size : Nat) : Int) > (32 : Int))) (K (.int .i64 (170 : Int))) <|
  loopW (Int × Unit) ((0 : Int), ()) fun (y2 : Int × Unit) (I1 : (Int × Unit) → WP) =>
  splitW (decide (y2.1 < ((x0.size : Nat) : Int))) (joinW (Unit) (fun (J3 : (Unit) → WP) =>
  guardW (0 ≤ y2.1 ∧ y2.1 < ((x0.size : Nat) : Int)) <|
  joinW (Bool × Unit) (fun (J5 : (Bool × Unit) → WP) =>
  splitW (decide ((bt x0 y2.1) ≥ (48 : Int))) (J5 ((decide ((bt x0 y2.1) ≤ (57 : Int))), ())) <| J5 (false, ())) fun (y6 : Bool × Unit) =>
  joinW (Bool × Unit) (fun (J7 : (Bool × Unit) → WP) =>
  splitW (decide ((bt x0 y2.1) ≥ (97 : Int))) (splitW (decide ((bt x0 y2.1) ≤ (122 : Int))) (J7 (false, ())) <|
  splitW (decide ((bt x0 y2.1) ≥ (65 : Int))) (splitW (decide ((bt x0 y2.1) ≤ (90 : Int))) (J7 (false, ())) <|
  splitW ((bt x0 y2.1) == (95 : Int)) (J7 (false, ())) <|
  splitW y6.1 (J7 ((!(decide (y2.1 > (0 : Int)))), ())) <| J7 (true, ())) <|
  splitW ((bt x0 y2.1) == (95 : Int)) (J7 (false, ())) <|
  splitW y6.1 (J7 ((!(decide (y2.1 > (0 : Int)))), ())) <| J7 (true, ())) <|
  splitW (decide ((bt x0 y2.1) ≥ (65 : Int))) (splitW (decide ((bt x0 y2.1) ≤ (90 : Int))) (J7 (false, ())) <|
  splitW ((bt x0 y2.1) == (95 : Int)) (J7 (false, ())) <|
  splitW y6.1 (J7 ((!(decide (y2.1 > (0 : Int)))), ())) <| J7 (true, ())) <|
  splitW ((bt x0 y2.1) == (95 : Int)) (J7 (false, ())) <|
  splitW y6.1 (J7 ((!(decide (y2.1 > (0 : Int)))), ())) <| J7 (true, ())) fun (y8 : Bool × Unit) =>
  splitW y8.1 (K (.int .i64 (170 : Int))) <| J3 ()) fun (y4 : Unit) => I1 ((IntKind.wrap .i64 (y2.1 + (1 : Int))), ())) <| K (.int .i64 (0 : Int))
theorem eq33 (x0 : ByteArray) (K : Value → WP) : bodyW Try.prog Try.f33 an33 false [(.string x0)] K = S33 x0 K := by kernel_rfl
theorem calls33 (x0 : ByteArray) {K : Value → WP} {w : World} (h : S33 x0 K w) : Calls Try.prog 33 #[(.string x0)] w (Ret K) := callsR_of_bodyW mixed Try.func33 (of_decide_eq_true (by kernel_rfl)) (by rw [eq33]; exact h)

/-- shadowbook/shadowbookref17.Check -/
def an34 : Ann := (.seq .nil (.seq (.seq .nil (.cond (.seq .nil .nil) .nil)) (.seq (.seq .nil (.block (.loop [(3, .sh (.one (.int .i64)))] [0, 1000000] (.seq (.seq .nil (.cond .nil .nil)) (.seq (.block (.seq (.seq .nil (.cond (.seq .nil .nil) .nil)) (.seq (.seq .nil (.cond (.seq .nil .nil) .nil)) (.seq .nil (.block (.loop [(4, .sh (.one (.int .i64)))] [0, 3, 1000000] (.seq (.seq .nil (.cond .nil .nil)) (.seq (.block (.seq .nil (.cond (.seq .nil .nil) .nil))) .nil)))))))) .nil))))) (.seq .nil .nil))))
def S34 (a0 : Option Addr) (n0 c0 : Nat) (K : Value → WP) : WP := 
  splitW (decide (((n0 : Nat) : Int) < (1 : Int))) (K (.int .i64 (171 : Int))) <|
  splitW (decide (((n0 : Nat) : Int) > (16 : Int))) (K (.int .i64 (171 : Int))) <|
  loopW (Int × Unit) ((0 : Int), ()) fun (y2 : Int × Unit) (I1 : (Int × Unit) → WP) =>
  splitW (decide (y2.1 < ((n0 : Nat) : Int))) (guardW (0 ≤ y2.1 ∧ y2.1 < ((n0 : Nat) : Int)) <|
  ptrW a0 fun (p3 : Addr) =>
  ldW .str (p3.add (Int.toNat y2.1 * 3)) fun (u4 : ByteArray) =>
  callW Try.prog 33 [(.string u4)] (.one (.one (.int .i64))) fun (u5 : Int) =>
  splitW (u5 != (0 : Int)) (K (.int .i64 (170 : Int))) <|
  guardW (0 ≤ y2.1 ∧ y2.1 < ((n0 : Nat) : Int)) <|
  ptrW a0 fun (p6 : Addr) =>
  ldW (.int .i64) ((p6.add (Int.toNat y2.1 * 3)).add 1) fun (u7 : Int) =>
  splitW (decide (u7 < (1 : Int))) (K (.int .i64 (171 : Int))) <|
  guardW (0 ≤ y2.1 ∧ y2.1 < ((n0 : Nat) : Int)) <|
  ptrW a0 fun (p8 : Addr) =>
  ldW (.int .i64) ((p8.add (Int.toNat y2.1 * 3)).add 1) fun (u9 : Int) =>
  splitW (decide (u9 > (3 : Int))) (K (.int .i64 (171 : Int))) <|
  loopW (Int × Unit) ((0 : Int), ()) fun (y11 : Int × Unit) (I10 : (Int × Unit) → WP) =>
  splitW (decide (y11.1 < y2.1)) (drewW <|
  guardW (0 ≤ y11.1 ∧ y11.1 < ((n0 : Nat) : Int)) <|
  ptrW a0 fun (p12 : Addr) =>
  ldW .str (p12.add (Int.toNat y11.1 * 3)) fun (u13 : ByteArray) =>
  guardW (0 ≤ y2.1 ∧ y2.1 < ((n0 : Nat) : Int)) <|
  ptrW a0 fun (p14 : Addr) =>
  ldW .str (p14.add (Int.toNat y2.1 * 3)) fun (u15 : ByteArray) =>
  splitW (u13.toList == u15.toList) (K (.int .i64 (171 : Int))) <| I10 ((IntKind.wrap .i64 (y11.1 + (1 : Int))), ())) <| I1 ((IntKind.wrap .i64 (y2.1 + (1 : Int))), ())) <| K (.int .i64 (0 : Int))
theorem eq34 (a0 : Option Addr) (n0 c0 : Nat) (K : Value → WP) : bodyW Try.prog Try.f34 an34 false [(.slice a0 n0 c0)] K = S34 a0 n0 c0 K := by kernel_rfl
theorem calls34 (a0 : Option Addr) (n0 c0 : Nat) {K : Value → WP} {w : World} (h : S34 a0 n0 c0 K w) : Calls Try.prog 34 #[(.slice a0 n0 c0)] w (Ret K) := callsR_of_bodyW mixed Try.func34 (of_decide_eq_true (by kernel_rfl)) (by rw [eq34]; exact h)

/-- shadowbook/shadowbookref17.Row -/
def an35 : Ann := (.seq .nil (.seq .nil (.seq (.seq .nil (.cond (.seq .nil .nil) .nil)) (.seq (.seq .nil (.cond (.seq .nil .nil) .nil)) (.seq (.seq .nil (.block (.loop [(6, .sh (.one (.int .i64)))] [0, 1, 1000000] (.seq (.seq .nil (.cond .nil .nil)) (.seq (.block (.seq .nil (.seq .nil (.cond (.seq .nil .nil) .nil)))) .nil))))) (.seq .nil .nil))))))
def S35 (a0 : Option Addr) (n0 c0 : Nat) (a1 : Option Addr) (n1 c1 : Nat) (K : Value → WP) : WP := 
  callW Try.prog 34 [(.slice a0 n0 c0)] (.one (.one (.int .i64))) fun (u1 : Int) =>
  splitW (u1 != (0 : Int)) (K (.int .i64 u1)) <|
  splitW (((n1 : Nat) : Int) != ((n0 : Nat) : Int)) (K (.int .i64 (173 : Int))) <|
  loopW (Int × Unit) ((0 : Int), ()) fun (y3 : Int × Unit) (I2 : (Int × Unit) → WP) =>
  splitW (decide (y3.1 < ((n1 : Nat) : Int))) (drewW <|
  guardW (0 ≤ y3.1 ∧ y3.1 < ((n0 : Nat) : Int)) <|
  ptrW a0 fun (p4 : Addr) =>
  ldAW [.str, (.int .i64), .bool] (p4.add (Int.toNat y3.1 * 3)) fun (u5 : (ByteArray × Int × Bool × Unit)) =>
  guardW (0 ≤ y3.1 ∧ y3.1 < ((n1 : Nat) : Int)) <|
  ptrW a1 fun (p6 : Addr) =>
  ldAW [(.int .i64), (.int .i64), .str] (p6.add (Int.toNat y3.1 * 3)) fun (u7 : (Int × Int × ByteArray × Unit)) =>
  callW Try.prog 43 [(.agg #[(.string u5.1), (.int .i64 u5.2.1), (.bool u5.2.2.1)]), (.agg #[(.int .i64 u7.1), (.int .i64 u7.2.1), (.string u7.2.2.1)])] (.one (.one (.int .i64))) fun (u8 : Int) =>
  splitW (u8 != (0 : Int)) (K (.int .i64 u8)) <| I2 ((IntKind.wrap .i64 (y3.1 + (1 : Int))), ())) <| K (.int .i64 (0 : Int))
theorem eq35 (a0 : Option Addr) (n0 c0 : Nat) (a1 : Option Addr) (n1 c1 : Nat) (K : Value → WP) : bodyW Try.prog Try.f35 an35 false [(.slice a0 n0 c0), (.slice a1 n1 c1)] K = S35 a0 n0 c0 a1 n1 c1 K := by kernel_rfl
theorem calls35 (a0 : Option Addr) (n0 c0 : Nat) (a1 : Option Addr) (n1 c1 : Nat) {K : Value → WP} {w : World} (h : S35 a0 n0 c0 a1 n1 c1 K w) : Calls Try.prog 35 #[(.slice a0 n0 c0), (.slice a1 n1 c1)] w (Ret K) := callsR_of_bodyW mixed Try.func35 (of_decide_eq_true (by kernel_rfl)) (by rw [eq35]; exact h)

/-- shadowbook/shadowbookref17.Pick -/
def an36 : Ann := (.seq .nil (.seq .nil (.seq (.seq .nil (.block (.loop [(5, .sh (.one .slc)), (6, .sh (.one (.int .i64)))] [0, 1, 1000000] (.seq (.seq .nil (.cond .nil .nil)) (.seq (.block (.seq .nil (.seq (.seq .nil (.cond .nil .nil)) .nil))) .nil))))) (.seq .nil .nil))))
def S36 (a0 : Option Addr) (n0 c0 : Nat) (a1 : Option Addr) (n1 c1 : Nat) (K : Value → WP) : WP := 
  loopW ((Option Addr × Nat × Nat) × Int × Unit) ((none, 0, 0), (0 : Int), ()) fun (y2 : (Option Addr × Nat × Nat) × Int × Unit) (I1 : ((Option Addr × Nat × Nat) × Int × Unit) → WP) =>
  splitW (decide (y2.2.1 < ((n1 : Nat) : Int))) (newW (.cells #[(.int .i64 (0 : Int)), (.int .i64 (0 : Int)), (.string ByteArray.empty)] 44) fun (r3 : Nat) =>
  guardW ((#[(.int .i64 (0 : Int)), (.int .i64 (0 : Int)), (.string ByteArray.empty)] : Array Value).size = 3) <|
  stAW (⟨r3, 0, none⟩ : Addr) [(.int .i64 (0 : Int)), (.int .i64 (0 : Int)), (.string ByteArray.empty)] <|
  guardW (0 ≤ y2.2.1 ∧ y2.2.1 < ((n1 : Nat) : Int)) <|
  ptrW a1 fun (p4 : Addr) =>
  ldW (.int .i64) (p4.add (Int.toNat y2.2.1 * 1)) fun (u5 : Int) =>
  splitW (decide (u5 ≥ (0 : Int))) (guardW (0 ≤ y2.2.1 ∧ y2.2.1 < ((n1 : Nat) : Int)) <|
  ptrW a1 fun (p6 : Addr) =>
  ldW (.int .i64) (p6.add (Int.toNat y2.2.1 * 1)) fun (u7 : Int) =>
  splitW (decide (u7 < ((n0 : Nat) : Int))) (guardW (0 ≤ y2.2.1 ∧ y2.2.1 < ((n1 : Nat) : Int)) <|
  ptrW a1 fun (p8 : Addr) =>
  ldW (.int .i64) (p8.add (Int.toNat y2.2.1 * 1)) fun (u9 : Int) =>
  guardW (0 ≤ u9 ∧ u9 < ((n0 : Nat) : Int)) <|
  ptrW a0 fun (p10 : Addr) =>
  ldAW [(.int .i64), (.int .i64), .str] (p10.add (Int.toNat u9 * 3)) fun (u11 : (Int × Int × ByteArray × Unit)) =>
  guardW ((#[(.int .i64 u11.1), (.int .i64 u11.2.1), (.string u11.2.2.1)] : Array Value).size = 3) <|
  stAW (⟨r3, 0, none⟩ : Addr) [(.int .i64 u11.1), (.int .i64 u11.2.1), (.string u11.2.2.1)] <|
  ldAW [(.int .i64), (.int .i64), .str] (⟨r3, 0, none⟩ : Addr) fun (u12 : (Int × Int × ByteArray × Unit)) =>
  newW (.cells #[(.int .i64 u12.1), (.int .i64 u12.2.1), (.string u12.2.2.1)] 44) fun (r13 : Nat) =>
  runW Try.prog (Builtin.append_ #[40, 40] 40 #[(.slice y2.1.1 y2.1.2.1 y2.1.2.2), (.slice (some (⟨r13, 0, none⟩ : Addr)) 1 1)]) .slc fun (u14 : (Option Addr × Nat × Nat)) => I1 ((u14.1, u14.2.1, u14.2.2), (IntKind.wrap .i64 (y2.2.1 + (1 : Int))), ())) <|
  ldAW [(.int .i64), (.int .i64), .str] (⟨r3, 0, none⟩ : Addr) fun (u15 : (Int × Int × ByteArray × Unit)) =>
  newW (.cells #[(.int .i64 u15.1), (.int .i64 u15.2.1), (.string u15.2.2.1)] 44) fun (r16 : Nat) =>
  runW Try.prog (Builtin.append_ #[40, 40] 40 #[(.slice y2.1.1 y2.1.2.1 y2.1.2.2), (.slice (some (⟨r16, 0, none⟩ : Addr)) 1 1)]) .slc fun (u17 : (Option Addr × Nat × Nat)) => I1 ((u17.1, u17.2.1, u17.2.2), (IntKind.wrap .i64 (y2.2.1 + (1 : Int))), ())) <|
  ldAW [(.int .i64), (.int .i64), .str] (⟨r3, 0, none⟩ : Addr) fun (u18 : (Int × Int × ByteArray × Unit)) =>
  newW (.cells #[(.int .i64 u18.1), (.int .i64 u18.2.1), (.string u18.2.2.1)] 44) fun (r19 : Nat) =>
  runW Try.prog (Builtin.append_ #[40, 40] 40 #[(.slice y2.1.1 y2.1.2.1 y2.1.2.2), (.slice (some (⟨r19, 0, none⟩ : Addr)) 1 1)]) .slc fun (u20 : (Option Addr × Nat × Nat)) => I1 ((u20.1, u20.2.1, u20.2.2), (IntKind.wrap .i64 (y2.2.1 + (1 : Int))), ())) <| K (.slice y2.1.1 y2.1.2.1 y2.1.2.2)
theorem eq36 (a0 : Option Addr) (n0 c0 : Nat) (a1 : Option Addr) (n1 c1 : Nat) (K : Value → WP) : bodyW Try.prog Try.f36 an36 false [(.slice a0 n0 c0), (.slice a1 n1 c1)] K = S36 a0 n0 c0 a1 n1 c1 K := by kernel_rfl
theorem calls36 (a0 : Option Addr) (n0 c0 : Nat) (a1 : Option Addr) (n1 c1 : Nat) {K : Value → WP} {w : World} (h : S36 a0 n0 c0 a1 n1 c1 K w) : Calls Try.prog 36 #[(.slice a0 n0 c0), (.slice a1 n1 c1)] w (Ret K) := callsR_of_bodyW mixed Try.func36 (of_decide_eq_true (by kernel_rfl)) (by rw [eq36]; exact h)

/-- slices.ContainsFunc[[]shadowbook/api.Col,shadowbook/api.Col] -/
def an37 : Ann := (.seq .nil (.seq .nil .nil))
def S37 (a0 : Option Addr) (n0 c0 : Nat) (x1 : Value) (K : Value → WP) : WP := 
  callW Try.prog 39 [(.slice a0 n0 c0), x1] (.one (.one (.int .i64))) fun (u1 : Int) => K (.bool (decide (u1 ≥ (0 : Int))))
theorem eq37 (a0 : Option Addr) (n0 c0 : Nat) (x1 : Value) (K : Value → WP) : bodyW Try.prog Try.f37 an37 false [(.slice a0 n0 c0), x1] K = S37 a0 n0 c0 x1 K := by kernel_rfl
theorem calls37 (a0 : Option Addr) (n0 c0 : Nat) (x1 : Value) {K : Value → WP} {w : World} (h : S37 a0 n0 c0 x1 K w) : Calls Try.prog 37 #[(.slice a0 n0 c0), x1] w (Ret K) := callsR_of_bodyW mixed Try.func37 (of_decide_eq_true (by kernel_rfl)) (by rw [eq37]; exact h)

/-- shadowbook/schema.Check$1 -/
def an38 : Ann := (.seq .nil (.seq .nil .nil))
def S38 (x0_0 : ByteArray) (x0_1 : Int) (x0_2 : Bool) (a1 : Addr) (K : Value → WP) : WP := 
  newW (.cells #[(.string x0_0), (.int .i64 x0_1), (.bool x0_2)] 31) fun (r1 : Nat) =>
  ldW .str (⟨r1, 0, none⟩ : Addr) fun (u2 : ByteArray) =>
  ldW .str a1 fun (u3 : ByteArray) => K (.bool (u2.toList == u3.toList))
theorem eq38 (x0_0 : ByteArray) (x0_1 : Int) (x0_2 : Bool) (a1 : Addr) (K : Value → WP) : bodyW Try.prog Try.f38 an38 false [(.agg #[(.string x0_0), (.int .i64 x0_1), (.bool x0_2)]), (.pointer (some a1))] K = S38 x0_0 x0_1 x0_2 a1 K := by kernel_rfl
theorem calls38 (x0_0 : ByteArray) (x0_1 : Int) (x0_2 : Bool) (a1 : Addr) {K : Value → WP} {w : World} (h : S38 x0_0 x0_1 x0_2 a1 K w) : Calls Try.prog 38 #[(.agg #[(.string x0_0), (.int .i64 x0_1), (.bool x0_2)]), (.pointer (some a1))] w (Ret K) := callsR_of_bodyW mixed Try.func38 (of_decide_eq_true (by kernel_rfl)) (by rw [eq38]; exact h)

/-- slices.IndexFunc[[]shadowbook/api.Col,shadowbook/api.Col] -/
def an39 : Ann := (.seq .nil (.seq (.seq .nil (.block (.loop [(8, .sh (.one (.int .i64)))] [0, 1, 7, 1000000] (.seq .nil (.seq (.cond .nil .nil) (.seq (.block (.seq .nil (.seq .nil (.cond (.seq .nil .nil) .nil)))) .nil)))))) (.seq .nil .nil)))
def S39 (a0 : Option Addr) (n0 c0 : Nat) (x1 : Value) (K : Value → WP) : WP := 
  loopW (Int × Unit) ((0 : Int), ()) fun (y2 : Int × Unit) (I1 : (Int × Unit) → WP) =>
  splitW (decide (y2.1 < ((n0 : Nat) : Int))) (guardW (0 ≤ y2.1 ∧ y2.1 < ((n0 : Nat) : Int)) <|
  ptrW a0 fun (p3 : Addr) =>
  ldAW [.str, (.int .i64), .bool] (p3.add (Int.toNat y2.1 * 3)) fun (u4 : (ByteArray × Int × Bool × Unit)) =>
  callVW Try.prog x1 [(.agg #[(.string u4.1), (.int .i64 u4.2.1), (.bool u4.2.2.1)])] (.one (.one .bool)) fun (u5 : Bool) =>
  splitW u5 (K (.int .i64 y2.1)) <| I1 ((IntKind.wrap .i64 (y2.1 + (1 : Int))), ())) <| K (.int .i64 (-1 : Int))
theorem eq39 (a0 : Option Addr) (n0 c0 : Nat) (x1 : Value) (K : Value → WP) : bodyW Try.prog Try.f39 an39 false [(.slice a0 n0 c0), x1] K = S39 a0 n0 c0 x1 K := by kernel_rfl
theorem calls39 (a0 : Option Addr) (n0 c0 : Nat) (x1 : Value) {K : Value → WP} {w : World} (h : S39 a0 n0 c0 x1 K w) : Calls Try.prog 39 #[(.slice a0 n0 c0), x1] w (Ret K) := callsR_of_bodyW mixed Try.func39 (of_decide_eq_true (by kernel_rfl)) (by rw [eq39]; exact h)

/-- shadowbook/schema.Find$1 -/
def an40 : Ann := (.seq .nil (.seq .nil .nil))
def S40 (x0_0 : ByteArray) (x0_1 : Int) (x0_2 : Bool) (a1 : Addr) (K : Value → WP) : WP := 
  newW (.cells #[(.string x0_0), (.int .i64 x0_1), (.bool x0_2)] 31) fun (r1 : Nat) =>
  ldW .str (⟨r1, 0, none⟩ : Addr) fun (u2 : ByteArray) =>
  ldW .str a1 fun (u3 : ByteArray) => K (.bool (u2.toList == u3.toList))
theorem eq40 (x0_0 : ByteArray) (x0_1 : Int) (x0_2 : Bool) (a1 : Addr) (K : Value → WP) : bodyW Try.prog Try.f40 an40 false [(.agg #[(.string x0_0), (.int .i64 x0_1), (.bool x0_2)]), (.pointer (some a1))] K = S40 x0_0 x0_1 x0_2 a1 K := by kernel_rfl
theorem calls40 (x0_0 : ByteArray) (x0_1 : Int) (x0_2 : Bool) (a1 : Addr) {K : Value → WP} {w : World} (h : S40 x0_0 x0_1 x0_2 a1 K w) : Calls Try.prog 40 #[(.agg #[(.string x0_0), (.int .i64 x0_1), (.bool x0_2)]), (.pointer (some a1))] w (Ret K) := callsR_of_bodyW mixed Try.func40 (of_decide_eq_true (by kernel_rfl)) (by rw [eq40]; exact h)

/-- shadowbook/schema.col -/
def an41 : Ann := (.seq .nil (.seq (.seq .nil (.cond (.seq .nil .nil) .nil)) (.seq .nil (.seq .nil .nil))))
def S41 (x0 : ByteArray) (K : Value → WP) : WP := 
  newW (.cells #[(.string ByteArray.empty), (.int .i64 (0 : Int)), (.bool false)] 31) fun (r1 : Nat) =>
  splitW (decide (((x0.size : Nat) : Int) < (2 : Int))) (guardW ((#[(.string ByteArray.empty), (.int .i64 (0 : Int)), (.bool false)] : Array Value).size = 3) <|
  stAW (⟨r1, 0, none⟩ : Addr) [(.string ByteArray.empty), (.int .i64 (0 : Int)), (.bool false)] <|
  ldAW [.str, (.int .i64), .bool] (⟨r1, 0, none⟩ : Addr) fun (u2 : (ByteArray × Int × Bool × Unit)) => K (.tuple #[(.agg #[(.string u2.1), (.int .i64 u2.2.1), (.bool u2.2.2.1)]), (.string (ByteArray.mk #[])), (.bool false)])) <|
  guardW (0 ≤ (1 : Int) ∧ (1 : Int) < ((x0.size : Nat) : Int)) <|
  splitW (decide ((IntKind.wrap .i64 (((x0.size : Nat) : Int) - (2 : Int))) < (IntKind.wrap .i64 (bt x0 (1 : Int))))) (guardW ((#[(.string ByteArray.empty), (.int .i64 (0 : Int)), (.bool false)] : Array Value).size = 3) <|
  stAW (⟨r1, 0, none⟩ : Addr) [(.string ByteArray.empty), (.int .i64 (0 : Int)), (.bool false)] <|
  ldAW [.str, (.int .i64), .bool] (⟨r1, 0, none⟩ : Addr) fun (u3 : (ByteArray × Int × Bool × Unit)) => K (.tuple #[(.agg #[(.string u3.1), (.int .i64 u3.2.1), (.bool u3.2.2.1)]), (.string (ByteArray.mk #[])), (.bool false)])) <|
  guardW (0 ≤ (1 : Int) ∧ (1 : Int) < ((x0.size : Nat) : Int)) <|
  drewW <|
  guardW (0 ≤ (2 : Int) ∧ (2 : Int) ≤ (IntKind.wrap .i64 ((2 : Int) + (IntKind.wrap .i64 (bt x0 (1 : Int))))) ∧ (IntKind.wrap .i64 ((2 : Int) + (IntKind.wrap .i64 (bt x0 (1 : Int))))) ≤ ((x0.size : Nat) : Int)) <|
  guardW (0 ≤ (0 : Int) ∧ (0 : Int) < ((x0.size : Nat) : Int)) <|
  guardW (0 ≤ (0 : Int) ∧ (0 : Int) < ((x0.size : Nat) : Int)) <|
  guardW (0 ≤ (IntKind.wrap .i64 ((2 : Int) + (IntKind.wrap .i64 (bt x0 (1 : Int))))) ∧ (IntKind.wrap .i64 ((2 : Int) + (IntKind.wrap .i64 (bt x0 (1 : Int))))) ≤ ((x0.size : Nat) : Int)) <|
  guardW ((#[(.string (ByteArray.extract x0 (Int.toNat (2 : Int)) (Int.toNat (IntKind.wrap .i64 ((2 : Int) + (IntKind.wrap .i64 (bt x0 (1 : Int)))))))), (.int .i64 (IntKind.wrap .i64 (iandn .u8 (bt x0 (0 : Int)) (128 : Int)))), (.bool ((iand .u8 (bt x0 (0 : Int)) (128 : Int)) != (0 : Int)))] : Array Value).size = 3) <|
  stAW (⟨r1, 0, none⟩ : Addr) [(.string (ByteArray.extract x0 (Int.toNat (2 : Int)) (Int.toNat (IntKind.wrap .i64 ((2 : Int) + (IntKind.wrap .i64 (bt x0 (1 : Int)))))))), (.int .i64 (IntKind.wrap .i64 (iandn .u8 (bt x0 (0 : Int)) (128 : Int)))), (.bool ((iand .u8 (bt x0 (0 : Int)) (128 : Int)) != (0 : Int)))] <|
  ldAW [.str, (.int .i64), .bool] (⟨r1, 0, none⟩ : Addr) fun (u4 : (ByteArray × Int × Bool × Unit)) => K (.tuple #[(.agg #[(.string u4.1), (.int .i64 u4.2.1), (.bool u4.2.2.1)]), (.string (ByteArray.extract x0 (Int.toNat (IntKind.wrap .i64 ((2 : Int) + (IntKind.wrap .i64 (bt x0 (1 : Int)))))) x0.size)), (.bool true)])
theorem eq41 (x0 : ByteArray) (K : Value → WP) : bodyW Try.prog Try.f41 an41 false [(.string x0)] K = S41 x0 K := by kernel_rfl
theorem calls41 (x0 : ByteArray) {K : Value → WP} {w : World} (h : S41 x0 K w) : Calls Try.prog 41 #[(.string x0)] w (Ret K) := callsR_of_bodyW mixed Try.func41 (of_decide_eq_true (by kernel_rfl)) (by rw [eq41]; exact h)

/-- shadowbook/schema.Fits -/
def an42 : Ann := (.seq .nil (.seq (.seq .nil (.seq .nil (.cond (.seq .nil .nil) .nil))) (.seq (.seq .nil (.cond (.seq .nil .nil) .nil)) (.seq .nil .nil))))
def S42 (x0_0 : ByteArray) (x0_1 : Int) (x0_2 : Bool) (x1_0 : Int) (x1_1 : Int) (x1_2 : ByteArray) (K : Value → WP) : WP := 
  newW (.cells #[(.string x0_0), (.int .i64 x0_1), (.bool x0_2)] 31) fun (r1 : Nat) =>
  newW (.cells #[(.int .i64 x1_0), (.int .i64 x1_1), (.string x1_2)] 44) fun (r2 : Nat) =>
  ldAW [(.int .i64), (.int .i64), .str] (⟨r2, 0, none⟩ : Addr) fun (u3 : (Int × Int × ByteArray × Unit)) =>
  callW Try.prog 44 [(.agg #[(.int .i64 u3.1), (.int .i64 u3.2.1), (.string u3.2.2.1)])] (.one (.one (.int .i64))) fun (u4 : Int) =>
  splitW (u4 != (0 : Int)) (K (.int .i64 u4)) <|
  ldW (.int .i64) (⟨r2, 0, none⟩ : Addr) fun (u5 : Int) =>
  ldW (.int .i64) ((⟨r1, 0, none⟩ : Addr).add 1) fun (u6 : Int) =>
  splitW (u5 == u6) (K (.int .i64 (0 : Int))) <|
  ldW (.int .i64) (⟨r2, 0, none⟩ : Addr) fun (u7 : Int) =>
  splitW (u7 == (0 : Int)) (ldW .bool ((⟨r1, 0, none⟩ : Addr).add 2) fun (u8 : Bool) =>
  splitW u8 (K (.int .i64 (0 : Int))) <| K (.int .i64 (173 : Int))) <| K (.int .i64 (173 : Int))
theorem eq42 (x0_0 : ByteArray) (x0_1 : Int) (x0_2 : Bool) (x1_0 : Int) (x1_1 : Int) (x1_2 : ByteArray) (K : Value → WP) : bodyW Try.prog Try.f42 an42 false [(.agg #[(.string x0_0), (.int .i64 x0_1), (.bool x0_2)]), (.agg #[(.int .i64 x1_0), (.int .i64 x1_1), (.string x1_2)])] K = S42 x0_0 x0_1 x0_2 x1_0 x1_1 x1_2 K := by kernel_rfl
theorem calls42 (x0_0 : ByteArray) (x0_1 : Int) (x0_2 : Bool) (x1_0 : Int) (x1_1 : Int) (x1_2 : ByteArray) {K : Value → WP} {w : World} (h : S42 x0_0 x0_1 x0_2 x1_0 x1_1 x1_2 K w) : Calls Try.prog 42 #[(.agg #[(.string x0_0), (.int .i64 x0_1), (.bool x0_2)]), (.agg #[(.int .i64 x1_0), (.int .i64 x1_1), (.string x1_2)])] w (Ret K) := callsR_of_bodyW mixed Try.func42 (of_decide_eq_true (by kernel_rfl)) (by rw [eq42]; exact h)

/-- shadowbook/shadowbookref17.Cell -/
def an43 : Ann := (.seq .nil (.seq .nil (.seq (.seq .nil (.cond (.seq .nil .nil) .nil)) (.seq (.seq .nil (.cond (.seq .nil .nil) .nil)) (.seq .nil .nil)))))
def S43 (x0_0 : ByteArray) (x0_1 : Int) (x0_2 : Bool) (x1_0 : Int) (x1_1 : Int) (x1_2 : ByteArray) (K : Value → WP) : WP := 
  newW (.cells #[(.string x0_0), (.int .i64 x0_1), (.bool x0_2)] 31) fun (r1 : Nat) =>
  newW (.cells #[(.int .i64 x1_0), (.int .i64 x1_1), (.string x1_2)] 44) fun (r2 : Nat) =>
  ldAW [(.int .i64), (.int .i64), .str] (⟨r2, 0, none⟩ : Addr) fun (u3 : (Int × Int × ByteArray × Unit)) =>
  callW Try.prog 18 [(.agg #[(.int .i64 u3.1), (.int .i64 u3.2.1), (.string u3.2.2.1)])] (.one (.one (.int .i64))) fun (u4 : Int) =>
  splitW (u4 != (0 : Int)) (K (.int .i64 u4)) <|
  ldW (.int .i64) (⟨r2, 0, none⟩ : Addr) fun (u5 : Int) =>
  ldW (.int .i64) ((⟨r1, 0, none⟩ : Addr).add 1) fun (u6 : Int) =>
  splitW (u5 != u6) (ldW (.int .i64) (⟨r2, 0, none⟩ : Addr) fun (u7 : Int) =>
  splitW (u7 == (0 : Int)) (ldW .bool ((⟨r1, 0, none⟩ : Addr).add 2) fun (u8 : Bool) =>
  splitW (!u8) (K (.int .i64 (173 : Int))) <| K (.int .i64 (0 : Int))) <| K (.int .i64 (173 : Int))) <| K (.int .i64 (0 : Int))
theorem eq43 (x0_0 : ByteArray) (x0_1 : Int) (x0_2 : Bool) (x1_0 : Int) (x1_1 : Int) (x1_2 : ByteArray) (K : Value → WP) : bodyW Try.prog Try.f43 an43 false [(.agg #[(.string x0_0), (.int .i64 x0_1), (.bool x0_2)]), (.agg #[(.int .i64 x1_0), (.int .i64 x1_1), (.string x1_2)])] K = S43 x0_0 x0_1 x0_2 x1_0 x1_1 x1_2 K := by kernel_rfl
theorem calls43 (x0_0 : ByteArray) (x0_1 : Int) (x0_2 : Bool) (x1_0 : Int) (x1_1 : Int) (x1_2 : ByteArray) {K : Value → WP} {w : World} (h : S43 x0_0 x0_1 x0_2 x1_0 x1_1 x1_2 K w) : Calls Try.prog 43 #[(.agg #[(.string x0_0), (.int .i64 x0_1), (.bool x0_2)]), (.agg #[(.int .i64 x1_0), (.int .i64 x1_1), (.string x1_2)])] w (Ret K) := callsR_of_bodyW mixed Try.func43 (of_decide_eq_true (by kernel_rfl)) (by rw [eq43]; exact h)

/-- shadowbook/value.Check -/
def an44 : Ann := (.seq .nil (.seq .nil (.join [(3, .sh (.one .bool))] [1000000] (.seq .nil (.block (.seq .nil (.cond .nil (.seq .nil (.cond .nil (.seq .nil (.cond .nil (.seq .nil (.cond .nil .nil)))))))))) (.seq (.seq .nil (.cond (.seq .nil .nil) .nil)) (.seq .nil .nil)))))
def S44 (x0_0 : Int) (x0_1 : Int) (x0_2 : ByteArray) (K : Value → WP) : WP := 
  newW (.cells #[(.int .i64 x0_0), (.int .i64 x0_1), (.string x0_2)] 44) fun (r1 : Nat) =>
  joinW (Bool × Unit) (fun (J2 : (Bool × Unit) → WP) =>
  ldW (.int .i64) (⟨r1, 0, none⟩ : Addr) fun (u4 : Int) =>
  splitW (u4 == (0 : Int)) (ldAW [(.int .i64), (.int .i64), .str] (⟨r1, 0, none⟩ : Addr) fun (u5 : (Int × Int × ByteArray × Unit)) =>
  eqW Try.prog (eqS .eql 44 (.tmp 8) (.tmp 9) (.agg #[(.int .i64 u5.1), (.int .i64 u5.2.1), (.string u5.2.2.1)]) (.agg #[(.int .i64 (0 : Int)), (.int .i64 (0 : Int)), (.string ByteArray.empty)])) fun (b6 : Bool) => J2 (b6, ())) <|
  splitW (u4 == (1 : Int)) (ldW .str ((⟨r1, 0, none⟩ : Addr).add 2) fun (u7 : ByteArray) => J2 ((u7.toList == (ByteArray.mk #[]).toList), ())) <|
  splitW (u4 == (2 : Int)) (ldW .str ((⟨r1, 0, none⟩ : Addr).add 2) fun (u8 : ByteArray) =>
  splitW (u8.toList == (ByteArray.mk #[]).toList) (ldW (.int .i64) ((⟨r1, 0, none⟩ : Addr).add 1) fun (u9 : Int) => J2 (((iandn .i64 u9 (1 : Int)) == (0 : Int)), ())) <| J2 (false, ())) <|
  splitW (u4 == (3 : Int)) (ldW (.int .i64) ((⟨r1, 0, none⟩ : Addr).add 1) fun (u10 : Int) =>
  splitW (u10 == (0 : Int)) (ldW .str ((⟨r1, 0, none⟩ : Addr).add 2) fun (u11 : ByteArray) => J2 ((decide (((u11.size : Nat) : Int) ≤ (256 : Int))), ())) <| J2 (false, ())) <| J2 (false, ())) fun (y3 : Bool × Unit) =>
  splitW (!y3.1) (K (.int .i64 (160 : Int))) <| K (.int .i64 (0 : Int))
theorem eq44 (x0_0 : Int) (x0_1 : Int) (x0_2 : ByteArray) (K : Value → WP) : bodyW Try.prog Try.f44 an44 false [(.agg #[(.int .i64 x0_0), (.int .i64 x0_1), (.string x0_2)])] K = S44 x0_0 x0_1 x0_2 K := by kernel_rfl
theorem calls44 (x0_0 : Int) (x0_1 : Int) (x0_2 : ByteArray) {K : Value → WP} {w : World} (h : S44 x0_0 x0_1 x0_2 K w) : Calls Try.prog 44 #[(.agg #[(.int .i64 x0_0), (.int .i64 x0_1), (.string x0_2)])] w (Ret K) := callsR_of_bodyW mixed Try.func44 (of_decide_eq_true (by kernel_rfl)) (by rw [eq44]; exact h)

end Go.Proofs.Ytiihdgodghaobaa.V
