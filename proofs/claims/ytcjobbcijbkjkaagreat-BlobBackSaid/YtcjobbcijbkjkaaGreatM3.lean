/- Texts of mine, merged (wip/tool/merge.py): S. -/
import Derived.Test.YtcjobbcijbkjkaaGreatM1
import Derived.Test.YtcjobbcijbkjkaaGreatChecked
/- The shallow forms of the functions, by a program of mine (wip/tool/gen.py). -/
set_option linter.unusedVariables false
set_option maxRecDepth 100000
namespace Go.Proofs.YtcjobbcijbkjkaaGreat.V
open Go Go.Proofs
theorem mixed : Tryz.prog.follows .mixedOrders = true := by kernel_rfl

/-- shadowbook/shadowbooklaw15.BlobNames -/
def an3 : Ann := (.seq .nil (.seq (.seq .nil (.cond (.seq .nil .nil) .nil)) (.seq .nil (.seq .nil (.seq .nil (.seq .nil (.seq .nil (.seq .nil (.seq .nil (.seq .nil (.seq .nil (.seq .nil (.seq .nil (.seq .nil (.seq .nil (.seq .nil (.seq (.seq .nil (.block (.loop [(27, .sh (.one (.int .i64)))] [2, 4, 5, 6, 7, 8, 12, 16, 18, 20, 23, 24, 26, 1000000] (.seq (.seq .nil (.cond .nil .nil)) (.seq (.block .nil) .nil))))) (.join [(0, .sh (.one .bool))] [1000000] .nil .nil))))))))))))))))))
def S3  (K : Value → WP) : WP := 
  callW Tryz.prog 7 [] (.one (.one .bool)) fun (u1 : Bool) =>
  splitW (!u1) (K (.bool false)) <|
  callW Tryz.prog 9 [] (.one (.agg [(.int .i64), (.int .i64)])) fun (u2 : (Int × Int × Unit)) =>
  callW Tryz.prog 8 [(.agg #[(.int .i64 u2.1), (.int .i64 u2.2.1)])] (.many [(.one .ptr), (.one .ptr)]) fun (u3 : Option Addr × Option Addr × Unit) =>
  callW Tryz.prog 10 [(.pointer u3.2.1), (.string (ByteArray.mk #[]))] (.many [(.one (.int .u32)), (.one (.int .i64))]) fun (u4 : Int × Int × Unit) =>
  callW Tryz.prog 11 [(.pointer u3.2.1), (.int .u32 u4.1)] (.many [(.one .str), (.one (.int .i64))]) fun (u5 : ByteArray × Int × Unit) =>
  callW Tryz.prog 12 [(.pointer u3.2.1), (.int .u32 u4.1)] (.many [(.one (.int .i64)), (.one (.int .i64))]) fun (u6 : Int × Int × Unit) =>
  callW Tryz.prog 13 [(.pointer u3.2.1), (.agg #[(.int .u8 (9 : Int)), (.slice none 0 0), (.string ByteArray.empty)])] (.many [(.one (.int .u32)), (.one (.int .i64))]) fun (u7 : Int × Int × Unit) =>
  callW Tryz.prog 11 [(.pointer u3.2.1), (.int .u32 u7.1)] (.many [(.one .str), (.one (.int .i64))]) fun (u8 : ByteArray × Int × Unit) =>
  callW Tryz.prog 13 [(.pointer u3.2.1), (.agg #[(.int .u8 (6 : Int)), (.slice none 0 0), (.string (ByteArray.mk #[5, 0, 0, 0]))])] (.many [(.one (.int .u32)), (.one (.int .i64))]) fun (u9 : Int × Int × Unit) =>
  callW Tryz.prog 11 [(.pointer u3.2.1), (.int .u32 u9.1)] (.many [(.one .str), (.one (.int .i64))]) fun (u10 : ByteArray × Int × Unit) =>
  callW Tryz.prog 15 [(.pointer u3.2.1)] (.one (.one (.int .i64))) fun (u11 : Int) =>
  callW Tryz.prog 14 [(.string (ByteArray.mk #[97])), (.int .i64 (IntKind.wrap .i64 (u11 + (1 : Int))))] (.one (.one .str)) fun (u12 : ByteArray) =>
  callW Tryz.prog 10 [(.pointer u3.2.1), (.string u12)] (.many [(.one (.int .u32)), (.one (.int .i64))]) fun (u13 : Int × Int × Unit) =>
  callW Tryz.prog 11 [(.pointer u3.2.1), (.int .u32 (39 : Int))] (.many [(.one .str), (.one (.int .i64))]) fun (u14 : ByteArray × Int × Unit) =>
  callW Tryz.prog 16 [(.pointer u3.2.1)] (.one (.one (.int .i64))) fun (u15 : Int) =>
  callW Tryz.prog 14 [(.string (ByteArray.mk #[97])), (.int .i64 (2860 : Int))] (.one (.one .str)) fun (u16 : ByteArray) =>
  callW Tryz.prog 10 [(.pointer u3.2.1), (.string u16)] (.many [(.one (.int .u32)), (.one (.int .i64))]) fun (u17 : Int × Int × Unit) =>
  callW Tryz.prog 16 [(.pointer u3.2.1)] (.one (.one (.int .i64))) fun (u18 : Int) =>
  callW Tryz.prog 14 [(.string (ByteArray.mk #[97])), (.int .i64 (2860 : Int))] (.one (.one .str)) fun (u19 : ByteArray) =>
  callW Tryz.prog 10 [(.pointer u3.2.1), (.string u19)] (.many [(.one (.int .u32)), (.one (.int .i64))]) fun (u20 : Int × Int × Unit) =>
  loopW (Int × Unit) ((0 : Int), ()) fun (y22 : Int × Unit) (I21 : (Int × Unit) → WP) =>
  splitW (decide (y22.1 < (8 : Int))) (callW Tryz.prog 10 [(.pointer u3.2.1), (.string (ByteArray.mk #[97, 98, 99]))] (.many [(.one (.int .u32)), (.one (.int .i64))]) fun (u23 : Int × Int × Unit) => I21 ((IntKind.wrap .i64 (y22.1 + (1 : Int))), ())) <|
  joinW (Bool × Unit) (fun (J24 : (Bool × Unit) → WP) =>
  splitW (u4.2.1 == (0 : Int)) (splitW (u5.2.1 == (0 : Int)) (splitW (u5.1.toList == (ByteArray.mk #[]).toList) (splitW (u6.2.1 == (0 : Int)) (splitW (u6.1 == (0 : Int)) (splitW (u8.2.1 == (11 : Int)) (splitW (u10.2.1 == (10 : Int)) (splitW (u13.2.1 == (3 : Int)) (splitW (u14.2.1 == (8 : Int)) (callW Tryz.prog 15 [(.pointer u3.2.1)] (.one (.one (.int .i64))) fun (u26 : Int) =>
  splitW (u26 == (2860 : Int)) (splitW (u17.2.1 == (0 : Int)) (splitW (!(u15 == u18)) (J24 ((u20.2.1 == (9 : Int)), ())) <| J24 (false, ())) <| J24 (false, ())) <| J24 (false, ())) <| J24 (false, ())) <| J24 (false, ())) <| J24 (false, ())) <| J24 (false, ())) <| J24 (false, ())) <| J24 (false, ())) <| J24 (false, ())) <| J24 (false, ())) <| J24 (false, ())) fun (y25 : Bool × Unit) => K (.bool y25.1)
theorem eq3  (K : Value → WP) : bodyW Tryz.prog Tryz.f3 an3 false [] K = S3  K := by kernel_rfl
theorem calls3  {K : Value → WP} {w : World} (h : S3  K w) : Calls Tryz.prog 3 #[] w (Ret K) := callsR_of_bodyW mixed Tryz.func3 (of_decide_eq_true (by kernel_rfl)) (by rw [eq3]; exact h)

/-- shadowbook/shadowbooklaw15.BlobParts -/
def an4 : Ann := (.seq .nil (.seq (.seq .nil (.cond (.seq .nil .nil) .nil)) (.seq .nil (.seq (.seq .nil (.cond (.seq .nil .nil) .nil)) (.seq .nil (.seq .nil (.seq (.seq .nil (.cond (.seq .nil .nil) .nil)) (.seq (.seq .nil (.block (.loop [(11, .sh (.one (.int .i64)))] [3, 4, 6, 7, 9, 1000000] (.seq (.seq .nil (.cond .nil .nil)) (.seq (.block (.seq .nil (.cond (.seq .nil .nil) .nil))) .nil))))) (.seq .nil (.seq .nil (.seq .nil (.seq (.seq .nil (.cond (.seq .nil .nil) .nil)) (.seq (.seq .nil (.block (.loop [(99, .sh (.one .str))] [2] (.seq .nil (.block (.seq (.seq .nil (.cond .nil .nil)) (.seq (.seq .nil (.cond (.seq .nil .nil) .nil)) .nil))))))) (.seq .nil .nil))))))))))))))
def S4 (x0 : ByteArray) (x1 : Int) (K : Value → WP) : WP := 
  newW (.cells #[(.int .i64 x1)] 3) fun (r1 : Nat) =>
  newW (.cells #[(.bool false)] 4) fun (r2 : Nat) =>
  callW Tryz.prog 7 [] (.one (.one .bool)) fun (u3 : Bool) =>
  splitW (!u3) (stW (⟨r2, 0, none⟩ : Addr) (.bool false) <|
  leaveW Tryz.prog [] <|
  ldW .bool (⟨r2, 0, none⟩ : Addr) fun (u4 : Bool) => K (.bool u4)) <|
  callW Tryz.prog 9 [] (.one (.agg [(.int .i64), (.int .i64)])) fun (u5 : (Int × Int × Unit)) =>
  callW Tryz.prog 8 [(.agg #[(.int .i64 u5.1), (.int .i64 u5.2.1)])] (.many [(.one .ptr), (.one .ptr)]) fun (u6 : Option Addr × Option Addr × Unit) =>
  splitW (decide (((x0.size : Nat) : Int) > (2800 : Int))) (stW (⟨r2, 0, none⟩ : Addr) (.bool (!(Option.isNone u6.2.1))) <|
  leaveW Tryz.prog [] <|
  ldW .bool (⟨r2, 0, none⟩ : Addr) fun (u7 : Bool) => K (.bool u7)) <|
  splitW (Option.isNone u6.2.1) (stW (⟨r2, 0, none⟩ : Addr) (.bool (!(Option.isNone u6.2.1))) <|
  leaveW Tryz.prog [] <|
  ldW .bool (⟨r2, 0, none⟩ : Addr) fun (u8 : Bool) => K (.bool u8)) <|
  callW Tryz.prog 10 [(.pointer u6.2.1), (.string x0)] (.many [(.one (.int .u32)), (.one (.int .i64))]) fun (u9 : Int × Int × Unit) =>
  callW Tryz.prog 17 [(.pointer u6.2.1), (.int .u32 u9.1)] (.many [(.one .slc), (.one .bool)]) fun (u10 : (Option Addr × Nat × Nat) × Bool × Unit) =>
  newW (.cells #[(.slice none 0 0)] 45) fun (r11 : Nat) =>
  stW (⟨r11, 0, none⟩ : Addr) (.slice u10.1.1 u10.1.2.1 u10.1.2.2) <|
  splitW (u9.2.1 != (0 : Int)) (stW (⟨r2, 0, none⟩ : Addr) (.bool false) <|
  leaveW Tryz.prog [] <|
  ldW .bool (⟨r2, 0, none⟩ : Addr) fun (u12 : Bool) => K (.bool u12)) <|
  splitW (!u10.2.1) (stW (⟨r2, 0, none⟩ : Addr) (.bool false) <|
  leaveW Tryz.prog [] <|
  ldW .bool (⟨r2, 0, none⟩ : Addr) fun (u13 : Bool) => K (.bool u13)) <|
  loopW (Int × Unit) ((0 : Int), ()) fun (y15 : Int × Unit) (I14 : (Int × Unit) → WP) =>
  ldW .slc (⟨r11, 0, none⟩ : Addr) fun (u16 : (Option Addr × Nat × Nat)) =>
  splitW (decide (y15.1 < ((u16.2.1 : Nat) : Int))) (drewW <|
  ldW .slc (⟨r11, 0, none⟩ : Addr) fun (u17 : (Option Addr × Nat × Nat)) =>
  guardW (0 ≤ y15.1 ∧ y15.1 < ((u17.2.1 : Nat) : Int)) <|
  ptrW u17.1 fun (p18 : Addr) =>
  ldW .str (p18.add (Int.toNat y15.1 * 1)) fun (u19 : ByteArray) =>
  splitW (decide (((u19.size : Nat) : Int) < (1 : Int))) (stW (⟨r2, 0, none⟩ : Addr) (.bool false) <|
  leaveW Tryz.prog [] <|
  ldW .bool (⟨r2, 0, none⟩ : Addr) fun (u20 : Bool) => K (.bool u20)) <|
  ldW .slc (⟨r11, 0, none⟩ : Addr) fun (u21 : (Option Addr × Nat × Nat)) =>
  guardW (0 ≤ y15.1 ∧ y15.1 < ((u21.2.1 : Nat) : Int)) <|
  ptrW u21.1 fun (p22 : Addr) =>
  ldW .str (p22.add (Int.toNat y15.1 * 1)) fun (u23 : ByteArray) =>
  callW Tryz.prog 18 [(.pointer u6.2.1), (.int .i64 (0 : Int))] (.one (.one (.int .i64))) fun (u24 : Int) =>
  heldW [[((p22.add (Int.toNat y15.1 * 1)), (.string u23))], [((⟨r11, 0, none⟩ : Addr), (.slice u21.1 u21.2.1 u21.2.2))]] <|
  splitW (decide (((u23.size : Nat) : Int) > u24)) (stW (⟨r2, 0, none⟩ : Addr) (.bool false) <|
  leaveW Tryz.prog [] <|
  ldW .bool (⟨r2, 0, none⟩ : Addr) fun (u25 : Bool) => K (.bool u25)) <|
  ldW .slc (⟨r11, 0, none⟩ : Addr) fun (u26 : (Option Addr × Nat × Nat)) =>
  splitW (decide ((IntKind.wrap .i64 (y15.1 + (1 : Int))) < ((u26.2.1 : Nat) : Int))) (ldW .slc (⟨r11, 0, none⟩ : Addr) fun (u27 : (Option Addr × Nat × Nat)) =>
  guardW (0 ≤ y15.1 ∧ y15.1 < ((u27.2.1 : Nat) : Int)) <|
  ptrW u27.1 fun (p28 : Addr) =>
  ldW .str (p28.add (Int.toNat y15.1 * 1)) fun (u29 : ByteArray) =>
  callW Tryz.prog 18 [(.pointer u6.2.1), (.int .i64 (0 : Int))] (.one (.one (.int .i64))) fun (u30 : Int) =>
  heldW [[((p28.add (Int.toNat y15.1 * 1)), (.string u29))], [((⟨r11, 0, none⟩ : Addr), (.slice u27.1 u27.2.1 u27.2.2))]] <|
  splitW (((u29.size : Nat) : Int) != u30) (stW (⟨r2, 0, none⟩ : Addr) (.bool false) <|
  leaveW Tryz.prog [] <|
  ldW .bool (⟨r2, 0, none⟩ : Addr) fun (u31 : Bool) => K (.bool u31)) <| I14 ((IntKind.wrap .i64 (y15.1 + (1 : Int))), ())) <| I14 ((IntKind.wrap .i64 (y15.1 + (1 : Int))), ())) <|
  ldW (.int .i64) (⟨r1, 0, none⟩ : Addr) fun (u32 : Int) =>
  ldW .slc (⟨r11, 0, none⟩ : Addr) fun (u33 : (Option Addr × Nat × Nat)) =>
  callW Tryz.prog 19 [(.int .i64 u32), (.int .i64 (IntKind.wrap .i64 (((u33.2.1 : Nat) : Int) + (1 : Int))))] (.one (.one (.int .i64))) fun (u34 : Int) =>
  stW (⟨r1, 0, none⟩ : Addr) (.int .i64 u34) <|
  newW (.cells #[(.int .i64 (0 : Int))] 3) fun (r35 : Nat) =>
  stW (⟨r35, 0, none⟩ : Addr) (.int .i64 (0 : Int)) <|
  callW Tryz.prog 20 [(.pointer u6.2.1), (.int .u32 u9.1)] (.one (.one .any)) fun (u36 : Value) =>
  eqW Tryz.prog (eqS .eql 51 (.tmp 96) (.const .nilFunc) u36 .nilFunc) fun (b37 : Bool) =>
  splitW b37 (stW (⟨r2, 0, none⟩ : Addr) (.bool false) <|
  leaveW Tryz.prog [] <|
  ldW .bool (⟨r2, 0, none⟩ : Addr) fun (u38 : Bool) => K (.bool u38)) <|
  rangeW Tryz.prog u36 (ByteArray × Unit) (fun (t39 : ByteArray × Unit) => [(.string t39.1)]) (fun (t39 : ByteArray × Unit) (B40 : WP → WP) (N41 : WP) (Q42 : Code → WP) => B40 (ldW (.int .i64) (⟨r35, 0, none⟩ : Addr) fun (u45 : Int) =>
  ldW (.int .i64) (⟨r1, 0, none⟩ : Addr) fun (u46 : Int) =>
  splitW (u45 == u46) (Q42 (.exit 2)) <|
  ldW .slc (⟨r11, 0, none⟩ : Addr) fun (u47 : (Option Addr × Nat × Nat)) =>
  ldW (.int .i64) (⟨r35, 0, none⟩ : Addr) fun (u48 : Int) =>
  guardW (0 ≤ u48 ∧ u48 < ((u47.2.1 : Nat) : Int)) <|
  ptrW u47.1 fun (p49 : Addr) =>
  ldW .str (p49.add (Int.toNat u48 * 1)) fun (u50 : ByteArray) =>
  splitW (!(t39.1.toList == u50.toList)) (stW (⟨r2, 0, none⟩ : Addr) (.bool false) <| Q42 .ret) <|
  ldW (.int .i64) (⟨r35, 0, none⟩ : Addr) fun (u51 : Int) =>
  stW (⟨r35, 0, none⟩ : Addr) (.int .i64 (IntKind.wrap .i64 (u51 + (1 : Int)))) <| N41)) fun (r43 : Nat) (p44 : Option Code) =>
  jumpK (ldW (.int .i64) (⟨r35, 0, none⟩ : Addr) fun (u52 : Int) =>
  ldW (.int .i64) (⟨r1, 0, none⟩ : Addr) fun (u53 : Int) =>
  stW (⟨r2, 0, none⟩ : Addr) (.bool (u52 == u53)) <|
  leaveW Tryz.prog (⟨.collected r43, #[]⟩ :: []) <|
  ldW .bool (⟨r2, 0, none⟩ : Addr) fun (u54 : Bool) => K (.bool u54)) (leaveW Tryz.prog (⟨.collected r43, #[]⟩ :: []) <|
  ldW .bool (⟨r2, 0, none⟩ : Addr) fun (u55 : Bool) => K (.bool u55)) [(2, ldW (.int .i64) (⟨r35, 0, none⟩ : Addr) fun (u56 : Int) =>
  ldW (.int .i64) (⟨r1, 0, none⟩ : Addr) fun (u57 : Int) =>
  stW (⟨r2, 0, none⟩ : Addr) (.bool (u56 == u57)) <|
  leaveW Tryz.prog (⟨.collected r43, #[]⟩ :: []) <|
  ldW .bool (⟨r2, 0, none⟩ : Addr) fun (u58 : Bool) => K (.bool u58))] p44
theorem eq4 (x0 : ByteArray) (x1 : Int) (K : Value → WP) : bodyW Tryz.prog Tryz.f4 an4 true [(.string x0), (.int .i64 x1)] K = S4 x0 x1 K := by kernel_rfl
theorem calls4 (x0 : ByteArray) (x1 : Int) {K : Value → WP} {w : World} (h : S4 x0 x1 K w) : Calls Tryz.prog 4 #[(.string x0), (.int .i64 x1)] w (Ret K) := callsR_of_bodyW mixed Tryz.func4 (of_decide_eq_true (by kernel_rfl)) (by rw [eq4]; exact h)

/-- shadowbook/shadowbooklaw15.BlobApart -/
def an5 : Ann := (.seq .nil (.seq (.seq .nil (.cond (.seq .nil .nil) .nil)) (.seq (.seq .nil (.cond (.seq .nil .nil) .nil)) (.seq .nil (.seq (.seq .nil (.cond (.seq .nil .nil) .nil)) (.seq .nil (.seq .nil (.seq (.join [(72, .sh (.one .bool))] [1, 6, 7, 9, 1000000] .nil (.cond (.seq .nil .nil) .nil)) (.seq .nil (.seq .nil (.seq .nil .nil)))))))))))
def S5 (x0 : ByteArray) (x1 : ByteArray) (K : Value → WP) : WP := 
  callW Tryz.prog 7 [] (.one (.one .bool)) fun (u1 : Bool) =>
  splitW (!u1) (K (.bool false)) <|
  splitW (decide (((x0.size : Nat) : Int) > (1000 : Int))) (K (.bool true)) <|
  splitW (decide (((x1.size : Nat) : Int) > (1000 : Int))) (K (.bool true)) <|
  callW Tryz.prog 9 [] (.one (.agg [(.int .i64), (.int .i64)])) fun (u2 : (Int × Int × Unit)) =>
  callW Tryz.prog 8 [(.agg #[(.int .i64 u2.1), (.int .i64 u2.2.1)])] (.many [(.one .ptr), (.one .ptr)]) fun (u3 : Option Addr × Option Addr × Unit) =>
  splitW (Option.isNone u3.2.1) (K (.bool false)) <|
  callW Tryz.prog 10 [(.pointer u3.2.1), (.string x0)] (.many [(.one (.int .u32)), (.one (.int .i64))]) fun (u4 : Int × Int × Unit) =>
  callW Tryz.prog 10 [(.pointer u3.2.1), (.string x1)] (.many [(.one (.int .u32)), (.one (.int .i64))]) fun (u5 : Int × Int × Unit) =>
  joinW (Bool × Unit) (fun (J6 : (Bool × Unit) → WP) =>
  splitW (u4.2.1 != (0 : Int)) (J6 (true, ())) <|
  splitW (u5.2.1 != (0 : Int)) (J6 (true, ())) <|
  splitW (u4.1 == u5.1) (J6 (true, ())) <|
  callW Tryz.prog 21 [(.pointer u3.2.1), (.int .u32 u5.1)] (.one (.one (.int .i64))) fun (u8 : Int) =>
  splitW (u8 != (0 : Int)) (J6 (true, ())) <|
  callW Tryz.prog 22 [(.pointer u3.2.1), (.int .u32 u4.1)] (.one (.one (.int .i64))) fun (u9 : Int) =>
  splitW (u9 != (0 : Int)) (J6 (true, ())) <|
  callW Tryz.prog 22 [(.pointer u3.2.1), (.int .u32 u5.1)] (.one (.one (.int .i64))) fun (u10 : Int) => J6 ((u10 != (0 : Int)), ())) fun (y7 : Bool × Unit) =>
  splitW y7.1 (K (.bool false)) <|
  callW Tryz.prog 11 [(.pointer u3.2.1), (.int .u32 u5.1)] (.many [(.one .str), (.one (.int .i64))]) fun (u11 : ByteArray × Int × Unit) =>
  callW Tryz.prog 11 [(.pointer u3.2.1), (.int .u32 u4.1)] (.many [(.one .str), (.one (.int .i64))]) fun (u12 : ByteArray × Int × Unit) =>
  splitW (u11.2.1 == (0 : Int)) (splitW (u11.1.toList == x1.toList) (splitW (u12.2.1 != (0 : Int)) (newW (.cells #[(.int .u32 u5.1)] 30) fun (r13 : Nat) =>
  callW Tryz.prog 23 [(.pointer u3.2.1), (.slice (some (⟨r13, 0, none⟩ : Addr)) 1 1)] (.one (.one (.int .i64))) fun (u14 : Int) =>
  splitW (u14 == (0 : Int)) (callW Tryz.prog 22 [(.pointer u3.2.1), (.int .u32 u5.1)] (.one (.one (.int .i64))) fun (u15 : Int) =>
  splitW (u15 == (0 : Int)) (callW Tryz.prog 23 [(.pointer u3.2.1), (.slice none 0 0)] (.one (.one (.int .i64))) fun (u16 : Int) => K (.bool (u16 == (0 : Int)))) <| K (.bool false)) <| K (.bool false)) <| K (.bool false)) <| K (.bool false)) <| K (.bool false)
theorem eq5 (x0 : ByteArray) (x1 : ByteArray) (K : Value → WP) : bodyW Tryz.prog Tryz.f5 an5 false [(.string x0), (.string x1)] K = S5 x0 x1 K := by kernel_rfl
theorem calls5 (x0 : ByteArray) (x1 : ByteArray) {K : Value → WP} {w : World} (h : S5 x0 x1 K w) : Calls Tryz.prog 5 #[(.string x0), (.string x1)] w (Ret K) := callsR_of_bodyW mixed Tryz.func5 (of_decide_eq_true (by kernel_rfl)) (by rw [eq5]; exact h)

/-- shadowbook/shadowbooklaw15.BlobBack -/
def an6 : Ann := (.seq .nil (.seq (.seq .nil (.cond (.seq .nil .nil) .nil)) (.seq .nil (.seq (.seq .nil (.cond (.seq .nil .nil) .nil)) (.seq .nil (.seq .nil (.seq .nil (.seq (.seq .nil (.cond (.seq .nil .nil) .nil)) (.seq .nil (.seq .nil (.seq .nil (.seq .nil (.seq (.seq .nil (.block (.loop [(20, .sh (.one .str)), (21, .sh (.one (.int .i64)))] [1, 9, 10, 12, 14, 15, 16, 17, 18, 19, 1000000] (.seq (.seq .nil (.cond .nil .nil)) (.seq (.block .nil) .nil))))) (.seq (.join [(155, .sh (.one .bool))] [1, 9, 1000000] .nil (.cond (.seq .nil .nil) .nil)) (.seq .nil (.seq (.seq .nil (.cond (.seq .nil .nil) .nil)) (.seq .nil (.seq .nil .nil))))))))))))))))))
def S6 (x0_0 : Int) (x0_1 : Int) (x1 : ByteArray) (x2 : Int) (x3 : Int) (K : Value → WP) : WP := 
  newW (.cells #[(.int .i64 x0_0), (.int .i64 x0_1)] 28) fun (r1 : Nat) =>
  callW Tryz.prog 7 [] (.one (.one .bool)) fun (u2 : Bool) =>
  splitW (!u2) (K (.bool false)) <|
  ldAW [(.int .i64), (.int .i64)] (⟨r1, 0, none⟩ : Addr) fun (u3 : (Int × Int × Unit)) =>
  callW Tryz.prog 8 [(.agg #[(.int .i64 u3.1), (.int .i64 u3.2.1)])] (.many [(.one .ptr), (.one .ptr)]) fun (u4 : Option Addr × Option Addr × Unit) =>
  ldAW [(.int .i64), (.int .i64)] (⟨r1, 0, none⟩ : Addr) fun (u5 : (Int × Int × Unit)) =>
  callW Tryz.prog 24 [(.agg #[(.int .i64 u5.1), (.int .i64 u5.2.1)])] (.one (.one .bool)) fun (u6 : Bool) =>
  splitW (!u6) (K (.bool true)) <|
  splitW (decide (((x1.size : Nat) : Int) > (3000 : Int))) (K (.bool true)) <|
  splitW (Option.isNone u4.2.1) (K (.bool true)) <|
  drewW <|
  bothW (newW (.cells #[(.int .u8 x2)] 5) fun (r7 : Nat) =>
  bothW (runW Tryz.prog (Go.convert 58 9 (.slice (some (⟨r7, 0, none⟩ : Addr)) 1 1)) .str fun (u8 : ByteArray) =>
  callW Tryz.prog 19 [(.int .i64 x3), (.int .i64 (3000 : Int))] (.one (.one (.int .i64))) fun (u9 : Int) =>
  callW Tryz.prog 14 [(.string u8), (.int .i64 u9)] (.one (.one .str)) fun (u10 : ByteArray) =>
  guardW (((x1.size + u10.size : Nat) : Int) ≤ IntKind.i64.max) <|
  callW Tryz.prog 16 [(.pointer u4.2.1)] (.one (.one (.int .i64))) fun (u11 : Int) =>
  callW Tryz.prog 10 [(.pointer u4.2.1), (.string (x1 ++ u10))] (.many [(.one (.int .u32)), (.one (.int .i64))]) fun (u12 : Int × Int × Unit) =>
  splitW (u12.2.1 != (0 : Int)) (splitW (u12.2.1 == (3 : Int)) (callW Tryz.prog 15 [(.pointer u4.2.1)] (.one (.one (.int .i64))) fun (u13 : Int) =>
  splitW (decide ((((x1 ++ u10).size : Nat) : Int) > u13)) (callW Tryz.prog 16 [(.pointer u4.2.1)] (.one (.one (.int .i64))) fun (u14 : Int) =>
  splitW (u14 == u11) (callW Tryz.prog 23 [(.pointer u4.2.1), (.slice none 0 0)] (.one (.one (.int .i64))) fun (u15 : Int) => K (.bool (u15 == (0 : Int)))) <| K (.bool false)) <|
  splitW (u12.2.1 == (9 : Int)) (callW Tryz.prog 16 [(.pointer u4.2.1)] (.one (.one (.int .i64))) fun (u16 : Int) =>
  splitW (u16 == u11) (callW Tryz.prog 23 [(.pointer u4.2.1), (.slice none 0 0)] (.one (.one (.int .i64))) fun (u17 : Int) => K (.bool (u17 == (0 : Int)))) <| K (.bool false)) <| K (.bool false)) <|
  splitW (u12.2.1 == (9 : Int)) (callW Tryz.prog 16 [(.pointer u4.2.1)] (.one (.one (.int .i64))) fun (u18 : Int) =>
  splitW (u18 == u11) (callW Tryz.prog 23 [(.pointer u4.2.1), (.slice none 0 0)] (.one (.one (.int .i64))) fun (u19 : Int) => K (.bool (u19 == (0 : Int)))) <| K (.bool false)) <| K (.bool false)) <|
  callW Tryz.prog 11 [(.pointer u4.2.1), (.int .u32 u12.1)] (.many [(.one .str), (.one (.int .i64))]) fun (u20 : ByteArray × Int × Unit) =>
  callW Tryz.prog 12 [(.pointer u4.2.1), (.int .u32 u12.1)] (.many [(.one (.int .i64)), (.one (.int .i64))]) fun (u21 : Int × Int × Unit) =>
  callW Tryz.prog 17 [(.pointer u4.2.1), (.int .u32 u12.1)] (.many [(.one .slc), (.one .bool)]) fun (u22 : (Option Addr × Nat × Nat) × Bool × Unit) =>
  loopW (ByteArray × Int × Unit) ((ByteArray.mk #[]), (0 : Int), ()) fun (y24 : ByteArray × Int × Unit) (I23 : (ByteArray × Int × Unit) → WP) =>
  splitW (decide (y24.2.1 < ((u22.1.2.1 : Nat) : Int))) (guardW (0 ≤ y24.2.1 ∧ y24.2.1 < ((u22.1.2.1 : Nat) : Int)) <|
  ptrW u22.1.1 fun (p25 : Addr) =>
  ldW .str (p25.add (Int.toNat y24.2.1 * 1)) fun (u26 : ByteArray) =>
  guardW (((y24.1.size + u26.size : Nat) : Int) ≤ IntKind.i64.max) <| I23 ((y24.1 ++ u26), (IntKind.wrap .i64 (y24.2.1 + (1 : Int))), ())) <|
  joinW (Bool × Unit) (fun (J27 : (Bool × Unit) → WP) =>
  splitW (u20.2.1 != (0 : Int)) (J27 (true, ())) <|
  splitW (!(u20.1.toList == (x1 ++ u10).toList)) (J27 (true, ())) <|
  splitW (u21.2.1 != (0 : Int)) (J27 (true, ())) <|
  splitW (u21.1 != (((x1 ++ u10).size : Nat) : Int)) (J27 (true, ())) <|
  splitW (!u22.2.1) (J27 (true, ())) <|
  splitW (!(y24.1.toList == (x1 ++ u10).toList)) (J27 (true, ())) <|
  newW (.cells #[(.int .u32 u12.1)] 30) fun (r29 : Nat) =>
  callW Tryz.prog 23 [(.pointer u4.2.1), (.slice (some (⟨r29, 0, none⟩ : Addr)) 1 1)] (.one (.one (.int .i64))) fun (u30 : Int) =>
  splitW (u30 != (0 : Int)) (J27 (true, ())) <|
  callW Tryz.prog 25 [(.pointer u4.2.1), (.int .u32 u12.1)] (.one (.one (.int .i64))) fun (u31 : Int) => J27 ((u31 != (0 : Int)), ())) fun (y28 : Bool × Unit) =>
  splitW y28.1 (K (.bool false)) <|
  callW Tryz.prog 26 [(.pointer u4.1)] (.many [(.one .ptr), (.one (.int .i64))]) fun (u32 : Option Addr × Int × Unit) =>
  splitW (u32.2.1 != (0 : Int)) (K (.bool false)) <|
  callW Tryz.prog 27 [(.pointer u32.1)] (.one (.one (.int .u32))) fun (u33 : Int) =>
  callW Tryz.prog 11 [(.pointer u32.1), (.int .u32 u33)] (.many [(.one .str), (.one (.int .i64))]) fun (u34 : ByteArray × Int × Unit) =>
  splitW (u34.2.1 == (0 : Int)) (splitW (u34.1.toList == (x1 ++ u10).toList) (callW Tryz.prog 27 [(.pointer u32.1)] (.one (.one (.int .u32))) fun (u35 : Int) =>
  callW Tryz.prog 22 [(.pointer u32.1), (.int .u32 u35)] (.one (.one (.int .i64))) fun (u36 : Int) =>
  splitW (u36 == (0 : Int)) (callW Tryz.prog 23 [(.pointer u32.1), (.slice none 0 0)] (.one (.one (.int .i64))) fun (u37 : Int) => K (.bool (u37 == (0 : Int)))) <| K (.bool false)) <| K (.bool false)) <| K (.bool false)) <|
  callW Tryz.prog 19 [(.int .i64 x3), (.int .i64 (3000 : Int))] (.one (.one (.int .i64))) fun (u38 : Int) =>
  runW Tryz.prog (Go.convert 58 9 (.slice (some (⟨r7, 0, none⟩ : Addr)) 1 1)) .str fun (u39 : ByteArray) =>
  callW Tryz.prog 14 [(.string u39), (.int .i64 u38)] (.one (.one .str)) fun (u40 : ByteArray) =>
  guardW (((x1.size + u40.size : Nat) : Int) ≤ IntKind.i64.max) <|
  callW Tryz.prog 16 [(.pointer u4.2.1)] (.one (.one (.int .i64))) fun (u41 : Int) =>
  callW Tryz.prog 10 [(.pointer u4.2.1), (.string (x1 ++ u40))] (.many [(.one (.int .u32)), (.one (.int .i64))]) fun (u42 : Int × Int × Unit) =>
  splitW (u42.2.1 != (0 : Int)) (splitW (u42.2.1 == (3 : Int)) (callW Tryz.prog 15 [(.pointer u4.2.1)] (.one (.one (.int .i64))) fun (u43 : Int) =>
  splitW (decide ((((x1 ++ u40).size : Nat) : Int) > u43)) (callW Tryz.prog 16 [(.pointer u4.2.1)] (.one (.one (.int .i64))) fun (u44 : Int) =>
  splitW (u44 == u41) (callW Tryz.prog 23 [(.pointer u4.2.1), (.slice none 0 0)] (.one (.one (.int .i64))) fun (u45 : Int) => K (.bool (u45 == (0 : Int)))) <| K (.bool false)) <|
  splitW (u42.2.1 == (9 : Int)) (callW Tryz.prog 16 [(.pointer u4.2.1)] (.one (.one (.int .i64))) fun (u46 : Int) =>
  splitW (u46 == u41) (callW Tryz.prog 23 [(.pointer u4.2.1), (.slice none 0 0)] (.one (.one (.int .i64))) fun (u47 : Int) => K (.bool (u47 == (0 : Int)))) <| K (.bool false)) <| K (.bool false)) <|
  splitW (u42.2.1 == (9 : Int)) (callW Tryz.prog 16 [(.pointer u4.2.1)] (.one (.one (.int .i64))) fun (u48 : Int) =>
  splitW (u48 == u41) (callW Tryz.prog 23 [(.pointer u4.2.1), (.slice none 0 0)] (.one (.one (.int .i64))) fun (u49 : Int) => K (.bool (u49 == (0 : Int)))) <| K (.bool false)) <| K (.bool false)) <|
  callW Tryz.prog 11 [(.pointer u4.2.1), (.int .u32 u42.1)] (.many [(.one .str), (.one (.int .i64))]) fun (u50 : ByteArray × Int × Unit) =>
  callW Tryz.prog 12 [(.pointer u4.2.1), (.int .u32 u42.1)] (.many [(.one (.int .i64)), (.one (.int .i64))]) fun (u51 : Int × Int × Unit) =>
  callW Tryz.prog 17 [(.pointer u4.2.1), (.int .u32 u42.1)] (.many [(.one .slc), (.one .bool)]) fun (u52 : (Option Addr × Nat × Nat) × Bool × Unit) =>
  loopW (ByteArray × Int × Unit) ((ByteArray.mk #[]), (0 : Int), ()) fun (y54 : ByteArray × Int × Unit) (I53 : (ByteArray × Int × Unit) → WP) =>
  splitW (decide (y54.2.1 < ((u52.1.2.1 : Nat) : Int))) (guardW (0 ≤ y54.2.1 ∧ y54.2.1 < ((u52.1.2.1 : Nat) : Int)) <|
  ptrW u52.1.1 fun (p55 : Addr) =>
  ldW .str (p55.add (Int.toNat y54.2.1 * 1)) fun (u56 : ByteArray) =>
  guardW (((y54.1.size + u56.size : Nat) : Int) ≤ IntKind.i64.max) <| I53 ((y54.1 ++ u56), (IntKind.wrap .i64 (y54.2.1 + (1 : Int))), ())) <|
  joinW (Bool × Unit) (fun (J57 : (Bool × Unit) → WP) =>
  splitW (u50.2.1 != (0 : Int)) (J57 (true, ())) <|
  splitW (!(u50.1.toList == (x1 ++ u40).toList)) (J57 (true, ())) <|
  splitW (u51.2.1 != (0 : Int)) (J57 (true, ())) <|
  splitW (u51.1 != (((x1 ++ u40).size : Nat) : Int)) (J57 (true, ())) <|
  splitW (!u52.2.1) (J57 (true, ())) <|
  splitW (!(y54.1.toList == (x1 ++ u40).toList)) (J57 (true, ())) <|
  newW (.cells #[(.int .u32 u42.1)] 30) fun (r59 : Nat) =>
  callW Tryz.prog 23 [(.pointer u4.2.1), (.slice (some (⟨r59, 0, none⟩ : Addr)) 1 1)] (.one (.one (.int .i64))) fun (u60 : Int) =>
  splitW (u60 != (0 : Int)) (J57 (true, ())) <|
  callW Tryz.prog 25 [(.pointer u4.2.1), (.int .u32 u42.1)] (.one (.one (.int .i64))) fun (u61 : Int) => J57 ((u61 != (0 : Int)), ())) fun (y58 : Bool × Unit) =>
  splitW y58.1 (K (.bool false)) <|
  callW Tryz.prog 26 [(.pointer u4.1)] (.many [(.one .ptr), (.one (.int .i64))]) fun (u62 : Option Addr × Int × Unit) =>
  splitW (u62.2.1 != (0 : Int)) (K (.bool false)) <|
  callW Tryz.prog 27 [(.pointer u62.1)] (.one (.one (.int .u32))) fun (u63 : Int) =>
  callW Tryz.prog 11 [(.pointer u62.1), (.int .u32 u63)] (.many [(.one .str), (.one (.int .i64))]) fun (u64 : ByteArray × Int × Unit) =>
  splitW (u64.2.1 == (0 : Int)) (splitW (u64.1.toList == (x1 ++ u40).toList) (callW Tryz.prog 27 [(.pointer u62.1)] (.one (.one (.int .u32))) fun (u65 : Int) =>
  callW Tryz.prog 22 [(.pointer u62.1), (.int .u32 u65)] (.one (.one (.int .i64))) fun (u66 : Int) =>
  splitW (u66 == (0 : Int)) (callW Tryz.prog 23 [(.pointer u62.1), (.slice none 0 0)] (.one (.one (.int .i64))) fun (u67 : Int) => K (.bool (u67 == (0 : Int)))) <| K (.bool false)) <| K (.bool false)) <| K (.bool false)) <|
  callW Tryz.prog 19 [(.int .i64 x3), (.int .i64 (3000 : Int))] (.one (.one (.int .i64))) fun (u68 : Int) =>
  newW (.cells #[(.int .u8 x2)] 5) fun (r69 : Nat) =>
  runW Tryz.prog (Go.convert 58 9 (.slice (some (⟨r69, 0, none⟩ : Addr)) 1 1)) .str fun (u70 : ByteArray) =>
  callW Tryz.prog 14 [(.string u70), (.int .i64 u68)] (.one (.one .str)) fun (u71 : ByteArray) =>
  guardW (((x1.size + u71.size : Nat) : Int) ≤ IntKind.i64.max) <|
  callW Tryz.prog 16 [(.pointer u4.2.1)] (.one (.one (.int .i64))) fun (u72 : Int) =>
  callW Tryz.prog 10 [(.pointer u4.2.1), (.string (x1 ++ u71))] (.many [(.one (.int .u32)), (.one (.int .i64))]) fun (u73 : Int × Int × Unit) =>
  splitW (u73.2.1 != (0 : Int)) (splitW (u73.2.1 == (3 : Int)) (callW Tryz.prog 15 [(.pointer u4.2.1)] (.one (.one (.int .i64))) fun (u74 : Int) =>
  splitW (decide ((((x1 ++ u71).size : Nat) : Int) > u74)) (callW Tryz.prog 16 [(.pointer u4.2.1)] (.one (.one (.int .i64))) fun (u75 : Int) =>
  splitW (u75 == u72) (callW Tryz.prog 23 [(.pointer u4.2.1), (.slice none 0 0)] (.one (.one (.int .i64))) fun (u76 : Int) => K (.bool (u76 == (0 : Int)))) <| K (.bool false)) <|
  splitW (u73.2.1 == (9 : Int)) (callW Tryz.prog 16 [(.pointer u4.2.1)] (.one (.one (.int .i64))) fun (u77 : Int) =>
  splitW (u77 == u72) (callW Tryz.prog 23 [(.pointer u4.2.1), (.slice none 0 0)] (.one (.one (.int .i64))) fun (u78 : Int) => K (.bool (u78 == (0 : Int)))) <| K (.bool false)) <| K (.bool false)) <|
  splitW (u73.2.1 == (9 : Int)) (callW Tryz.prog 16 [(.pointer u4.2.1)] (.one (.one (.int .i64))) fun (u79 : Int) =>
  splitW (u79 == u72) (callW Tryz.prog 23 [(.pointer u4.2.1), (.slice none 0 0)] (.one (.one (.int .i64))) fun (u80 : Int) => K (.bool (u80 == (0 : Int)))) <| K (.bool false)) <| K (.bool false)) <|
  callW Tryz.prog 11 [(.pointer u4.2.1), (.int .u32 u73.1)] (.many [(.one .str), (.one (.int .i64))]) fun (u81 : ByteArray × Int × Unit) =>
  callW Tryz.prog 12 [(.pointer u4.2.1), (.int .u32 u73.1)] (.many [(.one (.int .i64)), (.one (.int .i64))]) fun (u82 : Int × Int × Unit) =>
  callW Tryz.prog 17 [(.pointer u4.2.1), (.int .u32 u73.1)] (.many [(.one .slc), (.one .bool)]) fun (u83 : (Option Addr × Nat × Nat) × Bool × Unit) =>
  loopW (ByteArray × Int × Unit) ((ByteArray.mk #[]), (0 : Int), ()) fun (y85 : ByteArray × Int × Unit) (I84 : (ByteArray × Int × Unit) → WP) =>
  splitW (decide (y85.2.1 < ((u83.1.2.1 : Nat) : Int))) (guardW (0 ≤ y85.2.1 ∧ y85.2.1 < ((u83.1.2.1 : Nat) : Int)) <|
  ptrW u83.1.1 fun (p86 : Addr) =>
  ldW .str (p86.add (Int.toNat y85.2.1 * 1)) fun (u87 : ByteArray) =>
  guardW (((y85.1.size + u87.size : Nat) : Int) ≤ IntKind.i64.max) <| I84 ((y85.1 ++ u87), (IntKind.wrap .i64 (y85.2.1 + (1 : Int))), ())) <|
  joinW (Bool × Unit) (fun (J88 : (Bool × Unit) → WP) =>
  splitW (u81.2.1 != (0 : Int)) (J88 (true, ())) <|
  splitW (!(u81.1.toList == (x1 ++ u71).toList)) (J88 (true, ())) <|
  splitW (u82.2.1 != (0 : Int)) (J88 (true, ())) <|
  splitW (u82.1 != (((x1 ++ u71).size : Nat) : Int)) (J88 (true, ())) <|
  splitW (!u83.2.1) (J88 (true, ())) <|
  splitW (!(y85.1.toList == (x1 ++ u71).toList)) (J88 (true, ())) <|
  newW (.cells #[(.int .u32 u73.1)] 30) fun (r90 : Nat) =>
  callW Tryz.prog 23 [(.pointer u4.2.1), (.slice (some (⟨r90, 0, none⟩ : Addr)) 1 1)] (.one (.one (.int .i64))) fun (u91 : Int) =>
  splitW (u91 != (0 : Int)) (J88 (true, ())) <|
  callW Tryz.prog 25 [(.pointer u4.2.1), (.int .u32 u73.1)] (.one (.one (.int .i64))) fun (u92 : Int) => J88 ((u92 != (0 : Int)), ())) fun (y89 : Bool × Unit) =>
  splitW y89.1 (K (.bool false)) <|
  callW Tryz.prog 26 [(.pointer u4.1)] (.many [(.one .ptr), (.one (.int .i64))]) fun (u93 : Option Addr × Int × Unit) =>
  splitW (u93.2.1 != (0 : Int)) (K (.bool false)) <|
  callW Tryz.prog 27 [(.pointer u93.1)] (.one (.one (.int .u32))) fun (u94 : Int) =>
  callW Tryz.prog 11 [(.pointer u93.1), (.int .u32 u94)] (.many [(.one .str), (.one (.int .i64))]) fun (u95 : ByteArray × Int × Unit) =>
  splitW (u95.2.1 == (0 : Int)) (splitW (u95.1.toList == (x1 ++ u71).toList) (callW Tryz.prog 27 [(.pointer u93.1)] (.one (.one (.int .u32))) fun (u96 : Int) =>
  callW Tryz.prog 22 [(.pointer u93.1), (.int .u32 u96)] (.one (.one (.int .i64))) fun (u97 : Int) =>
  splitW (u97 == (0 : Int)) (callW Tryz.prog 23 [(.pointer u93.1), (.slice none 0 0)] (.one (.one (.int .i64))) fun (u98 : Int) => K (.bool (u98 == (0 : Int)))) <| K (.bool false)) <| K (.bool false)) <| K (.bool false)
theorem eq6 (x0_0 : Int) (x0_1 : Int) (x1 : ByteArray) (x2 : Int) (x3 : Int) (K : Value → WP) : bodyW Tryz.prog Tryz.f6 an6 false [(.agg #[(.int .i64 x0_0), (.int .i64 x0_1)]), (.string x1), (.int .u8 x2), (.int .i64 x3)] K = S6 x0_0 x0_1 x1 x2 x3 K := by kernel_rfl
theorem calls6 (x0_0 : Int) (x0_1 : Int) (x1 : ByteArray) (x2 : Int) (x3 : Int) {K : Value → WP} {w : World} (h : S6 x0_0 x0_1 x1 x2 x3 K w) : Calls Tryz.prog 6 #[(.agg #[(.int .i64 x0_0), (.int .i64 x0_1)]), (.string x1), (.int .u8 x2), (.int .i64 x3)] w (Ret K) := callsR_of_bodyW mixed Tryz.func6 (of_decide_eq_true (by kernel_rfl)) (by rw [eq6]; exact h)

/-- shadowbook/shadowbooklaw15.lives -/
def an7 : Ann := (.seq .nil (.seq .nil (.seq (.seq .nil (.cond (.seq .nil .nil) .nil)) (.seq .nil (.seq .nil (.seq .nil (.seq .nil .nil)))))))
def S7  (K : Value → WP) : WP := 
  callW Tryz.prog 9 [] (.one (.agg [(.int .i64), (.int .i64)])) fun (u1 : (Int × Int × Unit)) =>
  callW Tryz.prog 8 [(.agg #[(.int .i64 u1.1), (.int .i64 u1.2.1)])] (.many [(.one .ptr), (.one .ptr)]) fun (u2 : Option Addr × Option Addr × Unit) =>
  splitW (Option.isNone u2.2.1) (K (.bool false)) <|
  callW Tryz.prog 16 [(.pointer u2.2.1)] (.one (.one (.int .i64))) fun (u3 : Int) =>
  callW Tryz.prog 14 [(.string (ByteArray.mk #[97])), (.int .i64 (300 : Int))] (.one (.one .str)) fun (u4 : ByteArray) =>
  callW Tryz.prog 10 [(.pointer u2.2.1), (.string u4)] (.many [(.one (.int .u32)), (.one (.int .i64))]) fun (u5 : Int × Int × Unit) =>
  callW Tryz.prog 11 [(.pointer u2.2.1), (.int .u32 u5.1)] (.many [(.one .str), (.one (.int .i64))]) fun (u6 : ByteArray × Int × Unit) =>
  splitW (u5.2.1 == (0 : Int)) (callW Tryz.prog 16 [(.pointer u2.2.1)] (.one (.one (.int .i64))) fun (u7 : Int) =>
  splitW ((IntKind.wrap .i64 (u3 - u7)) == (4 : Int)) (callW Tryz.prog 28 [(.pointer u2.2.1), (.int .u32 u5.1)] (.one (.one (.int .i64))) fun (u8 : Int) =>
  splitW (u8 == (1 : Int)) (splitW (u6.2.1 == (0 : Int)) (callW Tryz.prog 14 [(.string (ByteArray.mk #[97])), (.int .i64 (300 : Int))] (.one (.one .str)) fun (u9 : ByteArray) =>
  splitW (u6.1.toList == u9.toList) (newW (.cells #[(.int .u32 u5.1)] 30) fun (r10 : Nat) =>
  callW Tryz.prog 23 [(.pointer u2.2.1), (.slice (some (⟨r10, 0, none⟩ : Addr)) 1 1)] (.one (.one (.int .i64))) fun (u11 : Int) => K (.bool (u11 == (0 : Int)))) <| K (.bool false)) <| K (.bool false)) <| K (.bool false)) <| K (.bool false)) <| K (.bool false)
theorem eq7  (K : Value → WP) : bodyW Tryz.prog Tryz.f7 an7 false [] K = S7  K := by kernel_rfl
theorem calls7  {K : Value → WP} {w : World} (h : S7  K w) : Calls Tryz.prog 7 #[] w (Ret K) := callsR_of_bodyW mixed Tryz.func7 (of_decide_eq_true (by kernel_rfl)) (by rw [eq7]; exact h)

/-- shadowbook/shadowbooklaw15.made -/
def an8 : Ann := (.seq .nil (.seq .nil (.seq .nil (.seq (.seq .nil (.cond (.seq .nil .nil) .nil)) (.seq .nil .nil)))))
def S8 (x0_0 : Int) (x0_1 : Int) (K : Value → WP) : WP := 
  newW (.cells #[(.int .i64 x0_0), (.int .i64 x0_1)] 28) fun (r1 : Nat) =>
  ldAW [(.int .i64), (.int .i64)] (⟨r1, 0, none⟩ : Addr) fun (u2 : (Int × Int × Unit)) =>
  callW Tryz.prog 29 [(.agg #[(.int .i64 u2.1), (.int .i64 u2.2.1)])] (.many [(.one .ptr), (.one (.int .i64))]) fun (u3 : Option Addr × Int × Unit) =>
  callW Tryz.prog 30 [(.pointer u3.1)] (.many [(.one .ptr), (.one (.int .i64))]) fun (u4 : Option Addr × Int × Unit) =>
  splitW (u4.2.1 != (0 : Int)) (K (.tuple #[(.pointer u3.1), (.pointer none)])) <| K (.tuple #[(.pointer u3.1), (.pointer u4.1)])
theorem eq8 (x0_0 : Int) (x0_1 : Int) (K : Value → WP) : bodyW Tryz.prog Tryz.f8 an8 false [(.agg #[(.int .i64 x0_0), (.int .i64 x0_1)])] K = S8 x0_0 x0_1 K := by kernel_rfl
theorem calls8 (x0_0 : Int) (x0_1 : Int) {K : Value → WP} {w : World} (h : S8 x0_0 x0_1 K w) : Calls Tryz.prog 8 #[(.agg #[(.int .i64 x0_0), (.int .i64 x0_1)])] w (Ret K) := callsR_of_bodyW mixed Tryz.func8 (of_decide_eq_true (by kernel_rfl)) (by rw [eq8]; exact h)

/-- shadowbook/shadowbooklaw15.roomy -/
def an9 : Ann := (.seq .nil (.seq .nil .nil))
def S9  (K : Value → WP) : WP := 
  newW (.cells #[(.int .i64 (0 : Int)), (.int .i64 (0 : Int))] 28) fun (r1 : Nat) =>
  guardW ((#[(.int .i64 (128 : Int)), (.int .i64 (40 : Int))] : Array Value).size = 2) <|
  stAW (⟨r1, 0, none⟩ : Addr) [(.int .i64 (128 : Int)), (.int .i64 (40 : Int))] <|
  ldAW [(.int .i64), (.int .i64)] (⟨r1, 0, none⟩ : Addr) fun (u2 : (Int × Int × Unit)) => K (.agg #[(.int .i64 u2.1), (.int .i64 u2.2.1)])
theorem eq9  (K : Value → WP) : bodyW Tryz.prog Tryz.f9 an9 false [] K = S9  K := by kernel_rfl
theorem calls9  {K : Value → WP} {w : World} (h : S9  K w) : Calls Tryz.prog 9 #[] w (Ret K) := callsR_of_bodyW mixed Tryz.func9 (of_decide_eq_true (by kernel_rfl)) (by rw [eq9]; exact h)

/-- shadowbook/blob.Put -/
def an10 : Ann := (.seq .nil (.seq (.seq .nil (.cond (.seq .nil .nil) .nil)) (.seq (.seq .nil (.cond (.seq .nil .nil) .nil)) (.seq .nil (.seq .nil (.seq .nil (.seq (.seq .nil (.block (.loop [(28, .sh (.one (.int .i64)))] [1, 2, 5, 6, 7, 27, 1000000] (.seq .nil (.seq (.cond .nil .nil) (.seq (.block (.seq .nil (.seq .nil (.seq (.seq .nil (.cond (.seq .nil .nil) .nil)) .nil)))) .nil)))))) (.seq .nil .nil))))))))
def S10 (x0 : Option Addr) (x1 : ByteArray) (K : Value → WP) : WP := 
  newW (.cells #[(.pointer x0)] 24) fun (r1 : Nat) =>
  newW (.cells #[(.int .i64 (0 : Int))] 31) fun (r2 : Nat) =>
  ldW .ptr (⟨r1, 0, none⟩ : Addr) fun (u3 : Option Addr) =>
  splitW (Option.isNone u3) (stW (⟨r2, 0, none⟩ : Addr) (.int .i64 (1 : Int)) <|
  leaveW Tryz.prog [] <|
  ldW (.int .i64) (⟨r2, 0, none⟩ : Addr) fun (u4 : Int) => K (.tuple #[(.int .u32 (0 : Int)), (.int .i64 u4)])) <|
  ldW .ptr (⟨r1, 0, none⟩ : Addr) fun (u5 : Option Addr) =>
  callW Tryz.prog 15 [(.pointer u5)] (.one (.one (.int .i64))) fun (u6 : Int) =>
  splitW (decide (((x1.size : Nat) : Int) > u6)) (stW (⟨r2, 0, none⟩ : Addr) (.int .i64 (3 : Int)) <|
  leaveW Tryz.prog [] <|
  ldW (.int .i64) (⟨r2, 0, none⟩ : Addr) fun (u7 : Int) => K (.tuple #[(.int .u32 (0 : Int)), (.int .i64 u7)])) <|
  newW (.cells #[(.slice none 0 0)] 39) fun (r8 : Nat) =>
  ldW .ptr (⟨r1, 0, none⟩ : Addr) fun (u9 : Option Addr) =>
  callW Tryz.prog 18 [(.pointer u9), (.int .i64 (0 : Int))] (.one (.one (.int .i64))) fun (u10 : Int) =>
  guardW (u10 ≠ 0) <|
  loopW (Int × Unit) ((0 : Int), ()) fun (y12 : Int × Unit) (I11 : (Int × Unit) → WP) =>
  splitW (decide (y12.1 < (IntKind.wrap .i64 (Int.tdiv (IntKind.wrap .i64 ((IntKind.wrap .i64 (((x1.size : Nat) : Int) + u10)) - (1 : Int))) u10)))) (drewW <|
  ldW .ptr (⟨r1, 0, none⟩ : Addr) fun (u13 : Option Addr) =>
  guardW (0 ≤ (IntKind.wrap .i64 (y12.1 * u10)) ∧ (IntKind.wrap .i64 (y12.1 * u10)) ≤ (if (IntKind.wrap .i64 ((IntKind.wrap .i64 (y12.1 + (1 : Int))) * u10)) < ((x1.size : Nat) : Int) then (IntKind.wrap .i64 ((IntKind.wrap .i64 (y12.1 + (1 : Int))) * u10)) else ((x1.size : Nat) : Int)) ∧ (if (IntKind.wrap .i64 ((IntKind.wrap .i64 (y12.1 + (1 : Int))) * u10)) < ((x1.size : Nat) : Int) then (IntKind.wrap .i64 ((IntKind.wrap .i64 (y12.1 + (1 : Int))) * u10)) else ((x1.size : Nat) : Int)) ≤ ((x1.size : Nat) : Int)) <|
  callW Tryz.prog 13 [(.pointer u13), (.agg #[(.int .u8 (7 : Int)), (.slice none 0 0), (.string (ByteArray.extract x1 (Int.toNat (IntKind.wrap .i64 (y12.1 * u10))) (Int.toNat (if (IntKind.wrap .i64 ((IntKind.wrap .i64 (y12.1 + (1 : Int))) * u10)) < ((x1.size : Nat) : Int) then (IntKind.wrap .i64 ((IntKind.wrap .i64 (y12.1 + (1 : Int))) * u10)) else ((x1.size : Nat) : Int)))))])] (.many [(.one (.int .u32)), (.one (.int .i64))]) fun (u14 : Int × Int × Unit) =>
  splitW (u14.2.1 != (0 : Int)) (stW (⟨r2, 0, none⟩ : Addr) (.int .i64 u14.2.1) <|
  leaveW Tryz.prog (⟨.fn (.func 31) #[(.pointer (some (⟨r2, 0, none⟩ : Addr))), (.pointer (some (⟨r8, 0, none⟩ : Addr))), (.pointer (some (⟨r1, 0, none⟩ : Addr)))], #[]⟩ :: []) <|
  ldW (.int .i64) (⟨r2, 0, none⟩ : Addr) fun (u15 : Int) => K (.tuple #[(.int .u32 (0 : Int)), (.int .i64 u15)])) <|
  ldW .slc (⟨r8, 0, none⟩ : Addr) fun (u16 : (Option Addr × Nat × Nat)) =>
  newW (.cells #[(.int .u32 u14.1)] 30) fun (r17 : Nat) =>
  runW Tryz.prog (Builtin.append_ #[39, 39] 39 #[(.slice u16.1 u16.2.1 u16.2.2), (.slice (some (⟨r17, 0, none⟩ : Addr)) 1 1)]) .slc fun (u18 : (Option Addr × Nat × Nat)) =>
  stW (⟨r8, 0, none⟩ : Addr) (.slice u18.1 u18.2.1 u18.2.2) <| I11 ((IntKind.wrap .i64 (y12.1 + (1 : Int))), ())) <|
  drewW <|
  ldW .ptr (⟨r1, 0, none⟩ : Addr) fun (u19 : Option Addr) =>
  ldW .slc (⟨r8, 0, none⟩ : Addr) fun (u20 : (Option Addr × Nat × Nat)) =>
  callW Tryz.prog 32 [(.slice none 0 0), (.int .u64 (IntKind.wrap .u64 ((x1.size : Nat) : Int))), (.int .i64 (4 : Int))] (.one (.one .slc)) fun (u21 : (Option Addr × Nat × Nat)) =>
  heldW [[((⟨r8, 0, none⟩ : Addr), (.slice u20.1 u20.2.1 u20.2.2))], [((⟨r1, 0, none⟩ : Addr), (.pointer u19))]] <|
  runW Tryz.prog (Go.convert 58 9 (.slice u21.1 u21.2.1 u21.2.2)) .str fun (u22 : ByteArray) =>
  heldW [[((⟨r8, 0, none⟩ : Addr), (.slice u20.1 u20.2.1 u20.2.2))], [((⟨r1, 0, none⟩ : Addr), (.pointer u19))]] <|
  callW Tryz.prog 13 [(.pointer u19), (.agg #[(.int .u8 (6 : Int)), (.slice u20.1 u20.2.1 u20.2.2), (.string u22)])] (.many [(.one (.int .u32)), (.one (.int .i64))]) fun (u23 : Int × Int × Unit) =>
  stW (⟨r2, 0, none⟩ : Addr) (.int .i64 u23.2.1) <|
  leaveW Tryz.prog (⟨.fn (.func 31) #[(.pointer (some (⟨r2, 0, none⟩ : Addr))), (.pointer (some (⟨r8, 0, none⟩ : Addr))), (.pointer (some (⟨r1, 0, none⟩ : Addr)))], #[]⟩ :: []) <|
  ldW (.int .i64) (⟨r2, 0, none⟩ : Addr) fun (u24 : Int) => K (.tuple #[(.int .u32 u23.1), (.int .i64 u24)])
theorem eq10 (x0 : Option Addr) (x1 : ByteArray) (K : Value → WP) : bodyW Tryz.prog Tryz.f10 an10 true [(.pointer x0), (.string x1)] K = S10 x0 x1 K := by kernel_rfl
theorem calls10 (x0 : Option Addr) (x1 : ByteArray) {K : Value → WP} {w : World} (h : S10 x0 x1 K w) : Calls Tryz.prog 10 #[(.pointer x0), (.string x1)] w (Ret K) := callsR_of_bodyW mixed Tryz.func10 (of_decide_eq_true (by kernel_rfl)) (by rw [eq10]; exact h)

/-- shadowbook/blob.Get -/
def an11 : Ann := (.seq .nil (.seq (.seq .nil (.cond (.seq .nil .nil) .nil)) (.seq .nil (.seq (.seq .nil (.block (.loop [(14, .sh (.one .str)), (15, .sh (.one (.int .i64)))] [] (.seq (.seq .nil .nil) (.block (.seq (.seq .nil (.cond (.seq .nil .nil) .nil)) .nil)))))) (.seq .nil .nil)))))
def S11 (x0 : Option Addr) (x1 : Int) (K : Value → WP) : WP := 
  newW (.cells #[(.string ByteArray.empty)] 9) fun (r1 : Nat) =>
  newW (.cells #[(.int .i64 (0 : Int))] 31) fun (r2 : Nat) =>
  splitW (Option.isNone x0) (stW (⟨r1, 0, none⟩ : Addr) (.string (ByteArray.mk #[])) <|
  stW (⟨r2, 0, none⟩ : Addr) (.int .i64 (1 : Int)) <|
  leaveW Tryz.prog [] <|
  ldW .str (⟨r1, 0, none⟩ : Addr) fun (u3 : ByteArray) =>
  ldW (.int .i64) (⟨r2, 0, none⟩ : Addr) fun (u4 : Int) => K (.tuple #[(.string u3), (.int .i64 u4)])) <|
  newW (.cells #[(.pointer none), (.slice none 0 0)] 70) fun (r5 : Nat) =>
  callW Tryz.prog 33 [(.pointer x0), (.int .u32 x1)] (.one (.one .any)) fun (u6 : Value) =>
  rangeW Tryz.prog u6 (ByteArray × Int × Unit) (fun (t7 : ByteArray × Int × Unit) => [(.string t7.1), (.int .i64 t7.2.1)]) (fun (t7 : ByteArray × Int × Unit) (B8 : WP → WP) (N9 : WP) (Q10 : Code → WP) => B8 (splitW (t7.2.1 != (0 : Int)) (stW (⟨r1, 0, none⟩ : Addr) (.string (ByteArray.mk #[])) <|
  stW (⟨r2, 0, none⟩ : Addr) (.int .i64 t7.2.1) <| Q10 .ret) <|
  callW Tryz.prog 34 [(.pointer (some (⟨r5, 0, none⟩ : Addr))), (.string t7.1)] (.many [(.one (.int .i64)), (.one .any)]) fun (u13 : Int × Value × Unit) => N9)) fun (r11 : Nat) (p12 : Option Code) =>
  jumpK (callW Tryz.prog 35 [(.pointer (some (⟨r5, 0, none⟩ : Addr)))] (.one (.one .str)) fun (u14 : ByteArray) =>
  stW (⟨r1, 0, none⟩ : Addr) (.string u14) <|
  stW (⟨r2, 0, none⟩ : Addr) (.int .i64 (0 : Int)) <|
  leaveW Tryz.prog (⟨.collected r11, #[]⟩ :: []) <|
  ldW .str (⟨r1, 0, none⟩ : Addr) fun (u15 : ByteArray) =>
  ldW (.int .i64) (⟨r2, 0, none⟩ : Addr) fun (u16 : Int) => K (.tuple #[(.string u15), (.int .i64 u16)])) (leaveW Tryz.prog (⟨.collected r11, #[]⟩ :: []) <|
  ldW .str (⟨r1, 0, none⟩ : Addr) fun (u17 : ByteArray) =>
  ldW (.int .i64) (⟨r2, 0, none⟩ : Addr) fun (u18 : Int) => K (.tuple #[(.string u17), (.int .i64 u18)])) [] p12
theorem eq11 (x0 : Option Addr) (x1 : Int) (K : Value → WP) : bodyW Tryz.prog Tryz.f11 an11 true [(.pointer x0), (.int .u32 x1)] K = S11 x0 x1 K := by kernel_rfl
theorem calls11 (x0 : Option Addr) (x1 : Int) {K : Value → WP} {w : World} (h : S11 x0 x1 K w) : Calls Tryz.prog 11 #[(.pointer x0), (.int .u32 x1)] w (Ret K) := callsR_of_bodyW mixed Tryz.func11 (of_decide_eq_true (by kernel_rfl)) (by rw [eq11]; exact h)

/-- shadowbook/blob.Size -/
def an12 : Ann := (.seq .nil (.seq .nil (.seq .nil .nil)))
def S12 (x0 : Option Addr) (x1 : Int) (K : Value → WP) : WP := 
  callW Tryz.prog 36 [(.pointer x0), (.int .u32 x1)] (.many [(.one (.int .i64)), (.one .slc), (.one (.int .i64))]) fun (u1 : Int × (Option Addr × Nat × Nat) × Int × Unit) => K (.tuple #[(.int .i64 u1.1), (.int .i64 u1.2.2.1)])
theorem eq12 (x0 : Option Addr) (x1 : Int) (K : Value → WP) : bodyW Tryz.prog Tryz.f12 an12 false [(.pointer x0), (.int .u32 x1)] K = S12 x0 x1 K := by kernel_rfl
theorem calls12 (x0 : Option Addr) (x1 : Int) {K : Value → WP} {w : World} (h : S12 x0 x1 K w) : Calls Tryz.prog 12 #[(.pointer x0), (.int .u32 x1)] w (Ret K) := callsR_of_bodyW mixed Tryz.func12 (of_decide_eq_true (by kernel_rfl)) (by rw [eq12]; exact h)

/-- (*shadowbook/space.Space).Put -/
def an13 : Ann := (.seq .nil (.seq (.block (.seq .nil (.cond (.seq .nil .nil) (.join [(15, .sh (.one .bool))] [2, 3, 1000000] .nil (.cond (.seq .nil .nil) (.seq .nil (.cond (.seq .nil .nil) (.join [(36, .sh (.one .bool))] [2, 3, 1000000] .nil (.cond (.seq .nil .nil) (.seq .nil (.cond (.seq .nil .nil) .nil))))))))))) (.seq .nil (.seq (.seq .nil (.cond (.seq .nil .nil) .nil)) (.seq .nil (.seq (.seq .nil (.block (.loop [(8, .sh (.one .slc)), (81, .sh (.one (.int .i64)))] [2, 3, 6, 79, 80, 1000000] (.seq .nil (.seq (.cond .nil .nil) (.seq (.block (.seq .nil .nil)) .nil)))))) (.seq (.seq .nil (.seq .nil (.cond (.seq .nil .nil) .nil))) (.seq .nil .nil))))))))
def S13 (x0 : Option Addr) (x1_0 : Int) (a1_1 : Option Addr) (n1_1 c1_1 : Nat) (x1_2 : ByteArray) (K : Value → WP) : WP := 
  newW (.cells #[(.pointer x0)] 24) fun (r1 : Nat) =>
  newW (.cells #[(.int .u8 x1_0), (.slice a1_1 n1_1 c1_1), (.string x1_2)] 41) fun (r2 : Nat) =>
  ldW .ptr (⟨r1, 0, none⟩ : Addr) fun (u3 : Option Addr) =>
  splitW (Option.isNone u3) (K (.tuple #[(.int .u32 (0 : Int)), (.int .i64 (1 : Int))])) <|
  joinW (Bool × Unit) (fun (J4 : (Bool × Unit) → WP) =>
  ldW (.int .u8) (⟨r2, 0, none⟩ : Addr) fun (u6 : Int) =>
  splitW (decide (u6 < (3 : Int))) (J4 (true, ())) <|
  ldW .slc ((⟨r2, 0, none⟩ : Addr).add 1) fun (u7 : (Option Addr × Nat × Nat)) =>
  splitW (decide (((u7.2.1 : Nat) : Int) > (65535 : Int))) (J4 (true, ())) <|
  ldW .slc ((⟨r2, 0, none⟩ : Addr).add 1) fun (u8 : (Option Addr × Nat × Nat)) =>
  callW Tryz.prog 37 [(.slice u8.1 u8.2.1 u8.2.2), (.func (.func 38) #[] #[(.pointer (some (⟨r1, 0, none⟩ : Addr)))])] (.one (.one .bool)) fun (u9 : Bool) => J4 (u9, ())) fun (y5 : Bool × Unit) =>
  splitW y5.1 (K (.tuple #[(.int .u32 (0 : Int)), (.int .i64 (2 : Int))])) <|
  ldW .slc ((⟨r2, 0, none⟩ : Addr).add 1) fun (u10 : (Option Addr × Nat × Nat)) =>
  callW Tryz.prog 37 [(.slice u10.1 u10.2.1 u10.2.2), (.func (.func 40) #[] #[(.pointer (some (⟨r1, 0, none⟩ : Addr)))])] (.one (.one .bool)) fun (u11 : Bool) =>
  splitW u11 (K (.tuple #[(.int .u32 (0 : Int)), (.int .i64 (8 : Int))])) <|
  joinW (Bool × Unit) (fun (J12 : (Bool × Unit) → WP) =>
  drewW <|
  ldW .slc ((⟨r2, 0, none⟩ : Addr).add 1) fun (u14 : (Option Addr × Nat × Nat)) =>
  ldW .ptr (⟨r1, 0, none⟩ : Addr) fun (u15 : Option Addr) =>
  callW Tryz.prog 18 [(.pointer u15), (.int .i64 (0 : Int))] (.one (.one (.int .i64))) fun (u16 : Int) =>
  heldW [[(((⟨r2, 0, none⟩ : Addr).add 1), (.slice u14.1 u14.2.1 u14.2.2))]] <|
  splitW (decide (((u14.2.1 : Nat) : Int) > (IntKind.wrap .i64 (Int.tdiv u16 (4 : Int))))) (J12 (true, ())) <|
  ldW .str ((⟨r2, 0, none⟩ : Addr).add 2) fun (u17 : ByteArray) =>
  ldW .ptr (⟨r1, 0, none⟩ : Addr) fun (u18 : Option Addr) =>
  ldW .slc ((⟨r2, 0, none⟩ : Addr).add 1) fun (u19 : (Option Addr × Nat × Nat)) =>
  callW Tryz.prog 18 [(.pointer u18), (.int .i64 ((u19.2.1 : Nat) : Int))] (.one (.one (.int .i64))) fun (u20 : Int) =>
  heldW [[(((⟨r2, 0, none⟩ : Addr).add 2), (.string u17))]] <| J12 ((decide (((u17.size : Nat) : Int) > u20)), ())) fun (y13 : Bool × Unit) =>
  splitW y13.1 (K (.tuple #[(.int .u32 (0 : Int)), (.int .i64 (3 : Int))])) <|
  drewW <|
  ldW .ptr (⟨r1, 0, none⟩ : Addr) fun (u21 : Option Addr) =>
  ldW .ptr (⟨r1, 0, none⟩ : Addr) fun (u22 : Option Addr) =>
  ptrW u22 fun (p23 : Addr) =>
  ldW .slc ((p23.add 1).add 4) fun (u24 : (Option Addr × Nat × Nat)) =>
  callW Tryz.prog 16 [(.pointer u21)] (.one (.one (.int .i64))) fun (u25 : Int) =>
  heldW [[(((p23.add 1).add 4), (.slice u24.1 u24.2.1 u24.2.2))], [((⟨r1, 0, none⟩ : Addr), (.pointer u22))]] <|
  splitW (decide (u25 ≤ ((u24.2.1 : Nat) : Int))) (K (.tuple #[(.int .u32 (0 : Int)), (.int .i64 (9 : Int))])) <|
  ldW .ptr (⟨r1, 0, none⟩ : Addr) fun (u26 : Option Addr) =>
  callW Tryz.prog 42 [(.pointer u26)] (.many [(.one (.int .u32)), (.one (.int .i64))]) fun (u27 : Int × Int × Unit) =>
  splitW (u27.2.1 != (0 : Int)) (K (.tuple #[(.int .u32 (0 : Int)), (.int .i64 u27.2.1)])) <|
  ldW .slc ((⟨r2, 0, none⟩ : Addr).add 1) fun (u28 : (Option Addr × Nat × Nat)) =>
  callW Tryz.prog 32 [(.slice none 0 0), (.int .u64 (IntKind.wrap .u64 ((u28.2.1 : Nat) : Int))), (.int .i64 (2 : Int))] (.one (.one .slc)) fun (u29 : (Option Addr × Nat × Nat)) =>
  ldW .slc ((⟨r2, 0, none⟩ : Addr).add 1) fun (u30 : (Option Addr × Nat × Nat)) =>
  loopW ((Option Addr × Nat × Nat) × Int × Unit) ((u29.1, u29.2.1, u29.2.2), (0 : Int), ()) fun (y32 : (Option Addr × Nat × Nat) × Int × Unit) (I31 : ((Option Addr × Nat × Nat) × Int × Unit) → WP) =>
  splitW (decide (y32.2.1 < ((u30.2.1 : Nat) : Int))) (guardW (0 ≤ y32.2.1 ∧ y32.2.1 < ((u30.2.1 : Nat) : Int)) <|
  ptrW u30.1 fun (p33 : Addr) =>
  ldW (.int .u32) (p33.add (Int.toNat y32.2.1 * 1)) fun (u34 : Int) =>
  callW Tryz.prog 32 [(.slice y32.1.1 y32.1.2.1 y32.1.2.2), (.int .u64 (IntKind.wrap .u64 u34)), (.int .i64 (4 : Int))] (.one (.one .slc)) fun (u35 : (Option Addr × Nat × Nat)) => I31 ((u35.1, u35.2.1, u35.2.2), (IntKind.wrap .i64 (y32.2.1 + (1 : Int))), ())) <|
  drewW <|
  ldW .ptr (⟨r1, 0, none⟩ : Addr) fun (u36 : Option Addr) =>
  ptrW u36 fun (p37 : Addr) =>
  ldW .ptr p37 fun (u38 : Option Addr) =>
  ldW (.int .u8) (⟨r2, 0, none⟩ : Addr) fun (u39 : Int) =>
  ldW .ptr (⟨r1, 0, none⟩ : Addr) fun (u40 : Option Addr) =>
  ptrW u40 fun (p41 : Addr) =>
  ldW (.int .u64) (p41.add 1) fun (u42 : Int) =>
  ldW .str ((⟨r2, 0, none⟩ : Addr).add 2) fun (u43 : ByteArray) =>
  runW Tryz.prog (Go.convert 58 9 (.slice y32.1.1 y32.1.2.1 y32.1.2.2)) .str fun (u44 : ByteArray) =>
  heldW [[(((⟨r2, 0, none⟩ : Addr).add 2), (.string u43))], [((p41.add 1), (.int .u64 u42))], [((⟨r1, 0, none⟩ : Addr), (.pointer u40))], [((⟨r2, 0, none⟩ : Addr), (.int .u8 u39))], [(p37, (.pointer u38))], [((⟨r1, 0, none⟩ : Addr), (.pointer u36))]] <|
  guardW (((u44.size + u43.size : Nat) : Int) ≤ IntKind.i64.max) <|
  callW Tryz.prog 43 [(.pointer u38), (.int .u32 u27.1), (.agg #[(.int .u8 u39), (.int .u64 (IntKind.wrap .u64 (u42 + (1 : Int)))), (.string (u44 ++ u43))])] (.one (.one (.int .i64))) fun (u45 : Int) =>
  splitW (u45 != (0 : Int)) (K (.tuple #[(.int .u32 (0 : Int)), (.int .i64 u45)])) <| K (.tuple #[(.int .u32 u27.1), (.int .i64 (0 : Int))])
theorem eq13 (x0 : Option Addr) (x1_0 : Int) (a1_1 : Option Addr) (n1_1 c1_1 : Nat) (x1_2 : ByteArray) (K : Value → WP) : bodyW Tryz.prog Tryz.f13 an13 false [(.pointer x0), (.agg #[(.int .u8 x1_0), (.slice a1_1 n1_1 c1_1), (.string x1_2)])] K = S13 x0 x1_0 a1_1 n1_1 c1_1 x1_2 K := by kernel_rfl
theorem calls13 (x0 : Option Addr) (x1_0 : Int) (a1_1 : Option Addr) (n1_1 c1_1 : Nat) (x1_2 : ByteArray) {K : Value → WP} {w : World} (h : S13 x0 x1_0 a1_1 n1_1 c1_1 x1_2 K w) : Calls Tryz.prog 13 #[(.pointer x0), (.agg #[(.int .u8 x1_0), (.slice a1_1 n1_1 c1_1), (.string x1_2)])] w (Ret K) := callsR_of_bodyW mixed Tryz.func13 (of_decide_eq_true (by kernel_rfl)) (by rw [eq13]; exact h)

/-- shadowbook/shadowbookkit.Times -/
def an14 : Ann := (.seq .nil (.seq .nil (.seq (.block (.loop [(0, .sh (.one .str)), (1, .sh (.one (.int .i64))), (5, .sh (.one .str))] [1000000] (.seq (.seq .nil (.cond .nil .nil)) (.seq (.block (.seq (.seq .nil (.cond .nil .nil)) .nil)) .nil)))) (.seq .nil .nil))))
def S14 (x0 : ByteArray) (x1 : Int) (K : Value → WP) : WP := 
  loopW (ByteArray × Int × ByteArray × Unit) (x0, x1, (ByteArray.mk #[]), ()) fun (y2 : ByteArray × Int × ByteArray × Unit) (I1 : (ByteArray × Int × ByteArray × Unit) → WP) =>
  splitW (decide (y2.2.1 > (0 : Int))) (splitW ((Int.tmod y2.2.1 (2 : Int)) == (1 : Int)) (guardW (((y2.2.2.1.size + y2.1.size : Nat) : Int) ≤ IntKind.i64.max) <|
  guardW (((y2.1.size + y2.1.size : Nat) : Int) ≤ IntKind.i64.max) <| I1 ((y2.1 ++ y2.1), (IntKind.wrap .i64 (Int.tdiv y2.2.1 (2 : Int))), (y2.2.2.1 ++ y2.1), ())) <|
  guardW (((y2.1.size + y2.1.size : Nat) : Int) ≤ IntKind.i64.max) <| I1 ((y2.1 ++ y2.1), (IntKind.wrap .i64 (Int.tdiv y2.2.1 (2 : Int))), y2.2.2.1, ())) <| K (.string y2.2.2.1)
theorem eq14 (x0 : ByteArray) (x1 : Int) (K : Value → WP) : bodyW Tryz.prog Tryz.f14 an14 false [(.string x0), (.int .i64 x1)] K = S14 x0 x1 K := by kernel_rfl
theorem calls14 (x0 : ByteArray) (x1 : Int) {K : Value → WP} {w : World} (h : S14 x0 x1 K w) : Calls Tryz.prog 14 #[(.string x0), (.int .i64 x1)] w (Ret K) := callsR_of_bodyW mixed Tryz.func14 (of_decide_eq_true (by kernel_rfl)) (by rw [eq14]; exact h)

/-- shadowbook/blob.Most -/
def an15 : Ann := (.seq .nil (.seq .nil (.seq .nil .nil)))
def S15 (x0 : Option Addr) (K : Value → WP) : WP := 
  callW Tryz.prog 18 [(.pointer x0), (.int .i64 (0 : Int))] (.one (.one (.int .i64))) fun (u1 : Int) => K (.int .i64 (if (if (IntKind.wrap .i64 ((IntKind.wrap .i64 (Int.tdiv (IntKind.wrap .i64 (u1 - (4 : Int))) (4 : Int))) * u1)) < (65536 : Int) then (IntKind.wrap .i64 ((IntKind.wrap .i64 (Int.tdiv (IntKind.wrap .i64 (u1 - (4 : Int))) (4 : Int))) * u1)) else (65536 : Int)) > (0 : Int) then (if (IntKind.wrap .i64 ((IntKind.wrap .i64 (Int.tdiv (IntKind.wrap .i64 (u1 - (4 : Int))) (4 : Int))) * u1)) < (65536 : Int) then (IntKind.wrap .i64 ((IntKind.wrap .i64 (Int.tdiv (IntKind.wrap .i64 (u1 - (4 : Int))) (4 : Int))) * u1)) else (65536 : Int)) else (0 : Int)))
theorem eq15 (x0 : Option Addr) (K : Value → WP) : bodyW Tryz.prog Tryz.f15 an15 false [(.pointer x0)] K = S15 x0 K := by kernel_rfl
theorem calls15 (x0 : Option Addr) {K : Value → WP} {w : World} (h : S15 x0 K w) : Calls Tryz.prog 15 #[(.pointer x0)] w (Ret K) := callsR_of_bodyW mixed Tryz.func15 (of_decide_eq_true (by kernel_rfl)) (by rw [eq15]; exact h)

/-- (*shadowbook/space.Space).Free -/
def an16 : Ann := (.seq .nil (.seq (.seq .nil (.cond (.seq .nil .nil) .nil)) (.seq (.seq .nil (.block (.loop [(7, .sh (.one (.int .u32)))] [] (.seq .nil (.block .nil))))) (.seq .nil .nil))))
def S16 (x0 : Option Addr) (K : Value → WP) : WP := 
  newW (.cells #[(.int .i64 (0 : Int))] 3) fun (r1 : Nat) =>
  splitW (Option.isNone x0) (stW (⟨r1, 0, none⟩ : Addr) (.int .i64 (0 : Int)) <|
  leaveW Tryz.prog [] <|
  ldW (.int .i64) (⟨r1, 0, none⟩ : Addr) fun (u2 : Int) => K (.int .i64 u2)) <|
  callW Tryz.prog 44 [(.pointer x0)] (.one (.one .any)) fun (u3 : Value) =>
  rangeW Tryz.prog u3 (Int × Unit) (fun (t4 : Int × Unit) => [(.int .u32 t4.1)]) (fun (t4 : Int × Unit) (B5 : WP → WP) (N6 : WP) (Q7 : Code → WP) => B5 (ldW (.int .i64) (⟨r1, 0, none⟩ : Addr) fun (u10 : Int) =>
  stW (⟨r1, 0, none⟩ : Addr) (.int .i64 (IntKind.wrap .i64 (u10 + (1 : Int)))) <| N6)) fun (r8 : Nat) (p9 : Option Code) =>
  jumpK (ldW (.int .i64) (⟨r1, 0, none⟩ : Addr) fun (u11 : Int) =>
  stW (⟨r1, 0, none⟩ : Addr) (.int .i64 u11) <|
  leaveW Tryz.prog (⟨.collected r8, #[]⟩ :: []) <|
  ldW (.int .i64) (⟨r1, 0, none⟩ : Addr) fun (u12 : Int) => K (.int .i64 u12)) (leaveW Tryz.prog (⟨.collected r8, #[]⟩ :: []) <|
  ldW (.int .i64) (⟨r1, 0, none⟩ : Addr) fun (u13 : Int) => K (.int .i64 u13)) [] p9
theorem eq16 (x0 : Option Addr) (K : Value → WP) : bodyW Tryz.prog Tryz.f16 an16 true [(.pointer x0)] K = S16 x0 K := by kernel_rfl
theorem calls16 (x0 : Option Addr) {K : Value → WP} {w : World} (h : S16 x0 K w) : Calls Tryz.prog 16 #[(.pointer x0)] w (Ret K) := callsR_of_bodyW mixed Tryz.func16 (of_decide_eq_true (by kernel_rfl)) (by rw [eq16]; exact h)

/-- shadowbook/shadowbooklaw15.parts -/
def an17 : Ann := (.seq .nil (.seq .nil (.seq (.seq .nil (.cond (.seq .nil .nil) .nil)) (.seq .nil (.seq (.seq .nil (.block (.loop [(15, .sh (.one .str))] [] (.seq .nil (.block (.seq (.seq .nil (.cond (.seq .nil .nil) .nil)) .nil)))))) (.seq .nil .nil))))))
def S17 (x0 : Option Addr) (x1 : Int) (K : Value → WP) : WP := 
  newW (.cells #[(.slice none 0 0)] 45) fun (r1 : Nat) =>
  newW (.cells #[(.bool false)] 4) fun (r2 : Nat) =>
  callW Tryz.prog 20 [(.pointer x0), (.int .u32 x1)] (.one (.one .any)) fun (u3 : Value) =>
  eqW Tryz.prog (eqS .eql 51 (.tmp 12) (.const .nilFunc) u3 .nilFunc) fun (b4 : Bool) =>
  splitW b4 (stW (⟨r1, 0, none⟩ : Addr) (.slice none 0 0) <|
  stW (⟨r2, 0, none⟩ : Addr) (.bool false) <|
  leaveW Tryz.prog [] <|
  ldW .slc (⟨r1, 0, none⟩ : Addr) fun (u5 : (Option Addr × Nat × Nat)) =>
  ldW .bool (⟨r2, 0, none⟩ : Addr) fun (u6 : Bool) => K (.tuple #[(.slice u5.1 u5.2.1 u5.2.2), (.bool u6)])) <|
  newW (.cells #[(.slice none 0 0)] 45) fun (r7 : Nat) =>
  rangeW Tryz.prog u3 (ByteArray × Unit) (fun (t8 : ByteArray × Unit) => [(.string t8.1)]) (fun (t8 : ByteArray × Unit) (B9 : WP → WP) (N10 : WP) (Q11 : Code → WP) => B9 (ldW .slc (⟨r7, 0, none⟩ : Addr) fun (u14 : (Option Addr × Nat × Nat)) =>
  splitW (decide (((u14.2.1 : Nat) : Int) > (4096 : Int))) (stW (⟨r1, 0, none⟩ : Addr) (.slice none 0 0) <|
  stW (⟨r2, 0, none⟩ : Addr) (.bool false) <| Q11 .ret) <|
  ldW .slc (⟨r7, 0, none⟩ : Addr) fun (u15 : (Option Addr × Nat × Nat)) =>
  newW (.cells #[(.string t8.1)] 9) fun (r16 : Nat) =>
  runW Tryz.prog (Builtin.append_ #[45, 45] 45 #[(.slice u15.1 u15.2.1 u15.2.2), (.slice (some (⟨r16, 0, none⟩ : Addr)) 1 1)]) .slc fun (u17 : (Option Addr × Nat × Nat)) =>
  stW (⟨r7, 0, none⟩ : Addr) (.slice u17.1 u17.2.1 u17.2.2) <| N10)) fun (r12 : Nat) (p13 : Option Code) =>
  jumpK (ldW .slc (⟨r7, 0, none⟩ : Addr) fun (u18 : (Option Addr × Nat × Nat)) =>
  stW (⟨r1, 0, none⟩ : Addr) (.slice u18.1 u18.2.1 u18.2.2) <|
  stW (⟨r2, 0, none⟩ : Addr) (.bool true) <|
  leaveW Tryz.prog (⟨.collected r12, #[]⟩ :: []) <|
  ldW .slc (⟨r1, 0, none⟩ : Addr) fun (u19 : (Option Addr × Nat × Nat)) =>
  ldW .bool (⟨r2, 0, none⟩ : Addr) fun (u20 : Bool) => K (.tuple #[(.slice u19.1 u19.2.1 u19.2.2), (.bool u20)])) (leaveW Tryz.prog (⟨.collected r12, #[]⟩ :: []) <|
  ldW .slc (⟨r1, 0, none⟩ : Addr) fun (u21 : (Option Addr × Nat × Nat)) =>
  ldW .bool (⟨r2, 0, none⟩ : Addr) fun (u22 : Bool) => K (.tuple #[(.slice u21.1 u21.2.1 u21.2.2), (.bool u22)])) [] p13
theorem eq17 (x0 : Option Addr) (x1 : Int) (K : Value → WP) : bodyW Tryz.prog Tryz.f17 an17 true [(.pointer x0), (.int .u32 x1)] K = S17 x0 x1 K := by kernel_rfl
theorem calls17 (x0 : Option Addr) (x1 : Int) {K : Value → WP} {w : World} (h : S17 x0 x1 K w) : Calls Tryz.prog 17 #[(.pointer x0), (.int .u32 x1)] w (Ret K) := callsR_of_bodyW mixed Tryz.func17 (of_decide_eq_true (by kernel_rfl)) (by rw [eq17]; exact h)

/-- (*shadowbook/space.Space).Room -/
def an18 : Ann := (.seq .nil (.seq (.seq .nil (.cond (.seq .nil .nil) .nil)) (.seq .nil (.seq (.seq .nil (.cond (.seq .nil .nil) .nil)) (.seq .nil .nil)))))
def S18 (x0 : Option Addr) (x1 : Int) (K : Value → WP) : WP := 
  splitW (Option.isNone x0) (K (.int .i64 (0 : Int))) <|
  ptrW x0 fun (p1 : Addr) =>
  ldW (.int .i64) ((p1.add 1).add 1) fun (u2 : Int) =>
  callW Tryz.prog 45 [(.int .i64 u2)] (.one (.one (.int .i64))) fun (u3 : Int) =>
  splitW (decide (x1 < (0 : Int))) (K (.int .i64 (0 : Int))) <|
  splitW (decide (x1 > (IntKind.wrap .i64 (Int.tdiv (IntKind.wrap .i64 (u3 - (2 : Int))) (4 : Int))))) (K (.int .i64 (0 : Int))) <| K (.int .i64 (IntKind.wrap .i64 ((IntKind.wrap .i64 (u3 - (2 : Int))) - (IntKind.wrap .i64 ((4 : Int) * x1)))))
theorem eq18 (x0 : Option Addr) (x1 : Int) (K : Value → WP) : bodyW Tryz.prog Tryz.f18 an18 false [(.pointer x0), (.int .i64 x1)] K = S18 x0 x1 K := by kernel_rfl
theorem calls18 (x0 : Option Addr) (x1 : Int) {K : Value → WP} {w : World} (h : S18 x0 x1 K w) : Calls Tryz.prog 18 #[(.pointer x0), (.int .i64 x1)] w (Ret K) := callsR_of_bodyW mixed Tryz.func18 (of_decide_eq_true (by kernel_rfl)) (by rw [eq18]; exact h)

/-- shadowbook/shadowbookkit.Pick -/
def an19 : Ann := (.seq .nil (.seq (.seq .nil (.cond (.seq .nil .nil) .nil)) (.seq .nil (.seq (.seq .nil (.cond .nil .nil)) (.seq .nil .nil)))))
def S19 (x0 : Int) (x1 : Int) (K : Value → WP) : WP := 
  splitW (decide (x1 < (1 : Int))) (K (.int .i64 (0 : Int))) <|
  guardW (x1 ≠ 0) <|
  splitW (decide ((Int.tmod x0 x1) < (0 : Int))) (K (.int .i64 (IntKind.wrap .i64 ((Int.tmod x0 x1) + x1)))) <| K (.int .i64 (Int.tmod x0 x1))
theorem eq19 (x0 : Int) (x1 : Int) (K : Value → WP) : bodyW Tryz.prog Tryz.f19 an19 false [(.int .i64 x0), (.int .i64 x1)] K = S19 x0 x1 K := by kernel_rfl
theorem calls19 (x0 : Int) (x1 : Int) {K : Value → WP} {w : World} (h : S19 x0 x1 K w) : Calls Tryz.prog 19 #[(.int .i64 x0), (.int .i64 x1)] w (Ret K) := callsR_of_bodyW mixed Tryz.func19 (of_decide_eq_true (by kernel_rfl)) (by rw [eq19]; exact h)

/-- shadowbook/blob.Parts -/
def an20 : Ann := (.seq .nil (.seq .nil .nil))
def S20 (x0 : Option Addr) (x1 : Int) (K : Value → WP) : WP := 
  newW (.cells #[(.pointer x0)] 24) fun (r1 : Nat) =>
  newW (.cells #[(.int .u32 x1)] 30) fun (r2 : Nat) => K (.func (.func 46) #[] #[(.pointer (some (⟨r1, 0, none⟩ : Addr))), (.pointer (some (⟨r2, 0, none⟩ : Addr)))])
theorem eq20 (x0 : Option Addr) (x1 : Int) (K : Value → WP) : bodyW Tryz.prog Tryz.f20 an20 false [(.pointer x0), (.int .u32 x1)] K = S20 x0 x1 K := by kernel_rfl
theorem calls20 (x0 : Option Addr) (x1 : Int) {K : Value → WP} {w : World} (h : S20 x0 x1 K w) : Calls Tryz.prog 20 #[(.pointer x0), (.int .u32 x1)] w (Ret K) := callsR_of_bodyW mixed Tryz.func20 (of_decide_eq_true (by kernel_rfl)) (by rw [eq20]; exact h)

/-- (*shadowbook/space.Space).Share -/
def an21 : Ann := (.seq .nil (.seq (.block (.seq .nil (.cond (.seq .nil .nil) (.seq .nil (.cond (.seq .nil .nil) .nil))))) (.seq .nil .nil)))
def S21 (x0 : Option Addr) (x1 : Int) (K : Value → WP) : WP := 
  splitW (Option.isNone x0) (K (.int .i64 (1 : Int))) <|
  callW Tryz.prog 39 [(.pointer x0), (.int .u32 x1)] (.one (.one .bool)) fun (u1 : Bool) =>
  splitW (!u1) (K (.int .i64 (2 : Int))) <|
  ptrW x0 fun (p2 : Addr) =>
  ldW .ptr (p2.add 8) fun (u3 : Option Addr) =>
  callW Tryz.prog 47 [(.pointer u3), (.int .u32 x1)] (.one (.one (.int .i64))) fun (u4 : Int) => K (.int .i64 u4)
theorem eq21 (x0 : Option Addr) (x1 : Int) (K : Value → WP) : bodyW Tryz.prog Tryz.f21 an21 false [(.pointer x0), (.int .u32 x1)] K = S21 x0 x1 K := by kernel_rfl
theorem calls21 (x0 : Option Addr) (x1 : Int) {K : Value → WP} {w : World} (h : S21 x0 x1 K w) : Calls Tryz.prog 21 #[(.pointer x0), (.int .u32 x1)] w (Ret K) := callsR_of_bodyW mixed Tryz.func21 (of_decide_eq_true (by kernel_rfl)) (by rw [eq21]; exact h)

/-- (*shadowbook/space.Space).Drop -/
def an22 : Ann := (.seq .nil (.seq (.block (.seq .nil (.cond (.seq .nil .nil) (.seq .nil (.cond (.seq .nil .nil) .nil))))) (.seq .nil (.seq .nil (.seq (.block (.loop [(5, .sh (.one .slc))] [0, 1000000] (.seq (.seq .nil (.cond .nil .nil)) (.block (.seq .nil (.seq .nil (.seq .nil (.seq (.seq .nil (.cond (.seq (.seq .nil (.seq .nil (.cond (.seq .nil .nil) .nil))) .nil) .nil)) (.seq .nil (.seq (.seq .nil (.cond (.seq .nil .nil) .nil)) (.seq (.seq .nil (.seq .nil (.cond (.seq .nil .nil) .nil))) (.seq .nil .nil)))))))))))) (.seq .nil .nil))))))
def S22 (x0 : Option Addr) (x1 : Int) (K : Value → WP) : WP := 
  splitW (Option.isNone x0) (K (.int .i64 (1 : Int))) <|
  callW Tryz.prog 39 [(.pointer x0), (.int .u32 x1)] (.one (.one .bool)) fun (u1 : Bool) =>
  splitW (!u1) (K (.int .i64 (2 : Int))) <|
  newW (.cells #[(.int .u32 x1)] 30) fun (r2 : Nat) =>
  loopW ((Option Addr × Nat × Nat) × Unit) (((some (⟨r2, 0, none⟩ : Addr)), 1, 1), ()) fun (y4 : (Option Addr × Nat × Nat) × Unit) (I3 : ((Option Addr × Nat × Nat) × Unit) → WP) =>
  splitW (decide (((y4.1.2.1 : Nat) : Int) > (0 : Int))) (guardW (0 ≤ (IntKind.wrap .i64 (((y4.1.2.1 : Nat) : Int) - (1 : Int))) ∧ (IntKind.wrap .i64 (((y4.1.2.1 : Nat) : Int) - (1 : Int))) < ((y4.1.2.1 : Nat) : Int)) <|
  ptrW y4.1.1 fun (p5 : Addr) =>
  ldW (.int .u32) (p5.add (Int.toNat (IntKind.wrap .i64 (((y4.1.2.1 : Nat) : Int) - (1 : Int))) * 1)) fun (u6 : Int) =>
  guardW (0 ≤ (IntKind.wrap .i64 (((y4.1.2.1 : Nat) : Int) - (1 : Int))) ∧ (IntKind.wrap .i64 (((y4.1.2.1 : Nat) : Int) - (1 : Int))) ≤ ((y4.1.2.2 : Nat) : Int)) <|
  ptrW x0 fun (p7 : Addr) =>
  ldW .ptr (p7.add 8) fun (u8 : Option Addr) =>
  callW Tryz.prog 41 [(.pointer u8), (.int .u32 u6)] (.one (.one (.int .i64))) fun (u9 : Int) =>
  splitW (u9 != (1 : Int)) (ptrW x0 fun (p10 : Addr) =>
  ldW .ptr (p10.add 8) fun (u11 : Option Addr) =>
  callW Tryz.prog 48 [(.pointer u11), (.int .u32 u6)] (.many [(.one (.int .i64)), (.one (.int .i64))]) fun (u12 : Int × Int × Unit) =>
  splitW (u12.2.1 != (0 : Int)) (K (.int .i64 u12.2.1)) <| I3 (((cutAddr y4.1.1 0 y4.1.2.2 1), (Int.toNat (IntKind.wrap .i64 (((y4.1.2.1 : Nat) : Int) - (1 : Int)))), y4.1.2.2), ())) <|
  callW Tryz.prog 49 [(.pointer x0), (.int .u32 u6)] (.many [(.agg [(.int .u8), .slc, .str]), (.one (.int .i64))]) fun (u13 : (Int × (Option Addr × Nat × Nat) × ByteArray × Unit) × Int × Unit) =>
  newW (.cells #[(.int .u8 (0 : Int)), (.slice none 0 0), (.string ByteArray.empty)] 41) fun (r14 : Nat) =>
  guardW ((#[(.int .u8 u13.1.1), (.slice u13.1.2.1.1 u13.1.2.1.2.1 u13.1.2.1.2.2), (.string u13.1.2.2.1)] : Array Value).size = 3) <|
  stAW (⟨r14, 0, none⟩ : Addr) [(.int .u8 u13.1.1), (.slice u13.1.2.1.1 u13.1.2.1.2.1 u13.1.2.1.2.2), (.string u13.1.2.2.1)] <|
  splitW (u13.2.1 != (0 : Int)) (K (.int .i64 u13.2.1)) <|
  ptrW x0 fun (p15 : Addr) =>
  ldW .ptr (p15.add 8) fun (u16 : Option Addr) =>
  callW Tryz.prog 48 [(.pointer u16), (.int .u32 u6)] (.many [(.one (.int .i64)), (.one (.int .i64))]) fun (u17 : Int × Int × Unit) =>
  splitW (u17.2.1 != (0 : Int)) (K (.int .i64 u17.2.1)) <|
  ldW .slc ((⟨r14, 0, none⟩ : Addr).add 1) fun (u18 : (Option Addr × Nat × Nat)) =>
  callW Tryz.prog 50 [(.slice u18.1 u18.2.1 u18.2.2)] .none fun (u19 : Unit) =>
  ldW .slc ((⟨r14, 0, none⟩ : Addr).add 1) fun (u20 : (Option Addr × Nat × Nat)) =>
  runW Tryz.prog (Builtin.append_ #[39, 39] 39 #[(.slice (cutAddr y4.1.1 0 y4.1.2.2 1) (Int.toNat (IntKind.wrap .i64 (((y4.1.2.1 : Nat) : Int) - (1 : Int)))) y4.1.2.2), (.slice u20.1 u20.2.1 u20.2.2)]) .slc fun (u21 : (Option Addr × Nat × Nat)) => I3 ((u21.1, u21.2.1, u21.2.2), ())) <| K (.int .i64 (0 : Int))
theorem eq22 (x0 : Option Addr) (x1 : Int) (K : Value → WP) : bodyW Tryz.prog Tryz.f22 an22 false [(.pointer x0), (.int .u32 x1)] K = S22 x0 x1 K := by kernel_rfl
theorem calls22 (x0 : Option Addr) (x1 : Int) {K : Value → WP} {w : World} (h : S22 x0 x1 K w) : Calls Tryz.prog 22 #[(.pointer x0), (.int .u32 x1)] w (Ret K) := callsR_of_bodyW mixed Tryz.func22 (of_decide_eq_true (by kernel_rfl)) (by rw [eq22]; exact h)

/-- (*shadowbook/space.Space).Audit -/
def an23 : Ann := (.seq .nil (.seq .nil (.seq (.seq .nil (.cond (.seq .nil .nil) .nil)) (.seq (.seq .nil (.cond (.seq .nil .nil) .nil)) (.seq .nil .nil)))))
def S23 (x0 : Option Addr) (a1 : Option Addr) (n1 c1 : Nat) (K : Value → WP) : WP := 
  callW Tryz.prog 51 [(.pointer x0), (.slice a1 n1 c1)] (.many [(.one .slc), (.one (.int .i64))]) fun (u1 : (Option Addr × Nat × Nat) × Int × Unit) =>
  splitW (u1.2.1 != (0 : Int)) (K (.int .i64 u1.2.1)) <|
  ptrW x0 fun (p2 : Addr) =>
  ldW .ptr (p2.add 8) fun (u3 : Option Addr) =>
  callW Tryz.prog 53 [(.pointer u3)] (.one (.one .slc)) fun (u4 : (Option Addr × Nat × Nat)) =>
  callW Tryz.prog 52 [(.slice u1.1.1 u1.1.2.1 u1.1.2.2), (.slice u4.1 u4.2.1 u4.2.2)] (.one (.one .bool)) fun (u5 : Bool) =>
  splitW (!u5) (K (.int .i64 (8 : Int))) <| K (.int .i64 (0 : Int))
theorem eq23 (x0 : Option Addr) (a1 : Option Addr) (n1 c1 : Nat) (K : Value → WP) : bodyW Tryz.prog Tryz.f23 an23 false [(.pointer x0), (.slice a1 n1 c1)] K = S23 x0 a1 n1 c1 K := by kernel_rfl
theorem calls23 (x0 : Option Addr) (a1 : Option Addr) (n1 c1 : Nat) {K : Value → WP} {w : World} (h : S23 x0 a1 n1 c1 K w) : Calls Tryz.prog 23 #[(.pointer x0), (.slice a1 n1 c1)] w (Ret K) := callsR_of_bodyW mixed Tryz.func23 (of_decide_eq_true (by kernel_rfl)) (by rw [eq23]; exact h)

/-- shadowbook/shadowbookkit.LightGeo -/
def an24 : Ann := (.seq .nil (.seq (.seq .nil (.cond (.seq .nil .nil) .nil)) (.seq .nil .nil)))
def S24 (x0_0 : Int) (x0_1 : Int) (K : Value → WP) : WP := 
  newW (.cells #[(.int .i64 x0_0), (.int .i64 x0_1)] 28) fun (r1 : Nat) =>
  ldW (.int .i64) (⟨r1, 0, none⟩ : Addr) fun (u2 : Int) =>
  splitW (decide (u2 < (128 : Int))) (K (.bool true)) <|
  ldW (.int .i64) (⟨r1, 0, none⟩ : Addr) fun (u3 : Int) =>
  splitW (decide (u3 > (4096 : Int))) (K (.bool true)) <|
  ldW (.int .i64) ((⟨r1, 0, none⟩ : Addr).add 1) fun (u4 : Int) =>
  splitW (decide (u4 < (8 : Int))) (K (.bool true)) <|
  ldW (.int .i64) ((⟨r1, 0, none⟩ : Addr).add 1) fun (u5 : Int) =>
  splitW (decide (u5 > (4096 : Int))) (K (.bool true)) <|
  ldW (.int .i64) (⟨r1, 0, none⟩ : Addr) fun (u6 : Int) =>
  splitW (decide (u6 ≤ (512 : Int))) (ldW (.int .i64) ((⟨r1, 0, none⟩ : Addr).add 1) fun (u7 : Int) => K (.bool (decide (u7 ≤ (40 : Int))))) <| K (.bool false)
theorem eq24 (x0_0 : Int) (x0_1 : Int) (K : Value → WP) : bodyW Tryz.prog Tryz.f24 an24 false [(.agg #[(.int .i64 x0_0), (.int .i64 x0_1)])] K = S24 x0_0 x0_1 K := by kernel_rfl
theorem calls24 (x0_0 : Int) (x0_1 : Int) {K : Value → WP} {w : World} (h : S24 x0_0 x0_1 K w) : Calls Tryz.prog 24 #[(.agg #[(.int .i64 x0_0), (.int .i64 x0_1)])] w (Ret K) := callsR_of_bodyW mixed Tryz.func24 (of_decide_eq_true (by kernel_rfl)) (by rw [eq24]; exact h)

/-- (*shadowbook/space.Space).Commit -/
def an25 : Ann := (.seq .nil (.join [] [0, 1, 1000000] (.block (.seq .nil (.cond (.seq .nil .nil) (.join [(17, .sh (.one .bool))] [0, 1, 1000000] .nil (.cond (.seq .nil .nil) (.seq .nil (.cond (.seq .nil .nil) (.seq .nil (.cond (.seq .nil .nil) .nil))))))))) (.seq .nil (.seq (.seq .nil (.block (.loop [(67, .sh (.one (.int .i64)))] [0, 5, 66, 1000000] (.seq .nil (.seq (.cond .nil .nil) (.seq (.block (.seq .nil (.seq (.seq .nil (.cond (.seq .nil .nil) .nil)) .nil))) .nil)))))) (.seq (.seq .nil (.block (.loop [(90, .sh (.one (.int .i64)))] [0, 5, 88, 89, 1000000] (.seq .nil (.seq (.cond .nil .nil) (.seq (.block (.seq .nil (.seq .nil (.seq .nil (.cond (.seq .nil .nil) .nil))))) .nil)))))) (.seq .nil (.seq (.seq .nil (.seq .nil (.cond (.seq .nil .nil) .nil))) (.seq .nil (.seq .nil .nil)))))))))
def S25 (x0 : Option Addr) (x1 : Int) (K : Value → WP) : WP := 
  joinW (Unit) (fun (J1 : (Unit) → WP) =>
  splitW (Option.isNone x0) (K (.int .i64 (1 : Int))) <|
  joinW (Bool × Unit) (fun (J3 : (Bool × Unit) → WP) =>
  splitW (x1 != (0 : Int)) (callW Tryz.prog 39 [(.pointer x0), (.int .u32 x1)] (.one (.one .bool)) fun (u5 : Bool) => J3 ((!u5), ())) <| J3 (false, ())) fun (y4 : Bool × Unit) =>
  splitW y4.1 (K (.int .i64 (2 : Int))) <|
  splitW (x1 != (0 : Int)) (ptrW x0 fun (p6 : Addr) =>
  ldW .ptr (p6.add 8) fun (u7 : Option Addr) =>
  callW Tryz.prog 41 [(.pointer u7), (.int .u32 x1)] (.one (.one (.int .i64))) fun (u8 : Int) =>
  splitW (u8 == (0 : Int)) (K (.int .i64 (8 : Int))) <|
  drewW <|
  ptrW x0 fun (p9 : Addr) =>
  ldW .slc ((p9.add 1).add 4) fun (u10 : (Option Addr × Nat × Nat)) =>
  callW Tryz.prog 16 [(.pointer x0)] (.one (.one (.int .i64))) fun (u11 : Int) =>
  heldW [[(((p9.add 1).add 4), (.slice u10.1 u10.2.1 u10.2.2))]] <|
  splitW (decide (u11 < ((u10.2.1 : Nat) : Int))) (K (.int .i64 (9 : Int))) <| J1 ()) <|
  drewW <|
  ptrW x0 fun (p12 : Addr) =>
  ldW .slc ((p12.add 1).add 4) fun (u13 : (Option Addr × Nat × Nat)) =>
  callW Tryz.prog 16 [(.pointer x0)] (.one (.one (.int .i64))) fun (u14 : Int) =>
  heldW [[(((p12.add 1).add 4), (.slice u13.1 u13.2.1 u13.2.2))]] <|
  splitW (decide (u14 < ((u13.2.1 : Nat) : Int))) (K (.int .i64 (9 : Int))) <| J1 ()) fun (y2 : Unit) =>
  drewW <|
  ptrW x0 fun (p15 : Addr) =>
  ldW (.int .u64) (p15.add 1) fun (u16 : Int) =>
  ptrW x0 fun (p17 : Addr) =>
  ldAW [(.int .i64), (.int .i64)] ((p17.add 1).add 1) fun (u18 : (Int × Int × Unit)) =>
  newW (.cells #[(.int .u64 (0 : Int)), (.int .i64 (0 : Int)), (.int .i64 (0 : Int)), (.int .u32 (0 : Int)), (.slice none 0 0)] 84) fun (r19 : Nat) =>
  heldW [[(((p17.add 1).add 1).add 0, (.int .i64 u18.1)), (((p17.add 1).add 1).add 1, (.int .i64 u18.2.1))], [((p15.add 1), (.int .u64 u16))]] <|
  guardW ((#[(.int .u64 (IntKind.wrap .u64 (u16 + (1 : Int)))), (.int .i64 u18.1), (.int .i64 u18.2.1), (.int .u32 x1), (.slice none 0 0)] : Array Value).size = 5) <|
  stAW (⟨r19, 0, none⟩ : Addr) [(.int .u64 (IntKind.wrap .u64 (u16 + (1 : Int)))), (.int .i64 u18.1), (.int .i64 u18.2.1), (.int .u32 x1), (.slice none 0 0)] <|
  ptrW x0 fun (p20 : Addr) =>
  ldW .slc ((p20.add 1).add 4) fun (u21 : (Option Addr × Nat × Nat)) =>
  loopW (Int × Unit) ((0 : Int), ()) fun (y23 : Int × Unit) (I22 : (Int × Unit) → WP) =>
  splitW (decide (y23.1 < ((u21.2.1 : Nat) : Int))) (callW Tryz.prog 42 [(.pointer x0)] (.many [(.one (.int .u32)), (.one (.int .i64))]) fun (u24 : Int × Int × Unit) =>
  splitW (u24.2.1 != (0 : Int)) (K (.int .i64 u24.2.1)) <|
  ldW .slc ((⟨r19, 0, none⟩ : Addr).add 4) fun (u25 : (Option Addr × Nat × Nat)) =>
  newW (.cells #[(.int .u32 u24.1)] 30) fun (r26 : Nat) =>
  runW Tryz.prog (Builtin.append_ #[39, 39] 39 #[(.slice u25.1 u25.2.1 u25.2.2), (.slice (some (⟨r26, 0, none⟩ : Addr)) 1 1)]) .slc fun (u27 : (Option Addr × Nat × Nat)) =>
  stW ((⟨r19, 0, none⟩ : Addr).add 4) (.slice u27.1 u27.2.1 u27.2.2) <| I22 ((IntKind.wrap .i64 (y23.1 + (1 : Int))), ())) <|
  ptrW x0 fun (p28 : Addr) =>
  ldW .slc ((p28.add 1).add 4) fun (u29 : (Option Addr × Nat × Nat)) =>
  loopW (Int × Unit) ((0 : Int), ()) fun (y31 : Int × Unit) (I30 : (Int × Unit) → WP) =>
  splitW (decide (y31.1 < ((u29.2.1 : Nat) : Int))) (guardW (0 ≤ y31.1 ∧ y31.1 < ((u29.2.1 : Nat) : Int)) <|
  ptrW u29.1 fun (p32 : Addr) =>
  ldW (.int .u32) (p32.add (Int.toNat y31.1 * 1)) fun (u33 : Int) =>
  ptrW x0 fun (p34 : Addr) =>
  ldW .ptr (p34.add 8) fun (u35 : Option Addr) =>
  callW Tryz.prog 48 [(.pointer u35), (.int .u32 u33)] (.many [(.one (.int .i64)), (.one (.int .i64))]) fun (u36 : Int × Int × Unit) =>
  splitW (u36.2.1 != (0 : Int)) (K (.int .i64 u36.2.1)) <| I30 ((IntKind.wrap .i64 (y31.1 + (1 : Int))), ())) <|
  ptrW x0 fun (p37 : Addr) =>
  ldW (.int .i64) (p37.add 6) fun (u38 : Int) =>
  callW Tryz.prog 54 [(.int .i64 u38)] (.one (.one (.int .i64))) fun (u39 : Int) =>
  drewW <|
  ptrW x0 fun (p40 : Addr) =>
  ldW .ptr p40 fun (u41 : Option Addr) =>
  ptrW x0 fun (p42 : Addr) =>
  ldW .ptr (p42.add 8) fun (u43 : Option Addr) =>
  ldAW [(.int .u64), (.int .i64), (.int .i64), (.int .u32), .slc] (⟨r19, 0, none⟩ : Addr) fun (u44 : (Int × Int × Int × Int × (Option Addr × Nat × Nat) × Unit)) =>
  callW Tryz.prog 55 [(.pointer u41), (.pointer u43), (.agg #[(.int .u64 u44.1), (.int .i64 u44.2.1), (.int .i64 u44.2.2.1), (.int .u32 u44.2.2.2.1), (.slice u44.2.2.2.2.1.1 u44.2.2.2.2.1.2.1 u44.2.2.2.2.1.2.2)]), (.int .i64 u39)] (.one (.one (.int .i64))) fun (u45 : Int) =>
  splitW (u45 != (0 : Int)) (K (.int .i64 u45)) <|
  drewW <|
  ldAW [(.int .u64), (.int .i64), (.int .i64), (.int .u32), .slc] (⟨r19, 0, none⟩ : Addr) fun (u46 : (Int × Int × Int × Int × (Option Addr × Nat × Nat) × Unit)) =>
  ptrW x0 fun (p47 : Addr) =>
  ldW .ptr (p47.add 8) fun (u48 : Option Addr) =>
  callW Tryz.prog 56 [(.pointer u48)] (.one (.one .ptr)) fun (u49 : Option Addr) =>
  heldW [[((⟨r19, 0, none⟩ : Addr).add 0, (.int .u64 u46.1)), ((⟨r19, 0, none⟩ : Addr).add 1, (.int .i64 u46.2.1)), ((⟨r19, 0, none⟩ : Addr).add 2, (.int .i64 u46.2.2.1)), ((⟨r19, 0, none⟩ : Addr).add 3, (.int .u32 u46.2.2.2.1)), ((⟨r19, 0, none⟩ : Addr).add 4, (.slice u46.2.2.2.2.1.1 u46.2.2.2.2.1.2.1 u46.2.2.2.2.1.2.2))]] <|
  ptrW x0 fun (p50 : Addr) =>
  guardW ((#[(.int .u64 u46.1), (.int .i64 u46.2.1), (.int .i64 u46.2.2.1), (.int .u32 u46.2.2.2.1), (.slice u46.2.2.2.2.1.1 u46.2.2.2.2.1.2.1 u46.2.2.2.2.1.2.2)] : Array Value).size = 5) <|
  stAW (p50.add 1) [(.int .u64 u46.1), (.int .i64 u46.2.1), (.int .i64 u46.2.2.1), (.int .u32 u46.2.2.2.1), (.slice u46.2.2.2.2.1.1 u46.2.2.2.2.1.2.1 u46.2.2.2.2.1.2.2)] <|
  ptrW x0 fun (p51 : Addr) =>
  stW (p51.add 6) (.int .i64 u39) <|
  ptrW x0 fun (p52 : Addr) =>
  stW (p52.add 7) (.pointer u49) <|
  ptrW x0 fun (p53 : Addr) =>
  stW (p53.add 9) (.pointer none) <| K (.int .i64 (0 : Int))
theorem eq25 (x0 : Option Addr) (x1 : Int) (K : Value → WP) : bodyW Tryz.prog Tryz.f25 an25 false [(.pointer x0), (.int .u32 x1)] K = S25 x0 x1 K := by kernel_rfl
theorem calls25 (x0 : Option Addr) (x1 : Int) {K : Value → WP} {w : World} (h : S25 x0 x1 K w) : Calls Tryz.prog 25 #[(.pointer x0), (.int .u32 x1)] w (Ret K) := callsR_of_bodyW mixed Tryz.func25 (of_decide_eq_true (by kernel_rfl)) (by rw [eq25]; exact h)

/-- shadowbook/space.Open -/
def an26 : Ann := (.seq .nil (.seq (.seq .nil (.cond (.seq .nil .nil) .nil)) (.seq .nil (.seq .nil (.seq .nil (.seq (.seq .nil (.cond (.seq .nil .nil) .nil)) (.seq .nil (.seq (.seq .nil (.block (.loop [(11, .sh (.one .slc)), (50, .sh (.one (.int .i64)))] [0, 8, 9, 48, 49, 1000000] (.seq .nil (.seq (.cond .nil .nil) (.seq (.block (.seq .nil (.seq .nil (.seq .nil (.seq (.seq .nil (.cond (.seq .nil .nil) .nil)) .nil))))) .nil)))))) (.seq .nil (.seq (.seq .nil (.cond (.seq .nil .nil) .nil)) (.seq .nil .nil)))))))))))
def S26 (x0 : Option Addr) (K : Value → WP) : WP := 
  splitW (Option.isNone x0) (K (.tuple #[(.pointer none), (.int .i64 (1 : Int))])) <|
  callW Tryz.prog 57 [(.pointer x0), (.int .i64 (0 : Int))] (.many [(.one .str), (.one (.int .i64))]) fun (u1 : ByteArray × Int × Unit) =>
  callW Tryz.prog 57 [(.pointer x0), (.int .i64 (1 : Int))] (.many [(.one .str), (.one (.int .i64))]) fun (u2 : ByteArray × Int × Unit) =>
  callW Tryz.prog 58 [(.string u1.1), (.string u2.1)] (.many [(.one (.int .i64)), (.agg [(.int .u64), (.int .i64), (.int .i64), (.int .u32), .slc]), (.one (.int .i64))]) fun (u3 : Int × (Int × Int × Int × Int × (Option Addr × Nat × Nat) × Unit) × Int × Unit) =>
  newW (.cells #[(.int .u64 (0 : Int)), (.int .i64 (0 : Int)), (.int .i64 (0 : Int)), (.int .u32 (0 : Int)), (.slice none 0 0)] 84) fun (r4 : Nat) =>
  guardW ((#[(.int .u64 u3.2.1.1), (.int .i64 u3.2.1.2.1), (.int .i64 u3.2.1.2.2.1), (.int .u32 u3.2.1.2.2.2.1), (.slice u3.2.1.2.2.2.2.1.1 u3.2.1.2.2.2.2.1.2.1 u3.2.1.2.2.2.2.1.2.2)] : Array Value).size = 5) <|
  stAW (⟨r4, 0, none⟩ : Addr) [(.int .u64 u3.2.1.1), (.int .i64 u3.2.1.2.1), (.int .i64 u3.2.1.2.2.1), (.int .u32 u3.2.1.2.2.2.1), (.slice u3.2.1.2.2.2.2.1.1 u3.2.1.2.2.2.2.1.2.1 u3.2.1.2.2.2.2.1.2.2)] <|
  drewW <|
  splitW (u3.2.2.1 != (0 : Int)) (K (.tuple #[(.pointer none), (.int .i64 (10 : Int))])) <|
  ldAW [(.int .i64), (.int .i64)] ((⟨r4, 0, none⟩ : Addr).add 1) fun (u5 : (Int × Int × Unit)) =>
  callW Tryz.prog 59 [(.pointer x0)] (.one (.agg [(.int .i64), (.int .i64)])) fun (u6 : (Int × Int × Unit)) =>
  heldW [[(((⟨r4, 0, none⟩ : Addr).add 1).add 0, (.int .i64 u5.1)), (((⟨r4, 0, none⟩ : Addr).add 1).add 1, (.int .i64 u5.2.1))]] <|
  eqW Tryz.prog (eqS .neq 28 (.tmp 42) (.tmp 44) (.agg #[(.int .i64 u5.1), (.int .i64 u5.2.1)]) (.agg #[(.int .i64 u6.1), (.int .i64 u6.2.1)])) fun (b7 : Bool) =>
  splitW b7 (K (.tuple #[(.pointer none), (.int .i64 (10 : Int))])) <|
  ldW .slc ((⟨r4, 0, none⟩ : Addr).add 4) fun (u8 : (Option Addr × Nat × Nat)) =>
  loopW ((Option Addr × Nat × Nat) × Int × Unit) ((none, 0, 0), (0 : Int), ()) fun (y10 : (Option Addr × Nat × Nat) × Int × Unit) (I9 : ((Option Addr × Nat × Nat) × Int × Unit) → WP) =>
  splitW (decide (y10.2.1 < ((u8.2.1 : Nat) : Int))) (guardW (0 ≤ y10.2.1 ∧ y10.2.1 < ((u8.2.1 : Nat) : Int)) <|
  ptrW u8.1 fun (p11 : Addr) =>
  ldW (.int .u32) (p11.add (Int.toNat y10.2.1 * 1)) fun (u12 : Int) =>
  callW Tryz.prog 57 [(.pointer x0), (.int .i64 (IntKind.wrap .i64 u12))] (.many [(.one .str), (.one (.int .i64))]) fun (u13 : ByteArray × Int × Unit) =>
  callW Tryz.prog 60 [(.string u13.1), (.int .u8 (2 : Int))] (.many [(.agg [(.int .u8), (.int .u64), .str]), (.one (.int .i64))]) fun (u14 : (Int × Int × ByteArray × Unit) × Int × Unit) =>
  newW (.cells #[(.int .u8 (0 : Int)), (.int .u64 (0 : Int)), (.string ByteArray.empty)] 91) fun (r15 : Nat) =>
  guardW ((#[(.int .u8 u14.1.1), (.int .u64 u14.1.2.1), (.string u14.1.2.2.1)] : Array Value).size = 3) <|
  stAW (⟨r15, 0, none⟩ : Addr) [(.int .u8 u14.1.1), (.int .u64 u14.1.2.1), (.string u14.1.2.2.1)] <|
  splitW (u14.2.1 != (0 : Int)) (K (.tuple #[(.pointer none), (.int .i64 (10 : Int))])) <|
  ldW (.int .u64) ((⟨r15, 0, none⟩ : Addr).add 1) fun (u16 : Int) =>
  ldW (.int .u64) (⟨r4, 0, none⟩ : Addr) fun (u17 : Int) =>
  splitW (u16 != u17) (K (.tuple #[(.pointer none), (.int .i64 (10 : Int))])) <|
  ldW .str ((⟨r15, 0, none⟩ : Addr).add 2) fun (u18 : ByteArray) =>
  newW (.cells #[(.string u18)] 9) fun (r19 : Nat) =>
  runW Tryz.prog (Builtin.append_ #[45, 45] 45 #[(.slice y10.1.1 y10.1.2.1 y10.1.2.2), (.slice (some (⟨r19, 0, none⟩ : Addr)) 1 1)]) .slc fun (u20 : (Option Addr × Nat × Nat)) => I9 ((u20.1, u20.2.1, u20.2.2), (IntKind.wrap .i64 (y10.2.1 + (1 : Int))), ())) <|
  callW Tryz.prog 59 [(.pointer x0)] (.one (.agg [(.int .i64), (.int .i64)])) fun (u21 : (Int × Int × Unit)) =>
  callW Tryz.prog 61 [(.agg #[(.int .i64 u21.1), (.int .i64 u21.2.1)]), (.slice y10.1.1 y10.1.2.1 y10.1.2.2)] (.many [(.one .ptr), (.one (.int .i64))]) fun (u22 : Option Addr × Int × Unit) =>
  splitW (u22.2.1 != (0 : Int)) (K (.tuple #[(.pointer none), (.int .i64 (10 : Int))])) <|
  drewW <|
  ldAW [(.int .u64), (.int .i64), (.int .i64), (.int .u32), .slc] (⟨r4, 0, none⟩ : Addr) fun (u23 : (Int × Int × Int × Int × (Option Addr × Nat × Nat) × Unit)) =>
  callW Tryz.prog 56 [(.pointer u22.1)] (.one (.one .ptr)) fun (u24 : Option Addr) =>
  heldW [[((⟨r4, 0, none⟩ : Addr).add 0, (.int .u64 u23.1)), ((⟨r4, 0, none⟩ : Addr).add 1, (.int .i64 u23.2.1)), ((⟨r4, 0, none⟩ : Addr).add 2, (.int .i64 u23.2.2.1)), ((⟨r4, 0, none⟩ : Addr).add 3, (.int .u32 u23.2.2.2.1)), ((⟨r4, 0, none⟩ : Addr).add 4, (.slice u23.2.2.2.2.1.1 u23.2.2.2.2.1.2.1 u23.2.2.2.2.1.2.2))]] <|
  newW (.cells #[(.pointer x0), (.int .u64 u23.1), (.int .i64 u23.2.1), (.int .i64 u23.2.2.1), (.int .u32 u23.2.2.2.1), (.slice u23.2.2.2.2.1.1 u23.2.2.2.2.1.2.1 u23.2.2.2.2.1.2.2), (.int .i64 u3.1), (.pointer u22.1), (.pointer u24), (.pointer none)] 87) fun (r25 : Nat) => K (.tuple #[(.pointer (some (⟨r25, 0, none⟩ : Addr))), (.int .i64 (0 : Int))])
theorem eq26 (x0 : Option Addr) (K : Value → WP) : bodyW Tryz.prog Tryz.f26 an26 false [(.pointer x0)] K = S26 x0 K := by kernel_rfl
theorem calls26 (x0 : Option Addr) {K : Value → WP} {w : World} (h : S26 x0 K w) : Calls Tryz.prog 26 #[(.pointer x0)] w (Ret K) := callsR_of_bodyW mixed Tryz.func26 (of_decide_eq_true (by kernel_rfl)) (by rw [eq26]; exact h)

/-- (*shadowbook/space.Space).Root -/
def an27 : Ann := (.seq .nil (.seq (.seq .nil (.cond (.seq .nil .nil) .nil)) (.seq .nil .nil)))
def S27 (x0 : Option Addr) (K : Value → WP) : WP := 
  splitW (Option.isNone x0) (K (.int .u32 (0 : Int))) <|
  ptrW x0 fun (p1 : Addr) =>
  ldW (.int .u32) ((p1.add 1).add 3) fun (u2 : Int) => K (.int .u32 u2)
theorem eq27 (x0 : Option Addr) (K : Value → WP) : bodyW Tryz.prog Tryz.f27 an27 false [(.pointer x0)] K = S27 x0 K := by kernel_rfl
theorem calls27 (x0 : Option Addr) {K : Value → WP} {w : World} (h : S27 x0 K w) : Calls Tryz.prog 27 #[(.pointer x0)] w (Ret K) := callsR_of_bodyW mixed Tryz.func27 (of_decide_eq_true (by kernel_rfl)) (by rw [eq27]; exact h)

/-- (*shadowbook/space.Space).Count -/
def an28 : Ann := (.seq .nil (.seq (.seq .nil (.cond (.seq .nil .nil) .nil)) (.seq .nil .nil)))
def S28 (x0 : Option Addr) (x1 : Int) (K : Value → WP) : WP := 
  splitW (Option.isNone x0) (K (.int .i64 (0 : Int))) <|
  ptrW x0 fun (p1 : Addr) =>
  ldW .ptr (p1.add 8) fun (u2 : Option Addr) =>
  callW Tryz.prog 41 [(.pointer u2), (.int .u32 x1)] (.one (.one (.int .i64))) fun (u3 : Int) => K (.int .i64 u3)
theorem eq28 (x0 : Option Addr) (x1 : Int) (K : Value → WP) : bodyW Tryz.prog Tryz.f28 an28 false [(.pointer x0), (.int .u32 x1)] K = S28 x0 x1 K := by kernel_rfl
theorem calls28 (x0 : Option Addr) (x1 : Int) {K : Value → WP} {w : World} (h : S28 x0 x1 K w) : Calls Tryz.prog 28 #[(.pointer x0), (.int .u32 x1)] w (Ret K) := callsR_of_bodyW mixed Tryz.func28 (of_decide_eq_true (by kernel_rfl)) (by rw [eq28]; exact h)

/-- shadowbook/device.New -/
def an29 : Ann := (.seq .nil (.seq (.seq .nil (.seq .nil (.cond (.seq .nil .nil) .nil))) (.seq .nil .nil)))
def S29 (x0_0 : Int) (x0_1 : Int) (K : Value → WP) : WP := 
  newW (.cells #[(.int .i64 x0_0), (.int .i64 x0_1)] 28) fun (r1 : Nat) =>
  ldAW [(.int .i64), (.int .i64)] (⟨r1, 0, none⟩ : Addr) fun (u2 : (Int × Int × Unit)) =>
  callW Tryz.prog 62 [(.agg #[(.int .i64 u2.1), (.int .i64 u2.2.1)])] (.one (.one (.int .i64))) fun (u3 : Int) =>
  splitW (u3 != (0 : Int)) (K (.tuple #[(.pointer none), (.int .i64 u3)])) <|
  drewW <|
  ldAW [(.int .i64), (.int .i64)] (⟨r1, 0, none⟩ : Addr) fun (u4 : (Int × Int × Unit)) =>
  ldW (.int .i64) (⟨r1, 0, none⟩ : Addr) fun (u5 : Int) =>
  ldW (.int .i64) ((⟨r1, 0, none⟩ : Addr).add 1) fun (u6 : Int) =>
  callW Tryz.prog 64 [(.string (ByteArray.mk #[0])), (.int .i64 u5)] (.one (.one .str)) fun (u7 : ByteArray) =>
  heldW [[(((⟨r1, 0, none⟩ : Addr).add 1), (.int .i64 u6))], [((⟨r1, 0, none⟩ : Addr).add 0, (.int .i64 u4.1)), ((⟨r1, 0, none⟩ : Addr).add 1, (.int .i64 u4.2.1))]] <|
  newW (.cells #[(.string u7)] 9) fun (r8 : Nat) =>
  heldW [[(((⟨r1, 0, none⟩ : Addr).add 1), (.int .i64 u6))], [((⟨r1, 0, none⟩ : Addr).add 0, (.int .i64 u4.1)), ((⟨r1, 0, none⟩ : Addr).add 1, (.int .i64 u4.2.1))]] <|
  callW Tryz.prog 63 [(.slice (some (⟨r8, 0, none⟩ : Addr)) 1 1), (.int .i64 u6)] (.one (.one .slc)) fun (u9 : (Option Addr × Nat × Nat)) =>
  heldW [[((⟨r1, 0, none⟩ : Addr).add 0, (.int .i64 u4.1)), ((⟨r1, 0, none⟩ : Addr).add 1, (.int .i64 u4.2.1))]] <|
  newW (.cells #[(.int .i64 u4.1), (.int .i64 u4.2.1), (.slice u9.1 u9.2.1 u9.2.2), (.slice none 0 0), (.int .i64 (0 : Int)), (.int .i64 (-1 : Int))] 118) fun (r10 : Nat) => K (.tuple #[(.pointer (some (⟨r10, 0, none⟩ : Addr))), (.int .i64 (0 : Int))])
theorem eq29 (x0_0 : Int) (x0_1 : Int) (K : Value → WP) : bodyW Tryz.prog Tryz.f29 an29 false [(.agg #[(.int .i64 x0_0), (.int .i64 x0_1)])] K = S29 x0_0 x0_1 K := by kernel_rfl
theorem calls29 (x0_0 : Int) (x0_1 : Int) {K : Value → WP} {w : World} (h : S29 x0_0 x0_1 K w) : Calls Tryz.prog 29 #[(.agg #[(.int .i64 x0_0), (.int .i64 x0_1)])] w (Ret K) := callsR_of_bodyW mixed Tryz.func29 (of_decide_eq_true (by kernel_rfl)) (by rw [eq29]; exact h)

/-- shadowbook/space.Format -/
def an30 : Ann := (.seq .nil (.seq (.seq .nil (.cond (.seq .nil .nil) .nil)) (.seq .nil (.seq (.seq .nil (.cond (.seq .nil .nil) .nil)) (.seq .nil (.seq (.seq .nil (.block (.loop [(29, .sh (.one (.int .i64)))] [0, 4, 6, 28, 1000000] (.seq .nil (.seq (.cond .nil .nil) (.seq (.block (.seq .nil (.seq (.seq .nil (.cond (.seq .nil .nil) .nil)) .nil))) .nil)))))) (.seq (.seq .nil (.seq .nil (.cond (.seq .nil .nil) .nil))) (.seq (.seq .nil (.seq .nil (.cond (.seq .nil .nil) .nil))) (.seq (.seq .nil (.seq .nil (.cond (.seq .nil .nil) .nil))) (.seq .nil .nil))))))))))
def S30 (x0 : Option Addr) (K : Value → WP) : WP := 
  splitW (Option.isNone x0) (K (.tuple #[(.pointer none), (.int .i64 (1 : Int))])) <|
  callW Tryz.prog 59 [(.pointer x0)] (.one (.agg [(.int .i64), (.int .i64)])) fun (u1 : (Int × Int × Unit)) =>
  callW Tryz.prog 65 [(.agg #[(.int .i64 u1.1), (.int .i64 u1.2.1)])] (.many [(.one .ptr), (.one (.int .i64))]) fun (u2 : Option Addr × Int × Unit) =>
  splitW (u2.2.1 != (0 : Int)) (K (.tuple #[(.pointer none), (.int .i64 u2.2.1)])) <|
  callW Tryz.prog 59 [(.pointer x0)] (.one (.agg [(.int .i64), (.int .i64)])) fun (u3 : (Int × Int × Unit)) =>
  newW (.cells #[(.int .u64 (0 : Int)), (.int .i64 (0 : Int)), (.int .i64 (0 : Int)), (.int .u32 (0 : Int)), (.slice none 0 0)] 84) fun (r4 : Nat) =>
  guardW ((#[(.int .u64 (1 : Int)), (.int .i64 u3.1), (.int .i64 u3.2.1), (.int .u32 (0 : Int)), (.slice none 0 0)] : Array Value).size = 5) <|
  stAW (⟨r4, 0, none⟩ : Addr) [(.int .u64 (1 : Int)), (.int .i64 u3.1), (.int .i64 u3.2.1), (.int .u32 (0 : Int)), (.slice none 0 0)] <|
  callW Tryz.prog 59 [(.pointer x0)] (.one (.agg [(.int .i64), (.int .i64)])) fun (u5 : (Int × Int × Unit)) =>
  callW Tryz.prog 66 [(.agg #[(.int .i64 u5.1), (.int .i64 u5.2.1)])] (.one (.one (.int .i64))) fun (u6 : Int) =>
  loopW (Int × Unit) ((0 : Int), ()) fun (y8 : Int × Unit) (I7 : (Int × Unit) → WP) =>
  splitW (decide (y8.1 < u6)) (callW Tryz.prog 67 [(.pointer u2.1), (.pointer none)] (.many [(.one (.int .u32)), (.one (.int .i64))]) fun (u9 : Int × Int × Unit) =>
  splitW (u9.2.1 != (0 : Int)) (K (.tuple #[(.pointer none), (.int .i64 (2 : Int))])) <|
  ldW .slc ((⟨r4, 0, none⟩ : Addr).add 4) fun (u10 : (Option Addr × Nat × Nat)) =>
  newW (.cells #[(.int .u32 u9.1)] 30) fun (r11 : Nat) =>
  runW Tryz.prog (Builtin.append_ #[39, 39] 39 #[(.slice u10.1 u10.2.1 u10.2.2), (.slice (some (⟨r11, 0, none⟩ : Addr)) 1 1)]) .slc fun (u12 : (Option Addr × Nat × Nat)) =>
  stW ((⟨r4, 0, none⟩ : Addr).add 4) (.slice u12.1 u12.2.1 u12.2.2) <| I7 ((IntKind.wrap .i64 (y8.1 + (1 : Int))), ())) <|
  ldAW [(.int .u64), (.int .i64), (.int .i64), (.int .u32), .slc] (⟨r4, 0, none⟩ : Addr) fun (u13 : (Int × Int × Int × Int × (Option Addr × Nat × Nat) × Unit)) =>
  callW Tryz.prog 68 [(.agg #[(.int .u64 u13.1), (.int .i64 u13.2.1), (.int .i64 u13.2.2.1), (.int .u32 u13.2.2.2.1), (.slice u13.2.2.2.2.1.1 u13.2.2.2.2.1.2.1 u13.2.2.2.2.1.2.2)])] (.one (.one (.int .i64))) fun (u14 : Int) =>
  splitW (u14 != (0 : Int)) (K (.tuple #[(.pointer none), (.int .i64 u14)])) <|
  callW Tryz.prog 59 [(.pointer x0)] (.one (.agg [(.int .i64), (.int .i64)])) fun (u15 : (Int × Int × Unit)) =>
  runW Tryz.prog (Instr.makeSlice 58 (.int .i64 u15.1) (.int .i64 u15.1)) .slc fun (u16 : Option Addr × Nat × Nat) =>
  runW Tryz.prog (Go.convert 58 9 (.slice u16.1 u16.2.1 u16.2.2)) .str fun (u17 : ByteArray) =>
  callW Tryz.prog 69 [(.pointer x0), (.int .i64 (1 : Int)), (.string u17)] (.one (.one (.int .i64))) fun (u18 : Int) =>
  splitW (u18 != (0 : Int)) (K (.tuple #[(.pointer none), (.int .i64 u18)])) <|
  ldAW [(.int .u64), (.int .i64), (.int .i64), (.int .u32), .slc] (⟨r4, 0, none⟩ : Addr) fun (u19 : (Int × Int × Int × Int × (Option Addr × Nat × Nat) × Unit)) =>
  callW Tryz.prog 55 [(.pointer x0), (.pointer u2.1), (.agg #[(.int .u64 u19.1), (.int .i64 u19.2.1), (.int .i64 u19.2.2.1), (.int .u32 u19.2.2.2.1), (.slice u19.2.2.2.2.1.1 u19.2.2.2.2.1.2.1 u19.2.2.2.2.1.2.2)]), (.int .i64 (0 : Int))] (.one (.one (.int .i64))) fun (u20 : Int) =>
  splitW (u20 != (0 : Int)) (K (.tuple #[(.pointer none), (.int .i64 u20)])) <|
  drewW <|
  ldAW [(.int .u64), (.int .i64), (.int .i64), (.int .u32), .slc] (⟨r4, 0, none⟩ : Addr) fun (u21 : (Int × Int × Int × Int × (Option Addr × Nat × Nat) × Unit)) =>
  callW Tryz.prog 56 [(.pointer u2.1)] (.one (.one .ptr)) fun (u22 : Option Addr) =>
  heldW [[((⟨r4, 0, none⟩ : Addr).add 0, (.int .u64 u21.1)), ((⟨r4, 0, none⟩ : Addr).add 1, (.int .i64 u21.2.1)), ((⟨r4, 0, none⟩ : Addr).add 2, (.int .i64 u21.2.2.1)), ((⟨r4, 0, none⟩ : Addr).add 3, (.int .u32 u21.2.2.2.1)), ((⟨r4, 0, none⟩ : Addr).add 4, (.slice u21.2.2.2.2.1.1 u21.2.2.2.2.1.2.1 u21.2.2.2.2.1.2.2))]] <|
  newW (.cells #[(.pointer x0), (.int .u64 u21.1), (.int .i64 u21.2.1), (.int .i64 u21.2.2.1), (.int .u32 u21.2.2.2.1), (.slice u21.2.2.2.2.1.1 u21.2.2.2.2.1.2.1 u21.2.2.2.2.1.2.2), (.int .i64 (0 : Int)), (.pointer u2.1), (.pointer u22), (.pointer none)] 87) fun (r23 : Nat) => K (.tuple #[(.pointer (some (⟨r23, 0, none⟩ : Addr))), (.int .i64 (0 : Int))])
theorem eq30 (x0 : Option Addr) (K : Value → WP) : bodyW Tryz.prog Tryz.f30 an30 false [(.pointer x0)] K = S30 x0 K := by kernel_rfl
theorem calls30 (x0 : Option Addr) {K : Value → WP} {w : World} (h : S30 x0 K w) : Calls Tryz.prog 30 #[(.pointer x0)] w (Ret K) := callsR_of_bodyW mixed Tryz.func30 (of_decide_eq_true (by kernel_rfl)) (by rw [eq30]; exact h)

/-- shadowbook/blob.Put$1 -/
def an31 : Ann := (.seq .nil (.cond (.seq .nil (.block (.loop [(9, .sh (.one (.int .i64)))] [2, 7, 8, 1000000] (.seq .nil (.seq (.cond .nil .nil) (.seq (.block (.seq .nil .nil)) .nil)))))) .nil))
def S31 (a0 : Addr) (a1 : Addr) (a2 : Addr) (K : Value → WP) : WP := 
  ldW (.int .i64) a0 fun (u1 : Int) =>
  splitW (u1 != (0 : Int)) (ldW .slc a1 fun (u2 : (Option Addr × Nat × Nat)) =>
  loopW (Int × Unit) ((0 : Int), ()) fun (y4 : Int × Unit) (I3 : (Int × Unit) → WP) =>
  splitW (decide (y4.1 < ((u2.2.1 : Nat) : Int))) (guardW (0 ≤ y4.1 ∧ y4.1 < ((u2.2.1 : Nat) : Int)) <|
  ptrW u2.1 fun (p5 : Addr) =>
  ldW (.int .u32) (p5.add (Int.toNat y4.1 * 1)) fun (u6 : Int) =>
  ldW .ptr a2 fun (u7 : Option Addr) =>
  callW Tryz.prog 22 [(.pointer u7), (.int .u32 u6)] (.one (.one (.int .i64))) fun (u8 : Int) => I3 ((IntKind.wrap .i64 (y4.1 + (1 : Int))), ())) <| K (.tuple #[])) <| K (.tuple #[])
theorem eq31 (a0 : Addr) (a1 : Addr) (a2 : Addr) (K : Value → WP) : bodyW Tryz.prog Tryz.f31 an31 false [(.pointer (some a0)), (.pointer (some a1)), (.pointer (some a2))] K = S31 a0 a1 a2 K := by kernel_rfl
theorem calls31 (a0 : Addr) (a1 : Addr) (a2 : Addr) {K : Value → WP} {w : World} (h : S31 a0 a1 a2 K w) : Calls Tryz.prog 31 #[(.pointer (some a0)), (.pointer (some a1)), (.pointer (some a2))] w (Ret K) := callsR_of_bodyW mixed Tryz.func31 (of_decide_eq_true (by kernel_rfl)) (by rw [eq31]; exact h)
theorem callsD31 (a0 : Addr) (a1 : Addr) (a2 : Addr) {K : Value → WP} {w : World} (h : S31 a0 a1 a2 K w) : DCalls Tryz.prog 31 [(.pointer (some a0)), (.pointer (some a1)), (.pointer (some a2))] w K := callsD_of_bodyW mixed Tryz.func31 (of_decide_eq_true (by kernel_rfl)) (by rw [eq31]; exact h)

/-- shadowbook/octet.Put -/
def an32 : Ann := (.seq .nil (.seq (.seq .nil (.cond (.seq .nil .nil) .nil)) (.seq (.seq .nil (.block (.loop [(0, .sh (.one .slc)), (16, .sh (.one (.int .i64)))] [1, 15, 1000000] (.seq .nil (.seq (.cond .nil .nil) (.seq (.block (.seq .nil .nil)) .nil)))))) (.seq .nil .nil))))
def S32 (a0 : Option Addr) (n0 c0 : Nat) (x1 : Int) (x2 : Int) (K : Value → WP) : WP := 
  splitW (decide (x2 < (1 : Int))) (K (.slice a0 n0 c0)) <|
  splitW (decide (x2 > (8 : Int))) (K (.slice a0 n0 c0)) <|
  loopW ((Option Addr × Nat × Nat) × Int × Unit) ((a0, n0, c0), (0 : Int), ()) fun (y2 : (Option Addr × Nat × Nat) × Int × Unit) (I1 : ((Option Addr × Nat × Nat) × Int × Unit) → WP) =>
  splitW (decide (y2.2.1 < x2)) (guardW (0 ≤ (IntKind.wrap .i64 ((8 : Int) * y2.2.1))) <|
  newW (.cells #[(.int .u8 (IntKind.wrap .u8 (ishr .u64 x1 (IntKind.wrap .i64 ((8 : Int) * y2.2.1)))))] 5) fun (r3 : Nat) =>
  runW Tryz.prog (Builtin.append_ #[58, 58] 58 #[(.slice y2.1.1 y2.1.2.1 y2.1.2.2), (.slice (some (⟨r3, 0, none⟩ : Addr)) 1 1)]) .slc fun (u4 : (Option Addr × Nat × Nat)) => I1 ((u4.1, u4.2.1, u4.2.2), (IntKind.wrap .i64 (y2.2.1 + (1 : Int))), ())) <| K (.slice y2.1.1 y2.1.2.1 y2.1.2.2)
theorem eq32 (a0 : Option Addr) (n0 c0 : Nat) (x1 : Int) (x2 : Int) (K : Value → WP) : bodyW Tryz.prog Tryz.f32 an32 false [(.slice a0 n0 c0), (.int .u64 x1), (.int .i64 x2)] K = S32 a0 n0 c0 x1 x2 K := by kernel_rfl
theorem calls32 (a0 : Option Addr) (n0 c0 : Nat) (x1 : Int) (x2 : Int) {K : Value → WP} {w : World} (h : S32 a0 n0 c0 x1 x2 K w) : Calls Tryz.prog 32 #[(.slice a0 n0 c0), (.int .u64 x1), (.int .i64 x2)] w (Ret K) := callsR_of_bodyW mixed Tryz.func32 (of_decide_eq_true (by kernel_rfl)) (by rw [eq32]; exact h)

/-- shadowbook/blob.parts -/
def an33 : Ann := (.seq .nil (.seq .nil .nil))
def S33 (x0 : Option Addr) (x1 : Int) (K : Value → WP) : WP := 
  newW (.cells #[(.pointer x0)] 24) fun (r1 : Nat) =>
  newW (.cells #[(.int .u32 x1)] 30) fun (r2 : Nat) => K (.func (.func 70) #[] #[(.pointer (some (⟨r1, 0, none⟩ : Addr))), (.pointer (some (⟨r2, 0, none⟩ : Addr)))])
theorem eq33 (x0 : Option Addr) (x1 : Int) (K : Value → WP) : bodyW Tryz.prog Tryz.f33 an33 false [(.pointer x0), (.int .u32 x1)] K = S33 x0 x1 K := by kernel_rfl
theorem calls33 (x0 : Option Addr) (x1 : Int) {K : Value → WP} {w : World} (h : S33 x0 x1 K w) : Calls Tryz.prog 33 #[(.pointer x0), (.int .u32 x1)] w (Ret K) := callsR_of_bodyW mixed Tryz.func33 (of_decide_eq_true (by kernel_rfl)) (by rw [eq33]; exact h)

/-- (*strings.Builder).WriteString -/
def an34 : Ann := (.seq .nil (.seq .nil (.seq .nil (.seq .nil .nil))))
def S34 (x0 : Option Addr) (x1 : ByteArray) (K : Value → WP) : WP := 
  callW Tryz.prog 71 [(.pointer x0)] .none fun (u1 : Unit) =>
  ptrW x0 fun (p2 : Addr) =>
  ldW .slc (p2.add 1) fun (u3 : (Option Addr × Nat × Nat)) =>
  runW Tryz.prog (Builtin.append_ #[58, 9] 58 #[(.slice u3.1 u3.2.1 u3.2.2), (.string x1)]) .slc fun (u4 : (Option Addr × Nat × Nat)) =>
  ptrW x0 fun (p5 : Addr) =>
  stW (p5.add 1) (.slice u4.1 u4.2.1 u4.2.2) <| K (.tuple #[(.int .i64 ((x1.size : Nat) : Int)), .nilIface])
theorem eq34 (x0 : Option Addr) (x1 : ByteArray) (K : Value → WP) : bodyW Tryz.prog Tryz.f34 an34 false [(.pointer x0), (.string x1)] K = S34 x0 x1 K := by kernel_rfl
theorem calls34 (x0 : Option Addr) (x1 : ByteArray) {K : Value → WP} {w : World} (h : S34 x0 x1 K w) : Calls Tryz.prog 34 #[(.pointer x0), (.string x1)] w (Ret K) := callsR_of_bodyW mixed Tryz.func34 (of_decide_eq_true (by kernel_rfl)) (by rw [eq34]; exact h)

/-- shadowbook/blob.index -/
def an36 : Ann := (.seq .nil (.seq .nil (.seq (.block (.seq .nil (.cond (.seq .nil .nil) (.seq .nil (.cond (.seq .nil .nil) (.seq .nil (.cond (.seq .nil .nil) .nil))))))) (.seq .nil (.seq .nil (.seq (.seq .nil (.cond (.seq .nil .nil) .nil)) (.seq .nil .nil)))))))
def S36 (x0 : Option Addr) (x1 : Int) (K : Value → WP) : WP := 
  callW Tryz.prog 49 [(.pointer x0), (.int .u32 x1)] (.many [(.agg [(.int .u8), .slc, .str]), (.one (.int .i64))]) fun (u1 : (Int × (Option Addr × Nat × Nat) × ByteArray × Unit) × Int × Unit) =>
  newW (.cells #[(.int .u8 (0 : Int)), (.slice none 0 0), (.string ByteArray.empty)] 41) fun (r2 : Nat) =>
  guardW ((#[(.int .u8 u1.1.1), (.slice u1.1.2.1.1 u1.1.2.1.2.1 u1.1.2.1.2.2), (.string u1.1.2.2.1)] : Array Value).size = 3) <|
  stAW (⟨r2, 0, none⟩ : Addr) [(.int .u8 u1.1.1), (.slice u1.1.2.1.1 u1.1.2.1.2.1 u1.1.2.1.2.2), (.string u1.1.2.2.1)] <|
  splitW (u1.2.1 != (0 : Int)) (K (.tuple #[(.int .i64 (0 : Int)), (.slice none 0 0), (.int .i64 u1.2.1)])) <|
  ldW (.int .u8) (⟨r2, 0, none⟩ : Addr) fun (u3 : Int) =>
  splitW (u3 != (6 : Int)) (K (.tuple #[(.int .i64 (0 : Int)), (.slice none 0 0), (.int .i64 (11 : Int))])) <|
  ldW .str ((⟨r2, 0, none⟩ : Addr).add 2) fun (u4 : ByteArray) =>
  splitW (((u4.size : Nat) : Int) != (4 : Int)) (K (.tuple #[(.int .i64 (0 : Int)), (.slice none 0 0), (.int .i64 (10 : Int))])) <|
  ldW .str ((⟨r2, 0, none⟩ : Addr).add 2) fun (u5 : ByteArray) =>
  runW Tryz.prog (Go.convert 9 58 (.string u5)) .slc fun (u6 : (Option Addr × Nat × Nat)) =>
  callW Tryz.prog 72 [(.slice u6.1 u6.2.1 u6.2.2)] (.one (.one (.int .u64))) fun (u7 : Int) =>
  callW Tryz.prog 18 [(.pointer x0), (.int .i64 (0 : Int))] (.one (.one (.int .i64))) fun (u8 : Int) =>
  drewW <|
  splitW (decide ((IntKind.wrap .i64 u7) > (65536 : Int))) (K (.tuple #[(.int .i64 (0 : Int)), (.slice none 0 0), (.int .i64 (10 : Int))])) <|
  guardW (u8 ≠ 0) <|
  ldW .slc ((⟨r2, 0, none⟩ : Addr).add 1) fun (u9 : (Option Addr × Nat × Nat)) =>
  splitW ((IntKind.wrap .i64 (Int.tdiv (IntKind.wrap .i64 ((IntKind.wrap .i64 ((IntKind.wrap .i64 u7) + u8)) - (1 : Int))) u8)) != ((u9.2.1 : Nat) : Int)) (K (.tuple #[(.int .i64 (0 : Int)), (.slice none 0 0), (.int .i64 (10 : Int))])) <|
  drewW <|
  ldW .slc ((⟨r2, 0, none⟩ : Addr).add 1) fun (u10 : (Option Addr × Nat × Nat)) => K (.tuple #[(.int .i64 (IntKind.wrap .i64 u7)), (.slice u10.1 u10.2.1 u10.2.2), (.int .i64 (0 : Int))])
theorem eq36 (x0 : Option Addr) (x1 : Int) (K : Value → WP) : bodyW Tryz.prog Tryz.f36 an36 false [(.pointer x0), (.int .u32 x1)] K = S36 x0 x1 K := by kernel_rfl
theorem calls36 (x0 : Option Addr) (x1 : Int) {K : Value → WP} {w : World} (h : S36 x0 x1 K w) : Calls Tryz.prog 36 #[(.pointer x0), (.int .u32 x1)] w (Ret K) := callsR_of_bodyW mixed Tryz.func36 (of_decide_eq_true (by kernel_rfl)) (by rw [eq36]; exact h)

/-- slices.ContainsFunc[[]uint32,uint32] -/
def an37 : Ann := (.seq .nil (.seq .nil .nil))
def S37 (a0 : Option Addr) (n0 c0 : Nat) (x1 : Value) (K : Value → WP) : WP := 
  callW Tryz.prog 73 [(.slice a0 n0 c0), x1] (.one (.one (.int .i64))) fun (u1 : Int) => K (.bool (decide (u1 ≥ (0 : Int))))
theorem eq37 (a0 : Option Addr) (n0 c0 : Nat) (x1 : Value) (K : Value → WP) : bodyW Tryz.prog Tryz.f37 an37 false [(.slice a0 n0 c0), x1] K = S37 a0 n0 c0 x1 K := by kernel_rfl
theorem calls37 (a0 : Option Addr) (n0 c0 : Nat) (x1 : Value) {K : Value → WP} {w : World} (h : S37 a0 n0 c0 x1 K w) : Calls Tryz.prog 37 #[(.slice a0 n0 c0), x1] w (Ret K) := callsR_of_bodyW mixed Tryz.func37 (of_decide_eq_true (by kernel_rfl)) (by rw [eq37]; exact h)

/-- (*shadowbook/space.Space).Put$1 -/
def an38 : Ann := (.seq .nil (.seq .nil .nil))
def S38 (x0 : Int) (a1 : Addr) (K : Value → WP) : WP := 
  ldW .ptr a1 fun (u1 : Option Addr) =>
  callW Tryz.prog 39 [(.pointer u1), (.int .u32 x0)] (.one (.one .bool)) fun (u2 : Bool) => K (.bool (!u2))
theorem eq38 (x0 : Int) (a1 : Addr) (K : Value → WP) : bodyW Tryz.prog Tryz.f38 an38 false [(.int .u32 x0), (.pointer (some a1))] K = S38 x0 a1 K := by kernel_rfl
theorem calls38 (x0 : Int) (a1 : Addr) {K : Value → WP} {w : World} (h : S38 x0 a1 K w) : Calls Tryz.prog 38 #[(.int .u32 x0), (.pointer (some a1))] w (Ret K) := callsR_of_bodyW mixed Tryz.func38 (of_decide_eq_true (by kernel_rfl)) (by rw [eq38]; exact h)

/-- (*shadowbook/space.Space).asked -/
def an39 : Ann := (.seq .nil (.seq .nil .nil))
def S39 (x0 : Option Addr) (x1 : Int) (K : Value → WP) : WP := 
  splitW (decide (x1 ≥ (2 : Int))) (ptrW x0 fun (p1 : Addr) =>
  ldW (.int .i64) (((p1.add 1).add 1).add 1) fun (u2 : Int) =>
  splitW (decide ((IntKind.wrap .u64 x1) < (IntKind.wrap .u64 u2))) (ptrW x0 fun (p3 : Addr) =>
  ldW .slc ((p3.add 1).add 4) fun (u4 : (Option Addr × Nat × Nat)) =>
  callW Tryz.prog 74 [(.slice u4.1 u4.2.1 u4.2.2), (.int .u32 x1)] (.one (.one .bool)) fun (u5 : Bool) => K (.bool (!u5))) <| K (.bool false)) <| K (.bool false)
theorem eq39 (x0 : Option Addr) (x1 : Int) (K : Value → WP) : bodyW Tryz.prog Tryz.f39 an39 false [(.pointer x0), (.int .u32 x1)] K = S39 x0 x1 K := by kernel_rfl
theorem calls39 (x0 : Option Addr) (x1 : Int) {K : Value → WP} {w : World} (h : S39 x0 x1 K w) : Calls Tryz.prog 39 #[(.pointer x0), (.int .u32 x1)] w (Ret K) := callsR_of_bodyW mixed Tryz.func39 (of_decide_eq_true (by kernel_rfl)) (by rw [eq39]; exact h)

/-- (*shadowbook/space.Space).Put$2 -/
def an40 : Ann := (.seq .nil (.seq .nil .nil))
def S40 (x0 : Int) (a1 : Addr) (K : Value → WP) : WP := 
  ldW .ptr a1 fun (u1 : Option Addr) =>
  ptrW u1 fun (p2 : Addr) =>
  ldW .ptr (p2.add 8) fun (u3 : Option Addr) =>
  callW Tryz.prog 41 [(.pointer u3), (.int .u32 x0)] (.one (.one (.int .i64))) fun (u4 : Int) => K (.bool (u4 == (0 : Int)))
theorem eq40 (x0 : Int) (a1 : Addr) (K : Value → WP) : bodyW Tryz.prog Tryz.f40 an40 false [(.int .u32 x0), (.pointer (some a1))] K = S40 x0 a1 K := by kernel_rfl
theorem calls40 (x0 : Int) (a1 : Addr) {K : Value → WP} {w : World} (h : S40 x0 a1 K w) : Calls Tryz.prog 40 #[(.int .u32 x0), (.pointer (some a1))] w (Ret K) := callsR_of_bodyW mixed Tryz.func40 (of_decide_eq_true (by kernel_rfl)) (by rw [eq40]; exact h)

/-- (*shadowbook/counts.Counts).Get -/
def an41 : Ann := (.seq .nil (.seq (.seq .nil (.cond (.seq .nil .nil) .nil)) (.seq .nil .nil)))
def S41 (x0 : Option Addr) (x1 : Int) (K : Value → WP) : WP := 
  splitW (Option.isNone x0) (K (.int .i64 (0 : Int))) <|
  ptrW x0 fun (p1 : Addr) =>
  ldW .slc (p1.add 2) fun (u2 : (Option Addr × Nat × Nat)) =>
  splitW (decide ((IntKind.wrap .u64 x1) ≥ (IntKind.wrap .u64 ((u2.2.1 : Nat) : Int)))) (K (.int .i64 (0 : Int))) <|
  ptrW x0 fun (p3 : Addr) =>
  ldW .slc (p3.add 2) fun (u4 : (Option Addr × Nat × Nat)) =>
  guardW (0 ≤ x1 ∧ x1 < ((u4.2.1 : Nat) : Int)) <|
  ptrW u4.1 fun (p5 : Addr) =>
  ldW (.int .u16) (p5.add (Int.toNat x1 * 1)) fun (u6 : Int) => K (.int .i64 (IntKind.wrap .i64 u6))
theorem eq41 (x0 : Option Addr) (x1 : Int) (K : Value → WP) : bodyW Tryz.prog Tryz.f41 an41 false [(.pointer x0), (.int .u32 x1)] K = S41 x0 x1 K := by kernel_rfl
theorem calls41 (x0 : Option Addr) (x1 : Int) {K : Value → WP} {w : World} (h : S41 x0 x1 K w) : Calls Tryz.prog 41 #[(.pointer x0), (.int .u32 x1)] w (Ret K) := callsR_of_bodyW mixed Tryz.func41 (of_decide_eq_true (by kernel_rfl)) (by rw [eq41]; exact h)

/-- (*shadowbook/space.Space).take -/
def an42 : Ann := (.seq .nil (.seq .nil (.seq .nil (.block (.loop [] [1, 4, 1000000] (.block (.seq .nil (.seq (.seq .nil (.cond (.seq .nil .nil) .nil)) .nil))))))))
def S42 (x0 : Option Addr) (K : Value → WP) : WP := 
  newW (.cells #[(.pointer x0)] 24) fun (r1 : Nat) =>
  newW (.cells #[(.slice none 0 0)] 39) fun (r2 : Nat) =>
  loopW (Unit) () fun (y4 : Unit) (I3 : (Unit) → WP) =>
  drewW <|
  ldW .ptr (⟨r1, 0, none⟩ : Addr) fun (u5 : Option Addr) =>
  ptrW u5 fun (p6 : Addr) =>
  ldW .ptr (p6.add 8) fun (u7 : Option Addr) =>
  ldW .ptr (⟨r1, 0, none⟩ : Addr) fun (u8 : Option Addr) =>
  ptrW u8 fun (p9 : Addr) =>
  ldW .ptr (p9.add 7) fun (u10 : Option Addr) =>
  callW Tryz.prog 67 [(.pointer u7), (.pointer u10)] (.many [(.one (.int .u32)), (.one (.int .i64))]) fun (u11 : Int × Int × Unit) =>
  splitW (u11.2.1 != (0 : Int)) (leaveW Tryz.prog (⟨.fn (.func 75) #[(.pointer (some (⟨r2, 0, none⟩ : Addr))), (.pointer (some (⟨r1, 0, none⟩ : Addr)))], #[]⟩ :: []) <| K (.tuple #[(.int .u32 u11.1), (.int .i64 u11.2.1)])) <|
  ldW .ptr (⟨r1, 0, none⟩ : Addr) fun (u12 : Option Addr) =>
  ptrW u12 fun (p13 : Addr) =>
  ldW .ptr (p13.add 9) fun (u14 : Option Addr) =>
  callW Tryz.prog 41 [(.pointer u14), (.int .u32 u11.1)] (.one (.one (.int .i64))) fun (u15 : Int) =>
  splitW (u15 == (0 : Int)) (leaveW Tryz.prog (⟨.fn (.func 75) #[(.pointer (some (⟨r2, 0, none⟩ : Addr))), (.pointer (some (⟨r1, 0, none⟩ : Addr)))], #[]⟩ :: []) <| K (.tuple #[(.int .u32 u11.1), (.int .i64 u11.2.1)])) <|
  ldW .slc (⟨r2, 0, none⟩ : Addr) fun (u16 : (Option Addr × Nat × Nat)) =>
  newW (.cells #[(.int .u32 u11.1)] 30) fun (r17 : Nat) =>
  runW Tryz.prog (Builtin.append_ #[39, 39] 39 #[(.slice u16.1 u16.2.1 u16.2.2), (.slice (some (⟨r17, 0, none⟩ : Addr)) 1 1)]) .slc fun (u18 : (Option Addr × Nat × Nat)) =>
  stW (⟨r2, 0, none⟩ : Addr) (.slice u18.1 u18.2.1 u18.2.2) <| I3 ()
theorem eq42 (x0 : Option Addr) (K : Value → WP) : bodyW Tryz.prog Tryz.f42 an42 true [(.pointer x0)] K = S42 x0 K := by kernel_rfl
theorem calls42 (x0 : Option Addr) {K : Value → WP} {w : World} (h : S42 x0 K w) : Calls Tryz.prog 42 #[(.pointer x0)] w (Ret K) := callsR_of_bodyW mixed Tryz.func42 (of_decide_eq_true (by kernel_rfl)) (by rw [eq42]; exact h)

/-- shadowbook/space.write -/
def an43 : Ann := (.seq .nil (.seq .nil (.seq (.seq .nil (.cond (.seq .nil .nil) .nil)) (.seq .nil .nil))))
def S43 (x0 : Option Addr) (x1 : Int) (x2_0 : Int) (x2_1 : Int) (x2_2 : ByteArray) (K : Value → WP) : WP := 
  newW (.cells #[(.int .u8 x2_0), (.int .u64 x2_1), (.string x2_2)] 91) fun (r1 : Nat) =>
  drewW <|
  ldAW [(.int .u8), (.int .u64), .str] (⟨r1, 0, none⟩ : Addr) fun (u2 : (Int × Int × ByteArray × Unit)) =>
  callW Tryz.prog 59 [(.pointer x0)] (.one (.agg [(.int .i64), (.int .i64)])) fun (u3 : (Int × Int × Unit)) =>
  heldW [[((⟨r1, 0, none⟩ : Addr).add 0, (.int .u8 u2.1)), ((⟨r1, 0, none⟩ : Addr).add 1, (.int .u64 u2.2.1)), ((⟨r1, 0, none⟩ : Addr).add 2, (.string u2.2.2.1))]] <|
  callW Tryz.prog 76 [(.int .i64 u3.1), (.agg #[(.int .u8 u2.1), (.int .u64 u2.2.1), (.string u2.2.2.1)])] (.many [(.one .str), (.one (.int .i64))]) fun (u4 : ByteArray × Int × Unit) =>
  splitW (u4.2.1 != (0 : Int)) (K (.int .i64 u4.2.1)) <|
  callW Tryz.prog 69 [(.pointer x0), (.int .i64 (IntKind.wrap .i64 x1)), (.string u4.1)] (.one (.one (.int .i64))) fun (u5 : Int) => K (.int .i64 u5)
theorem eq43 (x0 : Option Addr) (x1 : Int) (x2_0 : Int) (x2_1 : Int) (x2_2 : ByteArray) (K : Value → WP) : bodyW Tryz.prog Tryz.f43 an43 false [(.pointer x0), (.int .u32 x1), (.agg #[(.int .u8 x2_0), (.int .u64 x2_1), (.string x2_2)])] K = S43 x0 x1 x2_0 x2_1 x2_2 K := by kernel_rfl
theorem calls43 (x0 : Option Addr) (x1 : Int) (x2_0 : Int) (x2_1 : Int) (x2_2 : ByteArray) {K : Value → WP} {w : World} (h : S43 x0 x1 x2_0 x2_1 x2_2 K w) : Calls Tryz.prog 43 #[(.pointer x0), (.int .u32 x1), (.agg #[(.int .u8 x2_0), (.int .u64 x2_1), (.string x2_2)])] w (Ret K) := callsR_of_bodyW mixed Tryz.func43 (of_decide_eq_true (by kernel_rfl)) (by rw [eq43]; exact h)

/-- (*shadowbook/space.Space).free -/
def an44 : Ann := (.seq .nil (.seq .nil .nil))
def S44 (x0 : Option Addr) (K : Value → WP) : WP := 
  newW (.cells #[(.pointer x0)] 24) fun (r1 : Nat) => K (.func (.func 77) #[] #[(.pointer (some (⟨r1, 0, none⟩ : Addr)))])
theorem eq44 (x0 : Option Addr) (K : Value → WP) : bodyW Tryz.prog Tryz.f44 an44 false [(.pointer x0)] K = S44 x0 K := by kernel_rfl
theorem calls44 (x0 : Option Addr) {K : Value → WP} {w : World} (h : S44 x0 K w) : Calls Tryz.prog 44 #[(.pointer x0)] w (Ret K) := callsR_of_bodyW mixed Tryz.func44 (of_decide_eq_true (by kernel_rfl)) (by rw [eq44]; exact h)

/-- shadowbook/frame.Room -/
def an45 : Ann := (.seq .nil (.seq (.seq .nil (.cond (.seq .nil .nil) .nil)) (.seq .nil .nil)))
def S45 (x0 : Int) (K : Value → WP) : WP := 
  callW Tryz.prog 62 [(.agg #[(.int .i64 x0), (.int .i64 (8 : Int))])] (.one (.one (.int .i64))) fun (u1 : Int) =>
  splitW (u1 != (0 : Int)) (K (.int .i64 (0 : Int))) <| K (.int .i64 (IntKind.wrap .i64 ((IntKind.wrap .i64 (x0 - (12 : Int))) - (4 : Int))))
theorem eq45 (x0 : Int) (K : Value → WP) : bodyW Tryz.prog Tryz.f45 an45 false [(.int .i64 x0)] K = S45 x0 K := by kernel_rfl
theorem calls45 (x0 : Int) {K : Value → WP} {w : World} (h : S45 x0 K w) : Calls Tryz.prog 45 #[(.int .i64 x0)] w (Ret K) := callsR_of_bodyW mixed Tryz.func45 (of_decide_eq_true (by kernel_rfl)) (by rw [eq45]; exact h)

/-- shadowbook/blob.Parts$1 -/
def an46 : Ann := (.seq .nil (.seq .nil (.seq .nil (.block (.loop [(9, .sh (.one .str)), (10, .sh (.one (.int .i64)))] [0] (.seq (.seq .nil .nil) (.block (.seq .nil (.cond .nil .nil)))))))))
def S46 (y0 : Nat) (a1 : Addr) (a2 : Addr) (K : Value → WP) : WP := 
  newW (.cells #[(.func (.yield y0) #[] #[])] 95) fun (r1 : Nat) =>
  ldW .ptr a1 fun (u2 : Option Addr) =>
  ldW (.int .u32) a2 fun (u3 : Int) =>
  callW Tryz.prog 33 [(.pointer u2), (.int .u32 u3)] (.one (.one .any)) fun (u4 : Value) =>
  rangeW Tryz.prog u4 (ByteArray × Int × Unit) (fun (t5 : ByteArray × Int × Unit) => [(.string t5.1), (.int .i64 t5.2.1)]) (fun (t5 : ByteArray × Int × Unit) (B6 : WP → WP) (N7 : WP) (Q8 : Code → WP) => B6 (splitW (t5.2.1 != (0 : Int)) (Q8 (.exit 0)) <|
  ldW .any (⟨r1, 0, none⟩ : Addr) fun (u11 : Value) =>
  callVW Tryz.prog u11 [(.string t5.1)] (.one (.one .bool)) fun (u12 : Bool) =>
  splitW (!u12) (Q8 (.exit 0)) <| N7)) fun (r9 : Nat) (p10 : Option Code) =>
  jumpK (leaveW Tryz.prog (⟨.collected r9, #[]⟩ :: []) <| K (.tuple #[])) (leaveW Tryz.prog (⟨.collected r9, #[]⟩ :: []) <| K (.tuple #[])) [(0, leaveW Tryz.prog (⟨.collected r9, #[]⟩ :: []) <| K (.tuple #[]))] p10
theorem eq46 (y0 : Nat) (a1 : Addr) (a2 : Addr) (K : Value → WP) : bodyW Tryz.prog Tryz.f46 an46 true [(.func (.yield y0) #[] #[]), (.pointer (some a1)), (.pointer (some a2))] K = S46 y0 a1 a2 K := by kernel_rfl
theorem calls46 (y0 : Nat) (a1 : Addr) (a2 : Addr) {K : Value → WP} {w : World} (h : S46 y0 a1 a2 K w) : Calls Tryz.prog 46 #[(.func (.yield y0) #[] #[]), (.pointer (some a1)), (.pointer (some a2))] w (Ret K) := callsR_of_bodyW mixed Tryz.func46 (of_decide_eq_true (by kernel_rfl)) (by rw [eq46]; exact h)

/-- (*shadowbook/counts.Counts).Add -/
def an47 : Ann := (.seq .nil (.seq .nil (.seq (.seq .nil (.cond (.seq .nil .nil) .nil)) (.seq (.seq .nil (.cond (.seq .nil .nil) .nil)) (.seq .nil (.seq .nil .nil))))))
def S47 (x0 : Option Addr) (x1 : Int) (K : Value → WP) : WP := 
  callW Tryz.prog 78 [(.pointer x0), (.int .u32 x1)] (.many [(.one .ptr), (.one (.int .i64))]) fun (u1 : Option Addr × Int × Unit) =>
  splitW (u1.2.1 != (0 : Int)) (K (.int .i64 u1.2.1)) <|
  ptrW u1.1 fun (p2 : Addr) =>
  ldW (.int .u16) p2 fun (u3 : Int) =>
  splitW (u3 == (65535 : Int)) (K (.int .i64 (12 : Int))) <|
  ptrW u1.1 fun (p4 : Addr) =>
  ldW (.int .u16) p4 fun (u5 : Int) =>
  ptrW u1.1 fun (p6 : Addr) =>
  stW p6 (.int .u16 (IntKind.wrap .u16 (u5 + (1 : Int)))) <| K (.int .i64 (0 : Int))
theorem eq47 (x0 : Option Addr) (x1 : Int) (K : Value → WP) : bodyW Tryz.prog Tryz.f47 an47 false [(.pointer x0), (.int .u32 x1)] K = S47 x0 x1 K := by kernel_rfl
theorem calls47 (x0 : Option Addr) (x1 : Int) {K : Value → WP} {w : World} (h : S47 x0 x1 K w) : Calls Tryz.prog 47 #[(.pointer x0), (.int .u32 x1)] w (Ret K) := callsR_of_bodyW mixed Tryz.func47 (of_decide_eq_true (by kernel_rfl)) (by rw [eq47]; exact h)

/-- (*shadowbook/counts.Counts).Sub -/
def an48 : Ann := (.seq .nil (.seq .nil (.seq (.seq .nil (.cond (.seq .nil .nil) .nil)) (.seq .nil (.seq .nil .nil)))))
def S48 (x0 : Option Addr) (x1 : Int) (K : Value → WP) : WP := 
  callW Tryz.prog 78 [(.pointer x0), (.int .u32 x1)] (.many [(.one .ptr), (.one (.int .i64))]) fun (u1 : Option Addr × Int × Unit) =>
  splitW (u1.2.1 != (0 : Int)) (K (.tuple #[(.int .i64 (0 : Int)), (.int .i64 u1.2.1)])) <|
  ptrW u1.1 fun (p2 : Addr) =>
  ldW (.int .u16) p2 fun (u3 : Int) =>
  ptrW u1.1 fun (p4 : Addr) =>
  stW p4 (.int .u16 (IntKind.wrap .u16 (u3 - (1 : Int)))) <|
  ptrW u1.1 fun (p5 : Addr) =>
  ldW (.int .u16) p5 fun (u6 : Int) => K (.tuple #[(.int .i64 (IntKind.wrap .i64 u6)), (.int .i64 (0 : Int))])
theorem eq48 (x0 : Option Addr) (x1 : Int) (K : Value → WP) : bodyW Tryz.prog Tryz.f48 an48 false [(.pointer x0), (.int .u32 x1)] K = S48 x0 x1 K := by kernel_rfl
theorem calls48 (x0 : Option Addr) (x1 : Int) {K : Value → WP} {w : World} (h : S48 x0 x1 K w) : Calls Tryz.prog 48 #[(.pointer x0), (.int .u32 x1)] w (Ret K) := callsR_of_bodyW mixed Tryz.func48 (of_decide_eq_true (by kernel_rfl)) (by rw [eq48]; exact h)

/-- (*shadowbook/space.Space).Get -/
def an49 : Ann := (.seq .nil (.seq (.block (.seq .nil (.cond (.seq .nil .nil) (.seq .nil (.cond (.seq .nil .nil) (.seq .nil (.cond (.seq .nil .nil) .nil))))))) (.seq .nil (.seq (.seq .nil (.cond (.seq .nil .nil) .nil)) (.seq .nil .nil)))))
def S49 (x0 : Option Addr) (x1 : Int) (K : Value → WP) : WP := 
  newW (.cells #[(.int .u8 (0 : Int)), (.slice none 0 0), (.string ByteArray.empty)] 41) fun (r1 : Nat) =>
  splitW (Option.isNone x0) (guardW ((#[(.int .u8 (0 : Int)), (.slice none 0 0), (.string ByteArray.empty)] : Array Value).size = 3) <|
  stAW (⟨r1, 0, none⟩ : Addr) [(.int .u8 (0 : Int)), (.slice none 0 0), (.string ByteArray.empty)] <|
  ldAW [(.int .u8), .slc, .str] (⟨r1, 0, none⟩ : Addr) fun (u2 : (Int × (Option Addr × Nat × Nat) × ByteArray × Unit)) => K (.tuple #[(.agg #[(.int .u8 u2.1), (.slice u2.2.1.1 u2.2.1.2.1 u2.2.1.2.2), (.string u2.2.2.1)]), (.int .i64 (1 : Int))])) <|
  callW Tryz.prog 39 [(.pointer x0), (.int .u32 x1)] (.one (.one .bool)) fun (u3 : Bool) =>
  splitW (!u3) (guardW ((#[(.int .u8 (0 : Int)), (.slice none 0 0), (.string ByteArray.empty)] : Array Value).size = 3) <|
  stAW (⟨r1, 0, none⟩ : Addr) [(.int .u8 (0 : Int)), (.slice none 0 0), (.string ByteArray.empty)] <|
  ldAW [(.int .u8), .slc, .str] (⟨r1, 0, none⟩ : Addr) fun (u4 : (Int × (Option Addr × Nat × Nat) × ByteArray × Unit)) => K (.tuple #[(.agg #[(.int .u8 u4.1), (.slice u4.2.1.1 u4.2.1.2.1 u4.2.1.2.2), (.string u4.2.2.1)]), (.int .i64 (2 : Int))])) <|
  ptrW x0 fun (p5 : Addr) =>
  ldW .ptr (p5.add 8) fun (u6 : Option Addr) =>
  callW Tryz.prog 41 [(.pointer u6), (.int .u32 x1)] (.one (.one (.int .i64))) fun (u7 : Int) =>
  splitW (u7 == (0 : Int)) (guardW ((#[(.int .u8 (0 : Int)), (.slice none 0 0), (.string ByteArray.empty)] : Array Value).size = 3) <|
  stAW (⟨r1, 0, none⟩ : Addr) [(.int .u8 (0 : Int)), (.slice none 0 0), (.string ByteArray.empty)] <|
  ldAW [(.int .u8), .slc, .str] (⟨r1, 0, none⟩ : Addr) fun (u8 : (Int × (Option Addr × Nat × Nat) × ByteArray × Unit)) => K (.tuple #[(.agg #[(.int .u8 u8.1), (.slice u8.2.1.1 u8.2.1.2.1 u8.2.1.2.2), (.string u8.2.2.1)]), (.int .i64 (8 : Int))])) <|
  ptrW x0 fun (p9 : Addr) =>
  ldW .ptr p9 fun (u10 : Option Addr) =>
  callW Tryz.prog 57 [(.pointer u10), (.int .i64 (IntKind.wrap .i64 x1))] (.many [(.one .str), (.one (.int .i64))]) fun (u11 : ByteArray × Int × Unit) =>
  splitW (u11.2.1 != (0 : Int)) (guardW ((#[(.int .u8 (0 : Int)), (.slice none 0 0), (.string ByteArray.empty)] : Array Value).size = 3) <|
  stAW (⟨r1, 0, none⟩ : Addr) [(.int .u8 (0 : Int)), (.slice none 0 0), (.string ByteArray.empty)] <|
  ldAW [(.int .u8), .slc, .str] (⟨r1, 0, none⟩ : Addr) fun (u12 : (Int × (Option Addr × Nat × Nat) × ByteArray × Unit)) => K (.tuple #[(.agg #[(.int .u8 u12.1), (.slice u12.2.1.1 u12.2.1.2.1 u12.2.1.2.2), (.string u12.2.2.1)]), (.int .i64 u11.2.1)])) <|
  callW Tryz.prog 79 [(.pointer x0), (.string u11.1)] (.many [(.agg [(.int .u8), .slc, .str]), (.one (.int .i64))]) fun (u13 : (Int × (Option Addr × Nat × Nat) × ByteArray × Unit) × Int × Unit) =>
  guardW ((#[(.int .u8 u13.1.1), (.slice u13.1.2.1.1 u13.1.2.1.2.1 u13.1.2.1.2.2), (.string u13.1.2.2.1)] : Array Value).size = 3) <|
  stAW (⟨r1, 0, none⟩ : Addr) [(.int .u8 u13.1.1), (.slice u13.1.2.1.1 u13.1.2.1.2.1 u13.1.2.1.2.2), (.string u13.1.2.2.1)] <|
  ldAW [(.int .u8), .slc, .str] (⟨r1, 0, none⟩ : Addr) fun (u14 : (Int × (Option Addr × Nat × Nat) × ByteArray × Unit)) => K (.tuple #[(.agg #[(.int .u8 u14.1), (.slice u14.2.1.1 u14.2.1.2.1 u14.2.1.2.2), (.string u14.2.2.1)]), (.int .i64 u13.2.1)])
theorem eq49 (x0 : Option Addr) (x1 : Int) (K : Value → WP) : bodyW Tryz.prog Tryz.f49 an49 false [(.pointer x0), (.int .u32 x1)] K = S49 x0 x1 K := by kernel_rfl
theorem calls49 (x0 : Option Addr) (x1 : Int) {K : Value → WP} {w : World} (h : S49 x0 x1 K w) : Calls Tryz.prog 49 #[(.pointer x0), (.int .u32 x1)] w (Ret K) := callsR_of_bodyW mixed Tryz.func49 (of_decide_eq_true (by kernel_rfl)) (by rw [eq49]; exact h)

/-- slices.Reverse[[]uint32,uint32] -/
def an50 : Ann := (.seq .nil (.block (.loop [(2, .sh (.one (.int .i64))), (3, .sh (.one (.int .i64)))] [0, 1000000] (.seq (.seq .nil (.cond .nil .nil)) (.seq (.block .nil) .nil)))))
def S50 (a0 : Option Addr) (n0 c0 : Nat) (K : Value → WP) : WP := 
  loopW (Int × Int × Unit) ((0 : Int), (IntKind.wrap .i64 (((n0 : Nat) : Int) - (1 : Int))), ()) fun (y2 : Int × Int × Unit) (I1 : (Int × Int × Unit) → WP) =>
  splitW (decide (y2.1 < y2.2.1)) (drewW <|
  guardW (0 ≤ y2.2.1 ∧ y2.2.1 < ((n0 : Nat) : Int)) <|
  ptrW a0 fun (p3 : Addr) =>
  ldW (.int .u32) (p3.add (Int.toNat y2.2.1 * 1)) fun (u4 : Int) =>
  guardW (0 ≤ y2.1 ∧ y2.1 < ((n0 : Nat) : Int)) <|
  ptrW a0 fun (p5 : Addr) =>
  ldW (.int .u32) (p5.add (Int.toNat y2.1 * 1)) fun (u6 : Int) =>
  guardW (0 ≤ y2.1 ∧ y2.1 < ((n0 : Nat) : Int)) <|
  ptrW a0 fun (p7 : Addr) =>
  stW (p7.add (Int.toNat y2.1 * 1)) (.int .u32 u4) <|
  guardW (0 ≤ y2.2.1 ∧ y2.2.1 < ((n0 : Nat) : Int)) <|
  ptrW a0 fun (p8 : Addr) =>
  stW (p8.add (Int.toNat y2.2.1 * 1)) (.int .u32 u6) <| I1 ((IntKind.wrap .i64 (y2.1 + (1 : Int))), (IntKind.wrap .i64 (y2.2.1 - (1 : Int))), ())) <| K (.tuple #[])
theorem eq50 (a0 : Option Addr) (n0 c0 : Nat) (K : Value → WP) : bodyW Tryz.prog Tryz.f50 an50 false [(.slice a0 n0 c0)] K = S50 a0 n0 c0 K := by kernel_rfl
theorem calls50 (a0 : Option Addr) (n0 c0 : Nat) {K : Value → WP} {w : World} (h : S50 a0 n0 c0 K w) : Calls Tryz.prog 50 #[(.slice a0 n0 c0)] w (Ret K) := callsR_of_bodyW mixed Tryz.func50 (of_decide_eq_true (by kernel_rfl)) (by rw [eq50]; exact h)

/-- (*shadowbook/space.Space).Walk -/
def an51 : Ann := (.seq .nil (.seq (.seq .nil (.cond (.seq .nil .nil) .nil)) (.seq .nil (.seq .nil (.seq (.seq .nil (.block (.loop [(23, .sh (.one (.int .u32)))] [] (.seq .nil (.block .nil))))) (.seq (.seq .nil (.cond (.seq .nil .nil) .nil)) (.seq .nil (.seq (.seq .nil (.block (.loop [(43, .sh (.one (.int .i64)))] [6, 41, 42, 1000000] (.seq .nil (.seq (.cond .nil .nil) (.seq (.block (.seq .nil .nil)) .nil)))))) (.seq .nil .nil)))))))))
def S51 (x0 : Option Addr) (a1 : Option Addr) (n1 c1 : Nat) (K : Value → WP) : WP := 
  splitW (Option.isNone x0) (leaveW Tryz.prog [] <| K (.tuple #[(.slice none 0 0), (.int .i64 (1 : Int))])) <|
  ptrW x0 fun (p1 : Addr) =>
  ldW (.int .i64) (((p1.add 1).add 1).add 1) fun (u2 : Int) =>
  runW Tryz.prog (Instr.makeSlice 100 (.int .i64 u2) (.int .i64 u2)) .slc fun (u3 : Option Addr × Nat × Nat) =>
  newW (.cells #[(.slice none 0 0)] 100) fun (r4 : Nat) =>
  stW (⟨r4, 0, none⟩ : Addr) (.slice u3.1 u3.2.1 u3.2.2) <|
  newW (.cells #[(.int .i64 (0 : Int))] 31) fun (r5 : Nat) =>
  stW (⟨r5, 0, none⟩ : Addr) (.int .i64 (0 : Int)) <|
  callW Tryz.prog 80 [(.pointer x0), (.slice a1 n1 c1), (.pointer (some (⟨r5, 0, none⟩ : Addr)))] (.one (.one .any)) fun (u6 : Value) =>
  rangeW Tryz.prog u6 (Int × Unit) (fun (t7 : Int × Unit) => [(.int .u32 t7.1)]) (fun (t7 : Int × Unit) (B8 : WP → WP) (N9 : WP) (Q10 : Code → WP) => B8 (ldW .slc (⟨r4, 0, none⟩ : Addr) fun (u13 : (Option Addr × Nat × Nat)) =>
  guardW (0 ≤ t7.1 ∧ t7.1 < ((u13.2.1 : Nat) : Int)) <|
  ptrW u13.1 fun (p14 : Addr) =>
  ldW (.int .i64) (p14.add (Int.toNat t7.1 * 1)) fun (u15 : Int) =>
  guardW (0 ≤ t7.1 ∧ t7.1 < ((u13.2.1 : Nat) : Int)) <|
  ptrW u13.1 fun (p16 : Addr) =>
  stW (p16.add (Int.toNat t7.1 * 1)) (.int .i64 (IntKind.wrap .i64 (u15 + (1 : Int)))) <| N9)) fun (r11 : Nat) (p12 : Option Code) =>
  jumpK (ldW (.int .i64) (⟨r5, 0, none⟩ : Addr) fun (u17 : Int) =>
  splitW (u17 != (0 : Int)) (drewW <|
  ldW (.int .i64) (⟨r5, 0, none⟩ : Addr) fun (u18 : Int) =>
  leaveW Tryz.prog (⟨.collected r11, #[]⟩ :: []) <| K (.tuple #[(.slice none 0 0), (.int .i64 u18)])) <|
  drewW <|
  ldW .slc (⟨r4, 0, none⟩ : Addr) fun (u19 : (Option Addr × Nat × Nat)) =>
  ldW .slc (⟨r4, 0, none⟩ : Addr) fun (u20 : (Option Addr × Nat × Nat)) =>
  guardW (0 ≤ (0 : Int) ∧ (0 : Int) < ((u19.2.1 : Nat) : Int)) <|
  ptrW u19.1 fun (p21 : Addr) =>
  stW (p21.add (Int.toNat (0 : Int) * 1)) (.int .i64 (1 : Int)) <|
  heldW [[((⟨r4, 0, none⟩ : Addr), (.slice u20.1 u20.2.1 u20.2.2))]] <|
  guardW (0 ≤ (1 : Int) ∧ (1 : Int) < ((u20.2.1 : Nat) : Int)) <|
  ptrW u20.1 fun (p22 : Addr) =>
  stW (p22.add (Int.toNat (1 : Int) * 1)) (.int .i64 (1 : Int)) <|
  ptrW x0 fun (p23 : Addr) =>
  ldW .slc ((p23.add 1).add 4) fun (u24 : (Option Addr × Nat × Nat)) =>
  loopW (Int × Unit) ((0 : Int), ()) fun (y26 : Int × Unit) (I25 : (Int × Unit) → WP) =>
  splitW (decide (y26.1 < ((u24.2.1 : Nat) : Int))) (guardW (0 ≤ y26.1 ∧ y26.1 < ((u24.2.1 : Nat) : Int)) <|
  ptrW u24.1 fun (p27 : Addr) =>
  ldW (.int .u32) (p27.add (Int.toNat y26.1 * 1)) fun (u28 : Int) =>
  ldW .slc (⟨r4, 0, none⟩ : Addr) fun (u29 : (Option Addr × Nat × Nat)) =>
  guardW (0 ≤ u28 ∧ u28 < ((u29.2.1 : Nat) : Int)) <|
  ptrW u29.1 fun (p30 : Addr) =>
  stW (p30.add (Int.toNat u28 * 1)) (.int .i64 (1 : Int)) <| I25 ((IntKind.wrap .i64 (y26.1 + (1 : Int))), ())) <|
  ldW .slc (⟨r4, 0, none⟩ : Addr) fun (u31 : (Option Addr × Nat × Nat)) =>
  leaveW Tryz.prog (⟨.collected r11, #[]⟩ :: []) <| K (.tuple #[(.slice u31.1 u31.2.1 u31.2.2), (.int .i64 (0 : Int))])) (leaveW Tryz.prog (⟨.collected r11, #[]⟩ :: []) <| K (.tuple #[(.slice none 0 0), (.int .i64 (0 : Int))])) [] p12
theorem eq51 (x0 : Option Addr) (a1 : Option Addr) (n1 c1 : Nat) (K : Value → WP) : bodyW Tryz.prog Tryz.f51 an51 true [(.pointer x0), (.slice a1 n1 c1)] K = S51 x0 a1 n1 c1 K := by kernel_rfl
theorem calls51 (x0 : Option Addr) (a1 : Option Addr) (n1 c1 : Nat) {K : Value → WP} {w : World} (h : S51 x0 a1 n1 c1 K w) : Calls Tryz.prog 51 #[(.pointer x0), (.slice a1 n1 c1)] w (Ret K) := callsR_of_bodyW mixed Tryz.func51 (of_decide_eq_true (by kernel_rfl)) (by rw [eq51]; exact h)

/-- slices.Equal[[]int,int] -/
def an52 : Ann := (.seq .nil (.seq (.seq .nil (.cond (.seq .nil .nil) .nil)) (.seq (.seq .nil (.block (.loop [(13, .sh (.one (.int .i64)))] [0, 1, 12, 1000000] (.seq .nil (.seq (.cond .nil .nil) (.seq (.block (.seq .nil (.seq .nil (.cond (.seq .nil .nil) .nil)))) .nil)))))) (.seq .nil .nil))))
def S52 (a0 : Option Addr) (n0 c0 : Nat) (a1 : Option Addr) (n1 c1 : Nat) (K : Value → WP) : WP := 
  splitW (((n0 : Nat) : Int) != ((n1 : Nat) : Int)) (K (.bool false)) <|
  loopW (Int × Unit) ((0 : Int), ()) fun (y2 : Int × Unit) (I1 : (Int × Unit) → WP) =>
  splitW (decide (y2.1 < ((n0 : Nat) : Int))) (drewW <|
  guardW (0 ≤ y2.1 ∧ y2.1 < ((n0 : Nat) : Int)) <|
  ptrW a0 fun (p3 : Addr) =>
  ldW (.int .i64) (p3.add (Int.toNat y2.1 * 1)) fun (u4 : Int) =>
  guardW (0 ≤ y2.1 ∧ y2.1 < ((n1 : Nat) : Int)) <|
  ptrW a1 fun (p5 : Addr) =>
  ldW (.int .i64) (p5.add (Int.toNat y2.1 * 1)) fun (u6 : Int) =>
  splitW (u4 != u6) (K (.bool false)) <| I1 ((IntKind.wrap .i64 (y2.1 + (1 : Int))), ())) <| K (.bool true)
theorem eq52 (a0 : Option Addr) (n0 c0 : Nat) (a1 : Option Addr) (n1 c1 : Nat) (K : Value → WP) : bodyW Tryz.prog Tryz.f52 an52 false [(.slice a0 n0 c0), (.slice a1 n1 c1)] K = S52 a0 n0 c0 a1 n1 c1 K := by kernel_rfl
theorem calls52 (a0 : Option Addr) (n0 c0 : Nat) (a1 : Option Addr) (n1 c1 : Nat) {K : Value → WP} {w : World} (h : S52 a0 n0 c0 a1 n1 c1 K w) : Calls Tryz.prog 52 #[(.slice a0 n0 c0), (.slice a1 n1 c1)] w (Ret K) := callsR_of_bodyW mixed Tryz.func52 (of_decide_eq_true (by kernel_rfl)) (by rw [eq52]; exact h)

/-- (*shadowbook/counts.Counts).All -/
def an53 : Ann := (.seq .nil (.seq (.seq .nil (.cond (.seq .nil .nil) .nil)) (.seq (.seq .nil (.block (.loop [(2, .sh (.one .slc)), (12, .sh (.one (.int .i64)))] [10, 11, 1000000] (.seq .nil (.seq (.cond .nil .nil) (.seq (.block (.seq .nil .nil)) .nil)))))) (.seq .nil .nil))))
def S53 (x0 : Option Addr) (K : Value → WP) : WP := 
  splitW (Option.isNone x0) (K (.slice none 0 0)) <|
  ptrW x0 fun (p1 : Addr) =>
  ldW .slc (p1.add 2) fun (u2 : (Option Addr × Nat × Nat)) =>
  loopW ((Option Addr × Nat × Nat) × Int × Unit) ((none, 0, 0), (0 : Int), ()) fun (y4 : (Option Addr × Nat × Nat) × Int × Unit) (I3 : ((Option Addr × Nat × Nat) × Int × Unit) → WP) =>
  splitW (decide (y4.2.1 < ((u2.2.1 : Nat) : Int))) (guardW (0 ≤ y4.2.1 ∧ y4.2.1 < ((u2.2.1 : Nat) : Int)) <|
  ptrW u2.1 fun (p5 : Addr) =>
  ldW (.int .u16) (p5.add (Int.toNat y4.2.1 * 1)) fun (u6 : Int) =>
  newW (.cells #[(.int .i64 (IntKind.wrap .i64 u6))] 3) fun (r7 : Nat) =>
  runW Tryz.prog (Builtin.append_ #[100, 100] 100 #[(.slice y4.1.1 y4.1.2.1 y4.1.2.2), (.slice (some (⟨r7, 0, none⟩ : Addr)) 1 1)]) .slc fun (u8 : (Option Addr × Nat × Nat)) => I3 ((u8.1, u8.2.1, u8.2.2), (IntKind.wrap .i64 (y4.2.1 + (1 : Int))), ())) <| K (.slice y4.1.1 y4.1.2.1 y4.1.2.2)
theorem eq53 (x0 : Option Addr) (K : Value → WP) : bodyW Tryz.prog Tryz.f53 an53 false [(.pointer x0)] K = S53 x0 K := by kernel_rfl
theorem calls53 (x0 : Option Addr) {K : Value → WP} {w : World} (h : S53 x0 K w) : Calls Tryz.prog 53 #[(.pointer x0)] w (Ret K) := callsR_of_bodyW mixed Tryz.func53 (of_decide_eq_true (by kernel_rfl)) (by rw [eq53]; exact h)

/-- shadowbook/super.Other -/
def an54 : Ann := (.seq .nil (.seq (.seq .nil (.cond (.seq .nil .nil) .nil)) (.seq .nil .nil)))
def S54 (x0 : Int) (K : Value → WP) : WP := 
  splitW (x0 == (0 : Int)) (K (.int .i64 (1 : Int))) <| K (.int .i64 (0 : Int))
theorem eq54 (x0 : Int) (K : Value → WP) : bodyW Tryz.prog Tryz.f54 an54 false [(.int .i64 x0)] K = S54 x0 K := by kernel_rfl
theorem calls54 (x0 : Int) {K : Value → WP} {w : World} (h : S54 x0 K w) : Calls Tryz.prog 54 #[(.int .i64 x0)] w (Ret K) := callsR_of_bodyW mixed Tryz.func54 (of_decide_eq_true (by kernel_rfl)) (by rw [eq54]; exact h)

/-- shadowbook/space.commit -/
def an55 : Ann := (.seq .nil (.seq (.seq .nil (.block (.loop [(19, .sh (.one (.int .i64)))] [0, 3, 6, 17, 18, 1000000] (.seq .nil (.seq (.cond .nil .nil) (.seq (.block (.seq .nil (.seq .nil (.seq .nil (.cond (.seq .nil .nil) .nil))))) .nil)))))) (.seq (.seq .nil (.seq .nil (.cond (.seq .nil .nil) .nil))) (.seq .nil (.seq (.seq .nil (.cond (.seq .nil .nil) .nil)) (.seq (.seq .nil (.seq .nil (.cond (.seq .nil .nil) .nil))) (.seq .nil .nil)))))))
def S55 (x0 : Option Addr) (x1 : Option Addr) (x2_0 : Int) (x2_1 : Int) (x2_2 : Int) (x2_3 : Int) (a2_4 : Option Addr) (n2_4 c2_4 : Nat) (x3 : Int) (K : Value → WP) : WP := 
  newW (.cells #[(.int .u64 x2_0), (.int .i64 x2_1), (.int .i64 x2_2), (.int .u32 x2_3), (.slice a2_4 n2_4 c2_4)] 84) fun (r1 : Nat) =>
  callW Tryz.prog 81 [(.pointer x1)] (.one (.one .slc)) fun (u2 : (Option Addr × Nat × Nat)) =>
  loopW (Int × Unit) ((0 : Int), ()) fun (y4 : Int × Unit) (I3 : (Int × Unit) → WP) =>
  splitW (decide (y4.1 < ((u2.2.1 : Nat) : Int))) (guardW (0 ≤ y4.1 ∧ y4.1 < ((u2.2.1 : Nat) : Int)) <|
  ptrW u2.1 fun (p5 : Addr) =>
  ldW .str (p5.add (Int.toNat y4.1 * 1)) fun (u6 : ByteArray) =>
  drewW <|
  ldW .slc ((⟨r1, 0, none⟩ : Addr).add 4) fun (u7 : (Option Addr × Nat × Nat)) =>
  guardW (0 ≤ y4.1 ∧ y4.1 < ((u7.2.1 : Nat) : Int)) <|
  ptrW u7.1 fun (p8 : Addr) =>
  ldW (.int .u32) (p8.add (Int.toNat y4.1 * 1)) fun (u9 : Int) =>
  ldW (.int .u64) (⟨r1, 0, none⟩ : Addr) fun (u10 : Int) =>
  callW Tryz.prog 43 [(.pointer x0), (.int .u32 u9), (.agg #[(.int .u8 (2 : Int)), (.int .u64 u10), (.string u6)])] (.one (.one (.int .i64))) fun (u11 : Int) =>
  splitW (u11 != (0 : Int)) (K (.int .i64 u11)) <| I3 ((IntKind.wrap .i64 (y4.1 + (1 : Int))), ())) <|
  callW Tryz.prog 82 [(.pointer x0)] (.one (.one (.int .i64))) fun (u12 : Int) =>
  splitW (u12 != (0 : Int)) (K (.int .i64 u12)) <|
  ldAW [(.int .u64), (.int .i64), (.int .i64), (.int .u32), .slc] (⟨r1, 0, none⟩ : Addr) fun (u13 : (Int × Int × Int × Int × (Option Addr × Nat × Nat) × Unit)) =>
  callW Tryz.prog 83 [(.agg #[(.int .u64 u13.1), (.int .i64 u13.2.1), (.int .i64 u13.2.2.1), (.int .u32 u13.2.2.2.1), (.slice u13.2.2.2.2.1.1 u13.2.2.2.2.1.2.1 u13.2.2.2.2.1.2.2)])] (.many [(.one .str), (.one (.int .i64))]) fun (u14 : ByteArray × Int × Unit) =>
  splitW (u14.2.1 != (0 : Int)) (K (.int .i64 u14.2.1)) <|
  callW Tryz.prog 69 [(.pointer x0), (.int .i64 x3), (.string u14.1)] (.one (.one (.int .i64))) fun (u15 : Int) =>
  splitW (u15 != (0 : Int)) (K (.int .i64 u15)) <|
  callW Tryz.prog 82 [(.pointer x0)] (.one (.one (.int .i64))) fun (u16 : Int) => K (.int .i64 u16)
theorem eq55 (x0 : Option Addr) (x1 : Option Addr) (x2_0 : Int) (x2_1 : Int) (x2_2 : Int) (x2_3 : Int) (a2_4 : Option Addr) (n2_4 c2_4 : Nat) (x3 : Int) (K : Value → WP) : bodyW Tryz.prog Tryz.f55 an55 false [(.pointer x0), (.pointer x1), (.agg #[(.int .u64 x2_0), (.int .i64 x2_1), (.int .i64 x2_2), (.int .u32 x2_3), (.slice a2_4 n2_4 c2_4)]), (.int .i64 x3)] K = S55 x0 x1 x2_0 x2_1 x2_2 x2_3 a2_4 n2_4 c2_4 x3 K := by kernel_rfl
theorem calls55 (x0 : Option Addr) (x1 : Option Addr) (x2_0 : Int) (x2_1 : Int) (x2_2 : Int) (x2_3 : Int) (a2_4 : Option Addr) (n2_4 c2_4 : Nat) (x3 : Int) {K : Value → WP} {w : World} (h : S55 x0 x1 x2_0 x2_1 x2_2 x2_3 a2_4 n2_4 c2_4 x3 K w) : Calls Tryz.prog 55 #[(.pointer x0), (.pointer x1), (.agg #[(.int .u64 x2_0), (.int .i64 x2_1), (.int .i64 x2_2), (.int .u32 x2_3), (.slice a2_4 n2_4 c2_4)]), (.int .i64 x3)] w (Ret K) := callsR_of_bodyW mixed Tryz.func55 (of_decide_eq_true (by kernel_rfl)) (by rw [eq55]; exact h)

/-- (*shadowbook/counts.Counts).Clone -/
def an56 : Ann := (.seq .nil (.seq (.seq .nil (.cond (.seq .nil .nil) .nil)) (.seq .nil .nil)))
def S56 (x0 : Option Addr) (K : Value → WP) : WP := 
  splitW (Option.isNone x0) (K (.pointer none)) <|
  drewW <|
  ptrW x0 fun (p1 : Addr) =>
  ldAW [(.int .i64), (.int .i64)] p1 fun (u2 : (Int × Int × Unit)) =>
  ptrW x0 fun (p3 : Addr) =>
  ldW .slc (p3.add 2) fun (u4 : (Option Addr × Nat × Nat)) =>
  callW Tryz.prog 84 [(.slice u4.1 u4.2.1 u4.2.2)] (.one (.one .slc)) fun (u5 : (Option Addr × Nat × Nat)) =>
  heldW [[(p1.add 0, (.int .i64 u2.1)), (p1.add 1, (.int .i64 u2.2.1))]] <|
  newW (.cells #[(.int .i64 u2.1), (.int .i64 u2.2.1), (.slice u5.1 u5.2.1 u5.2.2)] 131) fun (r6 : Nat) => K (.pointer (some (⟨r6, 0, none⟩ : Addr)))
theorem eq56 (x0 : Option Addr) (K : Value → WP) : bodyW Tryz.prog Tryz.f56 an56 false [(.pointer x0)] K = S56 x0 K := by kernel_rfl
theorem calls56 (x0 : Option Addr) {K : Value → WP} {w : World} (h : S56 x0 K w) : Calls Tryz.prog 56 #[(.pointer x0)] w (Ret K) := callsR_of_bodyW mixed Tryz.func56 (of_decide_eq_true (by kernel_rfl)) (by rw [eq56]; exact h)

/-- (*shadowbook/device.Device).Read -/
def an57 : Ann := (.seq .nil (.seq (.block (.seq .nil (.cond (.seq .nil .nil) (.seq .nil (.cond (.seq .nil .nil) .nil))))) (.seq (.seq .nil (.block (.loop [(18, .sh (.one (.int .i64))), (19, .sh (.agg [(.int .i64), .str]))] [] (.seq .nil (.block (.seq .nil (.cond (.seq .nil .nil) .nil))))))) (.seq .nil .nil))))
def S57 (x0 : Option Addr) (x1 : Int) (K : Value → WP) : WP := 
  newW (.cells #[(.int .i64 x1)] 3) fun (r1 : Nat) =>
  newW (.cells #[(.string ByteArray.empty)] 9) fun (r2 : Nat) =>
  newW (.cells #[(.int .i64 (0 : Int))] 31) fun (r3 : Nat) =>
  splitW (Option.isNone x0) (stW (⟨r2, 0, none⟩ : Addr) (.string (ByteArray.mk #[])) <|
  stW (⟨r3, 0, none⟩ : Addr) (.int .i64 (1 : Int)) <|
  leaveW Tryz.prog [] <|
  ldW .str (⟨r2, 0, none⟩ : Addr) fun (u4 : ByteArray) =>
  ldW (.int .i64) (⟨r3, 0, none⟩ : Addr) fun (u5 : Int) => K (.tuple #[(.string u4), (.int .i64 u5)])) <|
  ldW (.int .i64) (⟨r1, 0, none⟩ : Addr) fun (u6 : Int) =>
  callW Tryz.prog 85 [(.pointer x0), (.int .i64 u6)] (.one (.one .bool)) fun (u7 : Bool) =>
  splitW (!u7) (stW (⟨r2, 0, none⟩ : Addr) (.string (ByteArray.mk #[])) <|
  stW (⟨r3, 0, none⟩ : Addr) (.int .i64 (2 : Int)) <|
  leaveW Tryz.prog [] <|
  ldW .str (⟨r2, 0, none⟩ : Addr) fun (u8 : ByteArray) =>
  ldW (.int .i64) (⟨r3, 0, none⟩ : Addr) fun (u9 : Int) => K (.tuple #[(.string u8), (.int .i64 u9)])) <|
  callW Tryz.prog 86 [(.pointer x0)] (.one (.one .any)) fun (u10 : Value) =>
  rangeW Tryz.prog u10 (Int × (Int × ByteArray × Unit) × Unit) (fun (t11 : Int × (Int × ByteArray × Unit) × Unit) => [(.int .i64 t11.1), (.agg #[(.int .i64 t11.2.1.1), (.string t11.2.1.2.1)])]) (fun (t11 : Int × (Int × ByteArray × Unit) × Unit) (B12 : WP → WP) (N13 : WP) (Q14 : Code → WP) =>
  newW (.cells #[(.int .i64 (0 : Int)), (.string ByteArray.empty)] 149) fun (r17 : Nat) =>
  guardW ((#[(.int .i64 t11.2.1.1), (.string t11.2.1.2.1)] : Array Value).size = 2) <|
  stAW (⟨r17, 0, none⟩ : Addr) [(.int .i64 t11.2.1.1), (.string t11.2.1.2.1)] <| B12 (ldW (.int .i64) (⟨r17, 0, none⟩ : Addr) fun (u18 : Int) =>
  ldW (.int .i64) (⟨r1, 0, none⟩ : Addr) fun (u19 : Int) =>
  splitW (u18 == u19) (ldW .str ((⟨r17, 0, none⟩ : Addr).add 1) fun (u20 : ByteArray) =>
  stW (⟨r2, 0, none⟩ : Addr) (.string u20) <|
  stW (⟨r3, 0, none⟩ : Addr) (.int .i64 (0 : Int)) <| Q14 .ret) <| N13)) fun (r15 : Nat) (p16 : Option Code) =>
  jumpK (drewW <|
  ptrW x0 fun (p21 : Addr) =>
  ldW .slc (p21.add 2) fun (u22 : (Option Addr × Nat × Nat)) =>
  ldW (.int .i64) (⟨r1, 0, none⟩ : Addr) fun (u23 : Int) =>
  guardW (0 ≤ u23 ∧ u23 < ((u22.2.1 : Nat) : Int)) <|
  ptrW u22.1 fun (p24 : Addr) =>
  ldW .str (p24.add (Int.toNat u23 * 1)) fun (u25 : ByteArray) =>
  stW (⟨r2, 0, none⟩ : Addr) (.string u25) <|
  stW (⟨r3, 0, none⟩ : Addr) (.int .i64 (0 : Int)) <|
  leaveW Tryz.prog (⟨.collected r15, #[]⟩ :: []) <|
  ldW .str (⟨r2, 0, none⟩ : Addr) fun (u26 : ByteArray) =>
  ldW (.int .i64) (⟨r3, 0, none⟩ : Addr) fun (u27 : Int) => K (.tuple #[(.string u26), (.int .i64 u27)])) (leaveW Tryz.prog (⟨.collected r15, #[]⟩ :: []) <|
  ldW .str (⟨r2, 0, none⟩ : Addr) fun (u28 : ByteArray) =>
  ldW (.int .i64) (⟨r3, 0, none⟩ : Addr) fun (u29 : Int) => K (.tuple #[(.string u28), (.int .i64 u29)])) [] p16
theorem eq57 (x0 : Option Addr) (x1 : Int) (K : Value → WP) : bodyW Tryz.prog Tryz.f57 an57 true [(.pointer x0), (.int .i64 x1)] K = S57 x0 x1 K := by kernel_rfl
theorem calls57 (x0 : Option Addr) (x1 : Int) {K : Value → WP} {w : World} (h : S57 x0 x1 K w) : Calls Tryz.prog 57 #[(.pointer x0), (.int .i64 x1)] w (Ret K) := callsR_of_bodyW mixed Tryz.func57 (of_decide_eq_true (by kernel_rfl)) (by rw [eq57]; exact h)

/-- shadowbook/super.Choose -/
def an58 : Ann := (.seq .nil (.seq .nil (.seq (.seq .nil (.block (.loop [(4, .sh (.one (.int .i64))), (14, .sh (.one (.int .i64)))] [5, 13, 1000000] (.seq .nil (.seq (.cond .nil .nil) (.seq (.block (.seq .nil (.seq .nil (.seq .nil (.cond .nil .nil))))) .nil)))))) (.seq (.seq .nil (.cond (.seq .nil .nil) .nil)) (.seq .nil .nil)))))
def S58 (x0 : ByteArray) (x1 : ByteArray) (K : Value → WP) : WP := 
  newW (.cells #[(.int .u64 (0 : Int)), (.int .i64 (0 : Int)), (.int .i64 (0 : Int)), (.int .u32 (0 : Int)), (.slice none 0 0)] 84) fun (r1 : Nat) =>
  loopW (Int × Int × Unit) ((-1 : Int), (0 : Int), ()) fun (y3 : Int × Int × Unit) (I2 : (Int × Int × Unit) → WP) =>
  splitW (decide (y3.2.1 < (2 : Int))) (guardW (0 ≤ y3.2.1 ∧ y3.2.1 < ((2 : Nat) : Int) ∧ 2 = (#[(.string x0), (.string x1)] : Array Value).size) <|
  callW Tryz.prog 87 [((#[(.string x0), (.string x1)] : Array Value).getD (Int.toNat y3.2.1) undef)] (.many [(.agg [(.int .u64), (.int .i64), (.int .i64), (.int .u32), .slc]), (.one (.int .i64))]) fun (u4 : (Int × Int × Int × Int × (Option Addr × Nat × Nat) × Unit) × Int × Unit) =>
  newW (.cells #[(.int .u64 (0 : Int)), (.int .i64 (0 : Int)), (.int .i64 (0 : Int)), (.int .u32 (0 : Int)), (.slice none 0 0)] 84) fun (r5 : Nat) =>
  guardW ((#[(.int .u64 u4.1.1), (.int .i64 u4.1.2.1), (.int .i64 u4.1.2.2.1), (.int .u32 u4.1.2.2.2.1), (.slice u4.1.2.2.2.2.1.1 u4.1.2.2.2.2.1.2.1 u4.1.2.2.2.2.1.2.2)] : Array Value).size = 5) <|
  stAW (⟨r5, 0, none⟩ : Addr) [(.int .u64 u4.1.1), (.int .i64 u4.1.2.1), (.int .i64 u4.1.2.2.1), (.int .u32 u4.1.2.2.2.1), (.slice u4.1.2.2.2.2.1.1 u4.1.2.2.2.2.1.2.1 u4.1.2.2.2.2.1.2.2)] <|
  splitW (u4.2.1 == (0 : Int)) (splitW (decide (y3.1 < (0 : Int))) (drewW <|
  ldAW [(.int .u64), (.int .i64), (.int .i64), (.int .u32), .slc] (⟨r5, 0, none⟩ : Addr) fun (u6 : (Int × Int × Int × Int × (Option Addr × Nat × Nat) × Unit)) =>
  guardW ((#[(.int .u64 u6.1), (.int .i64 u6.2.1), (.int .i64 u6.2.2.1), (.int .u32 u6.2.2.2.1), (.slice u6.2.2.2.2.1.1 u6.2.2.2.2.1.2.1 u6.2.2.2.2.1.2.2)] : Array Value).size = 5) <|
  stAW (⟨r1, 0, none⟩ : Addr) [(.int .u64 u6.1), (.int .i64 u6.2.1), (.int .i64 u6.2.2.1), (.int .u32 u6.2.2.2.1), (.slice u6.2.2.2.2.1.1 u6.2.2.2.2.1.2.1 u6.2.2.2.2.1.2.2)] <| I2 (y3.2.1, (IntKind.wrap .i64 (y3.2.1 + (1 : Int))), ())) <|
  ldW (.int .u64) (⟨r5, 0, none⟩ : Addr) fun (u7 : Int) =>
  ldW (.int .u64) (⟨r1, 0, none⟩ : Addr) fun (u8 : Int) =>
  splitW (decide (u7 > u8)) (drewW <|
  ldAW [(.int .u64), (.int .i64), (.int .i64), (.int .u32), .slc] (⟨r5, 0, none⟩ : Addr) fun (u9 : (Int × Int × Int × Int × (Option Addr × Nat × Nat) × Unit)) =>
  guardW ((#[(.int .u64 u9.1), (.int .i64 u9.2.1), (.int .i64 u9.2.2.1), (.int .u32 u9.2.2.2.1), (.slice u9.2.2.2.2.1.1 u9.2.2.2.2.1.2.1 u9.2.2.2.2.1.2.2)] : Array Value).size = 5) <|
  stAW (⟨r1, 0, none⟩ : Addr) [(.int .u64 u9.1), (.int .i64 u9.2.1), (.int .i64 u9.2.2.1), (.int .u32 u9.2.2.2.1), (.slice u9.2.2.2.2.1.1 u9.2.2.2.2.1.2.1 u9.2.2.2.2.1.2.2)] <| I2 (y3.2.1, (IntKind.wrap .i64 (y3.2.1 + (1 : Int))), ())) <| I2 (y3.1, (IntKind.wrap .i64 (y3.2.1 + (1 : Int))), ())) <| I2 (y3.1, (IntKind.wrap .i64 (y3.2.1 + (1 : Int))), ())) <|
  splitW (decide (y3.1 < (0 : Int))) (guardW ((#[(.int .u64 (0 : Int)), (.int .i64 (0 : Int)), (.int .i64 (0 : Int)), (.int .u32 (0 : Int)), (.slice none 0 0)] : Array Value).size = 5) <|
  stAW (⟨r1, 0, none⟩ : Addr) [(.int .u64 (0 : Int)), (.int .i64 (0 : Int)), (.int .i64 (0 : Int)), (.int .u32 (0 : Int)), (.slice none 0 0)] <|
  ldAW [(.int .u64), (.int .i64), (.int .i64), (.int .u32), .slc] (⟨r1, 0, none⟩ : Addr) fun (u10 : (Int × Int × Int × Int × (Option Addr × Nat × Nat) × Unit)) => K (.tuple #[(.int .i64 (-1 : Int)), (.agg #[(.int .u64 u10.1), (.int .i64 u10.2.1), (.int .i64 u10.2.2.1), (.int .u32 u10.2.2.2.1), (.slice u10.2.2.2.2.1.1 u10.2.2.2.2.1.2.1 u10.2.2.2.2.1.2.2)]), (.int .i64 (10 : Int))])) <|
  drewW <|
  ldAW [(.int .u64), (.int .i64), (.int .i64), (.int .u32), .slc] (⟨r1, 0, none⟩ : Addr) fun (u11 : (Int × Int × Int × Int × (Option Addr × Nat × Nat) × Unit)) =>
  guardW ((#[(.int .u64 u11.1), (.int .i64 u11.2.1), (.int .i64 u11.2.2.1), (.int .u32 u11.2.2.2.1), (.slice u11.2.2.2.2.1.1 u11.2.2.2.2.1.2.1 u11.2.2.2.2.1.2.2)] : Array Value).size = 5) <|
  stAW (⟨r1, 0, none⟩ : Addr) [(.int .u64 u11.1), (.int .i64 u11.2.1), (.int .i64 u11.2.2.1), (.int .u32 u11.2.2.2.1), (.slice u11.2.2.2.2.1.1 u11.2.2.2.2.1.2.1 u11.2.2.2.2.1.2.2)] <|
  ldAW [(.int .u64), (.int .i64), (.int .i64), (.int .u32), .slc] (⟨r1, 0, none⟩ : Addr) fun (u12 : (Int × Int × Int × Int × (Option Addr × Nat × Nat) × Unit)) => K (.tuple #[(.int .i64 y3.1), (.agg #[(.int .u64 u12.1), (.int .i64 u12.2.1), (.int .i64 u12.2.2.1), (.int .u32 u12.2.2.2.1), (.slice u12.2.2.2.2.1.1 u12.2.2.2.2.1.2.1 u12.2.2.2.2.1.2.2)]), (.int .i64 (0 : Int))])
theorem eq58 (x0 : ByteArray) (x1 : ByteArray) (K : Value → WP) : bodyW Tryz.prog Tryz.f58 an58 false [(.string x0), (.string x1)] K = S58 x0 x1 K := by kernel_rfl
theorem calls58 (x0 : ByteArray) (x1 : ByteArray) {K : Value → WP} {w : World} (h : S58 x0 x1 K w) : Calls Tryz.prog 58 #[(.string x0), (.string x1)] w (Ret K) := callsR_of_bodyW mixed Tryz.func58 (of_decide_eq_true (by kernel_rfl)) (by rw [eq58]; exact h)

/-- (*shadowbook/device.Device).Geo -/
def an59 : Ann := (.seq .nil (.seq (.seq .nil (.cond (.seq .nil .nil) .nil)) (.seq .nil .nil)))
def S59 (x0 : Option Addr) (K : Value → WP) : WP := 
  newW (.cells #[(.int .i64 (0 : Int)), (.int .i64 (0 : Int))] 28) fun (r1 : Nat) =>
  splitW (Option.isNone x0) (guardW ((#[(.int .i64 (0 : Int)), (.int .i64 (0 : Int))] : Array Value).size = 2) <|
  stAW (⟨r1, 0, none⟩ : Addr) [(.int .i64 (0 : Int)), (.int .i64 (0 : Int))] <|
  ldAW [(.int .i64), (.int .i64)] (⟨r1, 0, none⟩ : Addr) fun (u2 : (Int × Int × Unit)) => K (.agg #[(.int .i64 u2.1), (.int .i64 u2.2.1)])) <|
  ptrW x0 fun (p3 : Addr) =>
  ldAW [(.int .i64), (.int .i64)] p3 fun (u4 : (Int × Int × Unit)) =>
  guardW ((#[(.int .i64 u4.1), (.int .i64 u4.2.1)] : Array Value).size = 2) <|
  stAW (⟨r1, 0, none⟩ : Addr) [(.int .i64 u4.1), (.int .i64 u4.2.1)] <|
  ldAW [(.int .i64), (.int .i64)] (⟨r1, 0, none⟩ : Addr) fun (u5 : (Int × Int × Unit)) => K (.agg #[(.int .i64 u5.1), (.int .i64 u5.2.1)])
theorem eq59 (x0 : Option Addr) (K : Value → WP) : bodyW Tryz.prog Tryz.f59 an59 false [(.pointer x0)] K = S59 x0 K := by kernel_rfl
theorem calls59 (x0 : Option Addr) {K : Value → WP} {w : World} (h : S59 x0 K w) : Calls Tryz.prog 59 #[(.pointer x0)] w (Ret K) := callsR_of_bodyW mixed Tryz.func59 (of_decide_eq_true (by kernel_rfl)) (by rw [eq59]; exact h)

/-- shadowbook/frame.Kind -/
def an60 : Ann := (.seq .nil (.seq .nil (.seq (.seq .nil (.cond (.seq .nil .nil) .nil)) (.seq .nil .nil))))
def S60 (x0 : ByteArray) (x1 : Int) (K : Value → WP) : WP := 
  newW (.cells #[(.int .u8 (0 : Int)), (.int .u64 (0 : Int)), (.string ByteArray.empty)] 91) fun (r1 : Nat) =>
  callW Tryz.prog 88 [(.string x0)] (.many [(.agg [(.int .u8), (.int .u64), .str]), (.one (.int .i64))]) fun (u2 : (Int × Int × ByteArray × Unit) × Int × Unit) =>
  newW (.cells #[(.int .u8 (0 : Int)), (.int .u64 (0 : Int)), (.string ByteArray.empty)] 91) fun (r3 : Nat) =>
  guardW ((#[(.int .u8 u2.1.1), (.int .u64 u2.1.2.1), (.string u2.1.2.2.1)] : Array Value).size = 3) <|
  stAW (⟨r3, 0, none⟩ : Addr) [(.int .u8 u2.1.1), (.int .u64 u2.1.2.1), (.string u2.1.2.2.1)] <|
  splitW (u2.2.1 == (0 : Int)) (ldW (.int .u8) (⟨r3, 0, none⟩ : Addr) fun (u4 : Int) =>
  splitW (u4 != x1) (guardW ((#[(.int .u8 (0 : Int)), (.int .u64 (0 : Int)), (.string ByteArray.empty)] : Array Value).size = 3) <|
  stAW (⟨r1, 0, none⟩ : Addr) [(.int .u8 (0 : Int)), (.int .u64 (0 : Int)), (.string ByteArray.empty)] <|
  ldAW [(.int .u8), (.int .u64), .str] (⟨r1, 0, none⟩ : Addr) fun (u5 : (Int × Int × ByteArray × Unit)) => K (.tuple #[(.agg #[(.int .u8 u5.1), (.int .u64 u5.2.1), (.string u5.2.2.1)]), (.int .i64 (11 : Int))])) <|
  ldAW [(.int .u8), (.int .u64), .str] (⟨r3, 0, none⟩ : Addr) fun (u6 : (Int × Int × ByteArray × Unit)) =>
  guardW ((#[(.int .u8 u6.1), (.int .u64 u6.2.1), (.string u6.2.2.1)] : Array Value).size = 3) <|
  stAW (⟨r1, 0, none⟩ : Addr) [(.int .u8 u6.1), (.int .u64 u6.2.1), (.string u6.2.2.1)] <|
  ldAW [(.int .u8), (.int .u64), .str] (⟨r1, 0, none⟩ : Addr) fun (u7 : (Int × Int × ByteArray × Unit)) => K (.tuple #[(.agg #[(.int .u8 u7.1), (.int .u64 u7.2.1), (.string u7.2.2.1)]), (.int .i64 u2.2.1)])) <|
  ldAW [(.int .u8), (.int .u64), .str] (⟨r3, 0, none⟩ : Addr) fun (u8 : (Int × Int × ByteArray × Unit)) =>
  guardW ((#[(.int .u8 u8.1), (.int .u64 u8.2.1), (.string u8.2.2.1)] : Array Value).size = 3) <|
  stAW (⟨r1, 0, none⟩ : Addr) [(.int .u8 u8.1), (.int .u64 u8.2.1), (.string u8.2.2.1)] <|
  ldAW [(.int .u8), (.int .u64), .str] (⟨r1, 0, none⟩ : Addr) fun (u9 : (Int × Int × ByteArray × Unit)) => K (.tuple #[(.agg #[(.int .u8 u9.1), (.int .u64 u9.2.1), (.string u9.2.2.1)]), (.int .i64 u2.2.1)])
theorem eq60 (x0 : ByteArray) (x1 : Int) (K : Value → WP) : bodyW Tryz.prog Tryz.f60 an60 false [(.string x0), (.int .u8 x1)] K = S60 x0 x1 K := by kernel_rfl
theorem calls60 (x0 : ByteArray) (x1 : Int) {K : Value → WP} {w : World} (h : S60 x0 x1 K w) : Calls Tryz.prog 60 #[(.string x0), (.int .u8 x1)] w (Ret K) := callsR_of_bodyW mixed Tryz.func60 (of_decide_eq_true (by kernel_rfl)) (by rw [eq60]; exact h)

/-- shadowbook/counts.Load -/
def an61 : Ann := (.seq .nil (.seq .nil (.seq (.seq .nil (.cond (.seq .nil .nil) .nil)) (.seq .nil (.seq (.seq .nil (.cond (.seq .nil .nil) .nil)) (.seq .nil (.seq (.seq .nil (.block (.loop [(36, .sh (.one (.int .i64))), (1000000, .ds)] [4, 5, 6, 9, 34, 35] (.seq .nil (.seq (.cond .nil .nil) (.seq (.block (.seq .nil (.seq .nil (.block (.loop [(43, .sh (.one .slc))] [] (.seq .nil (.block (.seq .nil .nil)))))))) .nil)))))) (.seq (.seq .nil (.cond (.seq .nil .nil) .nil)) (.seq .nil .nil)))))))))
def S61 (x0_0 : Int) (x0_1 : Int) (a1 : Option Addr) (n1 c1 : Nat) (K : Value → WP) : WP := 
  newW (.cells #[(.int .i64 x0_0), (.int .i64 x0_1)] 28) fun (r1 : Nat) =>
  ldAW [(.int .i64), (.int .i64)] (⟨r1, 0, none⟩ : Addr) fun (u2 : (Int × Int × Unit)) =>
  callW Tryz.prog 65 [(.agg #[(.int .i64 u2.1), (.int .i64 u2.2.1)])] (.many [(.one .ptr), (.one (.int .i64))]) fun (u3 : Option Addr × Int × Unit) =>
  newW (.cells #[(.pointer none)] 85) fun (r4 : Nat) =>
  stW (⟨r4, 0, none⟩ : Addr) (.pointer u3.1) <|
  splitW (u3.2.1 != (0 : Int)) (leaveW Tryz.prog [] <| K (.tuple #[(.pointer none), (.int .i64 u3.2.1)])) <|
  ldAW [(.int .i64), (.int .i64)] (⟨r1, 0, none⟩ : Addr) fun (u5 : (Int × Int × Unit)) =>
  callW Tryz.prog 66 [(.agg #[(.int .i64 u5.1), (.int .i64 u5.2.1)])] (.one (.one (.int .i64))) fun (u6 : Int) =>
  splitW (((n1 : Nat) : Int) != u6) (leaveW Tryz.prog [] <| K (.tuple #[(.pointer none), (.int .i64 (4 : Int))])) <|
  ldW .ptr (⟨r4, 0, none⟩ : Addr) fun (u7 : Option Addr) =>
  callW Tryz.prog 81 [(.pointer u7)] (.one (.one .slc)) fun (u8 : (Option Addr × Nat × Nat)) =>
  callW Tryz.prog 90 [(.slice a1 n1 c1), (.slice u8.1 u8.2.1 u8.2.2), (.func (.func 89) #[] #[])] (.one (.one .bool)) fun (u9 : Bool) =>
  splitW (!u9) (leaveW Tryz.prog [] <| K (.tuple #[(.pointer none), (.int .i64 (4 : Int))])) <|
  newW (.cells #[(.int .i64 (0 : Int))] 3) fun (r10 : Nat) =>
  stW (⟨r10, 0, none⟩ : Addr) (.int .i64 (0 : Int)) <|
  loopW (Int × List Deferred × Unit) ((0 : Int), [], ()) fun (y12 : Int × List Deferred × Unit) (I11 : (Int × List Deferred × Unit) → WP) =>
  splitW (decide (y12.1 < ((n1 : Nat) : Int))) (guardW (0 ≤ y12.1 ∧ y12.1 < ((n1 : Nat) : Int)) <|
  ptrW a1 fun (p13 : Addr) =>
  ldW .str (p13.add (Int.toNat y12.1 * 1)) fun (u14 : ByteArray) =>
  runW Tryz.prog (Go.convert 9 58 (.string u14)) .slc fun (u15 : (Option Addr × Nat × Nat)) =>
  callW Tryz.prog 91 [(.slice u15.1 u15.2.1 u15.2.2), (.int .i64 (2 : Int))] (.one (.one .any)) fun (u16 : Value) =>
  rangeW Tryz.prog u16 ((Option Addr × Nat × Nat) × Unit) (fun (t17 : (Option Addr × Nat × Nat) × Unit) => [(.slice t17.1.1 t17.1.2.1 t17.1.2.2)]) (fun (t17 : (Option Addr × Nat × Nat) × Unit) (B18 : WP → WP) (N19 : WP) (Q20 : Code → WP) => B18 (drewW <|
  ldW .ptr (⟨r4, 0, none⟩ : Addr) fun (u23 : Option Addr) =>
  ptrW u23 fun (p24 : Addr) =>
  ldW .slc (p24.add 2) fun (u25 : (Option Addr × Nat × Nat)) =>
  ldW (.int .i64) (⟨r10, 0, none⟩ : Addr) fun (u26 : Int) =>
  callW Tryz.prog 72 [(.slice t17.1.1 t17.1.2.1 t17.1.2.2)] (.one (.one (.int .u64))) fun (u27 : Int) =>
  heldW [[((⟨r10, 0, none⟩ : Addr), (.int .i64 u26))], [((p24.add 2), (.slice u25.1 u25.2.1 u25.2.2))], [((⟨r4, 0, none⟩ : Addr), (.pointer u23))]] <|
  guardW (0 ≤ u26 ∧ u26 < ((u25.2.1 : Nat) : Int)) <|
  ptrW u25.1 fun (p28 : Addr) =>
  stW (p28.add (Int.toNat u26 * 1)) (.int .u16 (IntKind.wrap .u16 u27)) <|
  ldW (.int .i64) (⟨r10, 0, none⟩ : Addr) fun (u29 : Int) =>
  stW (⟨r10, 0, none⟩ : Addr) (.int .i64 (IntKind.wrap .i64 (u29 + (1 : Int)))) <| N19)) fun (r21 : Nat) (p22 : Option Code) =>
  jumpK (I11 ((IntKind.wrap .i64 (y12.1 + (1 : Int))), (⟨.collected r21, #[]⟩ :: y12.2.1), ())) (leaveW Tryz.prog (⟨.collected r21, #[]⟩ :: y12.2.1) <| K (.tuple #[(.pointer none), (.int .i64 (0 : Int))])) [] p22) <|
  ldW .ptr (⟨r4, 0, none⟩ : Addr) fun (u30 : Option Addr) =>
  ptrW u30 fun (p31 : Addr) =>
  ldW .slc (p31.add 2) fun (u32 : (Option Addr × Nat × Nat)) =>
  guardW (0 ≤ (0 : Int) ∧ (0 : Int) < ((u32.2.1 : Nat) : Int)) <|
  ptrW u32.1 fun (p33 : Addr) =>
  ldW (.int .u16) (p33.add (Int.toNat (0 : Int) * 1)) fun (u34 : Int) =>
  splitW (u34 != (1 : Int)) (leaveW Tryz.prog y12.2.1 <| K (.tuple #[(.pointer none), (.int .i64 (4 : Int))])) <|
  ldW .ptr (⟨r4, 0, none⟩ : Addr) fun (u35 : Option Addr) =>
  ptrW u35 fun (p36 : Addr) =>
  ldW .slc (p36.add 2) fun (u37 : (Option Addr × Nat × Nat)) =>
  guardW (0 ≤ (1 : Int) ∧ (1 : Int) < ((u37.2.1 : Nat) : Int)) <|
  ptrW u37.1 fun (p38 : Addr) =>
  ldW (.int .u16) (p38.add (Int.toNat (1 : Int) * 1)) fun (u39 : Int) =>
  splitW (u39 != (1 : Int)) (leaveW Tryz.prog y12.2.1 <| K (.tuple #[(.pointer none), (.int .i64 (4 : Int))])) <|
  ldW .ptr (⟨r4, 0, none⟩ : Addr) fun (u40 : Option Addr) =>
  leaveW Tryz.prog y12.2.1 <| K (.tuple #[(.pointer u40), (.int .i64 (0 : Int))])
theorem eq61 (x0_0 : Int) (x0_1 : Int) (a1 : Option Addr) (n1 c1 : Nat) (K : Value → WP) : bodyW Tryz.prog Tryz.f61 an61 true [(.agg #[(.int .i64 x0_0), (.int .i64 x0_1)]), (.slice a1 n1 c1)] K = S61 x0_0 x0_1 a1 n1 c1 K := by kernel_rfl
theorem calls61 (x0_0 : Int) (x0_1 : Int) (a1 : Option Addr) (n1 c1 : Nat) {K : Value → WP} {w : World} (h : S61 x0_0 x0_1 a1 n1 c1 K w) : Calls Tryz.prog 61 #[(.agg #[(.int .i64 x0_0), (.int .i64 x0_1)]), (.slice a1 n1 c1)] w (Ret K) := callsR_of_bodyW mixed Tryz.func61 (of_decide_eq_true (by kernel_rfl)) (by rw [eq61]; exact h)

/-- shadowbook/device.Check -/
def an62 : Ann := (.seq .nil (.seq (.seq .nil (.cond (.seq .nil .nil) .nil)) (.seq .nil .nil)))
def S62 (x0_0 : Int) (x0_1 : Int) (K : Value → WP) : WP := 
  newW (.cells #[(.int .i64 x0_0), (.int .i64 x0_1)] 28) fun (r1 : Nat) =>
  ldW (.int .i64) (⟨r1, 0, none⟩ : Addr) fun (u2 : Int) =>
  splitW (decide (u2 < (128 : Int))) (K (.int .i64 (2 : Int))) <|
  ldW (.int .i64) (⟨r1, 0, none⟩ : Addr) fun (u3 : Int) =>
  splitW (decide (u3 > (4096 : Int))) (K (.int .i64 (2 : Int))) <|
  ldW (.int .i64) (⟨r1, 0, none⟩ : Addr) fun (u4 : Int) =>
  splitW ((Int.tmod u4 (64 : Int)) != (0 : Int)) (K (.int .i64 (2 : Int))) <|
  ldW (.int .i64) ((⟨r1, 0, none⟩ : Addr).add 1) fun (u5 : Int) =>
  splitW (decide (u5 < (8 : Int))) (K (.int .i64 (2 : Int))) <|
  ldW (.int .i64) ((⟨r1, 0, none⟩ : Addr).add 1) fun (u6 : Int) =>
  splitW (decide (u6 > (4096 : Int))) (K (.int .i64 (2 : Int))) <| K (.int .i64 (0 : Int))
theorem eq62 (x0_0 : Int) (x0_1 : Int) (K : Value → WP) : bodyW Tryz.prog Tryz.f62 an62 false [(.agg #[(.int .i64 x0_0), (.int .i64 x0_1)])] K = S62 x0_0 x0_1 K := by kernel_rfl
theorem calls62 (x0_0 : Int) (x0_1 : Int) {K : Value → WP} {w : World} (h : S62 x0_0 x0_1 K w) : Calls Tryz.prog 62 #[(.agg #[(.int .i64 x0_0), (.int .i64 x0_1)])] w (Ret K) := callsR_of_bodyW mixed Tryz.func62 (of_decide_eq_true (by kernel_rfl)) (by rw [eq62]; exact h)

/-- slices.Repeat[[]string,string] -/
def an63 : Ann := (.seq .nil (.join [] [0, 1, 1000000] (.seq .nil (.cond .nil .nil)) (.seq .nil (.join [] [0, 6, 1000000] (.seq .nil (.cond .nil .nil)) (.seq .nil (.seq .nil (.seq (.block (.loop [(8, .sh (.one (.int .i64)))] [7, 1000000] (.seq (.seq .nil (.cond .nil .nil)) (.block .nil)))) (.seq .nil .nil))))))))
def S63 (a0 : Option Addr) (n0 c0 : Nat) (x1 : Int) (K : Value → WP) : WP := 
  joinW (Unit) (fun (J1 : (Unit) → WP) =>
  splitW (decide (x1 < (0 : Int))) (FalseW) <| J1 ()) fun (y2 : Unit) =>
  callW Tryz.prog 92 [(.int .u64 (IntKind.wrap .u64 ((n0 : Nat) : Int))), (.int .u64 (IntKind.wrap .u64 x1))] (.many [(.one (.int .u64)), (.one (.int .u64))]) fun (u3 : Int × Int × Unit) =>
  joinW (Unit) (fun (J4 : (Unit) → WP) =>
  splitW (decide (u3.1 > (0 : Int))) (FalseW) <|
  splitW (decide (u3.2.1 > (9223372036854775807 : Int))) (FalseW) <| J4 ()) fun (y5 : Unit) =>
  runW Tryz.prog (Instr.makeSlice 45 (.int .i64 (IntKind.wrap .i64 u3.2.1)) (.int .i64 (IntKind.wrap .i64 u3.2.1))) .slc fun (u6 : Option Addr × Nat × Nat) =>
  runW Tryz.prog (Builtin.copy_ #[45, 45] 3 #[(.slice u6.1 u6.2.1 u6.2.2), (.slice a0 n0 c0)]) (.int .i64) fun (u7 : Int) =>
  loopW (Int × Unit) (u7, ()) fun (y9 : Int × Unit) (I8 : (Int × Unit) → WP) =>
  splitW (decide (y9.1 < ((u6.2.1 : Nat) : Int))) (drewW <|
  guardW (0 ≤ y9.1 ∧ y9.1 ≤ ((u6.2.1 : Nat) : Int)) <|
  guardW (0 ≤ y9.1 ∧ y9.1 ≤ ((u6.2.2 : Nat) : Int)) <|
  runW Tryz.prog (Builtin.copy_ #[45, 45] 3 #[(.slice (cutAddr u6.1 (Int.toNat y9.1) u6.2.2 1) (u6.2.1 - (Int.toNat y9.1)) (u6.2.2 - (Int.toNat y9.1))), (.slice (cutAddr u6.1 0 u6.2.2 1) (Int.toNat y9.1) u6.2.2)]) (.int .i64) fun (u10 : Int) => I8 ((IntKind.wrap .i64 (y9.1 + u10)), ())) <| K (.slice u6.1 u6.2.1 u6.2.2)
theorem eq63 (a0 : Option Addr) (n0 c0 : Nat) (x1 : Int) (K : Value → WP) : bodyW Tryz.prog Tryz.f63 an63 false [(.slice a0 n0 c0), (.int .i64 x1)] K = S63 a0 n0 c0 x1 K := by kernel_rfl
theorem calls63 (a0 : Option Addr) (n0 c0 : Nat) (x1 : Int) {K : Value → WP} {w : World} (h : S63 a0 n0 c0 x1 K w) : Calls Tryz.prog 63 #[(.slice a0 n0 c0), (.int .i64 x1)] w (Ret K) := callsR_of_bodyW mixed Tryz.func63 (of_decide_eq_true (by kernel_rfl)) (by rw [eq63]; exact h)

/-- strings.Repeat -/
def an64 : Ann := (.seq .nil (.seq (.seq .nil (.block (.seq .nil (.cond (.seq .nil .nil) (.seq .nil (.cond (.seq .nil .nil) .nil)))))) (.join [] [0, 1, 1000000] (.seq .nil (.cond .nil .nil)) (.seq .nil (.join [] [0, 6, 1000000] (.seq .nil (.cond .nil .nil)) (.seq .nil (.seq (.seq .nil (.cond (.seq .nil .nil) .nil)) (.join [] [0, 7, 1000000] (.seq .nil (.block (.join [(43, .sh (.one .bool))] [0, 7, 1000000] (.seq .nil (.cond .nil (.seq .nil (.cond .nil (.seq .nil (.cond .nil (.seq .nil (.cond .nil .nil)))))))) (.cond (.block (.join [(49, .sh (.one .bool))] [0, 7, 1000000] .nil (.cond (.seq .nil .nil) (.join [(58, .sh (.one .bool))] [0, 7, 1000000] .nil (.cond (.seq .nil .nil) (.join [(67, .sh (.one .bool))] [0, 7, 1000000] .nil (.cond (.seq .nil .nil) (.seq .nil (.cond (.seq .nil .nil) (.seq .nil (.cond (.seq .nil .nil) .nil))))))))))) .nil)))) (.seq .nil (.join [(8, .sh (.one (.int .i64)))] [0, 7, 1000000] (.seq .nil (.cond (.seq .nil (.seq .nil (.cond .nil .nil))) .nil)) (.seq .nil (.seq .nil (.seq .nil (.seq (.block (.loop [] [7, 8, 9, 1000000] (.seq (.seq .nil (.cond .nil .nil)) (.block (.seq .nil .nil))))) (.seq .nil .nil)))))))))))))))
def S64 (x0 : ByteArray) (x1 : Int) (K : Value → WP) : WP := 
  splitW (x1 == (0 : Int)) (K (.string (ByteArray.mk #[]))) <|
  splitW (x1 == (1 : Int)) (K (.string x0)) <|
  joinW (Unit) (fun (J1 : (Unit) → WP) =>
  splitW (decide (x1 < (0 : Int))) (FalseW) <| J1 ()) fun (y2 : Unit) =>
  callW Tryz.prog 92 [(.int .u64 (IntKind.wrap .u64 ((x0.size : Nat) : Int))), (.int .u64 (IntKind.wrap .u64 x1))] (.many [(.one (.int .u64)), (.one (.int .u64))]) fun (u3 : Int × Int × Unit) =>
  joinW (Unit) (fun (J4 : (Unit) → WP) =>
  splitW (decide (u3.1 > (0 : Int))) (FalseW) <|
  splitW (decide (u3.2.1 > (9223372036854775807 : Int))) (FalseW) <| J4 ()) fun (y5 : Unit) =>
  splitW (((x0.size : Nat) : Int) == (0 : Int)) (K (.string (ByteArray.mk #[]))) <|
  joinW (Unit) (fun (J6 : (Unit) → WP) =>
  guardW (0 ≤ (0 : Int) ∧ (0 : Int) < ((x0.size : Nat) : Int)) <|
  joinW (Bool × Unit) (fun (J8 : (Bool × Unit) → WP) =>
  splitW ((bt x0 (0 : Int)) == (32 : Int)) (J8 (((bt x0 (0 : Int)) == (32 : Int)), ())) <|
  splitW ((bt x0 (0 : Int)) == (45 : Int)) (J8 (((bt x0 (0 : Int)) == (45 : Int)), ())) <|
  splitW ((bt x0 (0 : Int)) == (48 : Int)) (J8 (((bt x0 (0 : Int)) == (48 : Int)), ())) <|
  splitW ((bt x0 (0 : Int)) == (61 : Int)) (J8 (((bt x0 (0 : Int)) == (61 : Int)), ())) <| J8 (((bt x0 (0 : Int)) == (9 : Int)), ())) fun (y9 : Bool × Unit) =>
  splitW y9.1 (joinW (Bool × Unit) (fun (J10 : (Bool × Unit) → WP) =>
  splitW (decide ((IntKind.wrap .i64 u3.2.1) ≤ (128 : Int))) (callW Tryz.prog 93 [(.string (ByteArray.mk #[32, 32, 32, 32, 32, 32, 32, 32, 32, 32, 32, 32, 32, 32, 32, 32, 32, 32, 32, 32, 32, 32, 32, 32, 32, 32, 32, 32, 32, 32, 32, 32, 32, 32, 32, 32, 32, 32, 32, 32, 32, 32, 32, 32, 32, 32, 32, 32, 32, 32, 32, 32, 32, 32, 32, 32, 32, 32, 32, 32, 32, 32, 32, 32, 32, 32, 32, 32, 32, 32, 32, 32, 32, 32, 32, 32, 32, 32, 32, 32, 32, 32, 32, 32, 32, 32, 32, 32, 32, 32, 32, 32, 32, 32, 32, 32, 32, 32, 32, 32, 32, 32, 32, 32, 32, 32, 32, 32, 32, 32, 32, 32, 32, 32, 32, 32, 32, 32, 32, 32, 32, 32, 32, 32, 32, 32, 32, 32])), (.string x0)] (.one (.one .bool)) fun (u12 : Bool) => J10 (u12, ())) <| J10 (false, ())) fun (y11 : Bool × Unit) =>
  splitW y11.1 (guardW (0 ≤ (IntKind.wrap .i64 u3.2.1) ∧ (IntKind.wrap .i64 u3.2.1) ≤ (((ByteArray.mk #[32, 32, 32, 32, 32, 32, 32, 32, 32, 32, 32, 32, 32, 32, 32, 32, 32, 32, 32, 32, 32, 32, 32, 32, 32, 32, 32, 32, 32, 32, 32, 32, 32, 32, 32, 32, 32, 32, 32, 32, 32, 32, 32, 32, 32, 32, 32, 32, 32, 32, 32, 32, 32, 32, 32, 32, 32, 32, 32, 32, 32, 32, 32, 32, 32, 32, 32, 32, 32, 32, 32, 32, 32, 32, 32, 32, 32, 32, 32, 32, 32, 32, 32, 32, 32, 32, 32, 32, 32, 32, 32, 32, 32, 32, 32, 32, 32, 32, 32, 32, 32, 32, 32, 32, 32, 32, 32, 32, 32, 32, 32, 32, 32, 32, 32, 32, 32, 32, 32, 32, 32, 32, 32, 32, 32, 32, 32, 32]).size : Nat) : Int)) <| K (.string (ByteArray.extract (ByteArray.mk #[32, 32, 32, 32, 32, 32, 32, 32, 32, 32, 32, 32, 32, 32, 32, 32, 32, 32, 32, 32, 32, 32, 32, 32, 32, 32, 32, 32, 32, 32, 32, 32, 32, 32, 32, 32, 32, 32, 32, 32, 32, 32, 32, 32, 32, 32, 32, 32, 32, 32, 32, 32, 32, 32, 32, 32, 32, 32, 32, 32, 32, 32, 32, 32, 32, 32, 32, 32, 32, 32, 32, 32, 32, 32, 32, 32, 32, 32, 32, 32, 32, 32, 32, 32, 32, 32, 32, 32, 32, 32, 32, 32, 32, 32, 32, 32, 32, 32, 32, 32, 32, 32, 32, 32, 32, 32, 32, 32, 32, 32, 32, 32, 32, 32, 32, 32, 32, 32, 32, 32, 32, 32, 32, 32, 32, 32, 32, 32]) 0 (Int.toNat (IntKind.wrap .i64 u3.2.1))))) <|
  joinW (Bool × Unit) (fun (J13 : (Bool × Unit) → WP) =>
  splitW (decide ((IntKind.wrap .i64 u3.2.1) ≤ (128 : Int))) (callW Tryz.prog 93 [(.string (ByteArray.mk #[45, 45, 45, 45, 45, 45, 45, 45, 45, 45, 45, 45, 45, 45, 45, 45, 45, 45, 45, 45, 45, 45, 45, 45, 45, 45, 45, 45, 45, 45, 45, 45, 45, 45, 45, 45, 45, 45, 45, 45, 45, 45, 45, 45, 45, 45, 45, 45, 45, 45, 45, 45, 45, 45, 45, 45, 45, 45, 45, 45, 45, 45, 45, 45, 45, 45, 45, 45, 45, 45, 45, 45, 45, 45, 45, 45, 45, 45, 45, 45, 45, 45, 45, 45, 45, 45, 45, 45, 45, 45, 45, 45, 45, 45, 45, 45, 45, 45, 45, 45, 45, 45, 45, 45, 45, 45, 45, 45, 45, 45, 45, 45, 45, 45, 45, 45, 45, 45, 45, 45, 45, 45, 45, 45, 45, 45, 45, 45])), (.string x0)] (.one (.one .bool)) fun (u15 : Bool) => J13 (u15, ())) <| J13 (false, ())) fun (y14 : Bool × Unit) =>
  splitW y14.1 (guardW (0 ≤ (IntKind.wrap .i64 u3.2.1) ∧ (IntKind.wrap .i64 u3.2.1) ≤ (((ByteArray.mk #[45, 45, 45, 45, 45, 45, 45, 45, 45, 45, 45, 45, 45, 45, 45, 45, 45, 45, 45, 45, 45, 45, 45, 45, 45, 45, 45, 45, 45, 45, 45, 45, 45, 45, 45, 45, 45, 45, 45, 45, 45, 45, 45, 45, 45, 45, 45, 45, 45, 45, 45, 45, 45, 45, 45, 45, 45, 45, 45, 45, 45, 45, 45, 45, 45, 45, 45, 45, 45, 45, 45, 45, 45, 45, 45, 45, 45, 45, 45, 45, 45, 45, 45, 45, 45, 45, 45, 45, 45, 45, 45, 45, 45, 45, 45, 45, 45, 45, 45, 45, 45, 45, 45, 45, 45, 45, 45, 45, 45, 45, 45, 45, 45, 45, 45, 45, 45, 45, 45, 45, 45, 45, 45, 45, 45, 45, 45, 45]).size : Nat) : Int)) <| K (.string (ByteArray.extract (ByteArray.mk #[45, 45, 45, 45, 45, 45, 45, 45, 45, 45, 45, 45, 45, 45, 45, 45, 45, 45, 45, 45, 45, 45, 45, 45, 45, 45, 45, 45, 45, 45, 45, 45, 45, 45, 45, 45, 45, 45, 45, 45, 45, 45, 45, 45, 45, 45, 45, 45, 45, 45, 45, 45, 45, 45, 45, 45, 45, 45, 45, 45, 45, 45, 45, 45, 45, 45, 45, 45, 45, 45, 45, 45, 45, 45, 45, 45, 45, 45, 45, 45, 45, 45, 45, 45, 45, 45, 45, 45, 45, 45, 45, 45, 45, 45, 45, 45, 45, 45, 45, 45, 45, 45, 45, 45, 45, 45, 45, 45, 45, 45, 45, 45, 45, 45, 45, 45, 45, 45, 45, 45, 45, 45, 45, 45, 45, 45, 45, 45]) 0 (Int.toNat (IntKind.wrap .i64 u3.2.1))))) <|
  joinW (Bool × Unit) (fun (J16 : (Bool × Unit) → WP) =>
  splitW (decide ((IntKind.wrap .i64 u3.2.1) ≤ (64 : Int))) (callW Tryz.prog 93 [(.string (ByteArray.mk #[48, 48, 48, 48, 48, 48, 48, 48, 48, 48, 48, 48, 48, 48, 48, 48, 48, 48, 48, 48, 48, 48, 48, 48, 48, 48, 48, 48, 48, 48, 48, 48, 48, 48, 48, 48, 48, 48, 48, 48, 48, 48, 48, 48, 48, 48, 48, 48, 48, 48, 48, 48, 48, 48, 48, 48, 48, 48, 48, 48, 48, 48, 48, 48])), (.string x0)] (.one (.one .bool)) fun (u18 : Bool) => J16 (u18, ())) <| J16 (false, ())) fun (y17 : Bool × Unit) =>
  splitW y17.1 (guardW (0 ≤ (IntKind.wrap .i64 u3.2.1) ∧ (IntKind.wrap .i64 u3.2.1) ≤ (((ByteArray.mk #[48, 48, 48, 48, 48, 48, 48, 48, 48, 48, 48, 48, 48, 48, 48, 48, 48, 48, 48, 48, 48, 48, 48, 48, 48, 48, 48, 48, 48, 48, 48, 48, 48, 48, 48, 48, 48, 48, 48, 48, 48, 48, 48, 48, 48, 48, 48, 48, 48, 48, 48, 48, 48, 48, 48, 48, 48, 48, 48, 48, 48, 48, 48, 48]).size : Nat) : Int)) <| K (.string (ByteArray.extract (ByteArray.mk #[48, 48, 48, 48, 48, 48, 48, 48, 48, 48, 48, 48, 48, 48, 48, 48, 48, 48, 48, 48, 48, 48, 48, 48, 48, 48, 48, 48, 48, 48, 48, 48, 48, 48, 48, 48, 48, 48, 48, 48, 48, 48, 48, 48, 48, 48, 48, 48, 48, 48, 48, 48, 48, 48, 48, 48, 48, 48, 48, 48, 48, 48, 48, 48]) 0 (Int.toNat (IntKind.wrap .i64 u3.2.1))))) <|
  splitW (decide ((IntKind.wrap .i64 u3.2.1) ≤ (128 : Int))) (callW Tryz.prog 93 [(.string (ByteArray.mk #[61, 61, 61, 61, 61, 61, 61, 61, 61, 61, 61, 61, 61, 61, 61, 61, 61, 61, 61, 61, 61, 61, 61, 61, 61, 61, 61, 61, 61, 61, 61, 61, 61, 61, 61, 61, 61, 61, 61, 61, 61, 61, 61, 61, 61, 61, 61, 61, 61, 61, 61, 61, 61, 61, 61, 61, 61, 61, 61, 61, 61, 61, 61, 61, 61, 61, 61, 61, 61, 61, 61, 61, 61, 61, 61, 61, 61, 61, 61, 61, 61, 61, 61, 61, 61, 61, 61, 61, 61, 61, 61, 61, 61, 61, 61, 61, 61, 61, 61, 61, 61, 61, 61, 61, 61, 61, 61, 61, 61, 61, 61, 61, 61, 61, 61, 61, 61, 61, 61, 61, 61, 61, 61, 61, 61, 61, 61, 61])), (.string x0)] (.one (.one .bool)) fun (u19 : Bool) =>
  splitW u19 (guardW (0 ≤ (IntKind.wrap .i64 u3.2.1) ∧ (IntKind.wrap .i64 u3.2.1) ≤ (((ByteArray.mk #[61, 61, 61, 61, 61, 61, 61, 61, 61, 61, 61, 61, 61, 61, 61, 61, 61, 61, 61, 61, 61, 61, 61, 61, 61, 61, 61, 61, 61, 61, 61, 61, 61, 61, 61, 61, 61, 61, 61, 61, 61, 61, 61, 61, 61, 61, 61, 61, 61, 61, 61, 61, 61, 61, 61, 61, 61, 61, 61, 61, 61, 61, 61, 61, 61, 61, 61, 61, 61, 61, 61, 61, 61, 61, 61, 61, 61, 61, 61, 61, 61, 61, 61, 61, 61, 61, 61, 61, 61, 61, 61, 61, 61, 61, 61, 61, 61, 61, 61, 61, 61, 61, 61, 61, 61, 61, 61, 61, 61, 61, 61, 61, 61, 61, 61, 61, 61, 61, 61, 61, 61, 61, 61, 61, 61, 61, 61, 61]).size : Nat) : Int)) <| K (.string (ByteArray.extract (ByteArray.mk #[61, 61, 61, 61, 61, 61, 61, 61, 61, 61, 61, 61, 61, 61, 61, 61, 61, 61, 61, 61, 61, 61, 61, 61, 61, 61, 61, 61, 61, 61, 61, 61, 61, 61, 61, 61, 61, 61, 61, 61, 61, 61, 61, 61, 61, 61, 61, 61, 61, 61, 61, 61, 61, 61, 61, 61, 61, 61, 61, 61, 61, 61, 61, 61, 61, 61, 61, 61, 61, 61, 61, 61, 61, 61, 61, 61, 61, 61, 61, 61, 61, 61, 61, 61, 61, 61, 61, 61, 61, 61, 61, 61, 61, 61, 61, 61, 61, 61, 61, 61, 61, 61, 61, 61, 61, 61, 61, 61, 61, 61, 61, 61, 61, 61, 61, 61, 61, 61, 61, 61, 61, 61, 61, 61, 61, 61, 61, 61]) 0 (Int.toNat (IntKind.wrap .i64 u3.2.1))))) <|
  splitW (decide ((IntKind.wrap .i64 u3.2.1) ≤ (64 : Int))) (callW Tryz.prog 93 [(.string (ByteArray.mk #[9, 9, 9, 9, 9, 9, 9, 9, 9, 9, 9, 9, 9, 9, 9, 9, 9, 9, 9, 9, 9, 9, 9, 9, 9, 9, 9, 9, 9, 9, 9, 9, 9, 9, 9, 9, 9, 9, 9, 9, 9, 9, 9, 9, 9, 9, 9, 9, 9, 9, 9, 9, 9, 9, 9, 9, 9, 9, 9, 9, 9, 9, 9, 9])), (.string x0)] (.one (.one .bool)) fun (u20 : Bool) =>
  splitW u20 (guardW (0 ≤ (IntKind.wrap .i64 u3.2.1) ∧ (IntKind.wrap .i64 u3.2.1) ≤ (((ByteArray.mk #[9, 9, 9, 9, 9, 9, 9, 9, 9, 9, 9, 9, 9, 9, 9, 9, 9, 9, 9, 9, 9, 9, 9, 9, 9, 9, 9, 9, 9, 9, 9, 9, 9, 9, 9, 9, 9, 9, 9, 9, 9, 9, 9, 9, 9, 9, 9, 9, 9, 9, 9, 9, 9, 9, 9, 9, 9, 9, 9, 9, 9, 9, 9, 9]).size : Nat) : Int)) <| K (.string (ByteArray.extract (ByteArray.mk #[9, 9, 9, 9, 9, 9, 9, 9, 9, 9, 9, 9, 9, 9, 9, 9, 9, 9, 9, 9, 9, 9, 9, 9, 9, 9, 9, 9, 9, 9, 9, 9, 9, 9, 9, 9, 9, 9, 9, 9, 9, 9, 9, 9, 9, 9, 9, 9, 9, 9, 9, 9, 9, 9, 9, 9, 9, 9, 9, 9, 9, 9, 9, 9]) 0 (Int.toNat (IntKind.wrap .i64 u3.2.1))))) <| J6 ()) <| J6 ()) <|
  splitW (decide ((IntKind.wrap .i64 u3.2.1) ≤ (64 : Int))) (callW Tryz.prog 93 [(.string (ByteArray.mk #[9, 9, 9, 9, 9, 9, 9, 9, 9, 9, 9, 9, 9, 9, 9, 9, 9, 9, 9, 9, 9, 9, 9, 9, 9, 9, 9, 9, 9, 9, 9, 9, 9, 9, 9, 9, 9, 9, 9, 9, 9, 9, 9, 9, 9, 9, 9, 9, 9, 9, 9, 9, 9, 9, 9, 9, 9, 9, 9, 9, 9, 9, 9, 9])), (.string x0)] (.one (.one .bool)) fun (u21 : Bool) =>
  splitW u21 (guardW (0 ≤ (IntKind.wrap .i64 u3.2.1) ∧ (IntKind.wrap .i64 u3.2.1) ≤ (((ByteArray.mk #[9, 9, 9, 9, 9, 9, 9, 9, 9, 9, 9, 9, 9, 9, 9, 9, 9, 9, 9, 9, 9, 9, 9, 9, 9, 9, 9, 9, 9, 9, 9, 9, 9, 9, 9, 9, 9, 9, 9, 9, 9, 9, 9, 9, 9, 9, 9, 9, 9, 9, 9, 9, 9, 9, 9, 9, 9, 9, 9, 9, 9, 9, 9, 9]).size : Nat) : Int)) <| K (.string (ByteArray.extract (ByteArray.mk #[9, 9, 9, 9, 9, 9, 9, 9, 9, 9, 9, 9, 9, 9, 9, 9, 9, 9, 9, 9, 9, 9, 9, 9, 9, 9, 9, 9, 9, 9, 9, 9, 9, 9, 9, 9, 9, 9, 9, 9, 9, 9, 9, 9, 9, 9, 9, 9, 9, 9, 9, 9, 9, 9, 9, 9, 9, 9, 9, 9, 9, 9, 9, 9]) 0 (Int.toNat (IntKind.wrap .i64 u3.2.1))))) <| J6 ()) <| J6 ()) <| J6 ()) fun (y7 : Unit) =>
  joinW (Int × Unit) (fun (J22 : (Int × Unit) → WP) =>
  splitW (decide ((IntKind.wrap .i64 u3.2.1) > (8192 : Int))) (guardW (((x0.size : Nat) : Int) ≠ 0) <|
  splitW ((IntKind.wrap .i64 ((IntKind.wrap .i64 (Int.tdiv (8192 : Int) ((x0.size : Nat) : Int))) * ((x0.size : Nat) : Int))) == (0 : Int)) (J22 (((x0.size : Nat) : Int), ())) <| J22 ((IntKind.wrap .i64 ((IntKind.wrap .i64 (Int.tdiv (8192 : Int) ((x0.size : Nat) : Int))) * ((x0.size : Nat) : Int))), ())) <| J22 ((IntKind.wrap .i64 u3.2.1), ())) fun (y23 : Int × Unit) =>
  newW (.cells #[(.pointer none), (.slice none 0 0)] 70) fun (r24 : Nat) =>
  callW Tryz.prog 94 [(.pointer (some (⟨r24, 0, none⟩ : Addr))), (.int .i64 (IntKind.wrap .i64 u3.2.1))] .none fun (u25 : Unit) =>
  callW Tryz.prog 34 [(.pointer (some (⟨r24, 0, none⟩ : Addr))), (.string x0)] (.many [(.one (.int .i64)), (.one .any)]) fun (u26 : Int × Value × Unit) =>
  loopW (Unit) () fun (y28 : Unit) (I27 : (Unit) → WP) =>
  callW Tryz.prog 95 [(.pointer (some (⟨r24, 0, none⟩ : Addr)))] (.one (.one (.int .i64))) fun (u29 : Int) =>
  splitW (decide (u29 < (IntKind.wrap .i64 u3.2.1))) (callW Tryz.prog 95 [(.pointer (some (⟨r24, 0, none⟩ : Addr)))] (.one (.one (.int .i64))) fun (u30 : Int) =>
  callW Tryz.prog 95 [(.pointer (some (⟨r24, 0, none⟩ : Addr)))] (.one (.one (.int .i64))) fun (u31 : Int) =>
  callW Tryz.prog 35 [(.pointer (some (⟨r24, 0, none⟩ : Addr)))] (.one (.one .str)) fun (u32 : ByteArray) =>
  guardW (0 ≤ (if y23.1 < (if u31 < (IntKind.wrap .i64 ((IntKind.wrap .i64 u3.2.1) - u30)) then u31 else (IntKind.wrap .i64 ((IntKind.wrap .i64 u3.2.1) - u30))) then y23.1 else (if u31 < (IntKind.wrap .i64 ((IntKind.wrap .i64 u3.2.1) - u30)) then u31 else (IntKind.wrap .i64 ((IntKind.wrap .i64 u3.2.1) - u30)))) ∧ (if y23.1 < (if u31 < (IntKind.wrap .i64 ((IntKind.wrap .i64 u3.2.1) - u30)) then u31 else (IntKind.wrap .i64 ((IntKind.wrap .i64 u3.2.1) - u30))) then y23.1 else (if u31 < (IntKind.wrap .i64 ((IntKind.wrap .i64 u3.2.1) - u30)) then u31 else (IntKind.wrap .i64 ((IntKind.wrap .i64 u3.2.1) - u30)))) ≤ ((u32.size : Nat) : Int)) <|
  callW Tryz.prog 34 [(.pointer (some (⟨r24, 0, none⟩ : Addr))), (.string (ByteArray.extract u32 0 (Int.toNat (if y23.1 < (if u31 < (IntKind.wrap .i64 ((IntKind.wrap .i64 u3.2.1) - u30)) then u31 else (IntKind.wrap .i64 ((IntKind.wrap .i64 u3.2.1) - u30))) then y23.1 else (if u31 < (IntKind.wrap .i64 ((IntKind.wrap .i64 u3.2.1) - u30)) then u31 else (IntKind.wrap .i64 ((IntKind.wrap .i64 u3.2.1) - u30)))))))] (.many [(.one (.int .i64)), (.one .any)]) fun (u33 : Int × Value × Unit) => I27 ()) <|
  callW Tryz.prog 35 [(.pointer (some (⟨r24, 0, none⟩ : Addr)))] (.one (.one .str)) fun (u34 : ByteArray) => K (.string u34)
theorem eq64 (x0 : ByteArray) (x1 : Int) (K : Value → WP) : bodyW Tryz.prog Tryz.f64 an64 false [(.string x0), (.int .i64 x1)] K = S64 x0 x1 K := by kernel_rfl
theorem calls64 (x0 : ByteArray) (x1 : Int) {K : Value → WP} {w : World} (h : S64 x0 x1 K w) : Calls Tryz.prog 64 #[(.string x0), (.int .i64 x1)] w (Ret K) := callsR_of_bodyW mixed Tryz.func64 (of_decide_eq_true (by kernel_rfl)) (by rw [eq64]; exact h)

/-- shadowbook/counts.New -/
def an65 : Ann := (.seq .nil (.seq (.seq .nil (.cond (.seq .nil .nil) .nil)) (.seq .nil (.seq .nil (.seq .nil .nil)))))
def S65 (x0_0 : Int) (x0_1 : Int) (K : Value → WP) : WP := 
  newW (.cells #[(.int .i64 x0_0), (.int .i64 x0_1)] 28) fun (r1 : Nat) =>
  ldAW [(.int .i64), (.int .i64)] (⟨r1, 0, none⟩ : Addr) fun (u2 : (Int × Int × Unit)) =>
  callW Tryz.prog 62 [(.agg #[(.int .i64 u2.1), (.int .i64 u2.2.1)])] (.one (.one (.int .i64))) fun (u3 : Int) =>
  splitW (u3 != (0 : Int)) (K (.tuple #[(.pointer none), (.int .i64 (2 : Int))])) <|
  drewW <|
  ldAW [(.int .i64), (.int .i64)] (⟨r1, 0, none⟩ : Addr) fun (u4 : (Int × Int × Unit)) =>
  ldW (.int .i64) ((⟨r1, 0, none⟩ : Addr).add 1) fun (u5 : Int) =>
  runW Tryz.prog (Instr.makeSlice 129 (.int .i64 u5) (.int .i64 u5)) .slc fun (u6 : Option Addr × Nat × Nat) =>
  heldW [[((⟨r1, 0, none⟩ : Addr).add 0, (.int .i64 u4.1)), ((⟨r1, 0, none⟩ : Addr).add 1, (.int .i64 u4.2.1))]] <|
  newW (.cells #[(.int .i64 u4.1), (.int .i64 u4.2.1), (.slice u6.1 u6.2.1 u6.2.2)] 131) fun (r7 : Nat) =>
  drewW <|
  ptrW (some (⟨r7, 0, none⟩ : Addr)) fun (p8 : Addr) =>
  ldW .slc (p8.add 2) fun (u9 : (Option Addr × Nat × Nat)) =>
  ptrW (some (⟨r7, 0, none⟩ : Addr)) fun (p10 : Addr) =>
  ldW .slc (p10.add 2) fun (u11 : (Option Addr × Nat × Nat)) =>
  guardW (0 ≤ (0 : Int) ∧ (0 : Int) < ((u9.2.1 : Nat) : Int)) <|
  ptrW u9.1 fun (p12 : Addr) =>
  stW (p12.add (Int.toNat (0 : Int) * 1)) (.int .u16 (1 : Int)) <|
  guardW (0 ≤ (1 : Int) ∧ (1 : Int) < ((u11.2.1 : Nat) : Int)) <|
  ptrW u11.1 fun (p13 : Addr) =>
  stW (p13.add (Int.toNat (1 : Int) * 1)) (.int .u16 (1 : Int)) <| K (.tuple #[(.pointer (some (⟨r7, 0, none⟩ : Addr))), (.int .i64 (0 : Int))])
theorem eq65 (x0_0 : Int) (x0_1 : Int) (K : Value → WP) : bodyW Tryz.prog Tryz.f65 an65 false [(.agg #[(.int .i64 x0_0), (.int .i64 x0_1)])] K = S65 x0_0 x0_1 K := by kernel_rfl
theorem calls65 (x0_0 : Int) (x0_1 : Int) {K : Value → WP} {w : World} (h : S65 x0_0 x0_1 K w) : Calls Tryz.prog 65 #[(.agg #[(.int .i64 x0_0), (.int .i64 x0_1)])] w (Ret K) := callsR_of_bodyW mixed Tryz.func65 (of_decide_eq_true (by kernel_rfl)) (by rw [eq65]; exact h)

/-- shadowbook/super.Pages -/
def an66 : Ann := (.seq .nil (.seq (.seq .nil (.cond (.seq .nil .nil) .nil)) (.seq .nil (.seq .nil .nil))))
def S66 (x0_0 : Int) (x0_1 : Int) (K : Value → WP) : WP := 
  newW (.cells #[(.int .i64 x0_0), (.int .i64 x0_1)] 28) fun (r1 : Nat) =>
  ldAW [(.int .i64), (.int .i64)] (⟨r1, 0, none⟩ : Addr) fun (u2 : (Int × Int × Unit)) =>
  callW Tryz.prog 62 [(.agg #[(.int .i64 u2.1), (.int .i64 u2.2.1)])] (.one (.one (.int .i64))) fun (u3 : Int) =>
  splitW (u3 != (0 : Int)) (K (.int .i64 (0 : Int))) <|
  ldW (.int .i64) (⟨r1, 0, none⟩ : Addr) fun (u4 : Int) =>
  callW Tryz.prog 45 [(.int .i64 u4)] (.one (.one (.int .i64))) fun (u5 : Int) =>
  ldW (.int .i64) ((⟨r1, 0, none⟩ : Addr).add 1) fun (u6 : Int) =>
  guardW (u5 ≠ 0) <| K (.int .i64 (IntKind.wrap .i64 (Int.tdiv (IntKind.wrap .i64 ((IntKind.wrap .i64 ((IntKind.wrap .i64 ((2 : Int) * u6)) + u5)) - (1 : Int))) u5)))
theorem eq66 (x0_0 : Int) (x0_1 : Int) (K : Value → WP) : bodyW Tryz.prog Tryz.f66 an66 false [(.agg #[(.int .i64 x0_0), (.int .i64 x0_1)])] K = S66 x0_0 x0_1 K := by kernel_rfl
theorem calls66 (x0_0 : Int) (x0_1 : Int) {K : Value → WP} {w : World} (h : S66 x0_0 x0_1 K w) : Calls Tryz.prog 66 #[(.agg #[(.int .i64 x0_0), (.int .i64 x0_1)])] w (Ret K) := callsR_of_bodyW mixed Tryz.func66 (of_decide_eq_true (by kernel_rfl)) (by rw [eq66]; exact h)

/-- (*shadowbook/counts.Counts).Take -/
def an67 : Ann := (.seq .nil (.join [] [0, 1, 1000000] (.block (.seq .nil (.cond (.seq .nil .nil) (.seq .nil (.cond (.seq .nil .nil) .nil))))) (.seq (.seq .nil (.block (.loop [(30, .sh (.one (.int .i64)))] [0, 1, 28, 29, 1000000] (.seq .nil (.seq (.cond .nil .nil) (.seq (.block (.seq .nil (.seq .nil (.cond (.seq .nil (.seq .nil .nil)) .nil)))) .nil)))))) (.seq .nil .nil))))
def S67 (x0 : Option Addr) (x1 : Option Addr) (K : Value → WP) : WP := 
  joinW (Unit) (fun (J1 : (Unit) → WP) =>
  splitW (Option.isNone x0) (K (.tuple #[(.int .u32 (0 : Int)), (.int .i64 (1 : Int))])) <|
  drewW <|
  splitW (!(Option.isNone x1)) (ptrW x1 fun (p3 : Addr) =>
  ldAW [(.int .i64), (.int .i64)] p3 fun (u4 : (Int × Int × Unit)) =>
  ptrW x0 fun (p5 : Addr) =>
  ldAW [(.int .i64), (.int .i64)] p5 fun (u6 : (Int × Int × Unit)) =>
  eqW Tryz.prog (eqS .neq 28 (.tmp 18) (.tmp 22) (.agg #[(.int .i64 u4.1), (.int .i64 u4.2.1)]) (.agg #[(.int .i64 u6.1), (.int .i64 u6.2.1)])) fun (b7 : Bool) =>
  splitW b7 (K (.tuple #[(.int .u32 (0 : Int)), (.int .i64 (2 : Int))])) <| J1 ()) <| J1 ()) fun (y2 : Unit) =>
  ptrW x0 fun (p8 : Addr) =>
  ldW .slc (p8.add 2) fun (u9 : (Option Addr × Nat × Nat)) =>
  loopW (Int × Unit) ((0 : Int), ()) fun (y11 : Int × Unit) (I10 : (Int × Unit) → WP) =>
  splitW (decide (y11.1 < ((u9.2.1 : Nat) : Int))) (guardW (0 ≤ y11.1 ∧ y11.1 < ((u9.2.1 : Nat) : Int)) <|
  ptrW u9.1 fun (p12 : Addr) =>
  ldW (.int .u16) (p12.add (Int.toNat y11.1 * 1)) fun (u13 : Int) =>
  splitW (u13 == (0 : Int)) (callW Tryz.prog 41 [(.pointer x1), (.int .u32 (IntKind.wrap .u32 y11.1))] (.one (.one (.int .i64))) fun (u14 : Int) =>
  splitW (u14 == (0 : Int)) (ptrW x0 fun (p15 : Addr) =>
  ldW .slc (p15.add 2) fun (u16 : (Option Addr × Nat × Nat)) =>
  guardW (0 ≤ y11.1 ∧ y11.1 < ((u16.2.1 : Nat) : Int)) <|
  ptrW u16.1 fun (p17 : Addr) =>
  stW (p17.add (Int.toNat y11.1 * 1)) (.int .u16 (1 : Int)) <| K (.tuple #[(.int .u32 (IntKind.wrap .u32 y11.1)), (.int .i64 (0 : Int))])) <| I10 ((IntKind.wrap .i64 (y11.1 + (1 : Int))), ())) <| I10 ((IntKind.wrap .i64 (y11.1 + (1 : Int))), ())) <| K (.tuple #[(.int .u32 (0 : Int)), (.int .i64 (9 : Int))])
theorem eq67 (x0 : Option Addr) (x1 : Option Addr) (K : Value → WP) : bodyW Tryz.prog Tryz.f67 an67 false [(.pointer x0), (.pointer x1)] K = S67 x0 x1 K := by kernel_rfl
theorem calls67 (x0 : Option Addr) (x1 : Option Addr) {K : Value → WP} {w : World} (h : S67 x0 x1 K w) : Calls Tryz.prog 67 #[(.pointer x0), (.pointer x1)] w (Ret K) := callsR_of_bodyW mixed Tryz.func67 (of_decide_eq_true (by kernel_rfl)) (by rw [eq67]; exact h)

/-- shadowbook/super.Check -/
def an68 : Ann := (.seq .nil (.seq .nil (.join [] [1, 3, 1000000] (.seq .nil (.cond (.seq .nil .nil) .nil)) (.seq (.seq .nil (.block (.loop [(40, .sh (.one (.int .i64)))] [1, 3, 38, 39, 1000000] (.seq .nil (.seq (.cond .nil .nil) (.seq (.block (.seq .nil (.seq .nil (.cond (.seq .nil .nil) .nil)))) .nil)))))) (.seq (.seq .nil (.cond (.seq .nil .nil) .nil)) (.seq .nil .nil))))))
def S68 (x0_0 : Int) (x0_1 : Int) (x0_2 : Int) (x0_3 : Int) (a0_4 : Option Addr) (n0_4 c0_4 : Nat) (K : Value → WP) : WP := 
  newW (.cells #[(.int .u64 x0_0), (.int .i64 x0_1), (.int .i64 x0_2), (.int .u32 x0_3), (.slice a0_4 n0_4 c0_4)] 84) fun (r1 : Nat) =>
  joinW (Unit) (fun (J2 : (Unit) → WP) =>
  drewW <|
  ldAW [(.int .i64), (.int .i64)] ((⟨r1, 0, none⟩ : Addr).add 1) fun (u4 : (Int × Int × Unit)) =>
  callW Tryz.prog 62 [(.agg #[(.int .i64 u4.1), (.int .i64 u4.2.1)])] (.one (.one (.int .i64))) fun (u5 : Int) =>
  splitW (u5 != (0 : Int)) (K (.int .i64 (2 : Int))) <|
  ldW (.int .u64) (⟨r1, 0, none⟩ : Addr) fun (u6 : Int) =>
  splitW (u6 == (0 : Int)) (K (.int .i64 (2 : Int))) <|
  ldW (.int .u32) ((⟨r1, 0, none⟩ : Addr).add 3) fun (u7 : Int) =>
  splitW (u7 != (0 : Int)) (ldW (.int .u32) ((⟨r1, 0, none⟩ : Addr).add 3) fun (u8 : Int) =>
  callVW Tryz.prog (.func (.func 96) #[] #[(.pointer (some (⟨r1, 0, none⟩ : Addr)))]) [(.int .u32 u8)] (.one (.one .bool)) fun (u9 : Bool) =>
  splitW (!u9) (K (.int .i64 (2 : Int))) <|
  ldW .slc ((⟨r1, 0, none⟩ : Addr).add 4) fun (u10 : (Option Addr × Nat × Nat)) =>
  ldAW [(.int .i64), (.int .i64)] ((⟨r1, 0, none⟩ : Addr).add 1) fun (u11 : (Int × Int × Unit)) =>
  callW Tryz.prog 66 [(.agg #[(.int .i64 u11.1), (.int .i64 u11.2.1)])] (.one (.one (.int .i64))) fun (u12 : Int) =>
  heldW [[(((⟨r1, 0, none⟩ : Addr).add 4), (.slice u10.1 u10.2.1 u10.2.2))]] <|
  splitW (((u10.2.1 : Nat) : Int) != u12) (K (.int .i64 (2 : Int))) <| J2 ()) <|
  ldW .slc ((⟨r1, 0, none⟩ : Addr).add 4) fun (u13 : (Option Addr × Nat × Nat)) =>
  ldAW [(.int .i64), (.int .i64)] ((⟨r1, 0, none⟩ : Addr).add 1) fun (u14 : (Int × Int × Unit)) =>
  callW Tryz.prog 66 [(.agg #[(.int .i64 u14.1), (.int .i64 u14.2.1)])] (.one (.one (.int .i64))) fun (u15 : Int) =>
  heldW [[(((⟨r1, 0, none⟩ : Addr).add 4), (.slice u13.1 u13.2.1 u13.2.2))]] <|
  splitW (((u13.2.1 : Nat) : Int) != u15) (K (.int .i64 (2 : Int))) <| J2 ()) fun (y3 : Unit) =>
  ldW .slc ((⟨r1, 0, none⟩ : Addr).add 4) fun (u16 : (Option Addr × Nat × Nat)) =>
  loopW (Int × Unit) ((0 : Int), ()) fun (y18 : Int × Unit) (I17 : (Int × Unit) → WP) =>
  splitW (decide (y18.1 < ((u16.2.1 : Nat) : Int))) (guardW (0 ≤ y18.1 ∧ y18.1 < ((u16.2.1 : Nat) : Int)) <|
  ptrW u16.1 fun (p19 : Addr) =>
  ldW (.int .u32) (p19.add (Int.toNat y18.1 * 1)) fun (u20 : Int) =>
  callVW Tryz.prog (.func (.func 96) #[] #[(.pointer (some (⟨r1, 0, none⟩ : Addr)))]) [(.int .u32 u20)] (.one (.one .bool)) fun (u21 : Bool) =>
  splitW (!u21) (K (.int .i64 (2 : Int))) <|
  ldW (.int .u32) ((⟨r1, 0, none⟩ : Addr).add 3) fun (u22 : Int) =>
  splitW (u20 == u22) (K (.int .i64 (2 : Int))) <|
  ldW .slc ((⟨r1, 0, none⟩ : Addr).add 4) fun (u23 : (Option Addr × Nat × Nat)) =>
  guardW (0 ≤ y18.1 ∧ y18.1 ≤ ((u23.2.2 : Nat) : Int)) <|
  callW Tryz.prog 74 [(.slice (cutAddr u23.1 0 u23.2.2 1) (Int.toNat y18.1) u23.2.2), (.int .u32 u20)] (.one (.one .bool)) fun (u24 : Bool) =>
  splitW u24 (K (.int .i64 (2 : Int))) <| I17 ((IntKind.wrap .i64 (y18.1 + (1 : Int))), ())) <|
  drewW <|
  ldW .slc ((⟨r1, 0, none⟩ : Addr).add 4) fun (u25 : (Option Addr × Nat × Nat)) =>
  ldW (.int .i64) ((⟨r1, 0, none⟩ : Addr).add 1) fun (u26 : Int) =>
  callW Tryz.prog 45 [(.int .i64 u26)] (.one (.one (.int .i64))) fun (u27 : Int) =>
  heldW [[(((⟨r1, 0, none⟩ : Addr).add 4), (.slice u25.1 u25.2.1 u25.2.2))]] <|
  splitW (decide ((IntKind.wrap .i64 ((14 : Int) + (IntKind.wrap .i64 ((4 : Int) * ((u25.2.1 : Nat) : Int))))) > u27)) (K (.int .i64 (3 : Int))) <| K (.int .i64 (0 : Int))
theorem eq68 (x0_0 : Int) (x0_1 : Int) (x0_2 : Int) (x0_3 : Int) (a0_4 : Option Addr) (n0_4 c0_4 : Nat) (K : Value → WP) : bodyW Tryz.prog Tryz.f68 an68 false [(.agg #[(.int .u64 x0_0), (.int .i64 x0_1), (.int .i64 x0_2), (.int .u32 x0_3), (.slice a0_4 n0_4 c0_4)])] K = S68 x0_0 x0_1 x0_2 x0_3 a0_4 n0_4 c0_4 K := by kernel_rfl
theorem calls68 (x0_0 : Int) (x0_1 : Int) (x0_2 : Int) (x0_3 : Int) (a0_4 : Option Addr) (n0_4 c0_4 : Nat) {K : Value → WP} {w : World} (h : S68 x0_0 x0_1 x0_2 x0_3 a0_4 n0_4 c0_4 K w) : Calls Tryz.prog 68 #[(.agg #[(.int .u64 x0_0), (.int .i64 x0_1), (.int .i64 x0_2), (.int .u32 x0_3), (.slice a0_4 n0_4 c0_4)])] w (Ret K) := callsR_of_bodyW mixed Tryz.func68 (of_decide_eq_true (by kernel_rfl)) (by rw [eq68]; exact h)

/-- (*shadowbook/device.Device).Write -/
def an69 : Ann := (.seq .nil (.seq (.block (.seq .nil (.cond (.seq .nil .nil) (.seq .nil (.cond (.seq .nil .nil) (.seq .nil (.cond (.seq .nil .nil) .nil))))))) (.seq .nil (.seq .nil .nil))))
def S69 (x0 : Option Addr) (x1 : Int) (x2 : ByteArray) (K : Value → WP) : WP := 
  splitW (Option.isNone x0) (K (.int .i64 (1 : Int))) <|
  callW Tryz.prog 85 [(.pointer x0), (.int .i64 x1)] (.one (.one .bool)) fun (u1 : Bool) =>
  splitW (!u1) (K (.int .i64 (2 : Int))) <|
  ptrW x0 fun (p2 : Addr) =>
  ldW (.int .i64) p2 fun (u3 : Int) =>
  splitW (((x2.size : Nat) : Int) != u3) (K (.int .i64 (2 : Int))) <|
  callW Tryz.prog 97 [(.pointer x0)] (.one (.one .bool)) fun (u4 : Bool) =>
  splitW (!u4) (K (.int .i64 (8 : Int))) <|
  ptrW x0 fun (p5 : Addr) =>
  ldW .slc (p5.add 3) fun (u6 : (Option Addr × Nat × Nat)) =>
  newW (.cells #[(.int .i64 x1), (.string x2)] 149) fun (r7 : Nat) =>
  runW Tryz.prog (Builtin.append_ #[116, 116] 116 #[(.slice u6.1 u6.2.1 u6.2.2), (.slice (some (⟨r7, 0, none⟩ : Addr)) 1 1)]) .slc fun (u8 : (Option Addr × Nat × Nat)) =>
  ptrW x0 fun (p9 : Addr) =>
  stW (p9.add 3) (.slice u8.1 u8.2.1 u8.2.2) <| K (.int .i64 (0 : Int))
theorem eq69 (x0 : Option Addr) (x1 : Int) (x2 : ByteArray) (K : Value → WP) : bodyW Tryz.prog Tryz.f69 an69 false [(.pointer x0), (.int .i64 x1), (.string x2)] K = S69 x0 x1 x2 K := by kernel_rfl
theorem calls69 (x0 : Option Addr) (x1 : Int) (x2 : ByteArray) {K : Value → WP} {w : World} (h : S69 x0 x1 x2 K w) : Calls Tryz.prog 69 #[(.pointer x0), (.int .i64 x1), (.string x2)] w (Ret K) := callsR_of_bodyW mixed Tryz.func69 (of_decide_eq_true (by kernel_rfl)) (by rw [eq69]; exact h)

/-- shadowbook/blob.parts$1 -/
def an70 : Ann := (.seq .nil (.seq (.seq .nil (.cond (.seq .nil .nil) .nil)) (.seq .nil (.block (.loop [(4, .sh (.one (.int .i64))), (26, .sh (.one (.int .i64)))] [0, 1, 24, 25, 1000000] (.seq .nil (.seq (.cond .nil .nil) (.seq (.block (.seq .nil (.seq .nil (.seq .nil (.seq .nil (.join [(11, .sh (.one (.int .i64)))] [0, 1, 4, 10, 24, 25, 26, 1000000] (.seq .nil (.cond .nil .nil)) (.seq (.seq .nil (.cond (.seq .nil .nil) .nil)) (.seq .nil (.cond .nil .nil))))))))) .nil))))))))
def S70 (x0 : Value) (a1 : Addr) (a2 : Addr) (K : Value → WP) : WP := 
  ldW .ptr a1 fun (u1 : Option Addr) =>
  ldW (.int .u32) a2 fun (u2 : Int) =>
  callW Tryz.prog 36 [(.pointer u1), (.int .u32 u2)] (.many [(.one (.int .i64)), (.one .slc), (.one (.int .i64))]) fun (u3 : Int × (Option Addr × Nat × Nat) × Int × Unit) =>
  splitW (u3.2.2.1 != (0 : Int)) (callVW Tryz.prog x0 [(.string (ByteArray.mk #[])), (.int .i64 u3.2.2.1)] (.one (.one .bool)) fun (u4 : Bool) => K (.tuple #[])) <|
  loopW (Int × Int × Unit) (u3.1, (0 : Int), ()) fun (y6 : Int × Int × Unit) (I5 : (Int × Int × Unit) → WP) =>
  splitW (decide (y6.2.1 < ((u3.2.1.2.1 : Nat) : Int))) (guardW (0 ≤ y6.2.1 ∧ y6.2.1 < ((u3.2.1.2.1 : Nat) : Int)) <|
  ptrW u3.2.1.1 fun (p7 : Addr) =>
  ldW (.int .u32) (p7.add (Int.toNat y6.2.1 * 1)) fun (u8 : Int) =>
  ldW .ptr a1 fun (u9 : Option Addr) =>
  callW Tryz.prog 18 [(.pointer u9), (.int .i64 (0 : Int))] (.one (.one (.int .i64))) fun (u10 : Int) =>
  ldW .ptr a1 fun (u11 : Option Addr) =>
  callW Tryz.prog 49 [(.pointer u11), (.int .u32 u8)] (.many [(.agg [(.int .u8), .slc, .str]), (.one (.int .i64))]) fun (u12 : (Int × (Option Addr × Nat × Nat) × ByteArray × Unit) × Int × Unit) =>
  newW (.cells #[(.int .u8 (0 : Int)), (.slice none 0 0), (.string ByteArray.empty)] 41) fun (r13 : Nat) =>
  guardW ((#[(.int .u8 u12.1.1), (.slice u12.1.2.1.1 u12.1.2.1.2.1 u12.1.2.1.2.2), (.string u12.1.2.2.1)] : Array Value).size = 3) <|
  stAW (⟨r13, 0, none⟩ : Addr) [(.int .u8 u12.1.1), (.slice u12.1.2.1.1 u12.1.2.1.2.1 u12.1.2.1.2.2), (.string u12.1.2.2.1)] <|
  joinW (Int × Unit) (fun (J14 : (Int × Unit) → WP) =>
  splitW (u12.2.1 == (0 : Int)) (ldW (.int .u8) (⟨r13, 0, none⟩ : Addr) fun (u16 : Int) =>
  splitW (u16 != (7 : Int)) (J14 ((10 : Int), ())) <|
  ldW .slc ((⟨r13, 0, none⟩ : Addr).add 1) fun (u17 : (Option Addr × Nat × Nat)) =>
  splitW (decide (((u17.2.1 : Nat) : Int) > (0 : Int))) (J14 ((10 : Int), ())) <|
  ldW .str ((⟨r13, 0, none⟩ : Addr).add 2) fun (u18 : ByteArray) =>
  splitW (((u18.size : Nat) : Int) != (if u10 < y6.1 then u10 else y6.1)) (J14 ((10 : Int), ())) <| J14 (u12.2.1, ())) <| J14 (u12.2.1, ())) fun (y15 : Int × Unit) =>
  splitW (y15.1 != (0 : Int)) (callVW Tryz.prog x0 [(.string (ByteArray.mk #[])), (.int .i64 y15.1)] (.one (.one .bool)) fun (u19 : Bool) => K (.tuple #[])) <|
  ldW .str ((⟨r13, 0, none⟩ : Addr).add 2) fun (u20 : ByteArray) =>
  callVW Tryz.prog x0 [(.string u20), (.int .i64 (0 : Int))] (.one (.one .bool)) fun (u21 : Bool) =>
  splitW (!u21) (K (.tuple #[])) <| I5 ((IntKind.wrap .i64 (y6.1 - (if u10 < y6.1 then u10 else y6.1))), (IntKind.wrap .i64 (y6.2.1 + (1 : Int))), ())) <| K (.tuple #[])
theorem eq70 (x0 : Value) (a1 : Addr) (a2 : Addr) (K : Value → WP) : bodyW Tryz.prog Tryz.f70 an70 false [x0, (.pointer (some a1)), (.pointer (some a2))] K = S70 x0 a1 a2 K := by kernel_rfl
theorem calls70 (x0 : Value) (a1 : Addr) (a2 : Addr) {K : Value → WP} {w : World} (h : S70 x0 a1 a2 K w) : Calls Tryz.prog 70 #[x0, (.pointer (some a1)), (.pointer (some a2))] w (Ret K) := callsR_of_bodyW mixed Tryz.func70 (of_decide_eq_true (by kernel_rfl)) (by rw [eq70]; exact h)

/-- shadowbook/octet.Of -/
def an72 : Ann := (.seq .nil (.seq (.seq .nil (.cond (.seq .nil .nil) .nil)) (.seq (.seq .nil (.block (.loop [(10, .sh (.one (.int .i64))), (11, .sh (.one (.int .u8)))] [] (.seq .nil (.block .nil))))) (.seq .nil .nil))))
def S72 (a0 : Option Addr) (n0 c0 : Nat) (K : Value → WP) : WP := 
  newW (.cells #[(.int .u64 (0 : Int))] 67) fun (r1 : Nat) =>
  splitW (decide (((n0 : Nat) : Int) > (8 : Int))) (stW (⟨r1, 0, none⟩ : Addr) (.int .u64 (0 : Int)) <|
  leaveW Tryz.prog [] <|
  ldW (.int .u64) (⟨r1, 0, none⟩ : Addr) fun (u2 : Int) => K (.int .u64 u2)) <|
  callW Tryz.prog 99 [(.slice a0 n0 c0)] (.one (.one .any)) fun (u3 : Value) =>
  rangeW Tryz.prog u3 (Int × Int × Unit) (fun (t4 : Int × Int × Unit) => [(.int .i64 t4.1), (.int .u8 t4.2.1)]) (fun (t4 : Int × Int × Unit) (B5 : WP → WP) (N6 : WP) (Q7 : Code → WP) => B5 (ldW (.int .u64) (⟨r1, 0, none⟩ : Addr) fun (u10 : Int) =>
  stW (⟨r1, 0, none⟩ : Addr) (.int .u64 (ior .u64 (ishl .u64 u10 (8 : Int)) (IntKind.wrap .u64 t4.2.1))) <| N6)) fun (r8 : Nat) (p9 : Option Code) =>
  jumpK (ldW (.int .u64) (⟨r1, 0, none⟩ : Addr) fun (u11 : Int) =>
  stW (⟨r1, 0, none⟩ : Addr) (.int .u64 u11) <|
  leaveW Tryz.prog (⟨.collected r8, #[]⟩ :: []) <|
  ldW (.int .u64) (⟨r1, 0, none⟩ : Addr) fun (u12 : Int) => K (.int .u64 u12)) (leaveW Tryz.prog (⟨.collected r8, #[]⟩ :: []) <|
  ldW (.int .u64) (⟨r1, 0, none⟩ : Addr) fun (u13 : Int) => K (.int .u64 u13)) [] p9
theorem eq72 (a0 : Option Addr) (n0 c0 : Nat) (K : Value → WP) : bodyW Tryz.prog Tryz.f72 an72 true [(.slice a0 n0 c0)] K = S72 a0 n0 c0 K := by kernel_rfl
theorem calls72 (a0 : Option Addr) (n0 c0 : Nat) {K : Value → WP} {w : World} (h : S72 a0 n0 c0 K w) : Calls Tryz.prog 72 #[(.slice a0 n0 c0)] w (Ret K) := callsR_of_bodyW mixed Tryz.func72 (of_decide_eq_true (by kernel_rfl)) (by rw [eq72]; exact h)

/-- slices.IndexFunc[[]uint32,uint32] -/
def an73 : Ann := (.seq .nil (.seq (.seq .nil (.block (.loop [(8, .sh (.one (.int .i64)))] [0, 1, 7, 1000000] (.seq .nil (.seq (.cond .nil .nil) (.seq (.block (.seq .nil (.seq .nil (.cond (.seq .nil .nil) .nil)))) .nil)))))) (.seq .nil .nil)))
def S73 (a0 : Option Addr) (n0 c0 : Nat) (x1 : Value) (K : Value → WP) : WP := 
  loopW (Int × Unit) ((0 : Int), ()) fun (y2 : Int × Unit) (I1 : (Int × Unit) → WP) =>
  splitW (decide (y2.1 < ((n0 : Nat) : Int))) (guardW (0 ≤ y2.1 ∧ y2.1 < ((n0 : Nat) : Int)) <|
  ptrW a0 fun (p3 : Addr) =>
  ldW (.int .u32) (p3.add (Int.toNat y2.1 * 1)) fun (u4 : Int) =>
  callVW Tryz.prog x1 [(.int .u32 u4)] (.one (.one .bool)) fun (u5 : Bool) =>
  splitW u5 (K (.int .i64 y2.1)) <| I1 ((IntKind.wrap .i64 (y2.1 + (1 : Int))), ())) <| K (.int .i64 (-1 : Int))
theorem eq73 (a0 : Option Addr) (n0 c0 : Nat) (x1 : Value) (K : Value → WP) : bodyW Tryz.prog Tryz.f73 an73 false [(.slice a0 n0 c0), x1] K = S73 a0 n0 c0 x1 K := by kernel_rfl
theorem calls73 (a0 : Option Addr) (n0 c0 : Nat) (x1 : Value) {K : Value → WP} {w : World} (h : S73 a0 n0 c0 x1 K w) : Calls Tryz.prog 73 #[(.slice a0 n0 c0), x1] w (Ret K) := callsR_of_bodyW mixed Tryz.func73 (of_decide_eq_true (by kernel_rfl)) (by rw [eq73]; exact h)

/-- slices.Contains[[]uint32,uint32] -/
def an74 : Ann := (.seq .nil (.seq .nil .nil))
def S74 (a0 : Option Addr) (n0 c0 : Nat) (x1 : Int) (K : Value → WP) : WP := 
  callW Tryz.prog 100 [(.slice a0 n0 c0), (.int .u32 x1)] (.one (.one (.int .i64))) fun (u1 : Int) => K (.bool (decide (u1 ≥ (0 : Int))))
theorem eq74 (a0 : Option Addr) (n0 c0 : Nat) (x1 : Int) (K : Value → WP) : bodyW Tryz.prog Tryz.f74 an74 false [(.slice a0 n0 c0), (.int .u32 x1)] K = S74 a0 n0 c0 x1 K := by kernel_rfl
theorem calls74 (a0 : Option Addr) (n0 c0 : Nat) (x1 : Int) {K : Value → WP} {w : World} (h : S74 a0 n0 c0 x1 K w) : Calls Tryz.prog 74 #[(.slice a0 n0 c0), (.int .u32 x1)] w (Ret K) := callsR_of_bodyW mixed Tryz.func74 (of_decide_eq_true (by kernel_rfl)) (by rw [eq74]; exact h)

/-- (*shadowbook/space.Space).take$1 -/
def an75 : Ann := (.seq .nil (.block (.loop [(6, .sh (.one (.int .i64)))] [1, 4, 5, 1000000] (.seq .nil (.seq (.cond .nil .nil) (.seq (.block (.seq .nil .nil)) .nil))))))
def S75 (a0 : Addr) (a1 : Addr) (K : Value → WP) : WP := 
  ldW .slc a0 fun (u1 : (Option Addr × Nat × Nat)) =>
  loopW (Int × Unit) ((0 : Int), ()) fun (y3 : Int × Unit) (I2 : (Int × Unit) → WP) =>
  splitW (decide (y3.1 < ((u1.2.1 : Nat) : Int))) (guardW (0 ≤ y3.1 ∧ y3.1 < ((u1.2.1 : Nat) : Int)) <|
  ptrW u1.1 fun (p4 : Addr) =>
  ldW (.int .u32) (p4.add (Int.toNat y3.1 * 1)) fun (u5 : Int) =>
  ldW .ptr a1 fun (u6 : Option Addr) =>
  ptrW u6 fun (p7 : Addr) =>
  ldW .ptr (p7.add 8) fun (u8 : Option Addr) =>
  callW Tryz.prog 48 [(.pointer u8), (.int .u32 u5)] (.many [(.one (.int .i64)), (.one (.int .i64))]) fun (u9 : Int × Int × Unit) => I2 ((IntKind.wrap .i64 (y3.1 + (1 : Int))), ())) <| K (.tuple #[])
theorem eq75 (a0 : Addr) (a1 : Addr) (K : Value → WP) : bodyW Tryz.prog Tryz.f75 an75 false [(.pointer (some a0)), (.pointer (some a1))] K = S75 a0 a1 K := by kernel_rfl
theorem calls75 (a0 : Addr) (a1 : Addr) {K : Value → WP} {w : World} (h : S75 a0 a1 K w) : Calls Tryz.prog 75 #[(.pointer (some a0)), (.pointer (some a1))] w (Ret K) := callsR_of_bodyW mixed Tryz.func75 (of_decide_eq_true (by kernel_rfl)) (by rw [eq75]; exact h)
theorem callsD75 (a0 : Addr) (a1 : Addr) {K : Value → WP} {w : World} (h : S75 a0 a1 K w) : DCalls Tryz.prog 75 [(.pointer (some a0)), (.pointer (some a1))] w K := callsD_of_bodyW mixed Tryz.func75 (of_decide_eq_true (by kernel_rfl)) (by rw [eq75]; exact h)

/-- shadowbook/frame.Put -/
def an76 : Ann := (.seq .nil (.seq .nil (.seq (.block (.seq .nil (.cond (.seq .nil .nil) (.seq .nil (.cond (.seq .nil .nil) .nil))))) (.seq .nil (.seq .nil (.seq .nil (.seq .nil (.seq .nil (.seq .nil (.seq .nil (.seq .nil .nil)))))))))))
def S76 (x0 : Int) (x1_0 : Int) (x1_1 : Int) (x1_2 : ByteArray) (K : Value → WP) : WP := 
  newW (.cells #[(.int .u8 x1_0), (.int .u64 x1_1), (.string x1_2)] 91) fun (r1 : Nat) =>
  callW Tryz.prog 45 [(.int .i64 x0)] (.one (.one (.int .i64))) fun (u2 : Int) =>
  splitW (u2 == (0 : Int)) (K (.tuple #[(.string (ByteArray.mk #[])), (.int .i64 (2 : Int))])) <|
  ldW .str ((⟨r1, 0, none⟩ : Addr).add 2) fun (u3 : ByteArray) =>
  splitW (decide (((u3.size : Nat) : Int) > u2)) (K (.tuple #[(.string (ByteArray.mk #[])), (.int .i64 (3 : Int))])) <|
  runW Tryz.prog (Instr.makeSlice 58 (.int .i64 x0) (.int .i64 x0)) .slc fun (u4 : Option Addr × Nat × Nat) =>
  drewW <|
  guardW (0 ≤ (0 : Int) ∧ (0 : Int) ≤ (12 : Int) ∧ (12 : Int) ≤ ((u4.2.2 : Nat) : Int)) <|
  ldW (.int .u8) (⟨r1, 0, none⟩ : Addr) fun (u5 : Int) =>
  newW (.cells #[(.int .u8 u5), (.int .u8 (0 : Int))] 5) fun (r6 : Nat) =>
  runW Tryz.prog (Builtin.append_ #[58, 58] 58 #[(.slice (cutAddr u4.1 0 (Int.toNat (12 : Int)) 1) (Int.toNat (0 : Int)) (Int.toNat (12 : Int))), (.slice (some (⟨r6, 0, none⟩ : Addr)) 2 2)]) .slc fun (u7 : (Option Addr × Nat × Nat)) =>
  ldW .str ((⟨r1, 0, none⟩ : Addr).add 2) fun (u8 : ByteArray) =>
  callW Tryz.prog 32 [(.slice u7.1 u7.2.1 u7.2.2), (.int .u64 (IntKind.wrap .u64 ((u8.size : Nat) : Int))), (.int .i64 (2 : Int))] (.one (.one .slc)) fun (u9 : (Option Addr × Nat × Nat)) =>
  ldW (.int .u64) ((⟨r1, 0, none⟩ : Addr).add 1) fun (u10 : Int) =>
  callW Tryz.prog 32 [(.slice u9.1 u9.2.1 u9.2.2), (.int .u64 u10), (.int .i64 (8 : Int))] (.one (.one .slc)) fun (u11 : (Option Addr × Nat × Nat)) =>
  drewW <|
  guardW (0 ≤ (12 : Int) ∧ (12 : Int) ≤ ((u4.2.1 : Nat) : Int)) <|
  ldW .str ((⟨r1, 0, none⟩ : Addr).add 2) fun (u12 : ByteArray) =>
  runW Tryz.prog (Builtin.copy_ #[58, 9] 3 #[(.slice (cutAddr u4.1 (Int.toNat (12 : Int)) u4.2.2 1) (u4.2.1 - (Int.toNat (12 : Int))) (u4.2.2 - (Int.toNat (12 : Int)))), (.string u12)]) (.int .i64) fun (u13 : Int) =>
  drewW <|
  guardW (0 ≤ (IntKind.wrap .i64 (x0 - (4 : Int))) ∧ (IntKind.wrap .i64 (x0 - (4 : Int))) ≤ (IntKind.wrap .i64 (x0 - (4 : Int))) ∧ (IntKind.wrap .i64 (x0 - (4 : Int))) ≤ x0 ∧ x0 ≤ ((u4.2.2 : Nat) : Int)) <|
  guardW (0 ≤ (IntKind.wrap .i64 (x0 - (4 : Int))) ∧ (IntKind.wrap .i64 (x0 - (4 : Int))) ≤ ((u4.2.2 : Nat) : Int)) <|
  callW Tryz.prog 101 [(.slice (cutAddr u4.1 0 u4.2.2 1) (Int.toNat (IntKind.wrap .i64 (x0 - (4 : Int)))) u4.2.2)] (.one (.one (.int .u32))) fun (u14 : Int) =>
  callW Tryz.prog 32 [(.slice (cutAddr u4.1 (Int.toNat (IntKind.wrap .i64 (x0 - (4 : Int)))) (Int.toNat x0) 1) ((Int.toNat (IntKind.wrap .i64 (x0 - (4 : Int)))) - (Int.toNat (IntKind.wrap .i64 (x0 - (4 : Int))))) ((Int.toNat x0) - (Int.toNat (IntKind.wrap .i64 (x0 - (4 : Int)))))), (.int .u64 (IntKind.wrap .u64 u14)), (.int .i64 (4 : Int))] (.one (.one .slc)) fun (u15 : (Option Addr × Nat × Nat)) =>
  runW Tryz.prog (Go.convert 58 9 (.slice u4.1 u4.2.1 u4.2.2)) .str fun (u16 : ByteArray) => K (.tuple #[(.string u16), (.int .i64 (0 : Int))])
theorem eq76 (x0 : Int) (x1_0 : Int) (x1_1 : Int) (x1_2 : ByteArray) (K : Value → WP) : bodyW Tryz.prog Tryz.f76 an76 false [(.int .i64 x0), (.agg #[(.int .u8 x1_0), (.int .u64 x1_1), (.string x1_2)])] K = S76 x0 x1_0 x1_1 x1_2 K := by kernel_rfl
theorem calls76 (x0 : Int) (x1_0 : Int) (x1_1 : Int) (x1_2 : ByteArray) {K : Value → WP} {w : World} (h : S76 x0 x1_0 x1_1 x1_2 K w) : Calls Tryz.prog 76 #[(.int .i64 x0), (.agg #[(.int .u8 x1_0), (.int .u64 x1_1), (.string x1_2)])] w (Ret K) := callsR_of_bodyW mixed Tryz.func76 (of_decide_eq_true (by kernel_rfl)) (by rw [eq76]; exact h)

/-- (*shadowbook/space.Space).free$1 -/
def an77 : Ann := (.seq .nil (.block (.loop [(3, .sh (.one (.int .u32)))] [0, 1, 1000000] (.seq (.seq .nil (.cond .nil .nil)) (.seq (.block (.seq .nil (.cond .nil .nil))) .nil)))))
def S77 (x0 : Value) (a1 : Addr) (K : Value → WP) : WP := 
  loopW (Int × Unit) ((2 : Int), ()) fun (y2 : Int × Unit) (I1 : (Int × Unit) → WP) =>
  ldW .ptr a1 fun (u3 : Option Addr) =>
  ptrW u3 fun (p4 : Addr) =>
  ldW (.int .i64) (((p4.add 1).add 1).add 1) fun (u5 : Int) =>
  splitW (decide ((IntKind.wrap .i64 y2.1) < u5)) (drewW <|
  ldW .ptr a1 fun (u6 : Option Addr) =>
  ptrW u6 fun (p7 : Addr) =>
  ldW .ptr (p7.add 8) fun (u8 : Option Addr) =>
  ldW .ptr a1 fun (u9 : Option Addr) =>
  ptrW u9 fun (p10 : Addr) =>
  ldW .ptr (p10.add 7) fun (u11 : Option Addr) =>
  ldW .ptr a1 fun (u12 : Option Addr) =>
  ptrW u12 fun (p13 : Addr) =>
  ldW .ptr (p13.add 9) fun (u14 : Option Addr) =>
  callW Tryz.prog 41 [(.pointer u8), (.int .u32 y2.1)] (.one (.one (.int .i64))) fun (u15 : Int) =>
  heldW [[((p13.add 9), (.pointer u14))], [(a1, (.pointer u12))], [((p10.add 7), (.pointer u11))], [(a1, (.pointer u9))]] <|
  callW Tryz.prog 41 [(.pointer u11), (.int .u32 y2.1)] (.one (.one (.int .i64))) fun (u16 : Int) =>
  heldW [[((p13.add 9), (.pointer u14))], [(a1, (.pointer u12))]] <|
  callW Tryz.prog 41 [(.pointer u14), (.int .u32 y2.1)] (.one (.one (.int .i64))) fun (u17 : Int) =>
  splitW ((IntKind.wrap .i64 ((IntKind.wrap .i64 (u15 + u16)) + u17)) == (0 : Int)) (callVW Tryz.prog x0 [(.int .u32 y2.1)] (.one (.one .bool)) fun (u18 : Bool) =>
  splitW (!u18) (K (.tuple #[])) <| I1 ((IntKind.wrap .u32 (y2.1 + (1 : Int))), ())) <| I1 ((IntKind.wrap .u32 (y2.1 + (1 : Int))), ())) <| K (.tuple #[])
theorem eq77 (x0 : Value) (a1 : Addr) (K : Value → WP) : bodyW Tryz.prog Tryz.f77 an77 false [x0, (.pointer (some a1))] K = S77 x0 a1 K := by kernel_rfl
theorem calls77 (x0 : Value) (a1 : Addr) {K : Value → WP} {w : World} (h : S77 x0 a1 K w) : Calls Tryz.prog 77 #[x0, (.pointer (some a1))] w (Ret K) := callsR_of_bodyW mixed Tryz.func77 (of_decide_eq_true (by kernel_rfl)) (by rw [eq77]; exact h)

/-- (*shadowbook/counts.Counts).at -/
def an78 : Ann := (.seq .nil (.seq (.block (.seq .nil (.cond (.seq .nil .nil) (.seq .nil (.cond (.seq .nil .nil) (.seq .nil (.cond (.seq .nil .nil) .nil))))))) (.seq .nil .nil)))
def S78 (x0 : Option Addr) (x1 : Int) (K : Value → WP) : WP := 
  splitW (Option.isNone x0) (K (.tuple #[(.pointer none), (.int .i64 (1 : Int))])) <|
  splitW (decide (x1 < (2 : Int))) (K (.tuple #[(.pointer none), (.int .i64 (2 : Int))])) <|
  ptrW x0 fun (p1 : Addr) =>
  ldW .slc (p1.add 2) fun (u2 : (Option Addr × Nat × Nat)) =>
  splitW (decide ((IntKind.wrap .u64 x1) ≥ (IntKind.wrap .u64 ((u2.2.1 : Nat) : Int)))) (K (.tuple #[(.pointer none), (.int .i64 (2 : Int))])) <|
  ptrW x0 fun (p3 : Addr) =>
  ldW .slc (p3.add 2) fun (u4 : (Option Addr × Nat × Nat)) =>
  guardW (0 ≤ x1 ∧ x1 < ((u4.2.1 : Nat) : Int)) <|
  ptrW u4.1 fun (p5 : Addr) =>
  ldW (.int .u16) (p5.add (Int.toNat x1 * 1)) fun (u6 : Int) =>
  splitW (u6 == (0 : Int)) (K (.tuple #[(.pointer none), (.int .i64 (8 : Int))])) <|
  ptrW x0 fun (p7 : Addr) =>
  ldW .slc (p7.add 2) fun (u8 : (Option Addr × Nat × Nat)) =>
  guardW (0 ≤ x1 ∧ x1 < ((u8.2.1 : Nat) : Int)) <|
  ptrW u8.1 fun (p9 : Addr) => K (.tuple #[(.pointer (some (p9.add (Int.toNat x1 * 1)))), (.int .i64 (0 : Int))])
theorem eq78 (x0 : Option Addr) (x1 : Int) (K : Value → WP) : bodyW Tryz.prog Tryz.f78 an78 false [(.pointer x0), (.int .u32 x1)] K = S78 x0 x1 K := by kernel_rfl
theorem calls78 (x0 : Option Addr) (x1 : Int) {K : Value → WP} {w : World} (h : S78 x0 x1 K w) : Calls Tryz.prog 78 #[(.pointer x0), (.int .u32 x1)] w (Ret K) := callsR_of_bodyW mixed Tryz.func78 (of_decide_eq_true (by kernel_rfl)) (by rw [eq78]; exact h)

/-- (*shadowbook/space.Space).page -/
def an79 : Ann := (.seq .nil (.seq .nil (.seq (.seq .nil (.cond (.seq .nil .nil) .nil)) (.seq .nil (.seq .nil (.seq (.seq .nil (.cond (.seq .nil .nil) .nil)) (.seq .nil (.seq (.seq .nil (.block (.loop [(41, .sh (.one (.int .u64)))] [0, 4, 7, 40, 1000000] (.seq .nil (.seq (.cond .nil .nil) (.seq (.block (.seq .nil (.seq (.seq .nil (.cond (.seq .nil .nil) .nil)) .nil))) .nil)))))) (.seq .nil (.seq .nil (.seq .nil .nil)))))))))))
def S79 (x0 : Option Addr) (x1 : ByteArray) (K : Value → WP) : WP := 
  newW (.cells #[(.int .u8 (0 : Int)), (.slice none 0 0), (.string ByteArray.empty)] 41) fun (r1 : Nat) =>
  callW Tryz.prog 88 [(.string x1)] (.many [(.agg [(.int .u8), (.int .u64), .str]), (.one (.int .i64))]) fun (u2 : (Int × Int × ByteArray × Unit) × Int × Unit) =>
  newW (.cells #[(.int .u8 (0 : Int)), (.int .u64 (0 : Int)), (.string ByteArray.empty)] 91) fun (r3 : Nat) =>
  guardW ((#[(.int .u8 u2.1.1), (.int .u64 u2.1.2.1), (.string u2.1.2.2.1)] : Array Value).size = 3) <|
  stAW (⟨r3, 0, none⟩ : Addr) [(.int .u8 u2.1.1), (.int .u64 u2.1.2.1), (.string u2.1.2.2.1)] <|
  splitW (u2.2.1 != (0 : Int)) (ldAW [(.int .u8), .slc, .str] (⟨r1, 0, none⟩ : Addr) fun (u4 : (Int × (Option Addr × Nat × Nat) × ByteArray × Unit)) =>
  guardW ((#[(.int .u8 u4.1), (.slice u4.2.1.1 u4.2.1.2.1 u4.2.1.2.2), (.string u4.2.2.1)] : Array Value).size = 3) <|
  stAW (⟨r1, 0, none⟩ : Addr) [(.int .u8 u4.1), (.slice u4.2.1.1 u4.2.1.2.1 u4.2.1.2.2), (.string u4.2.2.1)] <|
  ldAW [(.int .u8), .slc, .str] (⟨r1, 0, none⟩ : Addr) fun (u5 : (Int × (Option Addr × Nat × Nat) × ByteArray × Unit)) => K (.tuple #[(.agg #[(.int .u8 u5.1), (.slice u5.2.1.1 u5.2.1.2.1 u5.2.1.2.2), (.string u5.2.2.1)]), (.int .i64 (10 : Int))])) <|
  ldW (.int .u8) (⟨r3, 0, none⟩ : Addr) fun (u6 : Int) =>
  splitW (decide (u6 < (3 : Int))) (ldAW [(.int .u8), .slc, .str] (⟨r1, 0, none⟩ : Addr) fun (u7 : (Int × (Option Addr × Nat × Nat) × ByteArray × Unit)) =>
  guardW ((#[(.int .u8 u7.1), (.slice u7.2.1.1 u7.2.1.2.1 u7.2.1.2.2), (.string u7.2.2.1)] : Array Value).size = 3) <|
  stAW (⟨r1, 0, none⟩ : Addr) [(.int .u8 u7.1), (.slice u7.2.1.1 u7.2.1.2.1 u7.2.1.2.2), (.string u7.2.2.1)] <|
  ldAW [(.int .u8), .slc, .str] (⟨r1, 0, none⟩ : Addr) fun (u8 : (Int × (Option Addr × Nat × Nat) × ByteArray × Unit)) => K (.tuple #[(.agg #[(.int .u8 u8.1), (.slice u8.2.1.1 u8.2.1.2.1 u8.2.1.2.2), (.string u8.2.2.1)]), (.int .i64 (10 : Int))])) <|
  ldW .str ((⟨r3, 0, none⟩ : Addr).add 2) fun (u9 : ByteArray) =>
  runW Tryz.prog (Go.convert 9 58 (.string u9)) .slc fun (u10 : (Option Addr × Nat × Nat)) =>
  callW Tryz.prog 102 [(.slice u10.1 u10.2.1 u10.2.2)] (.one (.one .ptr)) fun (u11 : Option Addr) =>
  callW Tryz.prog 103 [(.pointer u11), (.int .i64 (2 : Int))] (.many [(.one (.int .u64)), (.one (.int .i64))]) fun (u12 : Int × Int × Unit) =>
  splitW (u12.2.1 != (0 : Int)) (ldAW [(.int .u8), .slc, .str] (⟨r1, 0, none⟩ : Addr) fun (u13 : (Int × (Option Addr × Nat × Nat) × ByteArray × Unit)) =>
  guardW ((#[(.int .u8 u13.1), (.slice u13.2.1.1 u13.2.1.2.1 u13.2.1.2.2), (.string u13.2.2.1)] : Array Value).size = 3) <|
  stAW (⟨r1, 0, none⟩ : Addr) [(.int .u8 u13.1), (.slice u13.2.1.1 u13.2.1.2.1 u13.2.1.2.2), (.string u13.2.2.1)] <|
  ldAW [(.int .u8), .slc, .str] (⟨r1, 0, none⟩ : Addr) fun (u14 : (Int × (Option Addr × Nat × Nat) × ByteArray × Unit)) => K (.tuple #[(.agg #[(.int .u8 u14.1), (.slice u14.2.1.1 u14.2.1.2.1 u14.2.1.2.2), (.string u14.2.2.1)]), (.int .i64 (10 : Int))])) <|
  ldW (.int .u8) (⟨r3, 0, none⟩ : Addr) fun (u15 : Int) =>
  stW (⟨r1, 0, none⟩ : Addr) (.int .u8 u15) <|
  loopW (Int × Unit) ((0 : Int), ()) fun (y17 : Int × Unit) (I16 : (Int × Unit) → WP) =>
  splitW (decide (y17.1 < u12.1)) (callW Tryz.prog 103 [(.pointer u11), (.int .i64 (4 : Int))] (.many [(.one (.int .u64)), (.one (.int .i64))]) fun (u18 : Int × Int × Unit) =>
  splitW (u18.2.1 != (0 : Int)) (guardW ((#[(.int .u8 (0 : Int)), (.slice none 0 0), (.string ByteArray.empty)] : Array Value).size = 3) <|
  stAW (⟨r1, 0, none⟩ : Addr) [(.int .u8 (0 : Int)), (.slice none 0 0), (.string ByteArray.empty)] <|
  ldAW [(.int .u8), .slc, .str] (⟨r1, 0, none⟩ : Addr) fun (u19 : (Int × (Option Addr × Nat × Nat) × ByteArray × Unit)) => K (.tuple #[(.agg #[(.int .u8 u19.1), (.slice u19.2.1.1 u19.2.1.2.1 u19.2.1.2.2), (.string u19.2.2.1)]), (.int .i64 (10 : Int))])) <|
  splitW (decide (u18.1 < (2 : Int))) (guardW ((#[(.int .u8 (0 : Int)), (.slice none 0 0), (.string ByteArray.empty)] : Array Value).size = 3) <|
  stAW (⟨r1, 0, none⟩ : Addr) [(.int .u8 (0 : Int)), (.slice none 0 0), (.string ByteArray.empty)] <|
  ldAW [(.int .u8), .slc, .str] (⟨r1, 0, none⟩ : Addr) fun (u20 : (Int × (Option Addr × Nat × Nat) × ByteArray × Unit)) => K (.tuple #[(.agg #[(.int .u8 u20.1), (.slice u20.2.1.1 u20.2.1.2.1 u20.2.1.2.2), (.string u20.2.2.1)]), (.int .i64 (10 : Int))])) <|
  ptrW x0 fun (p21 : Addr) =>
  ldW (.int .i64) (((p21.add 1).add 1).add 1) fun (u22 : Int) =>
  splitW (decide (u18.1 ≥ (IntKind.wrap .u64 u22))) (guardW ((#[(.int .u8 (0 : Int)), (.slice none 0 0), (.string ByteArray.empty)] : Array Value).size = 3) <|
  stAW (⟨r1, 0, none⟩ : Addr) [(.int .u8 (0 : Int)), (.slice none 0 0), (.string ByteArray.empty)] <|
  ldAW [(.int .u8), .slc, .str] (⟨r1, 0, none⟩ : Addr) fun (u23 : (Int × (Option Addr × Nat × Nat) × ByteArray × Unit)) => K (.tuple #[(.agg #[(.int .u8 u23.1), (.slice u23.2.1.1 u23.2.1.2.1 u23.2.1.2.2), (.string u23.2.2.1)]), (.int .i64 (10 : Int))])) <|
  ldW .slc ((⟨r1, 0, none⟩ : Addr).add 1) fun (u24 : (Option Addr × Nat × Nat)) =>
  newW (.cells #[(.int .u32 (IntKind.wrap .u32 u18.1))] 30) fun (r25 : Nat) =>
  runW Tryz.prog (Builtin.append_ #[39, 39] 39 #[(.slice u24.1 u24.2.1 u24.2.2), (.slice (some (⟨r25, 0, none⟩ : Addr)) 1 1)]) .slc fun (u26 : (Option Addr × Nat × Nat)) =>
  stW ((⟨r1, 0, none⟩ : Addr).add 1) (.slice u26.1 u26.2.1 u26.2.2) <| I16 ((IntKind.wrap .u64 (y17.1 + (1 : Int))), ())) <|
  callW Tryz.prog 105 [(.pointer u11)] (.one (.one (.int .i64))) fun (u27 : Int) =>
  callW Tryz.prog 104 [(.pointer u11), (.int .i64 u27)] (.many [(.one .slc), (.one (.int .i64))]) fun (u28 : (Option Addr × Nat × Nat) × Int × Unit) =>
  runW Tryz.prog (Go.convert 58 9 (.slice u28.1.1 u28.1.2.1 u28.1.2.2)) .str fun (u29 : ByteArray) =>
  stW ((⟨r1, 0, none⟩ : Addr).add 2) (.string u29) <|
  ldAW [(.int .u8), .slc, .str] (⟨r1, 0, none⟩ : Addr) fun (u30 : (Int × (Option Addr × Nat × Nat) × ByteArray × Unit)) =>
  guardW ((#[(.int .u8 u30.1), (.slice u30.2.1.1 u30.2.1.2.1 u30.2.1.2.2), (.string u30.2.2.1)] : Array Value).size = 3) <|
  stAW (⟨r1, 0, none⟩ : Addr) [(.int .u8 u30.1), (.slice u30.2.1.1 u30.2.1.2.1 u30.2.1.2.2), (.string u30.2.2.1)] <|
  ldAW [(.int .u8), .slc, .str] (⟨r1, 0, none⟩ : Addr) fun (u31 : (Int × (Option Addr × Nat × Nat) × ByteArray × Unit)) => K (.tuple #[(.agg #[(.int .u8 u31.1), (.slice u31.2.1.1 u31.2.1.2.1 u31.2.1.2.2), (.string u31.2.2.1)]), (.int .i64 u28.2.1)])
theorem eq79 (x0 : Option Addr) (x1 : ByteArray) (K : Value → WP) : bodyW Tryz.prog Tryz.f79 an79 false [(.pointer x0), (.string x1)] K = S79 x0 x1 K := by kernel_rfl
theorem calls79 (x0 : Option Addr) (x1 : ByteArray) {K : Value → WP} {w : World} (h : S79 x0 x1 K w) : Calls Tryz.prog 79 #[(.pointer x0), (.string x1)] w (Ret K) := callsR_of_bodyW mixed Tryz.func79 (of_decide_eq_true (by kernel_rfl)) (by rw [eq79]; exact h)

/-- (*shadowbook/space.Space).refs -/
def an80 : Ann := (.seq .nil (.seq .nil (.seq .nil (.seq .nil (.seq .nil .nil)))))
def S80 (x0 : Option Addr) (a1 : Option Addr) (n1 c1 : Nat) (x2 : Option Addr) (K : Value → WP) : WP := 
  newW (.cells #[(.pointer x0)] 24) fun (r1 : Nat) =>
  newW (.cells #[(.slice a1 n1 c1)] 39) fun (r2 : Nat) =>
  newW (.cells #[(.pointer x2)] 139) fun (r3 : Nat) =>
  ldW .ptr (⟨r1, 0, none⟩ : Addr) fun (u4 : Option Addr) =>
  ptrW u4 fun (p5 : Addr) =>
  ldW (.int .i64) (((p5.add 1).add 1).add 1) fun (u6 : Int) =>
  runW Tryz.prog (Instr.makeSlice 175 (.int .i64 u6) (.int .i64 u6)) .slc fun (u7 : Option Addr × Nat × Nat) =>
  newW (.cells #[(.slice none 0 0)] 175) fun (r8 : Nat) =>
  stW (⟨r8, 0, none⟩ : Addr) (.slice u7.1 u7.2.1 u7.2.2) <|
  newW (.cells (zeroC Tryz.prog 176) 176) fun (r9 : Nat) =>
  stW (⟨r9, 0, none⟩ : Addr) (.func (.func 106) #[] #[(.pointer (some (⟨r1, 0, none⟩ : Addr))), (.pointer (some (⟨r3, 0, none⟩ : Addr))), (.pointer (some (⟨r8, 0, none⟩ : Addr))), (.pointer (some (⟨r9, 0, none⟩ : Addr)))]) <| K (.func (.func 107) #[] #[(.pointer (some (⟨r9, 0, none⟩ : Addr))), (.pointer (some (⟨r2, 0, none⟩ : Addr)))])
theorem eq80 (x0 : Option Addr) (a1 : Option Addr) (n1 c1 : Nat) (x2 : Option Addr) (K : Value → WP) : bodyW Tryz.prog Tryz.f80 an80 false [(.pointer x0), (.slice a1 n1 c1), (.pointer x2)] K = S80 x0 a1 n1 c1 x2 K := by kernel_rfl
theorem calls80 (x0 : Option Addr) (a1 : Option Addr) (n1 c1 : Nat) (x2 : Option Addr) {K : Value → WP} {w : World} (h : S80 x0 a1 n1 c1 x2 K w) : Calls Tryz.prog 80 #[(.pointer x0), (.slice a1 n1 c1), (.pointer x2)] w (Ret K) := callsR_of_bodyW mixed Tryz.func80 (of_decide_eq_true (by kernel_rfl)) (by rw [eq80]; exact h)

/-- (*shadowbook/counts.Counts).Pages -/
def an81 : Ann := (.seq .nil (.seq (.seq .nil (.cond (.seq .nil .nil) .nil)) (.seq (.seq .nil (.block (.loop [(21, .sh (.one .slc))] [] (.seq .nil (.block (.seq .nil (.seq (.seq .nil (.block (.loop [(4, .sh (.one .slc)), (24, .sh (.one (.int .i64)))] [2, 22, 23, 1000000] (.seq .nil (.seq (.cond .nil .nil) (.seq (.block (.seq .nil .nil)) .nil)))))) .nil))))))) (.seq .nil .nil))))
def S81 (x0 : Option Addr) (K : Value → WP) : WP := 
  newW (.cells #[(.slice none 0 0)] 45) fun (r1 : Nat) =>
  splitW (Option.isNone x0) (stW (⟨r1, 0, none⟩ : Addr) (.slice none 0 0) <|
  leaveW Tryz.prog [] <|
  ldW .slc (⟨r1, 0, none⟩ : Addr) fun (u2 : (Option Addr × Nat × Nat)) => K (.slice u2.1 u2.2.1 u2.2.2)) <|
  drewW <|
  ptrW x0 fun (p3 : Addr) =>
  ldW .slc (p3.add 2) fun (u4 : (Option Addr × Nat × Nat)) =>
  ptrW x0 fun (p5 : Addr) =>
  ldW (.int .i64) p5 fun (u6 : Int) =>
  callW Tryz.prog 45 [(.int .i64 u6)] (.one (.one (.int .i64))) fun (u7 : Int) =>
  heldW [[((p3.add 2), (.slice u4.1 u4.2.1 u4.2.2))]] <|
  callW Tryz.prog 108 [(.slice u4.1 u4.2.1 u4.2.2), (.int .i64 (IntKind.wrap .i64 (Int.tdiv u7 (2 : Int))))] (.one (.one .any)) fun (u8 : Value) =>
  rangeW Tryz.prog u8 ((Option Addr × Nat × Nat) × Unit) (fun (t9 : (Option Addr × Nat × Nat) × Unit) => [(.slice t9.1.1 t9.1.2.1 t9.1.2.2)]) (fun (t9 : (Option Addr × Nat × Nat) × Unit) (B10 : WP → WP) (N11 : WP) (Q12 : Code → WP) => B10 (loopW ((Option Addr × Nat × Nat) × Int × Unit) ((none, 0, 0), (0 : Int), ()) fun (y16 : (Option Addr × Nat × Nat) × Int × Unit) (I15 : ((Option Addr × Nat × Nat) × Int × Unit) → WP) =>
  splitW (decide (y16.2.1 < ((t9.1.2.1 : Nat) : Int))) (guardW (0 ≤ y16.2.1 ∧ y16.2.1 < ((t9.1.2.1 : Nat) : Int)) <|
  ptrW t9.1.1 fun (p17 : Addr) =>
  ldW (.int .u16) (p17.add (Int.toNat y16.2.1 * 1)) fun (u18 : Int) =>
  callW Tryz.prog 32 [(.slice y16.1.1 y16.1.2.1 y16.1.2.2), (.int .u64 (IntKind.wrap .u64 u18)), (.int .i64 (2 : Int))] (.one (.one .slc)) fun (u19 : (Option Addr × Nat × Nat)) => I15 ((u19.1, u19.2.1, u19.2.2), (IntKind.wrap .i64 (y16.2.1 + (1 : Int))), ())) <|
  ldW .slc (⟨r1, 0, none⟩ : Addr) fun (u20 : (Option Addr × Nat × Nat)) =>
  runW Tryz.prog (Go.convert 58 9 (.slice y16.1.1 y16.1.2.1 y16.1.2.2)) .str fun (u21 : ByteArray) =>
  newW (.cells #[(.string u21)] 9) fun (r22 : Nat) =>
  runW Tryz.prog (Builtin.append_ #[45, 45] 45 #[(.slice u20.1 u20.2.1 u20.2.2), (.slice (some (⟨r22, 0, none⟩ : Addr)) 1 1)]) .slc fun (u23 : (Option Addr × Nat × Nat)) =>
  stW (⟨r1, 0, none⟩ : Addr) (.slice u23.1 u23.2.1 u23.2.2) <| N11)) fun (r13 : Nat) (p14 : Option Code) =>
  jumpK (ldW .slc (⟨r1, 0, none⟩ : Addr) fun (u24 : (Option Addr × Nat × Nat)) =>
  stW (⟨r1, 0, none⟩ : Addr) (.slice u24.1 u24.2.1 u24.2.2) <|
  leaveW Tryz.prog (⟨.collected r13, #[]⟩ :: []) <|
  ldW .slc (⟨r1, 0, none⟩ : Addr) fun (u25 : (Option Addr × Nat × Nat)) => K (.slice u25.1 u25.2.1 u25.2.2)) (leaveW Tryz.prog (⟨.collected r13, #[]⟩ :: []) <|
  ldW .slc (⟨r1, 0, none⟩ : Addr) fun (u26 : (Option Addr × Nat × Nat)) => K (.slice u26.1 u26.2.1 u26.2.2)) [] p14
theorem eq81 (x0 : Option Addr) (K : Value → WP) : bodyW Tryz.prog Tryz.f81 an81 true [(.pointer x0)] K = S81 x0 K := by kernel_rfl
theorem calls81 (x0 : Option Addr) {K : Value → WP} {w : World} (h : S81 x0 K w) : Calls Tryz.prog 81 #[(.pointer x0)] w (Ret K) := callsR_of_bodyW mixed Tryz.func81 (of_decide_eq_true (by kernel_rfl)) (by rw [eq81]; exact h)

/-- (*shadowbook/device.Device).Flush -/
def an82 : Ann := (.seq .nil (.seq (.block (.seq .nil (.cond (.seq .nil .nil) (.seq .nil (.cond (.seq .nil .nil) .nil))))) (.seq (.seq .nil (.block (.loop [(17, .sh (.one (.int .i64)))] [0, 15, 16, 1000000] (.seq .nil (.seq (.cond .nil .nil) (.seq (.block (.seq .nil .nil)) .nil)))))) (.seq .nil (.seq .nil .nil)))))
def S82 (x0 : Option Addr) (K : Value → WP) : WP := 
  splitW (Option.isNone x0) (K (.int .i64 (1 : Int))) <|
  callW Tryz.prog 97 [(.pointer x0)] (.one (.one .bool)) fun (u1 : Bool) =>
  splitW (!u1) (K (.int .i64 (8 : Int))) <|
  ptrW x0 fun (p2 : Addr) =>
  ldW .slc (p2.add 3) fun (u3 : (Option Addr × Nat × Nat)) =>
  loopW (Int × Unit) ((0 : Int), ()) fun (y5 : Int × Unit) (I4 : (Int × Unit) → WP) =>
  splitW (decide (y5.1 < ((u3.2.1 : Nat) : Int))) (guardW (0 ≤ y5.1 ∧ y5.1 < ((u3.2.1 : Nat) : Int)) <|
  ptrW u3.1 fun (p6 : Addr) =>
  ldAW [(.int .i64), .str] (p6.add (Int.toNat y5.1 * 2)) fun (u7 : (Int × ByteArray × Unit)) =>
  newW (.cells #[(.int .i64 (0 : Int)), (.string ByteArray.empty)] 149) fun (r8 : Nat) =>
  guardW ((#[(.int .i64 u7.1), (.string u7.2.1)] : Array Value).size = 2) <|
  stAW (⟨r8, 0, none⟩ : Addr) [(.int .i64 u7.1), (.string u7.2.1)] <|
  drewW <|
  ptrW x0 fun (p9 : Addr) =>
  ldW .slc (p9.add 2) fun (u10 : (Option Addr × Nat × Nat)) =>
  ldW (.int .i64) (⟨r8, 0, none⟩ : Addr) fun (u11 : Int) =>
  ldW .str ((⟨r8, 0, none⟩ : Addr).add 1) fun (u12 : ByteArray) =>
  guardW (0 ≤ u11 ∧ u11 < ((u10.2.1 : Nat) : Int)) <|
  ptrW u10.1 fun (p13 : Addr) =>
  stW (p13.add (Int.toNat u11 * 1)) (.string u12) <| I4 ((IntKind.wrap .i64 (y5.1 + (1 : Int))), ())) <|
  ptrW x0 fun (p14 : Addr) =>
  stW (p14.add 3) (.slice none 0 0) <| K (.int .i64 (0 : Int))
theorem eq82 (x0 : Option Addr) (K : Value → WP) : bodyW Tryz.prog Tryz.f82 an82 false [(.pointer x0)] K = S82 x0 K := by kernel_rfl
theorem calls82 (x0 : Option Addr) {K : Value → WP} {w : World} (h : S82 x0 K w) : Calls Tryz.prog 82 #[(.pointer x0)] w (Ret K) := callsR_of_bodyW mixed Tryz.func82 (of_decide_eq_true (by kernel_rfl)) (by rw [eq82]; exact h)

/-- shadowbook/super.Put -/
def an83 : Ann := (.seq .nil (.seq (.seq .nil (.seq .nil (.cond (.seq .nil .nil) .nil))) (.seq .nil (.seq (.seq .nil (.block (.loop [(5, .sh (.one .slc)), (28, .sh (.one (.int .i64)))] [1, 26, 27, 1000000] (.seq .nil (.seq (.cond .nil .nil) (.seq (.block (.seq .nil .nil)) .nil)))))) (.seq .nil (.seq (.seq .nil (.block (.loop [(5, .sh (.one .slc)), (45, .sh (.one (.int .i64)))] [1, 43, 44, 1000000] (.seq .nil (.seq (.cond .nil .nil) (.seq (.block (.seq .nil .nil)) .nil)))))) (.seq .nil .nil)))))))
def S83 (x0_0 : Int) (x0_1 : Int) (x0_2 : Int) (x0_3 : Int) (a0_4 : Option Addr) (n0_4 c0_4 : Nat) (K : Value → WP) : WP := 
  newW (.cells #[(.int .u64 x0_0), (.int .i64 x0_1), (.int .i64 x0_2), (.int .u32 x0_3), (.slice a0_4 n0_4 c0_4)] 84) fun (r1 : Nat) =>
  ldAW [(.int .u64), (.int .i64), (.int .i64), (.int .u32), .slc] (⟨r1, 0, none⟩ : Addr) fun (u2 : (Int × Int × Int × Int × (Option Addr × Nat × Nat) × Unit)) =>
  callW Tryz.prog 68 [(.agg #[(.int .u64 u2.1), (.int .i64 u2.2.1), (.int .i64 u2.2.2.1), (.int .u32 u2.2.2.2.1), (.slice u2.2.2.2.2.1.1 u2.2.2.2.2.1.2.1 u2.2.2.2.2.1.2.2)])] (.one (.one (.int .i64))) fun (u3 : Int) =>
  splitW (u3 != (0 : Int)) (K (.tuple #[(.string (ByteArray.mk #[])), (.int .i64 u3)])) <|
  ldW (.int .i64) ((⟨r1, 0, none⟩ : Addr).add 1) fun (u4 : Int) =>
  ldW (.int .i64) (((⟨r1, 0, none⟩ : Addr).add 1).add 1) fun (u5 : Int) =>
  ldW (.int .u32) ((⟨r1, 0, none⟩ : Addr).add 3) fun (u6 : Int) =>
  newW (.cells #[(.int .u64 (IntKind.wrap .u64 u4)), (.int .u64 (IntKind.wrap .u64 u5)), (.int .u64 (IntKind.wrap .u64 u6))] 67) fun (r7 : Nat) =>
  loopW ((Option Addr × Nat × Nat) × Int × Unit) ((none, 0, 0), (0 : Int), ()) fun (y9 : (Option Addr × Nat × Nat) × Int × Unit) (I8 : ((Option Addr × Nat × Nat) × Int × Unit) → WP) =>
  splitW (decide (y9.2.1 < ((3 : Nat) : Int))) (guardW (0 ≤ y9.2.1 ∧ y9.2.1 < ((3 : Nat) : Int)) <|
  ptrW (some (⟨r7, 0, none⟩ : Addr)) fun (p10 : Addr) =>
  ldW (.int .u64) (p10.add (Int.toNat y9.2.1 * 1)) fun (u11 : Int) =>
  callW Tryz.prog 32 [(.slice y9.1.1 y9.1.2.1 y9.1.2.2), (.int .u64 u11), (.int .i64 (4 : Int))] (.one (.one .slc)) fun (u12 : (Option Addr × Nat × Nat)) => I8 ((u12.1, u12.2.1, u12.2.2), (IntKind.wrap .i64 (y9.2.1 + (1 : Int))), ())) <|
  ldW .slc ((⟨r1, 0, none⟩ : Addr).add 4) fun (u13 : (Option Addr × Nat × Nat)) =>
  callW Tryz.prog 32 [(.slice y9.1.1 y9.1.2.1 y9.1.2.2), (.int .u64 (IntKind.wrap .u64 ((u13.2.1 : Nat) : Int))), (.int .i64 (2 : Int))] (.one (.one .slc)) fun (u14 : (Option Addr × Nat × Nat)) =>
  ldW .slc ((⟨r1, 0, none⟩ : Addr).add 4) fun (u15 : (Option Addr × Nat × Nat)) =>
  loopW ((Option Addr × Nat × Nat) × Int × Unit) ((u14.1, u14.2.1, u14.2.2), (0 : Int), ()) fun (y17 : (Option Addr × Nat × Nat) × Int × Unit) (I16 : ((Option Addr × Nat × Nat) × Int × Unit) → WP) =>
  splitW (decide (y17.2.1 < ((u15.2.1 : Nat) : Int))) (guardW (0 ≤ y17.2.1 ∧ y17.2.1 < ((u15.2.1 : Nat) : Int)) <|
  ptrW u15.1 fun (p18 : Addr) =>
  ldW (.int .u32) (p18.add (Int.toNat y17.2.1 * 1)) fun (u19 : Int) =>
  callW Tryz.prog 32 [(.slice y17.1.1 y17.1.2.1 y17.1.2.2), (.int .u64 (IntKind.wrap .u64 u19)), (.int .i64 (4 : Int))] (.one (.one .slc)) fun (u20 : (Option Addr × Nat × Nat)) => I16 ((u20.1, u20.2.1, u20.2.2), (IntKind.wrap .i64 (y17.2.1 + (1 : Int))), ())) <|
  ldW (.int .i64) ((⟨r1, 0, none⟩ : Addr).add 1) fun (u21 : Int) =>
  ldW (.int .u64) (⟨r1, 0, none⟩ : Addr) fun (u22 : Int) =>
  runW Tryz.prog (Go.convert 58 9 (.slice y17.1.1 y17.1.2.1 y17.1.2.2)) .str fun (u23 : ByteArray) =>
  callW Tryz.prog 76 [(.int .i64 u21), (.agg #[(.int .u8 (1 : Int)), (.int .u64 u22), (.string u23)])] (.many [(.one .str), (.one (.int .i64))]) fun (u24 : ByteArray × Int × Unit) => K (.tuple #[(.string u24.1), (.int .i64 u24.2.1)])
theorem eq83 (x0_0 : Int) (x0_1 : Int) (x0_2 : Int) (x0_3 : Int) (a0_4 : Option Addr) (n0_4 c0_4 : Nat) (K : Value → WP) : bodyW Tryz.prog Tryz.f83 an83 false [(.agg #[(.int .u64 x0_0), (.int .i64 x0_1), (.int .i64 x0_2), (.int .u32 x0_3), (.slice a0_4 n0_4 c0_4)])] K = S83 x0_0 x0_1 x0_2 x0_3 a0_4 n0_4 c0_4 K := by kernel_rfl
theorem calls83 (x0_0 : Int) (x0_1 : Int) (x0_2 : Int) (x0_3 : Int) (a0_4 : Option Addr) (n0_4 c0_4 : Nat) {K : Value → WP} {w : World} (h : S83 x0_0 x0_1 x0_2 x0_3 a0_4 n0_4 c0_4 K w) : Calls Tryz.prog 83 #[(.agg #[(.int .u64 x0_0), (.int .i64 x0_1), (.int .i64 x0_2), (.int .u32 x0_3), (.slice a0_4 n0_4 c0_4)])] w (Ret K) := callsR_of_bodyW mixed Tryz.func83 (of_decide_eq_true (by kernel_rfl)) (by rw [eq83]; exact h)

/-- slices.Clone[[]uint16,uint16] -/
def an84 : Ann := (.seq .nil (.seq (.seq .nil (.cond (.seq .nil .nil) .nil)) (.seq .nil .nil)))
def S84 (a0 : Option Addr) (n0 c0 : Nat) (K : Value → WP) : WP := 
  splitW (Option.isNone a0) (K (.slice none 0 0)) <|
  newW (.cells #[] 132) fun (r1 : Nat) =>
  runW Tryz.prog (Builtin.append_ #[129, 129] 129 #[(.slice (some (⟨r1, 0, none⟩ : Addr)) 0 0), (.slice a0 n0 c0)]) .slc fun (u2 : (Option Addr × Nat × Nat)) => K (.slice u2.1 u2.2.1 u2.2.2)
theorem eq84 (a0 : Option Addr) (n0 c0 : Nat) (K : Value → WP) : bodyW Tryz.prog Tryz.f84 an84 false [(.slice a0 n0 c0)] K = S84 a0 n0 c0 K := by kernel_rfl
theorem calls84 (a0 : Option Addr) (n0 c0 : Nat) {K : Value → WP} {w : World} (h : S84 a0 n0 c0 K w) : Calls Tryz.prog 84 #[(.slice a0 n0 c0)] w (Ret K) := callsR_of_bodyW mixed Tryz.func84 (of_decide_eq_true (by kernel_rfl)) (by rw [eq84]; exact h)

/-- (*shadowbook/device.Device).there -/
def an85 : Ann := (.seq .nil (.seq .nil .nil))
def S85 (x0 : Option Addr) (x1 : Int) (K : Value → WP) : WP := 
  splitW (decide (x1 ≥ (0 : Int))) (ptrW x0 fun (p1 : Addr) =>
  ldW (.int .i64) (p1.add 1) fun (u2 : Int) => K (.bool (decide (x1 < u2)))) <| K (.bool false)
theorem eq85 (x0 : Option Addr) (x1 : Int) (K : Value → WP) : bodyW Tryz.prog Tryz.f85 an85 false [(.pointer x0), (.int .i64 x1)] K = S85 x0 x1 K := by kernel_rfl
theorem calls85 (x0 : Option Addr) (x1 : Int) {K : Value → WP} {w : World} (h : S85 x0 x1 K w) : Calls Tryz.prog 85 #[(.pointer x0), (.int .i64 x1)] w (Ret K) := callsR_of_bodyW mixed Tryz.func85 (of_decide_eq_true (by kernel_rfl)) (by rw [eq85]; exact h)

/-- (*shadowbook/device.Device).latest -/
def an86 : Ann := (.seq .nil (.seq .nil .nil))
def S86 (x0 : Option Addr) (K : Value → WP) : WP := 
  ptrW x0 fun (p1 : Addr) =>
  ldW .slc (p1.add 3) fun (u2 : (Option Addr × Nat × Nat)) =>
  callW Tryz.prog 109 [(.slice u2.1 u2.2.1 u2.2.2)] (.one (.one .any)) fun (u3 : Value) => K u3
theorem eq86 (x0 : Option Addr) (K : Value → WP) : bodyW Tryz.prog Tryz.f86 an86 false [(.pointer x0)] K = S86 x0 K := by kernel_rfl
theorem calls86 (x0 : Option Addr) {K : Value → WP} {w : World} (h : S86 x0 K w) : Calls Tryz.prog 86 #[(.pointer x0)] w (Ret K) := callsR_of_bodyW mixed Tryz.func86 (of_decide_eq_true (by kernel_rfl)) (by rw [eq86]; exact h)

/-- shadowbook/super.Get -/
def an87 : Ann := (.seq .nil (.seq .nil (.seq (.seq .nil (.cond (.seq .nil .nil) .nil)) (.seq .nil (.seq .nil (.seq (.seq .nil (.block (.loop [(27, .sh (.one (.int .i64)))] [0, 2, 4, 5, 6, 1000000] (.seq .nil (.seq (.cond .nil .nil) (.seq (.block (.seq .nil .nil)) .nil)))))) (.seq .nil (.seq .nil (.seq (.seq .nil (.block (.loop [(57, .sh (.one (.int .u64)))] [0, 2, 5, 56, 1000000] (.seq .nil (.seq (.cond .nil .nil) (.seq (.block (.seq .nil (.seq (.seq .nil (.cond (.seq .nil .nil) .nil)) .nil))) .nil)))))) (.seq (.seq .nil (.seq .nil (.cond (.seq .nil .nil) .nil))) (.seq .nil .nil)))))))))))
def S87 (x0 : ByteArray) (K : Value → WP) : WP := 
  newW (.cells #[(.int .u64 (0 : Int)), (.int .i64 (0 : Int)), (.int .i64 (0 : Int)), (.int .u32 (0 : Int)), (.slice none 0 0)] 84) fun (r1 : Nat) =>
  callW Tryz.prog 60 [(.string x0), (.int .u8 (1 : Int))] (.many [(.agg [(.int .u8), (.int .u64), .str]), (.one (.int .i64))]) fun (u2 : (Int × Int × ByteArray × Unit) × Int × Unit) =>
  newW (.cells #[(.int .u8 (0 : Int)), (.int .u64 (0 : Int)), (.string ByteArray.empty)] 91) fun (r3 : Nat) =>
  guardW ((#[(.int .u8 u2.1.1), (.int .u64 u2.1.2.1), (.string u2.1.2.2.1)] : Array Value).size = 3) <|
  stAW (⟨r3, 0, none⟩ : Addr) [(.int .u8 u2.1.1), (.int .u64 u2.1.2.1), (.string u2.1.2.2.1)] <|
  splitW (u2.2.1 != (0 : Int)) (ldAW [(.int .u64), (.int .i64), (.int .i64), (.int .u32), .slc] (⟨r1, 0, none⟩ : Addr) fun (u4 : (Int × Int × Int × Int × (Option Addr × Nat × Nat) × Unit)) =>
  guardW ((#[(.int .u64 u4.1), (.int .i64 u4.2.1), (.int .i64 u4.2.2.1), (.int .u32 u4.2.2.2.1), (.slice u4.2.2.2.2.1.1 u4.2.2.2.2.1.2.1 u4.2.2.2.2.1.2.2)] : Array Value).size = 5) <|
  stAW (⟨r1, 0, none⟩ : Addr) [(.int .u64 u4.1), (.int .i64 u4.2.1), (.int .i64 u4.2.2.1), (.int .u32 u4.2.2.2.1), (.slice u4.2.2.2.2.1.1 u4.2.2.2.2.1.2.1 u4.2.2.2.2.1.2.2)] <|
  ldAW [(.int .u64), (.int .i64), (.int .i64), (.int .u32), .slc] (⟨r1, 0, none⟩ : Addr) fun (u5 : (Int × Int × Int × Int × (Option Addr × Nat × Nat) × Unit)) => K (.tuple #[(.agg #[(.int .u64 u5.1), (.int .i64 u5.2.1), (.int .i64 u5.2.2.1), (.int .u32 u5.2.2.2.1), (.slice u5.2.2.2.2.1.1 u5.2.2.2.2.1.2.1 u5.2.2.2.2.1.2.2)]), (.int .i64 u2.2.1)])) <|
  ldW .str ((⟨r3, 0, none⟩ : Addr).add 2) fun (u6 : ByteArray) =>
  runW Tryz.prog (Go.convert 9 58 (.string u6)) .slc fun (u7 : (Option Addr × Nat × Nat)) =>
  callW Tryz.prog 102 [(.slice u7.1 u7.2.1 u7.2.2)] (.one (.one .ptr)) fun (u8 : Option Addr) =>
  newW (.cells #[(.int .u64 (0 : Int)), (.int .u64 (0 : Int)), (.int .u64 (0 : Int))] 182) fun (r9 : Nat) =>
  loopW (Int × Unit) ((0 : Int), ()) fun (y11 : Int × Unit) (I10 : (Int × Unit) → WP) =>
  splitW (decide (y11.1 < (3 : Int))) (callW Tryz.prog 103 [(.pointer u8), (.int .i64 (4 : Int))] (.many [(.one (.int .u64)), (.one (.int .i64))]) fun (u12 : Int × Int × Unit) =>
  guardW (0 ≤ y11.1 ∧ y11.1 < ((3 : Nat) : Int)) <|
  stW ((⟨r9, 0, none⟩ : Addr).add (Int.toNat y11.1 * 1)) (.int .u64 u12.1) <| I10 ((IntKind.wrap .i64 (y11.1 + (1 : Int))), ())) <|
  callW Tryz.prog 103 [(.pointer u8), (.int .i64 (2 : Int))] (.many [(.one (.int .u64)), (.one (.int .i64))]) fun (u13 : Int × Int × Unit) =>
  ldW (.int .u64) ((⟨r3, 0, none⟩ : Addr).add 1) fun (u14 : Int) =>
  guardW (0 ≤ (0 : Int) ∧ (0 : Int) < ((3 : Nat) : Int)) <|
  ldW (.int .u64) ((⟨r9, 0, none⟩ : Addr).add (Int.toNat (0 : Int) * 1)) fun (u15 : Int) =>
  guardW (0 ≤ (1 : Int) ∧ (1 : Int) < ((3 : Nat) : Int)) <|
  ldW (.int .u64) ((⟨r9, 0, none⟩ : Addr).add (Int.toNat (1 : Int) * 1)) fun (u16 : Int) =>
  guardW (0 ≤ (2 : Int) ∧ (2 : Int) < ((3 : Nat) : Int)) <|
  ldW (.int .u64) ((⟨r9, 0, none⟩ : Addr).add (Int.toNat (2 : Int) * 1)) fun (u17 : Int) =>
  guardW ((#[(.int .u64 u14), (.int .i64 (IntKind.wrap .i64 u15)), (.int .i64 (IntKind.wrap .i64 u16)), (.int .u32 (IntKind.wrap .u32 u17)), (.slice none 0 0)] : Array Value).size = 5) <|
  stAW (⟨r1, 0, none⟩ : Addr) [(.int .u64 u14), (.int .i64 (IntKind.wrap .i64 u15)), (.int .i64 (IntKind.wrap .i64 u16)), (.int .u32 (IntKind.wrap .u32 u17)), (.slice none 0 0)] <|
  loopW (Int × Unit) ((0 : Int), ()) fun (y19 : Int × Unit) (I18 : (Int × Unit) → WP) =>
  splitW (decide (y19.1 < u13.1)) (callW Tryz.prog 103 [(.pointer u8), (.int .i64 (4 : Int))] (.many [(.one (.int .u64)), (.one (.int .i64))]) fun (u20 : Int × Int × Unit) =>
  splitW (u20.2.1 != (0 : Int)) (guardW ((#[(.int .u64 (0 : Int)), (.int .i64 (0 : Int)), (.int .i64 (0 : Int)), (.int .u32 (0 : Int)), (.slice none 0 0)] : Array Value).size = 5) <|
  stAW (⟨r1, 0, none⟩ : Addr) [(.int .u64 (0 : Int)), (.int .i64 (0 : Int)), (.int .i64 (0 : Int)), (.int .u32 (0 : Int)), (.slice none 0 0)] <|
  ldAW [(.int .u64), (.int .i64), (.int .i64), (.int .u32), .slc] (⟨r1, 0, none⟩ : Addr) fun (u21 : (Int × Int × Int × Int × (Option Addr × Nat × Nat) × Unit)) => K (.tuple #[(.agg #[(.int .u64 u21.1), (.int .i64 u21.2.1), (.int .i64 u21.2.2.1), (.int .u32 u21.2.2.2.1), (.slice u21.2.2.2.2.1.1 u21.2.2.2.2.1.2.1 u21.2.2.2.2.1.2.2)]), (.int .i64 (4 : Int))])) <|
  ldW .slc ((⟨r1, 0, none⟩ : Addr).add 4) fun (u22 : (Option Addr × Nat × Nat)) =>
  newW (.cells #[(.int .u32 (IntKind.wrap .u32 u20.1))] 30) fun (r23 : Nat) =>
  runW Tryz.prog (Builtin.append_ #[39, 39] 39 #[(.slice u22.1 u22.2.1 u22.2.2), (.slice (some (⟨r23, 0, none⟩ : Addr)) 1 1)]) .slc fun (u24 : (Option Addr × Nat × Nat)) =>
  stW ((⟨r1, 0, none⟩ : Addr).add 4) (.slice u24.1 u24.2.1 u24.2.2) <| I18 ((IntKind.wrap .u64 (y19.1 + (1 : Int))), ())) <|
  ldAW [(.int .u64), (.int .i64), (.int .i64), (.int .u32), .slc] (⟨r1, 0, none⟩ : Addr) fun (u25 : (Int × Int × Int × Int × (Option Addr × Nat × Nat) × Unit)) =>
  callW Tryz.prog 83 [(.agg #[(.int .u64 u25.1), (.int .i64 u25.2.1), (.int .i64 u25.2.2.1), (.int .u32 u25.2.2.2.1), (.slice u25.2.2.2.2.1.1 u25.2.2.2.2.1.2.1 u25.2.2.2.2.1.2.2)])] (.many [(.one .str), (.one (.int .i64))]) fun (u26 : ByteArray × Int × Unit) =>
  splitW (u26.2.1 != (0 : Int)) (guardW ((#[(.int .u64 (0 : Int)), (.int .i64 (0 : Int)), (.int .i64 (0 : Int)), (.int .u32 (0 : Int)), (.slice none 0 0)] : Array Value).size = 5) <|
  stAW (⟨r1, 0, none⟩ : Addr) [(.int .u64 (0 : Int)), (.int .i64 (0 : Int)), (.int .i64 (0 : Int)), (.int .u32 (0 : Int)), (.slice none 0 0)] <|
  ldAW [(.int .u64), (.int .i64), (.int .i64), (.int .u32), .slc] (⟨r1, 0, none⟩ : Addr) fun (u27 : (Int × Int × Int × Int × (Option Addr × Nat × Nat) × Unit)) => K (.tuple #[(.agg #[(.int .u64 u27.1), (.int .i64 u27.2.1), (.int .i64 u27.2.2.1), (.int .u32 u27.2.2.2.1), (.slice u27.2.2.2.2.1.1 u27.2.2.2.2.1.2.1 u27.2.2.2.2.1.2.2)]), (.int .i64 (4 : Int))])) <|
  splitW (!(u26.1.toList == x0.toList)) (guardW ((#[(.int .u64 (0 : Int)), (.int .i64 (0 : Int)), (.int .i64 (0 : Int)), (.int .u32 (0 : Int)), (.slice none 0 0)] : Array Value).size = 5) <|
  stAW (⟨r1, 0, none⟩ : Addr) [(.int .u64 (0 : Int)), (.int .i64 (0 : Int)), (.int .i64 (0 : Int)), (.int .u32 (0 : Int)), (.slice none 0 0)] <|
  ldAW [(.int .u64), (.int .i64), (.int .i64), (.int .u32), .slc] (⟨r1, 0, none⟩ : Addr) fun (u28 : (Int × Int × Int × Int × (Option Addr × Nat × Nat) × Unit)) => K (.tuple #[(.agg #[(.int .u64 u28.1), (.int .i64 u28.2.1), (.int .i64 u28.2.2.1), (.int .u32 u28.2.2.2.1), (.slice u28.2.2.2.2.1.1 u28.2.2.2.2.1.2.1 u28.2.2.2.2.1.2.2)]), (.int .i64 (4 : Int))])) <|
  ldAW [(.int .u64), (.int .i64), (.int .i64), (.int .u32), .slc] (⟨r1, 0, none⟩ : Addr) fun (u29 : (Int × Int × Int × Int × (Option Addr × Nat × Nat) × Unit)) =>
  guardW ((#[(.int .u64 u29.1), (.int .i64 u29.2.1), (.int .i64 u29.2.2.1), (.int .u32 u29.2.2.2.1), (.slice u29.2.2.2.2.1.1 u29.2.2.2.2.1.2.1 u29.2.2.2.2.1.2.2)] : Array Value).size = 5) <|
  stAW (⟨r1, 0, none⟩ : Addr) [(.int .u64 u29.1), (.int .i64 u29.2.1), (.int .i64 u29.2.2.1), (.int .u32 u29.2.2.2.1), (.slice u29.2.2.2.2.1.1 u29.2.2.2.2.1.2.1 u29.2.2.2.2.1.2.2)] <|
  ldAW [(.int .u64), (.int .i64), (.int .i64), (.int .u32), .slc] (⟨r1, 0, none⟩ : Addr) fun (u30 : (Int × Int × Int × Int × (Option Addr × Nat × Nat) × Unit)) => K (.tuple #[(.agg #[(.int .u64 u30.1), (.int .i64 u30.2.1), (.int .i64 u30.2.2.1), (.int .u32 u30.2.2.2.1), (.slice u30.2.2.2.2.1.1 u30.2.2.2.2.1.2.1 u30.2.2.2.2.1.2.2)]), (.int .i64 (0 : Int))])
theorem eq87 (x0 : ByteArray) (K : Value → WP) : bodyW Tryz.prog Tryz.f87 an87 false [(.string x0)] K = S87 x0 K := by kernel_rfl
theorem calls87 (x0 : ByteArray) {K : Value → WP} {w : World} (h : S87 x0 K w) : Calls Tryz.prog 87 #[(.string x0)] w (Ret K) := callsR_of_bodyW mixed Tryz.func87 (of_decide_eq_true (by kernel_rfl)) (by rw [eq87]; exact h)

/-- shadowbook/frame.Get -/
def an88 : Ann := (.seq .nil (.seq .nil (.seq (.seq .nil (.cond (.seq .nil .nil) .nil)) (.seq .nil (.seq .nil (.seq (.seq .nil (.cond (.seq .nil .nil) .nil)) (.seq .nil (.seq (.seq .nil (.cond (.seq .nil .nil) .nil)) (.seq .nil (.seq (.seq .nil (.seq .nil (.cond (.seq .nil .nil) .nil))) (.seq .nil .nil)))))))))))
def S88 (x0 : ByteArray) (K : Value → WP) : WP := 
  newW (.cells #[(.int .u8 (0 : Int)), (.int .u64 (0 : Int)), (.string ByteArray.empty)] 91) fun (r1 : Nat) =>
  callW Tryz.prog 45 [(.int .i64 ((x0.size : Nat) : Int))] (.one (.one (.int .i64))) fun (u2 : Int) =>
  splitW (u2 == (0 : Int)) (ldAW [(.int .u8), (.int .u64), .str] (⟨r1, 0, none⟩ : Addr) fun (u3 : (Int × Int × ByteArray × Unit)) =>
  guardW ((#[(.int .u8 u3.1), (.int .u64 u3.2.1), (.string u3.2.2.1)] : Array Value).size = 3) <|
  stAW (⟨r1, 0, none⟩ : Addr) [(.int .u8 u3.1), (.int .u64 u3.2.1), (.string u3.2.2.1)] <|
  ldAW [(.int .u8), (.int .u64), .str] (⟨r1, 0, none⟩ : Addr) fun (u4 : (Int × Int × ByteArray × Unit)) => K (.tuple #[(.agg #[(.int .u8 u4.1), (.int .u64 u4.2.1), (.string u4.2.2.1)]), (.int .i64 (2 : Int))])) <|
  runW Tryz.prog (Go.convert 9 58 (.string x0)) .slc fun (u5 : (Option Addr × Nat × Nat)) =>
  drewW <|
  guardW (0 ≤ (IntKind.wrap .i64 (((u5.2.1 : Nat) : Int) - (4 : Int))) ∧ (IntKind.wrap .i64 (((u5.2.1 : Nat) : Int) - (4 : Int))) ≤ ((u5.2.2 : Nat) : Int)) <|
  guardW (0 ≤ (IntKind.wrap .i64 (((u5.2.1 : Nat) : Int) - (4 : Int))) ∧ (IntKind.wrap .i64 (((u5.2.1 : Nat) : Int) - (4 : Int))) ≤ ((u5.2.1 : Nat) : Int)) <|
  callW Tryz.prog 101 [(.slice (cutAddr u5.1 0 u5.2.2 1) (Int.toNat (IntKind.wrap .i64 (((u5.2.1 : Nat) : Int) - (4 : Int)))) u5.2.2)] (.one (.one (.int .u32))) fun (u6 : Int) =>
  callW Tryz.prog 72 [(.slice (cutAddr u5.1 (Int.toNat (IntKind.wrap .i64 (((u5.2.1 : Nat) : Int) - (4 : Int)))) u5.2.2 1) (u5.2.1 - (Int.toNat (IntKind.wrap .i64 (((u5.2.1 : Nat) : Int) - (4 : Int))))) (u5.2.2 - (Int.toNat (IntKind.wrap .i64 (((u5.2.1 : Nat) : Int) - (4 : Int))))))] (.one (.one (.int .u64))) fun (u7 : Int) =>
  splitW ((IntKind.wrap .u64 u6) != u7) (ldAW [(.int .u8), (.int .u64), .str] (⟨r1, 0, none⟩ : Addr) fun (u8 : (Int × Int × ByteArray × Unit)) =>
  guardW ((#[(.int .u8 u8.1), (.int .u64 u8.2.1), (.string u8.2.2.1)] : Array Value).size = 3) <|
  stAW (⟨r1, 0, none⟩ : Addr) [(.int .u8 u8.1), (.int .u64 u8.2.1), (.string u8.2.2.1)] <|
  ldAW [(.int .u8), (.int .u64), .str] (⟨r1, 0, none⟩ : Addr) fun (u9 : (Int × Int × ByteArray × Unit)) => K (.tuple #[(.agg #[(.int .u8 u9.1), (.int .u64 u9.2.1), (.string u9.2.2.1)]), (.int .i64 (10 : Int))])) <|
  guardW (0 ≤ (2 : Int) ∧ (2 : Int) ≤ (4 : Int) ∧ (4 : Int) ≤ ((u5.2.2 : Nat) : Int)) <|
  callW Tryz.prog 72 [(.slice (cutAddr u5.1 (Int.toNat (2 : Int)) u5.2.2 1) ((Int.toNat (4 : Int)) - (Int.toNat (2 : Int))) (u5.2.2 - (Int.toNat (2 : Int))))] (.one (.one (.int .u64))) fun (u10 : Int) =>
  splitW (decide ((IntKind.wrap .i64 u10) > u2)) (ldAW [(.int .u8), (.int .u64), .str] (⟨r1, 0, none⟩ : Addr) fun (u11 : (Int × Int × ByteArray × Unit)) =>
  guardW ((#[(.int .u8 u11.1), (.int .u64 u11.2.1), (.string u11.2.2.1)] : Array Value).size = 3) <|
  stAW (⟨r1, 0, none⟩ : Addr) [(.int .u8 u11.1), (.int .u64 u11.2.1), (.string u11.2.2.1)] <|
  ldAW [(.int .u8), (.int .u64), .str] (⟨r1, 0, none⟩ : Addr) fun (u12 : (Int × Int × ByteArray × Unit)) => K (.tuple #[(.agg #[(.int .u8 u12.1), (.int .u64 u12.2.1), (.string u12.2.2.1)]), (.int .i64 (4 : Int))])) <|
  drewW <|
  guardW (0 ≤ (0 : Int) ∧ (0 : Int) < ((u5.2.1 : Nat) : Int)) <|
  ptrW u5.1 fun (p13 : Addr) =>
  ldW (.int .u8) (p13.add (Int.toNat (0 : Int) * 1)) fun (u14 : Int) =>
  guardW (0 ≤ (4 : Int) ∧ (4 : Int) ≤ (12 : Int) ∧ (12 : Int) ≤ ((u5.2.2 : Nat) : Int)) <|
  guardW (0 ≤ (12 : Int) ∧ (12 : Int) ≤ (IntKind.wrap .i64 ((12 : Int) + (IntKind.wrap .i64 u10))) ∧ (IntKind.wrap .i64 ((12 : Int) + (IntKind.wrap .i64 u10))) ≤ ((x0.size : Nat) : Int)) <|
  callW Tryz.prog 72 [(.slice (cutAddr u5.1 (Int.toNat (4 : Int)) u5.2.2 1) ((Int.toNat (12 : Int)) - (Int.toNat (4 : Int))) (u5.2.2 - (Int.toNat (4 : Int))))] (.one (.one (.int .u64))) fun (u15 : Int) =>
  heldW [[((p13.add (Int.toNat (0 : Int) * 1)), (.int .u8 u14))]] <|
  guardW ((#[(.int .u8 u14), (.int .u64 u15), (.string (ByteArray.extract x0 (Int.toNat (12 : Int)) (Int.toNat (IntKind.wrap .i64 ((12 : Int) + (IntKind.wrap .i64 u10))))))] : Array Value).size = 3) <|
  stAW (⟨r1, 0, none⟩ : Addr) [(.int .u8 u14), (.int .u64 u15), (.string (ByteArray.extract x0 (Int.toNat (12 : Int)) (Int.toNat (IntKind.wrap .i64 ((12 : Int) + (IntKind.wrap .i64 u10))))))] <|
  ldAW [(.int .u8), (.int .u64), .str] (⟨r1, 0, none⟩ : Addr) fun (u16 : (Int × Int × ByteArray × Unit)) =>
  callW Tryz.prog 76 [(.int .i64 ((x0.size : Nat) : Int)), (.agg #[(.int .u8 u16.1), (.int .u64 u16.2.1), (.string u16.2.2.1)])] (.many [(.one .str), (.one (.int .i64))]) fun (u17 : ByteArray × Int × Unit) =>
  splitW (u17.2.1 != (0 : Int)) (guardW ((#[(.int .u8 (0 : Int)), (.int .u64 (0 : Int)), (.string ByteArray.empty)] : Array Value).size = 3) <|
  stAW (⟨r1, 0, none⟩ : Addr) [(.int .u8 (0 : Int)), (.int .u64 (0 : Int)), (.string ByteArray.empty)] <|
  ldAW [(.int .u8), (.int .u64), .str] (⟨r1, 0, none⟩ : Addr) fun (u18 : (Int × Int × ByteArray × Unit)) => K (.tuple #[(.agg #[(.int .u8 u18.1), (.int .u64 u18.2.1), (.string u18.2.2.1)]), (.int .i64 (4 : Int))])) <|
  splitW (!(u17.1.toList == x0.toList)) (guardW ((#[(.int .u8 (0 : Int)), (.int .u64 (0 : Int)), (.string ByteArray.empty)] : Array Value).size = 3) <|
  stAW (⟨r1, 0, none⟩ : Addr) [(.int .u8 (0 : Int)), (.int .u64 (0 : Int)), (.string ByteArray.empty)] <|
  ldAW [(.int .u8), (.int .u64), .str] (⟨r1, 0, none⟩ : Addr) fun (u19 : (Int × Int × ByteArray × Unit)) => K (.tuple #[(.agg #[(.int .u8 u19.1), (.int .u64 u19.2.1), (.string u19.2.2.1)]), (.int .i64 (4 : Int))])) <|
  ldAW [(.int .u8), (.int .u64), .str] (⟨r1, 0, none⟩ : Addr) fun (u20 : (Int × Int × ByteArray × Unit)) =>
  guardW ((#[(.int .u8 u20.1), (.int .u64 u20.2.1), (.string u20.2.2.1)] : Array Value).size = 3) <|
  stAW (⟨r1, 0, none⟩ : Addr) [(.int .u8 u20.1), (.int .u64 u20.2.1), (.string u20.2.2.1)] <|
  ldAW [(.int .u8), (.int .u64), .str] (⟨r1, 0, none⟩ : Addr) fun (u21 : (Int × Int × ByteArray × Unit)) => K (.tuple #[(.agg #[(.int .u8 u21.1), (.int .u64 u21.2.1), (.string u21.2.2.1)]), (.int .i64 (0 : Int))])
theorem eq88 (x0 : ByteArray) (K : Value → WP) : bodyW Tryz.prog Tryz.f88 an88 false [(.string x0)] K = S88 x0 K := by kernel_rfl
theorem calls88 (x0 : ByteArray) {K : Value → WP} {w : World} (h : S88 x0 K w) : Calls Tryz.prog 88 #[(.string x0)] w (Ret K) := callsR_of_bodyW mixed Tryz.func88 (of_decide_eq_true (by kernel_rfl)) (by rw [eq88]; exact h)

/-- shadowbook/counts.Load$1 -/
def an89 : Ann := (.seq .nil (.seq .nil .nil))
def S89 (x0 : ByteArray) (x1 : ByteArray) (K : Value → WP) : WP := 
  K (.bool (((x0.size : Nat) : Int) == ((x1.size : Nat) : Int)))
theorem eq89 (x0 : ByteArray) (x1 : ByteArray) (K : Value → WP) : bodyW Tryz.prog Tryz.f89 an89 false [(.string x0), (.string x1)] K = S89 x0 x1 K := by kernel_rfl
theorem calls89 (x0 : ByteArray) (x1 : ByteArray) {K : Value → WP} {w : World} (h : S89 x0 x1 K w) : Calls Tryz.prog 89 #[(.string x0), (.string x1)] w (Ret K) := callsR_of_bodyW mixed Tryz.func89 (of_decide_eq_true (by kernel_rfl)) (by rw [eq89]; exact h)

/-- slices.EqualFunc[[]string,[]string,string,string] -/
def an90 : Ann := (.seq .nil (.seq (.seq .nil (.cond (.seq .nil .nil) .nil)) (.seq (.seq .nil (.block (.loop [(17, .sh (.one (.int .i64)))] [1, 2, 15, 16, 1000000] (.seq .nil (.seq (.cond .nil .nil) (.seq (.block (.seq .nil (.seq .nil (.seq .nil (.cond (.seq .nil .nil) .nil))))) .nil)))))) (.seq .nil .nil))))
def S90 (a0 : Option Addr) (n0 c0 : Nat) (a1 : Option Addr) (n1 c1 : Nat) (x2 : Value) (K : Value → WP) : WP := 
  splitW (((n0 : Nat) : Int) != ((n1 : Nat) : Int)) (K (.bool false)) <|
  loopW (Int × Unit) ((0 : Int), ()) fun (y2 : Int × Unit) (I1 : (Int × Unit) → WP) =>
  splitW (decide (y2.1 < ((n0 : Nat) : Int))) (guardW (0 ≤ y2.1 ∧ y2.1 < ((n0 : Nat) : Int)) <|
  ptrW a0 fun (p3 : Addr) =>
  ldW .str (p3.add (Int.toNat y2.1 * 1)) fun (u4 : ByteArray) =>
  guardW (0 ≤ y2.1 ∧ y2.1 < ((n1 : Nat) : Int)) <|
  ptrW a1 fun (p5 : Addr) =>
  ldW .str (p5.add (Int.toNat y2.1 * 1)) fun (u6 : ByteArray) =>
  callVW Tryz.prog x2 [(.string u4), (.string u6)] (.one (.one .bool)) fun (u7 : Bool) =>
  splitW (!u7) (K (.bool false)) <| I1 ((IntKind.wrap .i64 (y2.1 + (1 : Int))), ())) <| K (.bool true)
theorem eq90 (a0 : Option Addr) (n0 c0 : Nat) (a1 : Option Addr) (n1 c1 : Nat) (x2 : Value) (K : Value → WP) : bodyW Tryz.prog Tryz.f90 an90 false [(.slice a0 n0 c0), (.slice a1 n1 c1), x2] K = S90 a0 n0 c0 a1 n1 c1 x2 K := by kernel_rfl
theorem calls90 (a0 : Option Addr) (n0 c0 : Nat) (a1 : Option Addr) (n1 c1 : Nat) (x2 : Value) {K : Value → WP} {w : World} (h : S90 a0 n0 c0 a1 n1 c1 x2 K w) : Calls Tryz.prog 90 #[(.slice a0 n0 c0), (.slice a1 n1 c1), x2] w (Ret K) := callsR_of_bodyW mixed Tryz.func90 (of_decide_eq_true (by kernel_rfl)) (by rw [eq90]; exact h)

/-- slices.Chunk[[]byte,byte] -/
def an91 : Ann := (.seq .nil (.seq (.seq .nil (.cond .nil .nil)) (.seq .nil .nil)))
def S91 (a0 : Option Addr) (n0 c0 : Nat) (x1 : Int) (K : Value → WP) : WP := 
  newW (.cells #[(.slice a0 n0 c0)] 58) fun (r1 : Nat) =>
  newW (.cells #[(.int .i64 x1)] 3) fun (r2 : Nat) =>
  ldW (.int .i64) (⟨r2, 0, none⟩ : Addr) fun (u3 : Int) =>
  splitW (decide (u3 < (1 : Int))) (FalseW) <| K (.func (.func 110) #[] #[(.pointer (some (⟨r1, 0, none⟩ : Addr))), (.pointer (some (⟨r2, 0, none⟩ : Addr)))])
theorem eq91 (a0 : Option Addr) (n0 c0 : Nat) (x1 : Int) (K : Value → WP) : bodyW Tryz.prog Tryz.f91 an91 false [(.slice a0 n0 c0), (.int .i64 x1)] K = S91 a0 n0 c0 x1 K := by kernel_rfl
theorem calls91 (a0 : Option Addr) (n0 c0 : Nat) (x1 : Int) {K : Value → WP} {w : World} (h : S91 a0 n0 c0 x1 K w) : Calls Tryz.prog 91 #[(.slice a0 n0 c0), (.int .i64 x1)] w (Ret K) := callsR_of_bodyW mixed Tryz.func91 (of_decide_eq_true (by kernel_rfl)) (by rw [eq91]; exact h)

/-- math/bits.Mul -/
def an92 : Ann := (.seq .nil (.seq (.cond .nil .nil) (.seq .nil (.seq .nil .nil))))
def S92 (x0 : Int) (x1 : Int) (K : Value → WP) : WP := 
  callW Tryz.prog 112 [(.int .u64 x0), (.int .u64 x1)] (.many [(.one (.int .u64)), (.one (.int .u64))]) fun (u1 : Int × Int × Unit) => K (.tuple #[(.int .u64 u1.1), (.int .u64 u1.2.1)])
theorem eq92 (x0 : Int) (x1 : Int) (K : Value → WP) : bodyW Tryz.prog Tryz.f92 an92 false [(.int .u64 x0), (.int .u64 x1)] K = S92 x0 x1 K := by kernel_rfl
theorem calls92 (x0 : Int) (x1 : Int) {K : Value → WP} {w : World} (h : S92 x0 x1 K w) : Calls Tryz.prog 92 #[(.int .u64 x0), (.int .u64 x1)] w (Ret K) := callsR_of_bodyW mixed Tryz.func92 (of_decide_eq_true (by kernel_rfl)) (by rw [eq92]; exact h)

/-- strings.HasPrefix -/
def an93 : Ann := (.seq .nil (.seq .nil .nil))
def S93 (x0 : ByteArray) (x1 : ByteArray) (K : Value → WP) : WP := 
  callW Tryz.prog 113 [(.string x0), (.string x1)] (.one (.one .bool)) fun (u1 : Bool) => K (.bool u1)
theorem eq93 (x0 : ByteArray) (x1 : ByteArray) (K : Value → WP) : bodyW Tryz.prog Tryz.f93 an93 false [(.string x0), (.string x1)] K = S93 x0 x1 K := by kernel_rfl
theorem calls93 (x0 : ByteArray) (x1 : ByteArray) {K : Value → WP} {w : World} (h : S93 x0 x1 K w) : Calls Tryz.prog 93 #[(.string x0), (.string x1)] w (Ret K) := callsR_of_bodyW mixed Tryz.func93 (of_decide_eq_true (by kernel_rfl)) (by rw [eq93]; exact h)

/-- (*strings.Builder).Grow -/
def an94 : Ann := (.seq .nil (.join [] [0, 1, 1000000] (.seq .nil (.cond .nil .nil)) (.seq .nil (.cond .nil .nil))))
def S94 (x0 : Option Addr) (x1 : Int) (K : Value → WP) : WP := 
  callW Tryz.prog 71 [(.pointer x0)] .none fun (u1 : Unit) =>
  joinW (Unit) (fun (J2 : (Unit) → WP) =>
  splitW (decide (x1 < (0 : Int))) (FalseW) <| J2 ()) fun (y3 : Unit) =>
  drewW <|
  ptrW x0 fun (p4 : Addr) =>
  ldW .slc (p4.add 1) fun (u5 : (Option Addr × Nat × Nat)) =>
  ptrW x0 fun (p6 : Addr) =>
  ldW .slc (p6.add 1) fun (u7 : (Option Addr × Nat × Nat)) =>
  splitW (decide ((IntKind.wrap .i64 (((u5.2.2 : Nat) : Int) - ((u7.2.1 : Nat) : Int))) < x1)) (callW Tryz.prog 114 [(.pointer x0), (.int .i64 x1)] .none fun (u8 : Unit) => K (.tuple #[])) <| K (.tuple #[])
theorem eq94 (x0 : Option Addr) (x1 : Int) (K : Value → WP) : bodyW Tryz.prog Tryz.f94 an94 false [(.pointer x0), (.int .i64 x1)] K = S94 x0 x1 K := by kernel_rfl
theorem calls94 (x0 : Option Addr) (x1 : Int) {K : Value → WP} {w : World} (h : S94 x0 x1 K w) : Calls Tryz.prog 94 #[(.pointer x0), (.int .i64 x1)] w (Ret K) := callsR_of_bodyW mixed Tryz.func94 (of_decide_eq_true (by kernel_rfl)) (by rw [eq94]; exact h)

/-- (*strings.Builder).Len -/
def an95 : Ann := (.seq .nil (.seq .nil .nil))
def S95 (x0 : Option Addr) (K : Value → WP) : WP := 
  ptrW x0 fun (p1 : Addr) =>
  ldW .slc (p1.add 1) fun (u2 : (Option Addr × Nat × Nat)) => K (.int .i64 ((u2.2.1 : Nat) : Int))
theorem eq95 (x0 : Option Addr) (K : Value → WP) : bodyW Tryz.prog Tryz.f95 an95 false [(.pointer x0)] K = S95 x0 K := by kernel_rfl
theorem calls95 (x0 : Option Addr) {K : Value → WP} {w : World} (h : S95 x0 K w) : Calls Tryz.prog 95 #[(.pointer x0)] w (Ret K) := callsR_of_bodyW mixed Tryz.func95 (of_decide_eq_true (by kernel_rfl)) (by rw [eq95]; exact h)

/-- shadowbook/super.Check$1 -/
def an96 : Ann := (.seq .nil (.seq .nil .nil))
def S96 (x0 : Int) (a1 : Addr) (K : Value → WP) : WP := 
  splitW (decide (x0 ≥ (2 : Int))) (ldW (.int .i64) ((a1.add 1).add 1) fun (u1 : Int) => K (.bool (decide ((IntKind.wrap .u64 x0) < (IntKind.wrap .u64 u1))))) <| K (.bool false)
theorem eq96 (x0 : Int) (a1 : Addr) (K : Value → WP) : bodyW Tryz.prog Tryz.f96 an96 false [(.int .u32 x0), (.pointer (some a1))] K = S96 x0 a1 K := by kernel_rfl
theorem calls96 (x0 : Int) (a1 : Addr) {K : Value → WP} {w : World} (h : S96 x0 a1 K w) : Calls Tryz.prog 96 #[(.int .u32 x0), (.pointer (some a1))] w (Ret K) := callsR_of_bodyW mixed Tryz.func96 (of_decide_eq_true (by kernel_rfl)) (by rw [eq96]; exact h)

/-- (*shadowbook/device.Device).done -/
def an97 : Ann := (.seq .nil (.seq (.seq .nil (.cond (.seq .nil .nil) .nil)) (.seq .nil (.seq .nil (.seq .nil .nil)))))
def S97 (x0 : Option Addr) (K : Value → WP) : WP := 
  ptrW x0 fun (p1 : Addr) =>
  ldW (.int .i64) (p1.add 5) fun (u2 : Int) =>
  splitW (u2 == (0 : Int)) (K (.bool false)) <|
  ptrW x0 fun (p3 : Addr) =>
  ldW (.int .i64) (p3.add 5) fun (u4 : Int) =>
  ptrW x0 fun (p5 : Addr) =>
  stW (p5.add 5) (.int .i64 (if (IntKind.wrap .i64 (u4 - (1 : Int))) > (-1 : Int) then (IntKind.wrap .i64 (u4 - (1 : Int))) else (-1 : Int))) <|
  ptrW x0 fun (p6 : Addr) =>
  ldW (.int .i64) (p6.add 4) fun (u7 : Int) =>
  ptrW x0 fun (p8 : Addr) =>
  stW (p8.add 4) (.int .i64 (IntKind.wrap .i64 (u7 + (1 : Int)))) <| K (.bool true)
theorem eq97 (x0 : Option Addr) (K : Value → WP) : bodyW Tryz.prog Tryz.f97 an97 false [(.pointer x0)] K = S97 x0 K := by kernel_rfl
theorem calls97 (x0 : Option Addr) {K : Value → WP} {w : World} (h : S97 x0 K w) : Calls Tryz.prog 97 #[(.pointer x0)] w (Ret K) := callsR_of_bodyW mixed Tryz.func97 (of_decide_eq_true (by kernel_rfl)) (by rw [eq97]; exact h)

/-- slices.Backward[[]byte,byte] -/
def an99 : Ann := (.seq .nil (.seq .nil .nil))
def S99 (a0 : Option Addr) (n0 c0 : Nat) (K : Value → WP) : WP := 
  newW (.cells #[(.slice a0 n0 c0)] 58) fun (r1 : Nat) => K (.func (.func 115) #[] #[(.pointer (some (⟨r1, 0, none⟩ : Addr)))])
theorem eq99 (a0 : Option Addr) (n0 c0 : Nat) (K : Value → WP) : bodyW Tryz.prog Tryz.f99 an99 false [(.slice a0 n0 c0)] K = S99 a0 n0 c0 K := by kernel_rfl
theorem calls99 (a0 : Option Addr) (n0 c0 : Nat) {K : Value → WP} {w : World} (h : S99 a0 n0 c0 K w) : Calls Tryz.prog 99 #[(.slice a0 n0 c0)] w (Ret K) := callsR_of_bodyW mixed Tryz.func99 (of_decide_eq_true (by kernel_rfl)) (by rw [eq99]; exact h)

/-- slices.Index[[]uint32,uint32] -/
def an100 : Ann := (.seq .nil (.seq (.seq .nil (.block (.loop [(8, .sh (.one (.int .i64)))] [0, 1, 7, 1000000] (.seq .nil (.seq (.cond .nil .nil) (.seq (.block (.seq .nil (.seq .nil (.cond (.seq .nil .nil) .nil)))) .nil)))))) (.seq .nil .nil)))
def S100 (a0 : Option Addr) (n0 c0 : Nat) (x1 : Int) (K : Value → WP) : WP := 
  loopW (Int × Unit) ((0 : Int), ()) fun (y2 : Int × Unit) (I1 : (Int × Unit) → WP) =>
  splitW (decide (y2.1 < ((n0 : Nat) : Int))) (guardW (0 ≤ y2.1 ∧ y2.1 < ((n0 : Nat) : Int)) <|
  ptrW a0 fun (p3 : Addr) =>
  ldW (.int .u32) (p3.add (Int.toNat y2.1 * 1)) fun (u4 : Int) =>
  splitW (x1 == u4) (K (.int .i64 y2.1)) <| I1 ((IntKind.wrap .i64 (y2.1 + (1 : Int))), ())) <| K (.int .i64 (-1 : Int))
theorem eq100 (a0 : Option Addr) (n0 c0 : Nat) (x1 : Int) (K : Value → WP) : bodyW Tryz.prog Tryz.f100 an100 false [(.slice a0 n0 c0), (.int .u32 x1)] K = S100 a0 n0 c0 x1 K := by kernel_rfl
theorem calls100 (a0 : Option Addr) (n0 c0 : Nat) (x1 : Int) {K : Value → WP} {w : World} (h : S100 a0 n0 c0 x1 K w) : Calls Tryz.prog 100 #[(.slice a0 n0 c0), (.int .u32 x1)] w (Ret K) := callsR_of_bodyW mixed Tryz.func100 (of_decide_eq_true (by kernel_rfl)) (by rw [eq100]; exact h)

/-- shadowbook/crc.Of -/
def an101 : Ann := (.seq .nil (.seq .nil .nil))
def S101 (a0 : Option Addr) (n0 c0 : Nat) (K : Value → WP) : WP := 
  callW Tryz.prog 117 [] (.one (.arr 256)) fun (u1 : Array Value) =>
  callW Tryz.prog 116 [(.agg u1), (.slice a0 n0 c0)] (.one (.one (.int .u32))) fun (u2 : Int) => K (.int .u32 u2)
theorem eq101 (a0 : Option Addr) (n0 c0 : Nat) (K : Value → WP) : bodyW Tryz.prog Tryz.f101 an101 false [(.slice a0 n0 c0)] K = S101 a0 n0 c0 K := by kernel_rfl
theorem calls101 (a0 : Option Addr) (n0 c0 : Nat) {K : Value → WP} {w : World} (h : S101 a0 n0 c0 K w) : Calls Tryz.prog 101 #[(.slice a0 n0 c0)] w (Ret K) := callsR_of_bodyW mixed Tryz.func101 (of_decide_eq_true (by kernel_rfl)) (by rw [eq101]; exact h)

/-- shadowbook/octet.New -/
def an102 : Ann := (.seq .nil (.seq .nil .nil))
def S102 (a0 : Option Addr) (n0 c0 : Nat) (K : Value → WP) : WP := 
  callW Tryz.prog 118 [(.slice a0 n0 c0)] (.one (.one .slc)) fun (u1 : (Option Addr × Nat × Nat)) =>
  newW (.cells #[(.slice u1.1 u1.2.1 u1.2.2)] 194) fun (r2 : Nat) => K (.pointer (some (⟨r2, 0, none⟩ : Addr)))
theorem eq102 (a0 : Option Addr) (n0 c0 : Nat) (K : Value → WP) : bodyW Tryz.prog Tryz.f102 an102 false [(.slice a0 n0 c0)] K = S102 a0 n0 c0 K := by kernel_rfl
theorem calls102 (a0 : Option Addr) (n0 c0 : Nat) {K : Value → WP} {w : World} (h : S102 a0 n0 c0 K w) : Calls Tryz.prog 102 #[(.slice a0 n0 c0)] w (Ret K) := callsR_of_bodyW mixed Tryz.func102 (of_decide_eq_true (by kernel_rfl)) (by rw [eq102]; exact h)

/-- (*shadowbook/octet.Reader).Number -/
def an103 : Ann := (.seq .nil (.seq (.block (.seq .nil (.cond (.seq .nil .nil) (.seq .nil (.cond (.seq .nil .nil) .nil))))) (.seq .nil (.seq .nil .nil))))
def S103 (x0 : Option Addr) (x1 : Int) (K : Value → WP) : WP := 
  splitW (Option.isNone x0) (K (.tuple #[(.int .u64 (0 : Int)), (.int .i64 (1 : Int))])) <|
  splitW (decide (x1 < (1 : Int))) (K (.tuple #[(.int .u64 (0 : Int)), (.int .i64 (2 : Int))])) <|
  splitW (decide (x1 > (8 : Int))) (K (.tuple #[(.int .u64 (0 : Int)), (.int .i64 (2 : Int))])) <|
  callW Tryz.prog 119 [(.pointer x0), (.int .i64 x1)] (.many [(.one .slc), (.one (.int .i64))]) fun (u1 : (Option Addr × Nat × Nat) × Int × Unit) =>
  callW Tryz.prog 72 [(.slice u1.1.1 u1.1.2.1 u1.1.2.2)] (.one (.one (.int .u64))) fun (u2 : Int) => K (.tuple #[(.int .u64 u2), (.int .i64 u1.2.1)])
theorem eq103 (x0 : Option Addr) (x1 : Int) (K : Value → WP) : bodyW Tryz.prog Tryz.f103 an103 false [(.pointer x0), (.int .i64 x1)] K = S103 x0 x1 K := by kernel_rfl
theorem calls103 (x0 : Option Addr) (x1 : Int) {K : Value → WP} {w : World} (h : S103 x0 x1 K w) : Calls Tryz.prog 103 #[(.pointer x0), (.int .i64 x1)] w (Ret K) := callsR_of_bodyW mixed Tryz.func103 (of_decide_eq_true (by kernel_rfl)) (by rw [eq103]; exact h)

/-- (*shadowbook/octet.Reader).Bytes -/
def an104 : Ann := (.seq .nil (.seq (.block (.seq .nil (.cond (.seq .nil .nil) (.seq .nil (.cond (.seq .nil .nil) .nil))))) (.seq .nil (.seq .nil .nil))))
def S104 (x0 : Option Addr) (x1 : Int) (K : Value → WP) : WP := 
  splitW (Option.isNone x0) (K (.tuple #[(.slice none 0 0), (.int .i64 (1 : Int))])) <|
  splitW (decide (x1 < (0 : Int))) (K (.tuple #[(.slice none 0 0), (.int .i64 (2 : Int))])) <|
  callW Tryz.prog 119 [(.pointer x0), (.int .i64 x1)] (.many [(.one .slc), (.one (.int .i64))]) fun (u1 : (Option Addr × Nat × Nat) × Int × Unit) =>
  callW Tryz.prog 118 [(.slice u1.1.1 u1.1.2.1 u1.1.2.2)] (.one (.one .slc)) fun (u2 : (Option Addr × Nat × Nat)) => K (.tuple #[(.slice u2.1 u2.2.1 u2.2.2), (.int .i64 u1.2.1)])
theorem eq104 (x0 : Option Addr) (x1 : Int) (K : Value → WP) : bodyW Tryz.prog Tryz.f104 an104 false [(.pointer x0), (.int .i64 x1)] K = S104 x0 x1 K := by kernel_rfl
theorem calls104 (x0 : Option Addr) (x1 : Int) {K : Value → WP} {w : World} (h : S104 x0 x1 K w) : Calls Tryz.prog 104 #[(.pointer x0), (.int .i64 x1)] w (Ret K) := callsR_of_bodyW mixed Tryz.func104 (of_decide_eq_true (by kernel_rfl)) (by rw [eq104]; exact h)

/-- (*shadowbook/octet.Reader).Left -/
def an105 : Ann := (.seq .nil (.seq (.seq .nil (.cond (.seq .nil .nil) .nil)) (.seq .nil .nil)))
def S105 (x0 : Option Addr) (K : Value → WP) : WP := 
  splitW (Option.isNone x0) (K (.int .i64 (0 : Int))) <|
  ptrW x0 fun (p1 : Addr) =>
  ldW .slc p1 fun (u2 : (Option Addr × Nat × Nat)) => K (.int .i64 ((u2.2.1 : Nat) : Int))
theorem eq105 (x0 : Option Addr) (K : Value → WP) : bodyW Tryz.prog Tryz.f105 an105 false [(.pointer x0)] K = S105 x0 K := by kernel_rfl
theorem calls105 (x0 : Option Addr) {K : Value → WP} {w : World} (h : S105 x0 K w) : Calls Tryz.prog 105 #[(.pointer x0)] w (Ret K) := callsR_of_bodyW mixed Tryz.func105 (of_decide_eq_true (by kernel_rfl)) (by rw [eq105]; exact h)

/-- (*shadowbook/space.Space).refs$1 -/
def an106 : Ann := (.seq .nil (.seq (.seq .nil (.block (.loop [(15, .sh (.one (.int .i64)))] [0, 2, 3, 4, 5, 13, 14, 1000000] (.seq .nil (.seq (.cond .nil .nil) (.seq (.block (.seq .nil (.seq (.seq .nil (.cond .nil .nil)) (.seq .nil (.seq (.seq .nil (.cond (.seq .nil (.seq .nil .nil)) .nil)) (.seq (.seq .nil (.cond (.seq .nil .nil) .nil)) (.seq (.seq .nil (.cond .nil .nil)) (.seq .nil (.seq .nil (.cond (.seq .nil .nil) .nil)))))))))) .nil)))))) (.seq .nil .nil)))
def S106 (x0 : Value) (a1 : Option Addr) (n1 c1 : Nat) (a2 : Addr) (a3 : Addr) (a4 : Addr) (a5 : Addr) (K : Value → WP) : WP := 
  loopW (Int × Unit) ((0 : Int), ()) fun (y2 : Int × Unit) (I1 : (Int × Unit) → WP) =>
  splitW (decide (y2.1 < ((n1 : Nat) : Int))) (guardW (0 ≤ y2.1 ∧ y2.1 < ((n1 : Nat) : Int)) <|
  ptrW a1 fun (p3 : Addr) =>
  ldW (.int .u32) (p3.add (Int.toNat y2.1 * 1)) fun (u4 : Int) =>
  splitW (u4 == (0 : Int)) (I1 ((IntKind.wrap .i64 (y2.1 + (1 : Int))), ())) <|
  ldW .ptr a2 fun (u5 : Option Addr) =>
  callW Tryz.prog 49 [(.pointer u5), (.int .u32 u4)] (.many [(.agg [(.int .u8), .slc, .str]), (.one (.int .i64))]) fun (u6 : (Int × (Option Addr × Nat × Nat) × ByteArray × Unit) × Int × Unit) =>
  newW (.cells #[(.int .u8 (0 : Int)), (.slice none 0 0), (.string ByteArray.empty)] 41) fun (r7 : Nat) =>
  guardW ((#[(.int .u8 u6.1.1), (.slice u6.1.2.1.1 u6.1.2.1.2.1 u6.1.2.1.2.2), (.string u6.1.2.2.1)] : Array Value).size = 3) <|
  stAW (⟨r7, 0, none⟩ : Addr) [(.int .u8 u6.1.1), (.slice u6.1.2.1.1 u6.1.2.1.2.1 u6.1.2.1.2.2), (.string u6.1.2.2.1)] <|
  splitW (u6.2.1 != (0 : Int)) (ldW .ptr a3 fun (u8 : Option Addr) =>
  ptrW u8 fun (p9 : Addr) =>
  stW p9 (.int .i64 u6.2.1) <| K (.bool false)) <|
  callVW Tryz.prog x0 [(.int .u32 u4)] (.one (.one .bool)) fun (u10 : Bool) =>
  splitW (!u10) (K (.bool false)) <|
  ldW .slc a4 fun (u11 : (Option Addr × Nat × Nat)) =>
  guardW (0 ≤ u4 ∧ u4 < ((u11.2.1 : Nat) : Int)) <|
  ptrW u11.1 fun (p12 : Addr) =>
  ldW .bool (p12.add (Int.toNat u4 * 1)) fun (u13 : Bool) =>
  splitW u13 (I1 ((IntKind.wrap .i64 (y2.1 + (1 : Int))), ())) <|
  ldW .slc a4 fun (u14 : (Option Addr × Nat × Nat)) =>
  guardW (0 ≤ u4 ∧ u4 < ((u14.2.1 : Nat) : Int)) <|
  ptrW u14.1 fun (p15 : Addr) =>
  stW (p15.add (Int.toNat u4 * 1)) (.bool true) <|
  ldW .any a5 fun (u16 : Value) =>
  ldW .slc ((⟨r7, 0, none⟩ : Addr).add 1) fun (u17 : (Option Addr × Nat × Nat)) =>
  callVW Tryz.prog u16 [x0, (.slice u17.1 u17.2.1 u17.2.2)] (.one (.one .bool)) fun (u18 : Bool) =>
  splitW (!u18) (K (.bool false)) <| I1 ((IntKind.wrap .i64 (y2.1 + (1 : Int))), ())) <| K (.bool true)
theorem eq106 (x0 : Value) (a1 : Option Addr) (n1 c1 : Nat) (a2 : Addr) (a3 : Addr) (a4 : Addr) (a5 : Addr) (K : Value → WP) : bodyW Tryz.prog Tryz.f106 an106 false [x0, (.slice a1 n1 c1), (.pointer (some a2)), (.pointer (some a3)), (.pointer (some a4)), (.pointer (some a5))] K = S106 x0 a1 n1 c1 a2 a3 a4 a5 K := by kernel_rfl
theorem calls106 (x0 : Value) (a1 : Option Addr) (n1 c1 : Nat) (a2 : Addr) (a3 : Addr) (a4 : Addr) (a5 : Addr) {K : Value → WP} {w : World} (h : S106 x0 a1 n1 c1 a2 a3 a4 a5 K w) : Calls Tryz.prog 106 #[x0, (.slice a1 n1 c1), (.pointer (some a2)), (.pointer (some a3)), (.pointer (some a4)), (.pointer (some a5))] w (Ret K) := callsR_of_bodyW mixed Tryz.func106 (of_decide_eq_true (by kernel_rfl)) (by rw [eq106]; exact h)

/-- (*shadowbook/space.Space).refs$2 -/
def an107 : Ann := .nil
def S107 (x0 : Value) (a1 : Addr) (a2 : Addr) (K : Value → WP) : WP := 
  ldW .any a1 fun (u1 : Value) =>
  ldW .slc a2 fun (u2 : (Option Addr × Nat × Nat)) =>
  callVW Tryz.prog u1 [x0, (.slice u2.1 u2.2.1 u2.2.2)] (.one (.one .bool)) fun (u3 : Bool) => K (.tuple #[])
theorem eq107 (x0 : Value) (a1 : Addr) (a2 : Addr) (K : Value → WP) : bodyW Tryz.prog Tryz.f107 an107 false [x0, (.pointer (some a1)), (.pointer (some a2))] K = S107 x0 a1 a2 K := by kernel_rfl
theorem calls107 (x0 : Value) (a1 : Addr) (a2 : Addr) {K : Value → WP} {w : World} (h : S107 x0 a1 a2 K w) : Calls Tryz.prog 107 #[x0, (.pointer (some a1)), (.pointer (some a2))] w (Ret K) := callsR_of_bodyW mixed Tryz.func107 (of_decide_eq_true (by kernel_rfl)) (by rw [eq107]; exact h)

/-- slices.Chunk[[]uint16,uint16] -/
def an108 : Ann := (.seq .nil (.seq (.seq .nil (.cond .nil .nil)) (.seq .nil .nil)))
def S108 (a0 : Option Addr) (n0 c0 : Nat) (x1 : Int) (K : Value → WP) : WP := 
  newW (.cells #[(.slice a0 n0 c0)] 129) fun (r1 : Nat) =>
  newW (.cells #[(.int .i64 x1)] 3) fun (r2 : Nat) =>
  ldW (.int .i64) (⟨r2, 0, none⟩ : Addr) fun (u3 : Int) =>
  splitW (decide (u3 < (1 : Int))) (FalseW) <| K (.func (.func 120) #[] #[(.pointer (some (⟨r1, 0, none⟩ : Addr))), (.pointer (some (⟨r2, 0, none⟩ : Addr)))])
theorem eq108 (a0 : Option Addr) (n0 c0 : Nat) (x1 : Int) (K : Value → WP) : bodyW Tryz.prog Tryz.f108 an108 false [(.slice a0 n0 c0), (.int .i64 x1)] K = S108 a0 n0 c0 x1 K := by kernel_rfl
theorem calls108 (a0 : Option Addr) (n0 c0 : Nat) (x1 : Int) {K : Value → WP} {w : World} (h : S108 a0 n0 c0 x1 K w) : Calls Tryz.prog 108 #[(.slice a0 n0 c0), (.int .i64 x1)] w (Ret K) := callsR_of_bodyW mixed Tryz.func108 (of_decide_eq_true (by kernel_rfl)) (by rw [eq108]; exact h)

/-- slices.Backward[[]shadowbook/api.Write,shadowbook/api.Write] -/
def an109 : Ann := (.seq .nil (.seq .nil .nil))
def S109 (a0 : Option Addr) (n0 c0 : Nat) (K : Value → WP) : WP := 
  newW (.cells #[(.slice a0 n0 c0)] 116) fun (r1 : Nat) => K (.func (.func 121) #[] #[(.pointer (some (⟨r1, 0, none⟩ : Addr)))])
theorem eq109 (a0 : Option Addr) (n0 c0 : Nat) (K : Value → WP) : bodyW Tryz.prog Tryz.f109 an109 false [(.slice a0 n0 c0)] K = S109 a0 n0 c0 K := by kernel_rfl
theorem calls109 (a0 : Option Addr) (n0 c0 : Nat) {K : Value → WP} {w : World} (h : S109 a0 n0 c0 K w) : Calls Tryz.prog 109 #[(.slice a0 n0 c0)] w (Ret K) := callsR_of_bodyW mixed Tryz.func109 (of_decide_eq_true (by kernel_rfl)) (by rw [eq109]; exact h)

/-- slices.Chunk[[]byte,byte]$1 -/
def an110 : Ann := (.seq .nil (.block (.loop [(4, .sh (.one (.int .i64)))] [0, 1, 2, 1000000] (.seq (.seq .nil (.cond .nil .nil)) (.seq (.block (.seq .nil (.seq .nil (.cond .nil .nil)))) .nil)))))
def S110 (x0 : Value) (a1 : Addr) (a2 : Addr) (K : Value → WP) : WP := 
  loopW (Int × Unit) ((0 : Int), ()) fun (y2 : Int × Unit) (I1 : (Int × Unit) → WP) =>
  ldW .slc a1 fun (u3 : (Option Addr × Nat × Nat)) =>
  splitW (decide (y2.1 < ((u3.2.1 : Nat) : Int))) (drewW <|
  ldW (.int .i64) a2 fun (u4 : Int) =>
  ldW .slc a1 fun (u5 : (Option Addr × Nat × Nat)) =>
  guardW (0 ≤ y2.1 ∧ y2.1 ≤ ((u5.2.1 : Nat) : Int)) <|
  ldW .slc a1 fun (u6 : (Option Addr × Nat × Nat)) =>
  guardW (0 ≤ y2.1 ∧ y2.1 ≤ (IntKind.wrap .i64 (y2.1 + (if (((u5.2.1 - (Int.toNat y2.1)) : Nat) : Int) < u4 then (((u5.2.1 - (Int.toNat y2.1)) : Nat) : Int) else u4))) ∧ (IntKind.wrap .i64 (y2.1 + (if (((u5.2.1 - (Int.toNat y2.1)) : Nat) : Int) < u4 then (((u5.2.1 - (Int.toNat y2.1)) : Nat) : Int) else u4))) ≤ (IntKind.wrap .i64 (y2.1 + (if (((u5.2.1 - (Int.toNat y2.1)) : Nat) : Int) < u4 then (((u5.2.1 - (Int.toNat y2.1)) : Nat) : Int) else u4))) ∧ (IntKind.wrap .i64 (y2.1 + (if (((u5.2.1 - (Int.toNat y2.1)) : Nat) : Int) < u4 then (((u5.2.1 - (Int.toNat y2.1)) : Nat) : Int) else u4))) ≤ ((u6.2.2 : Nat) : Int)) <|
  callVW Tryz.prog x0 [(.slice (cutAddr u6.1 (Int.toNat y2.1) (Int.toNat (IntKind.wrap .i64 (y2.1 + (if (((u5.2.1 - (Int.toNat y2.1)) : Nat) : Int) < u4 then (((u5.2.1 - (Int.toNat y2.1)) : Nat) : Int) else u4)))) 1) ((Int.toNat (IntKind.wrap .i64 (y2.1 + (if (((u5.2.1 - (Int.toNat y2.1)) : Nat) : Int) < u4 then (((u5.2.1 - (Int.toNat y2.1)) : Nat) : Int) else u4)))) - (Int.toNat y2.1)) ((Int.toNat (IntKind.wrap .i64 (y2.1 + (if (((u5.2.1 - (Int.toNat y2.1)) : Nat) : Int) < u4 then (((u5.2.1 - (Int.toNat y2.1)) : Nat) : Int) else u4)))) - (Int.toNat y2.1)))] (.one (.one .bool)) fun (u7 : Bool) =>
  splitW (!u7) (K (.tuple #[])) <|
  ldW (.int .i64) a2 fun (u8 : Int) => I1 ((IntKind.wrap .i64 (y2.1 + u8)), ())) <| K (.tuple #[])
theorem eq110 (x0 : Value) (a1 : Addr) (a2 : Addr) (K : Value → WP) : bodyW Tryz.prog Tryz.f110 an110 false [x0, (.pointer (some a1)), (.pointer (some a2))] K = S110 x0 a1 a2 K := by kernel_rfl
theorem calls110 (x0 : Value) (a1 : Addr) (a2 : Addr) {K : Value → WP} {w : World} (h : S110 x0 a1 a2 K w) : Calls Tryz.prog 110 #[x0, (.pointer (some a1)), (.pointer (some a2))] w (Ret K) := callsR_of_bodyW mixed Tryz.func110 (of_decide_eq_true (by kernel_rfl)) (by rw [eq110]; exact h)

/-- math/bits.Mul32 -/
def an111 : Ann := (.seq .nil (.seq .nil (.seq .nil .nil)))
def S111 (x0 : Int) (x1 : Int) (K : Value → WP) : WP := 
  K (.tuple #[(.int .u32 (IntKind.wrap .u32 (ishr .u64 (IntKind.wrap .u64 ((IntKind.wrap .u64 x0) * (IntKind.wrap .u64 x1))) (32 : Int)))), (.int .u32 (IntKind.wrap .u32 (IntKind.wrap .u64 ((IntKind.wrap .u64 x0) * (IntKind.wrap .u64 x1)))))])
theorem eq111 (x0 : Int) (x1 : Int) (K : Value → WP) : bodyW Tryz.prog Tryz.f111 an111 false [(.int .u32 x0), (.int .u32 x1)] K = S111 x0 x1 K := by kernel_rfl
theorem calls111 (x0 : Int) (x1 : Int) {K : Value → WP} {w : World} (h : S111 x0 x1 K w) : Calls Tryz.prog 111 #[(.int .u32 x0), (.int .u32 x1)] w (Ret K) := callsR_of_bodyW mixed Tryz.func111 (of_decide_eq_true (by kernel_rfl)) (by rw [eq111]; exact h)

/-- math/bits.Mul64 -/
def an112 : Ann := (.seq .nil (.seq .nil (.seq .nil (.seq .nil (.seq .nil (.seq .nil (.seq .nil (.seq .nil (.seq .nil (.seq .nil (.seq .nil (.seq .nil .nil))))))))))))
def S112 (x0 : Int) (x1 : Int) (K : Value → WP) : WP := 
  K (.tuple #[(.int .u64 (IntKind.wrap .u64 ((IntKind.wrap .u64 ((IntKind.wrap .u64 ((ishr .u64 x0 (32 : Int)) * (ishr .u64 x1 (32 : Int)))) + (ishr .u64 (IntKind.wrap .u64 ((IntKind.wrap .u64 ((ishr .u64 x0 (32 : Int)) * (iand .u64 x1 (4294967295 : Int)))) + (ishr .u64 (IntKind.wrap .u64 ((iand .u64 x0 (4294967295 : Int)) * (iand .u64 x1 (4294967295 : Int)))) (32 : Int)))) (32 : Int)))) + (ishr .u64 (IntKind.wrap .u64 ((iand .u64 (IntKind.wrap .u64 ((IntKind.wrap .u64 ((ishr .u64 x0 (32 : Int)) * (iand .u64 x1 (4294967295 : Int)))) + (ishr .u64 (IntKind.wrap .u64 ((iand .u64 x0 (4294967295 : Int)) * (iand .u64 x1 (4294967295 : Int)))) (32 : Int)))) (4294967295 : Int)) + (IntKind.wrap .u64 ((iand .u64 x0 (4294967295 : Int)) * (ishr .u64 x1 (32 : Int)))))) (32 : Int))))), (.int .u64 (IntKind.wrap .u64 (x0 * x1)))])
theorem eq112 (x0 : Int) (x1 : Int) (K : Value → WP) : bodyW Tryz.prog Tryz.f112 an112 false [(.int .u64 x0), (.int .u64 x1)] K = S112 x0 x1 K := by kernel_rfl
theorem calls112 (x0 : Int) (x1 : Int) {K : Value → WP} {w : World} (h : S112 x0 x1 K w) : Calls Tryz.prog 112 #[(.int .u64 x0), (.int .u64 x1)] w (Ret K) := callsR_of_bodyW mixed Tryz.func112 (of_decide_eq_true (by kernel_rfl)) (by rw [eq112]; exact h)

/-- internal/stringslite.HasPrefix -/
def an113 : Ann := (.seq .nil (.seq .nil .nil))
def S113 (x0 : ByteArray) (x1 : ByteArray) (K : Value → WP) : WP := 
  splitW (decide (((x0.size : Nat) : Int) ≥ ((x1.size : Nat) : Int))) (guardW (0 ≤ ((x1.size : Nat) : Int) ∧ ((x1.size : Nat) : Int) ≤ ((x0.size : Nat) : Int)) <| K (.bool ((ByteArray.extract x0 0 (Int.toNat ((x1.size : Nat) : Int))).toList == x1.toList))) <| K (.bool false)
theorem eq113 (x0 : ByteArray) (x1 : ByteArray) (K : Value → WP) : bodyW Tryz.prog Tryz.f113 an113 false [(.string x0), (.string x1)] K = S113 x0 x1 K := by kernel_rfl
theorem calls113 (x0 : ByteArray) (x1 : ByteArray) {K : Value → WP} {w : World} (h : S113 x0 x1 K w) : Calls Tryz.prog 113 #[(.string x0), (.string x1)] w (Ret K) := callsR_of_bodyW mixed Tryz.func113 (of_decide_eq_true (by kernel_rfl)) (by rw [eq113]; exact h)

/-- slices.Backward[[]byte,byte]$1 -/
def an115 : Ann := (.seq .nil (.block (.loop [(3, .sh (.one (.int .i64)))] [0, 1, 1000000] (.seq (.seq .nil (.cond .nil .nil)) (.seq (.block (.seq .nil (.cond .nil .nil))) .nil)))))
def S115 (x0 : Value) (a1 : Addr) (K : Value → WP) : WP := 
  ldW .slc a1 fun (u1 : (Option Addr × Nat × Nat)) =>
  loopW (Int × Unit) ((IntKind.wrap .i64 (((u1.2.1 : Nat) : Int) - (1 : Int))), ()) fun (y3 : Int × Unit) (I2 : (Int × Unit) → WP) =>
  splitW (decide (y3.1 ≥ (0 : Int))) (ldW .slc a1 fun (u4 : (Option Addr × Nat × Nat)) =>
  guardW (0 ≤ y3.1 ∧ y3.1 < ((u4.2.1 : Nat) : Int)) <|
  ptrW u4.1 fun (p5 : Addr) =>
  ldW (.int .u8) (p5.add (Int.toNat y3.1 * 1)) fun (u6 : Int) =>
  callVW Tryz.prog x0 [(.int .i64 y3.1), (.int .u8 u6)] (.one (.one .bool)) fun (u7 : Bool) =>
  splitW (!u7) (K (.tuple #[])) <| I2 ((IntKind.wrap .i64 (y3.1 - (1 : Int))), ())) <| K (.tuple #[])
theorem eq115 (x0 : Value) (a1 : Addr) (K : Value → WP) : bodyW Tryz.prog Tryz.f115 an115 false [x0, (.pointer (some a1))] K = S115 x0 a1 K := by kernel_rfl
theorem calls115 (x0 : Value) (a1 : Addr) {K : Value → WP} {w : World} (h : S115 x0 a1 K w) : Calls Tryz.prog 115 #[x0, (.pointer (some a1))] w (Ret K) := callsR_of_bodyW mixed Tryz.func115 (of_decide_eq_true (by kernel_rfl)) (by rw [eq115]; exact h)

/-- shadowbook/crc.Sum -/
def an116 : Ann := (.seq .nil (.seq .nil .nil))
def S116 (x0 : Array Value) (a1 : Option Addr) (n1 c1 : Nat) (K : Value → WP) : WP := 
  newW (.cells x0 190) fun (r1 : Nat) =>
  ldRW 256 (⟨r1, 0, none⟩ : Addr) fun (u2 : Array Value) =>
  callW Tryz.prog 123 [(.agg u2), (.int .u32 (4294967295 : Int)), (.slice a1 n1 c1)] (.one (.one (.int .u32))) fun (u3 : Int) => K (.int .u32 (inot .u32 u3))
theorem eq116 (x0 : Array Value) (a1 : Option Addr) (n1 c1 : Nat) (K : Value → WP) : bodyW Tryz.prog Tryz.f116 an116 false [(.agg x0), (.slice a1 n1 c1)] K = S116 x0 a1 n1 c1 K := by kernel_rfl
theorem calls116 (x0 : Array Value) (a1 : Option Addr) (n1 c1 : Nat) {K : Value → WP} {w : World} (h : S116 x0 a1 n1 c1 K w) : Calls Tryz.prog 116 #[(.agg x0), (.slice a1 n1 c1)] w (Ret K) := callsR_of_bodyW mixed Tryz.func116 (of_decide_eq_true (by kernel_rfl)) (by rw [eq116]; exact h)

/-- shadowbook/crc.Table -/
def an117 : Ann := (.seq .nil (.seq (.seq .nil (.block (.loop [(3, .sh (.one (.int .i64)))] [0, 1000000] (.seq .nil (.seq (.cond .nil .nil) (.seq (.block (.seq .nil (.seq .nil (.seq (.seq .nil (.block (.loop [(2, .sh (.one (.int .u32))), (8, .sh (.one (.int .i64)))] [0, 1, 3, 1000000] (.seq .nil (.seq (.cond .nil .nil) (.seq (.block .nil) .nil)))))) .nil)))) .nil)))))) (.seq .nil .nil)))
def S117  (K : Value → WP) : WP := 
  newW (.cells (zeroC Tryz.prog 190) 190) fun (r1 : Nat) =>
  loopW (Int × Unit) ((0 : Int), ()) fun (y3 : Int × Unit) (I2 : (Int × Unit) → WP) =>
  splitW (decide (y3.1 < (256 : Int))) (loopW (Int × Int × Unit) ((IntKind.wrap .u32 y3.1), (0 : Int), ()) fun (y5 : Int × Int × Unit) (I4 : (Int × Int × Unit) → WP) =>
  splitW (decide (y5.2.1 < (8 : Int))) (I4 ((ixor .u32 (ishr .u32 y5.1 (1 : Int)) (IntKind.wrap .u32 ((2197175160 : Int) * (iand .u32 y5.1 (1 : Int))))), (IntKind.wrap .i64 (y5.2.1 + (1 : Int))), ())) <|
  guardW (0 ≤ y3.1 ∧ y3.1 < ((256 : Nat) : Int)) <|
  stW ((⟨r1, 0, none⟩ : Addr).add (Int.toNat y3.1 * 1)) (.int .u32 y5.1) <| I2 ((IntKind.wrap .i64 (y3.1 + (1 : Int))), ())) <|
  ldRW 256 (⟨r1, 0, none⟩ : Addr) fun (u6 : Array Value) =>
  guardW (u6.size = 256) <|
  stAW (⟨r1, 0, none⟩ : Addr) u6.toList <|
  ldRW 256 (⟨r1, 0, none⟩ : Addr) fun (u7 : Array Value) => K (.agg u7)
theorem eq117  (K : Value → WP) : bodyW Tryz.prog Tryz.f117 an117 false [] K = S117  K := by kernel_rfl
theorem calls117  {K : Value → WP} {w : World} (h : S117  K w) : Calls Tryz.prog 117 #[] w (Ret K) := callsR_of_bodyW mixed Tryz.func117 (of_decide_eq_true (by kernel_rfl)) (by rw [eq117]; exact h)

/-- slices.Clone[[]byte,byte] -/
def an118 : Ann := (.seq .nil (.seq (.seq .nil (.cond (.seq .nil .nil) .nil)) (.seq .nil .nil)))
def S118 (a0 : Option Addr) (n0 c0 : Nat) (K : Value → WP) : WP := 
  splitW (Option.isNone a0) (K (.slice none 0 0)) <|
  newW (.cells #[] 5) fun (r1 : Nat) =>
  runW Tryz.prog (Builtin.append_ #[58, 58] 58 #[(.slice (some (⟨r1, 0, none⟩ : Addr)) 0 0), (.slice a0 n0 c0)]) .slc fun (u2 : (Option Addr × Nat × Nat)) => K (.slice u2.1 u2.2.1 u2.2.2)
theorem eq118 (a0 : Option Addr) (n0 c0 : Nat) (K : Value → WP) : bodyW Tryz.prog Tryz.f118 an118 false [(.slice a0 n0 c0)] K = S118 a0 n0 c0 K := by kernel_rfl
theorem calls118 (a0 : Option Addr) (n0 c0 : Nat) {K : Value → WP} {w : World} (h : S118 a0 n0 c0 K w) : Calls Tryz.prog 118 #[(.slice a0 n0 c0)] w (Ret K) := callsR_of_bodyW mixed Tryz.func118 (of_decide_eq_true (by kernel_rfl)) (by rw [eq118]; exact h)

/-- (*shadowbook/octet.Reader).take -/
def an119 : Ann := (.seq .nil (.seq (.seq .nil (.cond (.seq .nil .nil) .nil)) (.seq .nil (.seq .nil (.seq .nil .nil)))))
def S119 (x0 : Option Addr) (x1 : Int) (K : Value → WP) : WP := 
  ptrW x0 fun (p1 : Addr) =>
  ldW .slc p1 fun (u2 : (Option Addr × Nat × Nat)) =>
  splitW (decide (((u2.2.1 : Nat) : Int) < x1)) (K (.tuple #[(.slice none 0 0), (.int .i64 (7 : Int))])) <|
  ptrW x0 fun (p3 : Addr) =>
  ldW .slc p3 fun (u4 : (Option Addr × Nat × Nat)) =>
  guardW (0 ≤ x1 ∧ x1 ≤ x1 ∧ x1 ≤ ((u4.2.2 : Nat) : Int)) <|
  ptrW x0 fun (p5 : Addr) =>
  ldW .slc p5 fun (u6 : (Option Addr × Nat × Nat)) =>
  guardW (0 ≤ x1 ∧ x1 ≤ ((u6.2.1 : Nat) : Int)) <|
  ptrW x0 fun (p7 : Addr) =>
  stW p7 (.slice (cutAddr u6.1 (Int.toNat x1) u6.2.2 1) (u6.2.1 - (Int.toNat x1)) (u6.2.2 - (Int.toNat x1))) <| K (.tuple #[(.slice (cutAddr u4.1 0 (Int.toNat x1) 1) (Int.toNat x1) (Int.toNat x1)), (.int .i64 (0 : Int))])
theorem eq119 (x0 : Option Addr) (x1 : Int) (K : Value → WP) : bodyW Tryz.prog Tryz.f119 an119 false [(.pointer x0), (.int .i64 x1)] K = S119 x0 x1 K := by kernel_rfl
theorem calls119 (x0 : Option Addr) (x1 : Int) {K : Value → WP} {w : World} (h : S119 x0 x1 K w) : Calls Tryz.prog 119 #[(.pointer x0), (.int .i64 x1)] w (Ret K) := callsR_of_bodyW mixed Tryz.func119 (of_decide_eq_true (by kernel_rfl)) (by rw [eq119]; exact h)

/-- slices.Chunk[[]uint16,uint16]$1 -/
def an120 : Ann := (.seq .nil (.block (.loop [(4, .sh (.one (.int .i64)))] [0, 1, 2, 1000000] (.seq (.seq .nil (.cond .nil .nil)) (.seq (.block (.seq .nil (.seq .nil (.cond .nil .nil)))) .nil)))))
def S120 (x0 : Value) (a1 : Addr) (a2 : Addr) (K : Value → WP) : WP := 
  loopW (Int × Unit) ((0 : Int), ()) fun (y2 : Int × Unit) (I1 : (Int × Unit) → WP) =>
  ldW .slc a1 fun (u3 : (Option Addr × Nat × Nat)) =>
  splitW (decide (y2.1 < ((u3.2.1 : Nat) : Int))) (drewW <|
  ldW (.int .i64) a2 fun (u4 : Int) =>
  ldW .slc a1 fun (u5 : (Option Addr × Nat × Nat)) =>
  guardW (0 ≤ y2.1 ∧ y2.1 ≤ ((u5.2.1 : Nat) : Int)) <|
  ldW .slc a1 fun (u6 : (Option Addr × Nat × Nat)) =>
  guardW (0 ≤ y2.1 ∧ y2.1 ≤ (IntKind.wrap .i64 (y2.1 + (if (((u5.2.1 - (Int.toNat y2.1)) : Nat) : Int) < u4 then (((u5.2.1 - (Int.toNat y2.1)) : Nat) : Int) else u4))) ∧ (IntKind.wrap .i64 (y2.1 + (if (((u5.2.1 - (Int.toNat y2.1)) : Nat) : Int) < u4 then (((u5.2.1 - (Int.toNat y2.1)) : Nat) : Int) else u4))) ≤ (IntKind.wrap .i64 (y2.1 + (if (((u5.2.1 - (Int.toNat y2.1)) : Nat) : Int) < u4 then (((u5.2.1 - (Int.toNat y2.1)) : Nat) : Int) else u4))) ∧ (IntKind.wrap .i64 (y2.1 + (if (((u5.2.1 - (Int.toNat y2.1)) : Nat) : Int) < u4 then (((u5.2.1 - (Int.toNat y2.1)) : Nat) : Int) else u4))) ≤ ((u6.2.2 : Nat) : Int)) <|
  callVW Tryz.prog x0 [(.slice (cutAddr u6.1 (Int.toNat y2.1) (Int.toNat (IntKind.wrap .i64 (y2.1 + (if (((u5.2.1 - (Int.toNat y2.1)) : Nat) : Int) < u4 then (((u5.2.1 - (Int.toNat y2.1)) : Nat) : Int) else u4)))) 1) ((Int.toNat (IntKind.wrap .i64 (y2.1 + (if (((u5.2.1 - (Int.toNat y2.1)) : Nat) : Int) < u4 then (((u5.2.1 - (Int.toNat y2.1)) : Nat) : Int) else u4)))) - (Int.toNat y2.1)) ((Int.toNat (IntKind.wrap .i64 (y2.1 + (if (((u5.2.1 - (Int.toNat y2.1)) : Nat) : Int) < u4 then (((u5.2.1 - (Int.toNat y2.1)) : Nat) : Int) else u4)))) - (Int.toNat y2.1)))] (.one (.one .bool)) fun (u7 : Bool) =>
  splitW (!u7) (K (.tuple #[])) <|
  ldW (.int .i64) a2 fun (u8 : Int) => I1 ((IntKind.wrap .i64 (y2.1 + u8)), ())) <| K (.tuple #[])
theorem eq120 (x0 : Value) (a1 : Addr) (a2 : Addr) (K : Value → WP) : bodyW Tryz.prog Tryz.f120 an120 false [x0, (.pointer (some a1)), (.pointer (some a2))] K = S120 x0 a1 a2 K := by kernel_rfl
theorem calls120 (x0 : Value) (a1 : Addr) (a2 : Addr) {K : Value → WP} {w : World} (h : S120 x0 a1 a2 K w) : Calls Tryz.prog 120 #[x0, (.pointer (some a1)), (.pointer (some a2))] w (Ret K) := callsR_of_bodyW mixed Tryz.func120 (of_decide_eq_true (by kernel_rfl)) (by rw [eq120]; exact h)

/-- slices.Backward[[]shadowbook/api.Write,shadowbook/api.Write]$1 -/
def an121 : Ann := (.seq .nil (.block (.loop [(3, .sh (.one (.int .i64)))] [0, 1, 1000000] (.seq (.seq .nil (.cond .nil .nil)) (.seq (.block (.seq .nil (.cond .nil .nil))) .nil)))))
def S121 (x0 : Value) (a1 : Addr) (K : Value → WP) : WP := 
  ldW .slc a1 fun (u1 : (Option Addr × Nat × Nat)) =>
  loopW (Int × Unit) ((IntKind.wrap .i64 (((u1.2.1 : Nat) : Int) - (1 : Int))), ()) fun (y3 : Int × Unit) (I2 : (Int × Unit) → WP) =>
  splitW (decide (y3.1 ≥ (0 : Int))) (ldW .slc a1 fun (u4 : (Option Addr × Nat × Nat)) =>
  guardW (0 ≤ y3.1 ∧ y3.1 < ((u4.2.1 : Nat) : Int)) <|
  ptrW u4.1 fun (p5 : Addr) =>
  ldAW [(.int .i64), .str] (p5.add (Int.toNat y3.1 * 2)) fun (u6 : (Int × ByteArray × Unit)) =>
  callVW Tryz.prog x0 [(.int .i64 y3.1), (.agg #[(.int .i64 u6.1), (.string u6.2.1)])] (.one (.one .bool)) fun (u7 : Bool) =>
  splitW (!u7) (K (.tuple #[])) <| I2 ((IntKind.wrap .i64 (y3.1 - (1 : Int))), ())) <| K (.tuple #[])
theorem eq121 (x0 : Value) (a1 : Addr) (K : Value → WP) : bodyW Tryz.prog Tryz.f121 an121 false [x0, (.pointer (some a1))] K = S121 x0 a1 K := by kernel_rfl
theorem calls121 (x0 : Value) (a1 : Addr) {K : Value → WP} {w : World} (h : S121 x0 a1 K w) : Calls Tryz.prog 121 #[x0, (.pointer (some a1))] w (Ret K) := callsR_of_bodyW mixed Tryz.func121 (of_decide_eq_true (by kernel_rfl)) (by rw [eq121]; exact h)

/-- shadowbook/crc.Update -/
def an123 : Ann := (.seq .nil (.seq (.seq .nil (.block (.loop [(1, .sh (.one (.int .u32))), (11, .sh (.one (.int .i64)))] [3, 9, 10, 1000000] (.seq .nil (.seq (.cond .nil .nil) (.seq (.block (.seq .nil .nil)) .nil)))))) (.seq .nil .nil)))
def S123 (x0 : Array Value) (x1 : Int) (a2 : Option Addr) (n2 c2 : Nat) (K : Value → WP) : WP := 
  newW (.cells x0 190) fun (r1 : Nat) =>
  loopW (Int × Int × Unit) (x1, (0 : Int), ()) fun (y3 : Int × Int × Unit) (I2 : (Int × Int × Unit) → WP) =>
  splitW (decide (y3.2.1 < ((n2 : Nat) : Int))) (guardW (0 ≤ y3.2.1 ∧ y3.2.1 < ((n2 : Nat) : Int)) <|
  ptrW a2 fun (p4 : Addr) =>
  ldW (.int .u8) (p4.add (Int.toNat y3.2.1 * 1)) fun (u5 : Int) =>
  guardW (0 ≤ (ixor .u8 (IntKind.wrap .u8 y3.1) u5) ∧ (ixor .u8 (IntKind.wrap .u8 y3.1) u5) < ((256 : Nat) : Int)) <|
  ldW (.int .u32) ((⟨r1, 0, none⟩ : Addr).add (Int.toNat (ixor .u8 (IntKind.wrap .u8 y3.1) u5) * 1)) fun (u6 : Int) => I2 ((ixor .u32 (ishr .u32 y3.1 (8 : Int)) u6), (IntKind.wrap .i64 (y3.2.1 + (1 : Int))), ())) <| K (.int .u32 y3.1)
theorem eq123 (x0 : Array Value) (x1 : Int) (a2 : Option Addr) (n2 c2 : Nat) (K : Value → WP) : bodyW Tryz.prog Tryz.f123 an123 false [(.agg x0), (.int .u32 x1), (.slice a2 n2 c2)] K = S123 x0 x1 a2 n2 c2 K := by kernel_rfl
theorem calls123 (x0 : Array Value) (x1 : Int) (a2 : Option Addr) (n2 c2 : Nat) {K : Value → WP} {w : World} (h : S123 x0 x1 a2 n2 c2 K w) : Calls Tryz.prog 123 #[(.agg x0), (.int .u32 x1), (.slice a2 n2 c2)] w (Ret K) := callsR_of_bodyW mixed Tryz.func123 (of_decide_eq_true (by kernel_rfl)) (by rw [eq123]; exact h)

end Go.Proofs.YtcjobbcijbkjkaaGreat.V
