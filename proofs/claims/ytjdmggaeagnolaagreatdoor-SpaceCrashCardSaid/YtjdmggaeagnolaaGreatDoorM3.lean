/- Texts of mine, merged (wip/tool/mergep.py): M3. -/
import Derived.Test.YtjdmggaeagnolaaGreatDoorM1
import Derived.Test.YtjdmggaeagnolaaGreatDoorChecked
import Derived.Test.YtjdmggaeagnolaaGreatDoorM2
/- Texts of mine, merged (wip/tool/mergep.py): M3. -/
/- Texts of mine, merged (wip/tool/mergep.py): S. -/
/- The shallow forms of the functions, by a program of mine (wip/tool/gen.py). -/
set_option linter.unusedVariables false
set_option maxRecDepth 100000
namespace Go.Proofs.YtjdmggaeagnolaaGreatDoor.V
open Go Go.Proofs
theorem eq51 (x0_0 : Int) (x0_1 : Int) (K : Value → WP) : bodyW Tryz.prog Tryz.f51 an51 false [(.agg #[(.int .i64 x0_0), (.int .i64 x0_1)])] K = S51 x0_0 x0_1 K := by kernel_rfl
theorem calls51 (x0_0 : Int) (x0_1 : Int) {K : Value → WP} {w : World} (h : S51 x0_0 x0_1 K w) : Calls Tryz.prog 51 #[(.agg #[(.int .i64 x0_0), (.int .i64 x0_1)])] w (Ret K) := callsR_of_bodyW mixed Tryz.func51 (of_decide_eq_true (by kernel_rfl)) (by rw [eq51]; exact h)
def an52 : Ann := (.seq .nil (.seq (.seq .nil (.cond (.seq .nil .nil) .nil)) (.seq .nil (.seq (.seq .nil (.cond (.seq .nil .nil) .nil)) (.seq .nil (.seq (.seq .nil (.block (.loop [(29, .sh (.one (.int .i64)))] [0, 4, 6, 28, 1000000] (.seq .nil (.seq (.cond .nil .nil) (.seq (.block (.seq .nil (.seq (.seq .nil (.cond (.seq .nil .nil) .nil)) .nil))) .nil)))))) (.seq (.seq .nil (.seq .nil (.cond (.seq .nil .nil) .nil))) (.seq (.seq .nil (.seq .nil (.cond (.seq .nil .nil) .nil))) (.seq (.seq .nil (.seq .nil (.cond (.seq .nil .nil) .nil))) (.seq .nil .nil))))))))))
def S52 (x0 : Option Addr) (K : Value → WP) : WP := 
 splitW (Option.isNone x0) (K (.tuple #[(.pointer none), (.int .i64 (1 : Int))])) <|
 callW Tryz.prog 35 [(.pointer x0)] (.one (.agg [(.int .i64), (.int .i64)])) fun (u1 : (Int × Int × Unit)) =>
 callW Tryz.prog 69 [(.agg #[(.int .i64 u1.1), (.int .i64 u1.2.1)])] (.many [(.one .ptr), (.one (.int .i64))]) fun (u2 : Option Addr × Int × Unit) =>
 splitW (u2.2.1 != (0 : Int)) (K (.tuple #[(.pointer none), (.int .i64 u2.2.1)])) <|
 callW Tryz.prog 35 [(.pointer x0)] (.one (.agg [(.int .i64), (.int .i64)])) fun (u3 : (Int × Int × Unit)) =>
 newW (.cells #[(.int .u64 (0 : Int)), (.int .i64 (0 : Int)), (.int .i64 (0 : Int)), (.int .u32 (0 : Int)), (.slice none 0 0)] 79) fun (r4 : Nat) =>
 guardW ((#[(.int .u64 (1 : Int)), (.int .i64 u3.1), (.int .i64 u3.2.1), (.int .u32 (0 : Int)), (.slice none 0 0)] : Array Value).size = 5) <|
 stAW (⟨r4, 0, none⟩ : Addr) [(.int .u64 (1 : Int)), (.int .i64 u3.1), (.int .i64 u3.2.1), (.int .u32 (0 : Int)), (.slice none 0 0)] <|
 callW Tryz.prog 35 [(.pointer x0)] (.one (.agg [(.int .i64), (.int .i64)])) fun (u5 : (Int × Int × Unit)) =>
 callW Tryz.prog 71 [(.agg #[(.int .i64 u5.1), (.int .i64 u5.2.1)])] (.one (.one (.int .i64))) fun (u6 : Int) =>
 loopW (Int × Unit) ((0 : Int), ()) fun (y8 : Int × Unit) (I7 : (Int × Unit) → WP) =>
 splitW (decide (y8.1 < u6)) (callW Tryz.prog 80 [(.pointer u2.1), (.pointer none)] (.many [(.one (.int .u32)), (.one (.int .i64))]) fun (u9 : Int × Int × Unit) =>
 splitW (u9.2.1 != (0 : Int)) (K (.tuple #[(.pointer none), (.int .i64 (2 : Int))])) <|
 ldW .slc ((⟨r4, 0, none⟩ : Addr).add 4) fun (u10 : (Option Addr × Nat × Nat)) =>
 newW (.cells #[(.int .u32 u9.1)] 31) fun (r11 : Nat) =>
 runW Tryz.prog (Builtin.append_ #[40, 40] 40 #[(.slice u10.1 u10.2.1 u10.2.2), (.slice (some (⟨r11, 0, none⟩ : Addr)) 1 1)]) .slc fun (u12 : (Option Addr × Nat × Nat)) =>
 stW ((⟨r4, 0, none⟩ : Addr).add 4) (.slice u12.1 u12.2.1 u12.2.2) <| I7 ((IntKind.wrap .i64 (y8.1 + (1 : Int))), ())) <|
 ldAW [(.int .u64), (.int .i64), (.int .i64), (.int .u32), .slc] (⟨r4, 0, none⟩ : Addr) fun (u13 : (Int × Int × Int × Int × (Option Addr × Nat × Nat) × Unit)) =>
 callW Tryz.prog 93 [(.agg #[(.int .u64 u13.1), (.int .i64 u13.2.1), (.int .i64 u13.2.2.1), (.int .u32 u13.2.2.2.1), (.slice u13.2.2.2.2.1.1 u13.2.2.2.2.1.2.1 u13.2.2.2.2.1.2.2)])] (.one (.one (.int .i64))) fun (u14 : Int) =>
 splitW (u14 != (0 : Int)) (K (.tuple #[(.pointer none), (.int .i64 u14)])) <|
 callW Tryz.prog 35 [(.pointer x0)] (.one (.agg [(.int .i64), (.int .i64)])) fun (u15 : (Int × Int × Unit)) =>
 runW Tryz.prog (Instr.makeSlice 93 (.int .i64 u15.1) (.int .i64 u15.1)) .slc fun (u16 : Option Addr × Nat × Nat) =>
 runW Tryz.prog (Go.convert 93 9 (.slice u16.1 u16.2.1 u16.2.2)) .str fun (u17 : ByteArray) =>
 callW Tryz.prog 84 [(.pointer x0), (.int .i64 (1 : Int)), (.string u17)] (.one (.one (.int .i64))) fun (u18 : Int) =>
 splitW (u18 != (0 : Int)) (K (.tuple #[(.pointer none), (.int .i64 u18)])) <|
 ldAW [(.int .u64), (.int .i64), (.int .i64), (.int .u32), .slc] (⟨r4, 0, none⟩ : Addr) fun (u19 : (Int × Int × Int × Int × (Option Addr × Nat × Nat) × Unit)) =>
 callW Tryz.prog 46 [(.pointer x0), (.pointer u2.1), (.agg #[(.int .u64 u19.1), (.int .i64 u19.2.1), (.int .i64 u19.2.2.1), (.int .u32 u19.2.2.2.1), (.slice u19.2.2.2.2.1.1 u19.2.2.2.2.1.2.1 u19.2.2.2.2.1.2.2)]), (.int .i64 (0 : Int))] (.one (.one (.int .i64))) fun (u20 : Int) =>
 splitW (u20 != (0 : Int)) (K (.tuple #[(.pointer none), (.int .i64 u20)])) <|
 drewW <|
 ldAW [(.int .u64), (.int .i64), (.int .i64), (.int .u32), .slc] (⟨r4, 0, none⟩ : Addr) fun (u21 : (Int × Int × Int × Int × (Option Addr × Nat × Nat) × Unit)) =>
 callW Tryz.prog 38 [(.pointer u2.1)] (.one (.one .ptr)) fun (u22 : Option Addr) =>
 heldW [[((⟨r4, 0, none⟩ : Addr).add 0, (.int .u64 u21.1)), ((⟨r4, 0, none⟩ : Addr).add 1, (.int .i64 u21.2.1)), ((⟨r4, 0, none⟩ : Addr).add 2, (.int .i64 u21.2.2.1)), ((⟨r4, 0, none⟩ : Addr).add 3, (.int .u32 u21.2.2.2.1)), ((⟨r4, 0, none⟩ : Addr).add 4, (.slice u21.2.2.2.2.1.1 u21.2.2.2.2.1.2.1 u21.2.2.2.2.1.2.2))]] <|
 newW (.cells #[(.pointer x0), (.int .u64 u21.1), (.int .i64 u21.2.1), (.int .i64 u21.2.2.1), (.int .u32 u21.2.2.2.1), (.slice u21.2.2.2.2.1.1 u21.2.2.2.2.1.2.1 u21.2.2.2.2.1.2.2), (.int .i64 (0 : Int)), (.pointer u2.1), (.pointer u22), (.pointer none)] 82) fun (r23 : Nat) => K (.tuple #[(.pointer (some (⟨r23, 0, none⟩ : Addr))), (.int .i64 (0 : Int))])
theorem eq52 (x0 : Option Addr) (K : Value → WP) : bodyW Tryz.prog Tryz.f52 an52 false [(.pointer x0)] K = S52 x0 K := by kernel_rfl
theorem calls52 (x0 : Option Addr) {K : Value → WP} {w : World} (h : S52 x0 K w) : Calls Tryz.prog 52 #[(.pointer x0)] w (Ret K) := callsR_of_bodyW mixed Tryz.func52 (of_decide_eq_true (by kernel_rfl)) (by rw [eq52]; exact h)
def an53 : Ann := (.seq .nil (.seq .nil .nil))
def S53 (x0 : Option Addr) (K : Value → WP) : WP := 
 newW (.cells #[(.pointer x0)] 39) fun (r1 : Nat) => K (.func (.func 94) #[] #[(.pointer (some (⟨r1, 0, none⟩ : Addr)))])
theorem eq53 (x0 : Option Addr) (K : Value → WP) : bodyW Tryz.prog Tryz.f53 an53 false [(.pointer x0)] K = S53 x0 K := by kernel_rfl
theorem calls53 (x0 : Option Addr) {K : Value → WP} {w : World} (h : S53 x0 K w) : Calls Tryz.prog 53 #[(.pointer x0)] w (Ret K) := callsR_of_bodyW mixed Tryz.func53 (of_decide_eq_true (by kernel_rfl)) (by rw [eq53]; exact h)
def an54 : Ann := (.seq .nil (.seq .nil .nil))
def S54 (a0 : Option Addr) (n0 c0 : Nat) (x1 : Value) (K : Value → WP) : WP := 
 callW Tryz.prog 95 [(.slice a0 n0 c0), x1] (.one (.one (.int .i64))) fun (u1 : Int) => K (.bool (decide (u1 ≥ (0 : Int))))
theorem eq54 (a0 : Option Addr) (n0 c0 : Nat) (x1 : Value) (K : Value → WP) : bodyW Tryz.prog Tryz.f54 an54 false [(.slice a0 n0 c0), x1] K = S54 a0 n0 c0 x1 K := by kernel_rfl
theorem calls54 (a0 : Option Addr) (n0 c0 : Nat) (x1 : Value) {K : Value → WP} {w : World} (h : S54 a0 n0 c0 x1 K w) : Calls Tryz.prog 54 #[(.slice a0 n0 c0), x1] w (Ret K) := callsR_of_bodyW mixed Tryz.func54 (of_decide_eq_true (by kernel_rfl)) (by rw [eq54]; exact h)
def an55 : Ann := (.seq .nil (.seq .nil .nil))
def S55 (x0 : Int) (a1 : Addr) (K : Value → WP) : WP := 
 ldW .ptr a1 fun (u1 : Option Addr) =>
 callW Tryz.prog 41 [(.pointer u1), (.int .u32 x0)] (.one (.one .bool)) fun (u2 : Bool) => K (.bool (!u2))
theorem eq55 (x0 : Int) (a1 : Addr) (K : Value → WP) : bodyW Tryz.prog Tryz.f55 an55 false [(.int .u32 x0), (.pointer (some a1))] K = S55 x0 a1 K := by kernel_rfl
theorem calls55 (x0 : Int) (a1 : Addr) {K : Value → WP} {w : World} (h : S55 x0 a1 K w) : Calls Tryz.prog 55 #[(.int .u32 x0), (.pointer (some a1))] w (Ret K) := callsR_of_bodyW mixed Tryz.func55 (of_decide_eq_true (by kernel_rfl)) (by rw [eq55]; exact h)
def an56 : Ann := (.seq .nil (.seq .nil .nil))
def S56 (x0 : Int) (a1 : Addr) (K : Value → WP) : WP := 
 ldW .ptr a1 fun (u1 : Option Addr) =>
 ptrW u1 fun (p2 : Addr) =>
 ldW .ptr (p2.add 8) fun (u3 : Option Addr) =>
 callW Tryz.prog 42 [(.pointer u3), (.int .u32 x0)] (.one (.one (.int .i64))) fun (u4 : Int) => K (.bool (u4 == (0 : Int)))
theorem eq56 (x0 : Int) (a1 : Addr) (K : Value → WP) : bodyW Tryz.prog Tryz.f56 an56 false [(.int .u32 x0), (.pointer (some a1))] K = S56 x0 a1 K := by kernel_rfl
theorem calls56 (x0 : Int) (a1 : Addr) {K : Value → WP} {w : World} (h : S56 x0 a1 K w) : Calls Tryz.prog 56 #[(.int .u32 x0), (.pointer (some a1))] w (Ret K) := callsR_of_bodyW mixed Tryz.func56 (of_decide_eq_true (by kernel_rfl)) (by rw [eq56]; exact h)
def an57 : Ann := (.seq .nil (.seq (.seq .nil (.cond (.seq .nil .nil) .nil)) (.seq .nil (.seq (.seq .nil (.cond (.seq .nil .nil) .nil)) (.seq .nil .nil)))))
def S57 (x0 : Option Addr) (x1 : Int) (K : Value → WP) : WP := 
 splitW (Option.isNone x0) (K (.int .i64 (0 : Int))) <|
 ptrW x0 fun (p1 : Addr) =>
 ldW (.int .i64) ((p1.add 1).add 1) fun (u2 : Int) =>
 callW Tryz.prog 96 [(.int .i64 u2)] (.one (.one (.int .i64))) fun (u3 : Int) =>
 splitW (decide (x1 < (0 : Int))) (K (.int .i64 (0 : Int))) <|
 splitW (decide (x1 > (IntKind.wrap .i64 (Int.tdiv (IntKind.wrap .i64 (u3 - (2 : Int))) (4 : Int))))) (K (.int .i64 (0 : Int))) <| K (.int .i64 (IntKind.wrap .i64 ((IntKind.wrap .i64 (u3 - (2 : Int))) - (IntKind.wrap .i64 ((4 : Int) * x1)))))
theorem eq57 (x0 : Option Addr) (x1 : Int) (K : Value → WP) : bodyW Tryz.prog Tryz.f57 an57 false [(.pointer x0), (.int .i64 x1)] K = S57 x0 x1 K := by kernel_rfl
theorem calls57 (x0 : Option Addr) (x1 : Int) {K : Value → WP} {w : World} (h : S57 x0 x1 K w) : Calls Tryz.prog 57 #[(.pointer x0), (.int .i64 x1)] w (Ret K) := callsR_of_bodyW mixed Tryz.func57 (of_decide_eq_true (by kernel_rfl)) (by rw [eq57]; exact h)
def an58 : Ann := (.seq .nil (.seq (.seq .nil (.cond (.seq .nil .nil) .nil)) (.seq (.seq .nil (.block (.loop [(0, .sh (.one .slc)), (16, .sh (.one (.int .i64)))] [1, 15, 1000000] (.seq .nil (.seq (.cond .nil .nil) (.seq (.block (.seq .nil .nil)) .nil)))))) (.seq .nil .nil))))
def S58 (a0 : Option Addr) (n0 c0 : Nat) (x1 : Int) (x2 : Int) (K : Value → WP) : WP := 
 splitW (decide (x2 < (1 : Int))) (K (.slice a0 n0 c0)) <|
 splitW (decide (x2 > (8 : Int))) (K (.slice a0 n0 c0)) <|
 loopW ((Option Addr × Nat × Nat) × Int × Unit) ((a0, n0, c0), (0 : Int), ()) fun (y2 : (Option Addr × Nat × Nat) × Int × Unit) (I1 : ((Option Addr × Nat × Nat) × Int × Unit) → WP) =>
 splitW (decide (y2.2.1 < x2)) (guardW (0 ≤ (IntKind.wrap .i64 ((8 : Int) * y2.2.1))) <|
 newW (.cells #[(.int .u8 (IntKind.wrap .u8 (ishr .u64 x1 (IntKind.wrap .i64 ((8 : Int) * y2.2.1)))))] 5) fun (r3 : Nat) =>
 runW Tryz.prog (Builtin.append_ #[93, 93] 93 #[(.slice y2.1.1 y2.1.2.1 y2.1.2.2), (.slice (some (⟨r3, 0, none⟩ : Addr)) 1 1)]) .slc fun (u4 : (Option Addr × Nat × Nat)) => I1 ((u4.1, u4.2.1, u4.2.2), (IntKind.wrap .i64 (y2.2.1 + (1 : Int))), ())) <| K (.slice y2.1.1 y2.1.2.1 y2.1.2.2)
theorem eq58 (a0 : Option Addr) (n0 c0 : Nat) (x1 : Int) (x2 : Int) (K : Value → WP) : bodyW Tryz.prog Tryz.f58 an58 false [(.slice a0 n0 c0), (.int .u64 x1), (.int .i64 x2)] K = S58 a0 n0 c0 x1 x2 K := by kernel_rfl
theorem calls58 (a0 : Option Addr) (n0 c0 : Nat) (x1 : Int) (x2 : Int) {K : Value → WP} {w : World} (h : S58 a0 n0 c0 x1 x2 K w) : Calls Tryz.prog 58 #[(.slice a0 n0 c0), (.int .u64 x1), (.int .i64 x2)] w (Ret K) := callsR_of_bodyW mixed Tryz.func58 (of_decide_eq_true (by kernel_rfl)) (by rw [eq58]; exact h)
def an59 : Ann := (.seq .nil (.seq .nil (.seq (.seq .nil (.cond (.seq .nil .nil) .nil)) (.seq .nil .nil))))
def S59 (x0 : Option Addr) (x1 : Int) (x2_0 : Int) (x2_1 : Int) (x2_2 : ByteArray) (K : Value → WP) : WP := 
 newW (.cells #[(.int .u8 x2_0), (.int .u64 x2_1), (.string x2_2)] 87) fun (r1 : Nat) =>
 drewW <|
 ldAW [(.int .u8), (.int .u64), .str] (⟨r1, 0, none⟩ : Addr) fun (u2 : (Int × Int × ByteArray × Unit)) =>
 callW Tryz.prog 35 [(.pointer x0)] (.one (.agg [(.int .i64), (.int .i64)])) fun (u3 : (Int × Int × Unit)) =>
 heldW [[((⟨r1, 0, none⟩ : Addr).add 0, (.int .u8 u2.1)), ((⟨r1, 0, none⟩ : Addr).add 1, (.int .u64 u2.2.1)), ((⟨r1, 0, none⟩ : Addr).add 2, (.string u2.2.2.1))]] <|
 callW Tryz.prog 97 [(.int .i64 u3.1), (.agg #[(.int .u8 u2.1), (.int .u64 u2.2.1), (.string u2.2.2.1)])] (.many [(.one .str), (.one (.int .i64))]) fun (u4 : ByteArray × Int × Unit) =>
 splitW (u4.2.1 != (0 : Int)) (K (.int .i64 u4.2.1)) <|
 callW Tryz.prog 84 [(.pointer x0), (.int .i64 (IntKind.wrap .i64 x1)), (.string u4.1)] (.one (.one (.int .i64))) fun (u5 : Int) => K (.int .i64 u5)
theorem eq59 (x0 : Option Addr) (x1 : Int) (x2_0 : Int) (x2_1 : Int) (x2_2 : ByteArray) (K : Value → WP) : bodyW Tryz.prog Tryz.f59 an59 false [(.pointer x0), (.int .u32 x1), (.agg #[(.int .u8 x2_0), (.int .u64 x2_1), (.string x2_2)])] K = S59 x0 x1 x2_0 x2_1 x2_2 K := by kernel_rfl
theorem calls59 (x0 : Option Addr) (x1 : Int) (x2_0 : Int) (x2_1 : Int) (x2_2 : ByteArray) {K : Value → WP} {w : World} (h : S59 x0 x1 x2_0 x2_1 x2_2 K w) : Calls Tryz.prog 59 #[(.pointer x0), (.int .u32 x1), (.agg #[(.int .u8 x2_0), (.int .u64 x2_1), (.string x2_2)])] w (Ret K) := callsR_of_bodyW mixed Tryz.func59 (of_decide_eq_true (by kernel_rfl)) (by rw [eq59]; exact h)
def an60 : Ann := (.seq .nil (.seq .nil (.seq (.seq .nil (.cond (.seq .nil .nil) .nil)) (.seq .nil (.seq .nil (.seq (.seq .nil (.cond (.seq .nil .nil) .nil)) (.seq .nil (.seq (.seq .nil (.block (.loop [(41, .sh (.one (.int .u64)))] [0, 4, 7, 40, 1000000] (.seq .nil (.seq (.cond .nil .nil) (.seq (.block (.seq .nil (.seq (.seq .nil (.cond (.seq .nil .nil) .nil)) .nil))) .nil)))))) (.seq .nil (.seq .nil (.seq .nil .nil)))))))))))
def S60 (x0 : Option Addr) (x1 : ByteArray) (K : Value → WP) : WP := 
 newW (.cells #[(.int .u8 (0 : Int)), (.slice none 0 0), (.string ByteArray.empty)] 69) fun (r1 : Nat) =>
 callW Tryz.prog 68 [(.string x1)] (.many [(.agg [(.int .u8), (.int .u64), .str]), (.one (.int .i64))]) fun (u2 : (Int × Int × ByteArray × Unit) × Int × Unit) =>
 newW (.cells #[(.int .u8 (0 : Int)), (.int .u64 (0 : Int)), (.string ByteArray.empty)] 87) fun (r3 : Nat) =>
 guardW ((#[(.int .u8 u2.1.1), (.int .u64 u2.1.2.1), (.string u2.1.2.2.1)] : Array Value).size = 3) <|
 stAW (⟨r3, 0, none⟩ : Addr) [(.int .u8 u2.1.1), (.int .u64 u2.1.2.1), (.string u2.1.2.2.1)] <|
 splitW (u2.2.1 != (0 : Int)) (ldAW [(.int .u8), .slc, .str] (⟨r1, 0, none⟩ : Addr) fun (u4 : (Int × (Option Addr × Nat × Nat) × ByteArray × Unit)) =>
 guardW ((#[(.int .u8 u4.1), (.slice u4.2.1.1 u4.2.1.2.1 u4.2.1.2.2), (.string u4.2.2.1)] : Array Value).size = 3) <|
 stAW (⟨r1, 0, none⟩ : Addr) [(.int .u8 u4.1), (.slice u4.2.1.1 u4.2.1.2.1 u4.2.1.2.2), (.string u4.2.2.1)] <|
 ldAW [(.int .u8), .slc, .str] (⟨r1, 0, none⟩ : Addr) fun (u5 : (Int × (Option Addr × Nat × Nat) × ByteArray × Unit)) => K (.tuple #[(.agg #[(.int .u8 u5.1), (.slice u5.2.1.1 u5.2.1.2.1 u5.2.1.2.2), (.string u5.2.2.1)]), (.int .i64 (10 : Int))])) <|
 ldW (.int .u8) (⟨r3, 0, none⟩ : Addr) fun (u6 : Int) =>
 splitW (decide (u6 < (3 : Int))) (ldAW [(.int .u8), .slc, .str] (⟨r1, 0, none⟩ : Addr) fun (u7 : (Int × (Option Addr × Nat × Nat) × ByteArray × Unit)) =>
 guardW ((#[(.int .u8 u7.1), (.slice u7.2.1.1 u7.2.1.2.1 u7.2.1.2.2), (.string u7.2.2.1)] : Array Value).size = 3) <|
 stAW (⟨r1, 0, none⟩ : Addr) [(.int .u8 u7.1), (.slice u7.2.1.1 u7.2.1.2.1 u7.2.1.2.2), (.string u7.2.2.1)] <|
 ldAW [(.int .u8), .slc, .str] (⟨r1, 0, none⟩ : Addr) fun (u8 : (Int × (Option Addr × Nat × Nat) × ByteArray × Unit)) => K (.tuple #[(.agg #[(.int .u8 u8.1), (.slice u8.2.1.1 u8.2.1.2.1 u8.2.1.2.2), (.string u8.2.2.1)]), (.int .i64 (10 : Int))])) <|
 ldW .str ((⟨r3, 0, none⟩ : Addr).add 2) fun (u9 : ByteArray) =>
 runW Tryz.prog (Go.convert 9 93 (.string u9)) .slc fun (u10 : (Option Addr × Nat × Nat)) =>
 callW Tryz.prog 98 [(.slice u10.1 u10.2.1 u10.2.2)] (.one (.one .ptr)) fun (u11 : Option Addr) =>
 callW Tryz.prog 99 [(.pointer u11), (.int .i64 (2 : Int))] (.many [(.one (.int .u64)), (.one (.int .i64))]) fun (u12 : Int × Int × Unit) =>
 splitW (u12.2.1 != (0 : Int)) (ldAW [(.int .u8), .slc, .str] (⟨r1, 0, none⟩ : Addr) fun (u13 : (Int × (Option Addr × Nat × Nat) × ByteArray × Unit)) =>
 guardW ((#[(.int .u8 u13.1), (.slice u13.2.1.1 u13.2.1.2.1 u13.2.1.2.2), (.string u13.2.2.1)] : Array Value).size = 3) <|
 stAW (⟨r1, 0, none⟩ : Addr) [(.int .u8 u13.1), (.slice u13.2.1.1 u13.2.1.2.1 u13.2.1.2.2), (.string u13.2.2.1)] <|
 ldAW [(.int .u8), .slc, .str] (⟨r1, 0, none⟩ : Addr) fun (u14 : (Int × (Option Addr × Nat × Nat) × ByteArray × Unit)) => K (.tuple #[(.agg #[(.int .u8 u14.1), (.slice u14.2.1.1 u14.2.1.2.1 u14.2.1.2.2), (.string u14.2.2.1)]), (.int .i64 (10 : Int))])) <|
 ldW (.int .u8) (⟨r3, 0, none⟩ : Addr) fun (u15 : Int) =>
 stW (⟨r1, 0, none⟩ : Addr) (.int .u8 u15) <|
 loopW (Int × Unit) ((0 : Int), ()) fun (y17 : Int × Unit) (I16 : (Int × Unit) → WP) =>
 splitW (decide (y17.1 < u12.1)) (callW Tryz.prog 99 [(.pointer u11), (.int .i64 (4 : Int))] (.many [(.one (.int .u64)), (.one (.int .i64))]) fun (u18 : Int × Int × Unit) =>
 splitW (u18.2.1 != (0 : Int)) (guardW ((#[(.int .u8 (0 : Int)), (.slice none 0 0), (.string ByteArray.empty)] : Array Value).size = 3) <|
 stAW (⟨r1, 0, none⟩ : Addr) [(.int .u8 (0 : Int)), (.slice none 0 0), (.string ByteArray.empty)] <|
 ldAW [(.int .u8), .slc, .str] (⟨r1, 0, none⟩ : Addr) fun (u19 : (Int × (Option Addr × Nat × Nat) × ByteArray × Unit)) => K (.tuple #[(.agg #[(.int .u8 u19.1), (.slice u19.2.1.1 u19.2.1.2.1 u19.2.1.2.2), (.string u19.2.2.1)]), (.int .i64 (10 : Int))])) <|
 splitW (decide (u18.1 < (2 : Int))) (guardW ((#[(.int .u8 (0 : Int)), (.slice none 0 0), (.string ByteArray.empty)] : Array Value).size = 3) <|
 stAW (⟨r1, 0, none⟩ : Addr) [(.int .u8 (0 : Int)), (.slice none 0 0), (.string ByteArray.empty)] <|
 ldAW [(.int .u8), .slc, .str] (⟨r1, 0, none⟩ : Addr) fun (u20 : (Int × (Option Addr × Nat × Nat) × ByteArray × Unit)) => K (.tuple #[(.agg #[(.int .u8 u20.1), (.slice u20.2.1.1 u20.2.1.2.1 u20.2.1.2.2), (.string u20.2.2.1)]), (.int .i64 (10 : Int))])) <|
 ptrW x0 fun (p21 : Addr) =>
 ldW (.int .i64) (((p21.add 1).add 1).add 1) fun (u22 : Int) =>
 splitW (decide (u18.1 ≥ (IntKind.wrap .u64 u22))) (guardW ((#[(.int .u8 (0 : Int)), (.slice none 0 0), (.string ByteArray.empty)] : Array Value).size = 3) <|
 stAW (⟨r1, 0, none⟩ : Addr) [(.int .u8 (0 : Int)), (.slice none 0 0), (.string ByteArray.empty)] <|
 ldAW [(.int .u8), .slc, .str] (⟨r1, 0, none⟩ : Addr) fun (u23 : (Int × (Option Addr × Nat × Nat) × ByteArray × Unit)) => K (.tuple #[(.agg #[(.int .u8 u23.1), (.slice u23.2.1.1 u23.2.1.2.1 u23.2.1.2.2), (.string u23.2.2.1)]), (.int .i64 (10 : Int))])) <|
 ldW .slc ((⟨r1, 0, none⟩ : Addr).add 1) fun (u24 : (Option Addr × Nat × Nat)) =>
 newW (.cells #[(.int .u32 (IntKind.wrap .u32 u18.1))] 31) fun (r25 : Nat) =>
 runW Tryz.prog (Builtin.append_ #[40, 40] 40 #[(.slice u24.1 u24.2.1 u24.2.2), (.slice (some (⟨r25, 0, none⟩ : Addr)) 1 1)]) .slc fun (u26 : (Option Addr × Nat × Nat)) =>
 stW ((⟨r1, 0, none⟩ : Addr).add 1) (.slice u26.1 u26.2.1 u26.2.2) <| I16 ((IntKind.wrap .u64 (y17.1 + (1 : Int))), ())) <|
 callW Tryz.prog 101 [(.pointer u11)] (.one (.one (.int .i64))) fun (u27 : Int) =>
 callW Tryz.prog 100 [(.pointer u11), (.int .i64 u27)] (.many [(.one .slc), (.one (.int .i64))]) fun (u28 : (Option Addr × Nat × Nat) × Int × Unit) =>
 runW Tryz.prog (Go.convert 93 9 (.slice u28.1.1 u28.1.2.1 u28.1.2.2)) .str fun (u29 : ByteArray) =>
 stW ((⟨r1, 0, none⟩ : Addr).add 2) (.string u29) <|
 ldAW [(.int .u8), .slc, .str] (⟨r1, 0, none⟩ : Addr) fun (u30 : (Int × (Option Addr × Nat × Nat) × ByteArray × Unit)) =>
 guardW ((#[(.int .u8 u30.1), (.slice u30.2.1.1 u30.2.1.2.1 u30.2.1.2.2), (.string u30.2.2.1)] : Array Value).size = 3) <|
 stAW (⟨r1, 0, none⟩ : Addr) [(.int .u8 u30.1), (.slice u30.2.1.1 u30.2.1.2.1 u30.2.1.2.2), (.string u30.2.2.1)] <|
 ldAW [(.int .u8), .slc, .str] (⟨r1, 0, none⟩ : Addr) fun (u31 : (Int × (Option Addr × Nat × Nat) × ByteArray × Unit)) => K (.tuple #[(.agg #[(.int .u8 u31.1), (.slice u31.2.1.1 u31.2.1.2.1 u31.2.1.2.2), (.string u31.2.2.1)]), (.int .i64 u28.2.1)])
theorem eq60 (x0 : Option Addr) (x1 : ByteArray) (K : Value → WP) : bodyW Tryz.prog Tryz.f60 an60 false [(.pointer x0), (.string x1)] K = S60 x0 x1 K := by kernel_rfl
theorem calls60 (x0 : Option Addr) (x1 : ByteArray) {K : Value → WP} {w : World} (h : S60 x0 x1 K w) : Calls Tryz.prog 60 #[(.pointer x0), (.string x1)] w (Ret K) := callsR_of_bodyW mixed Tryz.func60 (of_decide_eq_true (by kernel_rfl)) (by rw [eq60]; exact h)
def an61 : Ann := (.seq .nil (.block (.loop [(2, .sh (.one (.int .i64))), (3, .sh (.one (.int .i64)))] [0, 1000000] (.seq (.seq .nil (.cond .nil .nil)) (.seq (.block .nil) .nil)))))
def S61 (a0 : Option Addr) (n0 c0 : Nat) (K : Value → WP) : WP := 
 loopW (Int × Int × Unit) ((0 : Int), (IntKind.wrap .i64 (((n0 : Nat) : Int) - (1 : Int))), ()) fun (y2 : Int × Int × Unit) (I1 : (Int × Int × Unit) → WP) =>
 splitW (decide (y2.1 < y2.2.1)) (drewW <|
 guardW (0 ≤ y2.2.1 ∧ y2.2.1 < ((n0 : Nat) : Int)) <|
 ptrW a0 fun (p3 : Addr) =>
 ldW (.int .u32) (p3.add (Int.toNat y2.2.1 * 1)) fun (u4 : Int) =>
 guardW (0 ≤ y2.1 ∧ y2.1 < ((n0 : Nat) : Int)) <|
 ptrW a0 fun (p5 : Addr) =>
 ldW (.int .u32) (p5.add (Int.toNat y2.1 * 1)) fun (u6 : Int) =>
 guardW (0 ≤ y2.1 ∧ y2.1 < ((n0 : Nat) : Int)) <|
 ptrW a0 fun (p7 : Addr) =>
 stW (p7.add (Int.toNat y2.1 * 1)) (.int .u32 u4) <|
 guardW (0 ≤ y2.2.1 ∧ y2.2.1 < ((n0 : Nat) : Int)) <|
 ptrW a0 fun (p8 : Addr) =>
 stW (p8.add (Int.toNat y2.2.1 * 1)) (.int .u32 u6) <| I1 ((IntKind.wrap .i64 (y2.1 + (1 : Int))), (IntKind.wrap .i64 (y2.2.1 - (1 : Int))), ())) <| K (.tuple #[])
theorem eq61 (a0 : Option Addr) (n0 c0 : Nat) (K : Value → WP) : bodyW Tryz.prog Tryz.f61 an61 false [(.slice a0 n0 c0)] K = S61 a0 n0 c0 K := by kernel_rfl
theorem calls61 (a0 : Option Addr) (n0 c0 : Nat) {K : Value → WP} {w : World} (h : S61 a0 n0 c0 K w) : Calls Tryz.prog 61 #[(.slice a0 n0 c0)] w (Ret K) := callsR_of_bodyW mixed Tryz.func61 (of_decide_eq_true (by kernel_rfl)) (by rw [eq61]; exact h)
def an62 : Ann := (.seq .nil (.seq (.seq .nil (.cond (.seq .nil .nil) .nil)) (.seq (.seq .nil (.block (.loop [(5, .sh (.one (.int .i64)))] [0, 1, 1000000] (.seq (.seq .nil (.cond .nil .nil)) (.seq (.block (.seq .nil (.cond (.seq .nil .nil) .nil))) .nil))))) (.seq .nil .nil))))
def S62 (a0 : Option Addr) (n0 c0 : Nat) (a1 : Option Addr) (n1 c1 : Nat) (K : Value → WP) : WP := 
 splitW (((n0 : Nat) : Int) != ((n1 : Nat) : Int)) (K (.bool false)) <|
 loopW (Int × Unit) ((0 : Int), ()) fun (y2 : Int × Unit) (I1 : (Int × Unit) → WP) =>
 splitW (decide (y2.1 < ((n0 : Nat) : Int))) (drewW <|
 guardW (0 ≤ y2.1 ∧ y2.1 < ((n0 : Nat) : Int)) <|
 ptrW a0 fun (p3 : Addr) =>
 ldW (.int .u32) (p3.add (Int.toNat y2.1 * 1)) fun (u4 : Int) =>
 guardW (0 ≤ y2.1 ∧ y2.1 < ((n1 : Nat) : Int)) <|
 ptrW a1 fun (p5 : Addr) =>
 ldW (.int .u32) (p5.add (Int.toNat y2.1 * 1)) fun (u6 : Int) =>
 splitW (u4 != u6) (K (.bool false)) <| I1 ((IntKind.wrap .i64 (y2.1 + (1 : Int))), ())) <| K (.bool true)
theorem eq62 (a0 : Option Addr) (n0 c0 : Nat) (a1 : Option Addr) (n1 c1 : Nat) (K : Value → WP) : bodyW Tryz.prog Tryz.f62 an62 false [(.slice a0 n0 c0), (.slice a1 n1 c1)] K = S62 a0 n0 c0 a1 n1 c1 K := by kernel_rfl
theorem calls62 (a0 : Option Addr) (n0 c0 : Nat) (a1 : Option Addr) (n1 c1 : Nat) {K : Value → WP} {w : World} (h : S62 a0 n0 c0 a1 n1 c1 K w) : Calls Tryz.prog 62 #[(.slice a0 n0 c0), (.slice a1 n1 c1)] w (Ret K) := callsR_of_bodyW mixed Tryz.func62 (of_decide_eq_true (by kernel_rfl)) (by rw [eq62]; exact h)
def an63 : Ann := (.seq .nil (.seq .nil (.seq (.seq .nil (.cond (.seq .nil .nil) .nil)) (.seq (.seq .nil (.cond (.seq .nil .nil) .nil)) (.seq .nil (.seq .nil .nil))))))
def S63 (x0 : Option Addr) (x1 : Int) (K : Value → WP) : WP := 
 callW Tryz.prog 81 [(.pointer x0), (.int .u32 x1)] (.many [(.one .ptr), (.one (.int .i64))]) fun (u1 : Option Addr × Int × Unit) =>
 splitW (u1.2.1 != (0 : Int)) (K (.int .i64 u1.2.1)) <|
 ptrW u1.1 fun (p2 : Addr) =>
 ldW (.int .u16) p2 fun (u3 : Int) =>
 splitW (u3 == (65535 : Int)) (K (.int .i64 (12 : Int))) <|
 ptrW u1.1 fun (p4 : Addr) =>
 ldW (.int .u16) p4 fun (u5 : Int) =>
 ptrW u1.1 fun (p6 : Addr) =>
 stW p6 (.int .u16 (IntKind.wrap .u16 (u5 + (1 : Int)))) <| K (.int .i64 (0 : Int))
theorem eq63 (x0 : Option Addr) (x1 : Int) (K : Value → WP) : bodyW Tryz.prog Tryz.f63 an63 false [(.pointer x0), (.int .u32 x1)] K = S63 x0 x1 K := by kernel_rfl
theorem calls63 (x0 : Option Addr) (x1 : Int) {K : Value → WP} {w : World} (h : S63 x0 x1 K w) : Calls Tryz.prog 63 #[(.pointer x0), (.int .u32 x1)] w (Ret K) := callsR_of_bodyW mixed Tryz.func63 (of_decide_eq_true (by kernel_rfl)) (by rw [eq63]; exact h)
def an64 : Ann := (.seq .nil (.seq (.block (.seq .nil (.cond (.seq .nil .nil) (.seq .nil (.cond (.seq .nil .nil) .nil))))) (.seq .nil (.seq .nil .nil))))
def S64 (x0 : Option Addr) (K : Value → WP) : WP := 
 splitW (Option.isNone x0) (K (.int .i64 (1 : Int))) <|
 ptrW x0 fun (p1 : Addr) =>
 ldW .ptr (p1.add 9) fun (u2 : Option Addr) =>
 splitW (!(Option.isNone u2)) (K (.int .i64 (8 : Int))) <|
 ptrW x0 fun (p3 : Addr) =>
 ldW .ptr (p3.add 8) fun (u4 : Option Addr) =>
 callW Tryz.prog 38 [(.pointer u4)] (.one (.one .ptr)) fun (u5 : Option Addr) =>
 ptrW x0 fun (p6 : Addr) =>
 stW (p6.add 9) (.pointer u5) <| K (.int .i64 (0 : Int))
theorem eq64 (x0 : Option Addr) (K : Value → WP) : bodyW Tryz.prog Tryz.f64 an64 false [(.pointer x0)] K = S64 x0 K := by kernel_rfl
theorem calls64 (x0 : Option Addr) {K : Value → WP} {w : World} (h : S64 x0 K w) : Calls Tryz.prog 64 #[(.pointer x0)] w (Ret K) := callsR_of_bodyW mixed Tryz.func64 (of_decide_eq_true (by kernel_rfl)) (by rw [eq64]; exact h)
def an65 : Ann := (.seq .nil (.seq (.block (.seq .nil (.cond (.seq .nil .nil) (.seq .nil (.cond (.seq .nil .nil) .nil))))) (.seq .nil (.seq .nil .nil))))
def S65 (x0 : Option Addr) (K : Value → WP) : WP := 
 splitW (Option.isNone x0) (K (.int .i64 (1 : Int))) <|
 ptrW x0 fun (p1 : Addr) =>
 ldW .ptr (p1.add 9) fun (u2 : Option Addr) =>
 splitW (Option.isNone u2) (K (.int .i64 (8 : Int))) <|
 ptrW x0 fun (p3 : Addr) =>
 ldW .ptr (p3.add 9) fun (u4 : Option Addr) =>
 ptrW x0 fun (p5 : Addr) =>
 stW (p5.add 8) (.pointer u4) <|
 ptrW x0 fun (p6 : Addr) =>
 stW (p6.add 9) (.pointer none) <| K (.int .i64 (0 : Int))
theorem eq65 (x0 : Option Addr) (K : Value → WP) : bodyW Tryz.prog Tryz.f65 an65 false [(.pointer x0)] K = S65 x0 K := by kernel_rfl
theorem calls65 (x0 : Option Addr) {K : Value → WP} {w : World} (h : S65 x0 K w) : Calls Tryz.prog 65 #[(.pointer x0)] w (Ret K) := callsR_of_bodyW mixed Tryz.func65 (of_decide_eq_true (by kernel_rfl)) (by rw [eq65]; exact h)
def an66 : Ann := (.seq .nil (.seq (.block (.seq .nil (.cond (.seq .nil .nil) (.seq .nil (.cond (.seq .nil .nil) .nil))))) (.seq .nil (.seq .nil .nil))))
def S66 (x0 : Option Addr) (K : Value → WP) : WP := 
 splitW (Option.isNone x0) (K (.int .i64 (1 : Int))) <|
 ptrW x0 fun (p1 : Addr) =>
 ldW .ptr (p1.add 9) fun (u2 : Option Addr) =>
 splitW (Option.isNone u2) (K (.int .i64 (8 : Int))) <|
 ptrW x0 fun (p3 : Addr) =>
 stW (p3.add 9) (.pointer none) <| K (.int .i64 (0 : Int))
theorem eq66 (x0 : Option Addr) (K : Value → WP) : bodyW Tryz.prog Tryz.f66 an66 false [(.pointer x0)] K = S66 x0 K := by kernel_rfl
theorem calls66 (x0 : Option Addr) {K : Value → WP} {w : World} (h : S66 x0 K w) : Calls Tryz.prog 66 #[(.pointer x0)] w (Ret K) := callsR_of_bodyW mixed Tryz.func66 (of_decide_eq_true (by kernel_rfl)) (by rw [eq66]; exact h)
def an67 : Ann := (.seq .nil (.seq .nil (.seq (.seq .nil (.cond (.seq .nil .nil) .nil)) (.seq .nil (.seq .nil (.seq (.seq .nil (.block (.loop [(27, .sh (.one (.int .i64)))] [0, 2, 4, 5, 6, 1000000] (.seq .nil (.seq (.cond .nil .nil) (.seq (.block (.seq .nil .nil)) .nil)))))) (.seq .nil (.seq .nil (.seq (.seq .nil (.block (.loop [(57, .sh (.one (.int .u64)))] [0, 2, 5, 56, 1000000] (.seq .nil (.seq (.cond .nil .nil) (.seq (.block (.seq .nil (.seq (.seq .nil (.cond (.seq .nil .nil) .nil)) .nil))) .nil)))))) (.seq (.seq .nil (.seq .nil (.cond (.seq .nil .nil) .nil))) (.seq .nil .nil)))))))))))
def S67 (x0 : ByteArray) (K : Value → WP) : WP := 
 newW (.cells #[(.int .u64 (0 : Int)), (.int .i64 (0 : Int)), (.int .i64 (0 : Int)), (.int .u32 (0 : Int)), (.slice none 0 0)] 79) fun (r1 : Nat) =>
 callW Tryz.prog 36 [(.string x0), (.int .u8 (1 : Int))] (.many [(.agg [(.int .u8), (.int .u64), .str]), (.one (.int .i64))]) fun (u2 : (Int × Int × ByteArray × Unit) × Int × Unit) =>
 newW (.cells #[(.int .u8 (0 : Int)), (.int .u64 (0 : Int)), (.string ByteArray.empty)] 87) fun (r3 : Nat) =>
 guardW ((#[(.int .u8 u2.1.1), (.int .u64 u2.1.2.1), (.string u2.1.2.2.1)] : Array Value).size = 3) <|
 stAW (⟨r3, 0, none⟩ : Addr) [(.int .u8 u2.1.1), (.int .u64 u2.1.2.1), (.string u2.1.2.2.1)] <|
 splitW (u2.2.1 != (0 : Int)) (ldAW [(.int .u64), (.int .i64), (.int .i64), (.int .u32), .slc] (⟨r1, 0, none⟩ : Addr) fun (u4 : (Int × Int × Int × Int × (Option Addr × Nat × Nat) × Unit)) =>
 guardW ((#[(.int .u64 u4.1), (.int .i64 u4.2.1), (.int .i64 u4.2.2.1), (.int .u32 u4.2.2.2.1), (.slice u4.2.2.2.2.1.1 u4.2.2.2.2.1.2.1 u4.2.2.2.2.1.2.2)] : Array Value).size = 5) <|
 stAW (⟨r1, 0, none⟩ : Addr) [(.int .u64 u4.1), (.int .i64 u4.2.1), (.int .i64 u4.2.2.1), (.int .u32 u4.2.2.2.1), (.slice u4.2.2.2.2.1.1 u4.2.2.2.2.1.2.1 u4.2.2.2.2.1.2.2)] <|
 ldAW [(.int .u64), (.int .i64), (.int .i64), (.int .u32), .slc] (⟨r1, 0, none⟩ : Addr) fun (u5 : (Int × Int × Int × Int × (Option Addr × Nat × Nat) × Unit)) => K (.tuple #[(.agg #[(.int .u64 u5.1), (.int .i64 u5.2.1), (.int .i64 u5.2.2.1), (.int .u32 u5.2.2.2.1), (.slice u5.2.2.2.2.1.1 u5.2.2.2.2.1.2.1 u5.2.2.2.2.1.2.2)]), (.int .i64 u2.2.1)])) <|
 ldW .str ((⟨r3, 0, none⟩ : Addr).add 2) fun (u6 : ByteArray) =>
 runW Tryz.prog (Go.convert 9 93 (.string u6)) .slc fun (u7 : (Option Addr × Nat × Nat)) =>
 callW Tryz.prog 98 [(.slice u7.1 u7.2.1 u7.2.2)] (.one (.one .ptr)) fun (u8 : Option Addr) =>
 newW (.cells #[(.int .u64 (0 : Int)), (.int .u64 (0 : Int)), (.int .u64 (0 : Int))] 165) fun (r9 : Nat) =>
 loopW (Int × Unit) ((0 : Int), ()) fun (y11 : Int × Unit) (I10 : (Int × Unit) → WP) =>
 splitW (decide (y11.1 < (3 : Int))) (callW Tryz.prog 99 [(.pointer u8), (.int .i64 (4 : Int))] (.many [(.one (.int .u64)), (.one (.int .i64))]) fun (u12 : Int × Int × Unit) =>
 guardW (0 ≤ y11.1 ∧ y11.1 < ((3 : Nat) : Int)) <|
 stW ((⟨r9, 0, none⟩ : Addr).add (Int.toNat y11.1 * 1)) (.int .u64 u12.1) <| I10 ((IntKind.wrap .i64 (y11.1 + (1 : Int))), ())) <|
 callW Tryz.prog 99 [(.pointer u8), (.int .i64 (2 : Int))] (.many [(.one (.int .u64)), (.one (.int .i64))]) fun (u13 : Int × Int × Unit) =>
 ldW (.int .u64) ((⟨r3, 0, none⟩ : Addr).add 1) fun (u14 : Int) =>
 guardW (0 ≤ (0 : Int) ∧ (0 : Int) < ((3 : Nat) : Int)) <|
 ldW (.int .u64) ((⟨r9, 0, none⟩ : Addr).add (Int.toNat (0 : Int) * 1)) fun (u15 : Int) =>
 guardW (0 ≤ (1 : Int) ∧ (1 : Int) < ((3 : Nat) : Int)) <|
 ldW (.int .u64) ((⟨r9, 0, none⟩ : Addr).add (Int.toNat (1 : Int) * 1)) fun (u16 : Int) =>
 guardW (0 ≤ (2 : Int) ∧ (2 : Int) < ((3 : Nat) : Int)) <|
 ldW (.int .u64) ((⟨r9, 0, none⟩ : Addr).add (Int.toNat (2 : Int) * 1)) fun (u17 : Int) =>
 guardW ((#[(.int .u64 u14), (.int .i64 (IntKind.wrap .i64 u15)), (.int .i64 (IntKind.wrap .i64 u16)), (.int .u32 (IntKind.wrap .u32 u17)), (.slice none 0 0)] : Array Value).size = 5) <|
 stAW (⟨r1, 0, none⟩ : Addr) [(.int .u64 u14), (.int .i64 (IntKind.wrap .i64 u15)), (.int .i64 (IntKind.wrap .i64 u16)), (.int .u32 (IntKind.wrap .u32 u17)), (.slice none 0 0)] <|
 loopW (Int × Unit) ((0 : Int), ()) fun (y19 : Int × Unit) (I18 : (Int × Unit) → WP) =>
 splitW (decide (y19.1 < u13.1)) (callW Tryz.prog 99 [(.pointer u8), (.int .i64 (4 : Int))] (.many [(.one (.int .u64)), (.one (.int .i64))]) fun (u20 : Int × Int × Unit) =>
 splitW (u20.2.1 != (0 : Int)) (guardW ((#[(.int .u64 (0 : Int)), (.int .i64 (0 : Int)), (.int .i64 (0 : Int)), (.int .u32 (0 : Int)), (.slice none 0 0)] : Array Value).size = 5) <|
 stAW (⟨r1, 0, none⟩ : Addr) [(.int .u64 (0 : Int)), (.int .i64 (0 : Int)), (.int .i64 (0 : Int)), (.int .u32 (0 : Int)), (.slice none 0 0)] <|
 ldAW [(.int .u64), (.int .i64), (.int .i64), (.int .u32), .slc] (⟨r1, 0, none⟩ : Addr) fun (u21 : (Int × Int × Int × Int × (Option Addr × Nat × Nat) × Unit)) => K (.tuple #[(.agg #[(.int .u64 u21.1), (.int .i64 u21.2.1), (.int .i64 u21.2.2.1), (.int .u32 u21.2.2.2.1), (.slice u21.2.2.2.2.1.1 u21.2.2.2.2.1.2.1 u21.2.2.2.2.1.2.2)]), (.int .i64 (4 : Int))])) <|
 ldW .slc ((⟨r1, 0, none⟩ : Addr).add 4) fun (u22 : (Option Addr × Nat × Nat)) =>
 newW (.cells #[(.int .u32 (IntKind.wrap .u32 u20.1))] 31) fun (r23 : Nat) =>
 runW Tryz.prog (Builtin.append_ #[40, 40] 40 #[(.slice u22.1 u22.2.1 u22.2.2), (.slice (some (⟨r23, 0, none⟩ : Addr)) 1 1)]) .slc fun (u24 : (Option Addr × Nat × Nat)) =>
 stW ((⟨r1, 0, none⟩ : Addr).add 4) (.slice u24.1 u24.2.1 u24.2.2) <| I18 ((IntKind.wrap .u64 (y19.1 + (1 : Int))), ())) <|
 ldAW [(.int .u64), (.int .i64), (.int .i64), (.int .u32), .slc] (⟨r1, 0, none⟩ : Addr) fun (u25 : (Int × Int × Int × Int × (Option Addr × Nat × Nat) × Unit)) =>
 callW Tryz.prog 83 [(.agg #[(.int .u64 u25.1), (.int .i64 u25.2.1), (.int .i64 u25.2.2.1), (.int .u32 u25.2.2.2.1), (.slice u25.2.2.2.2.1.1 u25.2.2.2.2.1.2.1 u25.2.2.2.2.1.2.2)])] (.many [(.one .str), (.one (.int .i64))]) fun (u26 : ByteArray × Int × Unit) =>
 splitW (u26.2.1 != (0 : Int)) (guardW ((#[(.int .u64 (0 : Int)), (.int .i64 (0 : Int)), (.int .i64 (0 : Int)), (.int .u32 (0 : Int)), (.slice none 0 0)] : Array Value).size = 5) <|
 stAW (⟨r1, 0, none⟩ : Addr) [(.int .u64 (0 : Int)), (.int .i64 (0 : Int)), (.int .i64 (0 : Int)), (.int .u32 (0 : Int)), (.slice none 0 0)] <|
 ldAW [(.int .u64), (.int .i64), (.int .i64), (.int .u32), .slc] (⟨r1, 0, none⟩ : Addr) fun (u27 : (Int × Int × Int × Int × (Option Addr × Nat × Nat) × Unit)) => K (.tuple #[(.agg #[(.int .u64 u27.1), (.int .i64 u27.2.1), (.int .i64 u27.2.2.1), (.int .u32 u27.2.2.2.1), (.slice u27.2.2.2.2.1.1 u27.2.2.2.2.1.2.1 u27.2.2.2.2.1.2.2)]), (.int .i64 (4 : Int))])) <|
 splitW (!(u26.1.toList == x0.toList)) (guardW ((#[(.int .u64 (0 : Int)), (.int .i64 (0 : Int)), (.int .i64 (0 : Int)), (.int .u32 (0 : Int)), (.slice none 0 0)] : Array Value).size = 5) <|
 stAW (⟨r1, 0, none⟩ : Addr) [(.int .u64 (0 : Int)), (.int .i64 (0 : Int)), (.int .i64 (0 : Int)), (.int .u32 (0 : Int)), (.slice none 0 0)] <|
 ldAW [(.int .u64), (.int .i64), (.int .i64), (.int .u32), .slc] (⟨r1, 0, none⟩ : Addr) fun (u28 : (Int × Int × Int × Int × (Option Addr × Nat × Nat) × Unit)) => K (.tuple #[(.agg #[(.int .u64 u28.1), (.int .i64 u28.2.1), (.int .i64 u28.2.2.1), (.int .u32 u28.2.2.2.1), (.slice u28.2.2.2.2.1.1 u28.2.2.2.2.1.2.1 u28.2.2.2.2.1.2.2)]), (.int .i64 (4 : Int))])) <|
 ldAW [(.int .u64), (.int .i64), (.int .i64), (.int .u32), .slc] (⟨r1, 0, none⟩ : Addr) fun (u29 : (Int × Int × Int × Int × (Option Addr × Nat × Nat) × Unit)) =>
 guardW ((#[(.int .u64 u29.1), (.int .i64 u29.2.1), (.int .i64 u29.2.2.1), (.int .u32 u29.2.2.2.1), (.slice u29.2.2.2.2.1.1 u29.2.2.2.2.1.2.1 u29.2.2.2.2.1.2.2)] : Array Value).size = 5) <|
 stAW (⟨r1, 0, none⟩ : Addr) [(.int .u64 u29.1), (.int .i64 u29.2.1), (.int .i64 u29.2.2.1), (.int .u32 u29.2.2.2.1), (.slice u29.2.2.2.2.1.1 u29.2.2.2.2.1.2.1 u29.2.2.2.2.1.2.2)] <|
 ldAW [(.int .u64), (.int .i64), (.int .i64), (.int .u32), .slc] (⟨r1, 0, none⟩ : Addr) fun (u30 : (Int × Int × Int × Int × (Option Addr × Nat × Nat) × Unit)) => K (.tuple #[(.agg #[(.int .u64 u30.1), (.int .i64 u30.2.1), (.int .i64 u30.2.2.1), (.int .u32 u30.2.2.2.1), (.slice u30.2.2.2.2.1.1 u30.2.2.2.2.1.2.1 u30.2.2.2.2.1.2.2)]), (.int .i64 (0 : Int))])
theorem eq67 (x0 : ByteArray) (K : Value → WP) : bodyW Tryz.prog Tryz.f67 an67 false [(.string x0)] K = S67 x0 K := by kernel_rfl
theorem calls67 (x0 : ByteArray) {K : Value → WP} {w : World} (h : S67 x0 K w) : Calls Tryz.prog 67 #[(.string x0)] w (Ret K) := callsR_of_bodyW mixed Tryz.func67 (of_decide_eq_true (by kernel_rfl)) (by rw [eq67]; exact h)
def an68 : Ann := (.seq .nil (.seq .nil (.seq (.seq .nil (.cond (.seq .nil .nil) .nil)) (.seq .nil (.seq .nil (.seq (.seq .nil (.cond (.seq .nil .nil) .nil)) (.seq .nil (.seq (.seq .nil (.cond (.seq .nil .nil) .nil)) (.seq .nil (.seq (.seq .nil (.seq .nil (.cond (.seq .nil .nil) .nil))) (.seq .nil .nil)))))))))))
def S68 (x0 : ByteArray) (K : Value → WP) : WP := 
 newW (.cells #[(.int .u8 (0 : Int)), (.int .u64 (0 : Int)), (.string ByteArray.empty)] 87) fun (r1 : Nat) =>
 callW Tryz.prog 96 [(.int .i64 ((x0.size : Nat) : Int))] (.one (.one (.int .i64))) fun (u2 : Int) =>
 splitW (u2 == (0 : Int)) (ldAW [(.int .u8), (.int .u64), .str] (⟨r1, 0, none⟩ : Addr) fun (u3 : (Int × Int × ByteArray × Unit)) =>
 guardW ((#[(.int .u8 u3.1), (.int .u64 u3.2.1), (.string u3.2.2.1)] : Array Value).size = 3) <|
 stAW (⟨r1, 0, none⟩ : Addr) [(.int .u8 u3.1), (.int .u64 u3.2.1), (.string u3.2.2.1)] <|
 ldAW [(.int .u8), (.int .u64), .str] (⟨r1, 0, none⟩ : Addr) fun (u4 : (Int × Int × ByteArray × Unit)) => K (.tuple #[(.agg #[(.int .u8 u4.1), (.int .u64 u4.2.1), (.string u4.2.2.1)]), (.int .i64 (2 : Int))])) <|
 runW Tryz.prog (Go.convert 9 93 (.string x0)) .slc fun (u5 : (Option Addr × Nat × Nat)) =>
 drewW <|
 guardW (0 ≤ (IntKind.wrap .i64 (((u5.2.1 : Nat) : Int) - (4 : Int))) ∧ (IntKind.wrap .i64 (((u5.2.1 : Nat) : Int) - (4 : Int))) ≤ ((u5.2.2 : Nat) : Int)) <|
 guardW (0 ≤ (IntKind.wrap .i64 (((u5.2.1 : Nat) : Int) - (4 : Int))) ∧ (IntKind.wrap .i64 (((u5.2.1 : Nat) : Int) - (4 : Int))) ≤ ((u5.2.1 : Nat) : Int)) <|
 callW Tryz.prog 102 [(.slice (cutAddr u5.1 0 u5.2.2 1) (Int.toNat (IntKind.wrap .i64 (((u5.2.1 : Nat) : Int) - (4 : Int)))) u5.2.2)] (.one (.one (.int .u32))) fun (u6 : Int) =>
 callW Tryz.prog 75 [(.slice (cutAddr u5.1 (Int.toNat (IntKind.wrap .i64 (((u5.2.1 : Nat) : Int) - (4 : Int)))) u5.2.2 1) (u5.2.1 - (Int.toNat (IntKind.wrap .i64 (((u5.2.1 : Nat) : Int) - (4 : Int))))) (u5.2.2 - (Int.toNat (IntKind.wrap .i64 (((u5.2.1 : Nat) : Int) - (4 : Int))))))] (.one (.one (.int .u64))) fun (u7 : Int) =>
 splitW ((IntKind.wrap .u64 u6) != u7) (ldAW [(.int .u8), (.int .u64), .str] (⟨r1, 0, none⟩ : Addr) fun (u8 : (Int × Int × ByteArray × Unit)) =>
 guardW ((#[(.int .u8 u8.1), (.int .u64 u8.2.1), (.string u8.2.2.1)] : Array Value).size = 3) <|
 stAW (⟨r1, 0, none⟩ : Addr) [(.int .u8 u8.1), (.int .u64 u8.2.1), (.string u8.2.2.1)] <|
 ldAW [(.int .u8), (.int .u64), .str] (⟨r1, 0, none⟩ : Addr) fun (u9 : (Int × Int × ByteArray × Unit)) => K (.tuple #[(.agg #[(.int .u8 u9.1), (.int .u64 u9.2.1), (.string u9.2.2.1)]), (.int .i64 (10 : Int))])) <|
 guardW (0 ≤ (2 : Int) ∧ (2 : Int) ≤ (4 : Int) ∧ (4 : Int) ≤ ((u5.2.2 : Nat) : Int)) <|
 callW Tryz.prog 75 [(.slice (cutAddr u5.1 (Int.toNat (2 : Int)) u5.2.2 1) ((Int.toNat (4 : Int)) - (Int.toNat (2 : Int))) (u5.2.2 - (Int.toNat (2 : Int))))] (.one (.one (.int .u64))) fun (u10 : Int) =>
 splitW (decide ((IntKind.wrap .i64 u10) > u2)) (ldAW [(.int .u8), (.int .u64), .str] (⟨r1, 0, none⟩ : Addr) fun (u11 : (Int × Int × ByteArray × Unit)) =>
 guardW ((#[(.int .u8 u11.1), (.int .u64 u11.2.1), (.string u11.2.2.1)] : Array Value).size = 3) <|
 stAW (⟨r1, 0, none⟩ : Addr) [(.int .u8 u11.1), (.int .u64 u11.2.1), (.string u11.2.2.1)] <|
 ldAW [(.int .u8), (.int .u64), .str] (⟨r1, 0, none⟩ : Addr) fun (u12 : (Int × Int × ByteArray × Unit)) => K (.tuple #[(.agg #[(.int .u8 u12.1), (.int .u64 u12.2.1), (.string u12.2.2.1)]), (.int .i64 (4 : Int))])) <|
 drewW <|
 guardW (0 ≤ (0 : Int) ∧ (0 : Int) < ((u5.2.1 : Nat) : Int)) <|
 ptrW u5.1 fun (p13 : Addr) =>
 ldW (.int .u8) (p13.add (Int.toNat (0 : Int) * 1)) fun (u14 : Int) =>
 guardW (0 ≤ (4 : Int) ∧ (4 : Int) ≤ (12 : Int) ∧ (12 : Int) ≤ ((u5.2.2 : Nat) : Int)) <|
 guardW (0 ≤ (12 : Int) ∧ (12 : Int) ≤ (IntKind.wrap .i64 ((12 : Int) + (IntKind.wrap .i64 u10))) ∧ (IntKind.wrap .i64 ((12 : Int) + (IntKind.wrap .i64 u10))) ≤ ((x0.size : Nat) : Int)) <|
 callW Tryz.prog 75 [(.slice (cutAddr u5.1 (Int.toNat (4 : Int)) u5.2.2 1) ((Int.toNat (12 : Int)) - (Int.toNat (4 : Int))) (u5.2.2 - (Int.toNat (4 : Int))))] (.one (.one (.int .u64))) fun (u15 : Int) =>
 heldW [[((p13.add (Int.toNat (0 : Int) * 1)), (.int .u8 u14))]] <|
 guardW ((#[(.int .u8 u14), (.int .u64 u15), (.string (ByteArray.extract x0 (Int.toNat (12 : Int)) (Int.toNat (IntKind.wrap .i64 ((12 : Int) + (IntKind.wrap .i64 u10))))))] : Array Value).size = 3) <|
 stAW (⟨r1, 0, none⟩ : Addr) [(.int .u8 u14), (.int .u64 u15), (.string (ByteArray.extract x0 (Int.toNat (12 : Int)) (Int.toNat (IntKind.wrap .i64 ((12 : Int) + (IntKind.wrap .i64 u10))))))] <|
 ldAW [(.int .u8), (.int .u64), .str] (⟨r1, 0, none⟩ : Addr) fun (u16 : (Int × Int × ByteArray × Unit)) =>
 callW Tryz.prog 97 [(.int .i64 ((x0.size : Nat) : Int)), (.agg #[(.int .u8 u16.1), (.int .u64 u16.2.1), (.string u16.2.2.1)])] (.many [(.one .str), (.one (.int .i64))]) fun (u17 : ByteArray × Int × Unit) =>
 splitW (u17.2.1 != (0 : Int)) (guardW ((#[(.int .u8 (0 : Int)), (.int .u64 (0 : Int)), (.string ByteArray.empty)] : Array Value).size = 3) <|
 stAW (⟨r1, 0, none⟩ : Addr) [(.int .u8 (0 : Int)), (.int .u64 (0 : Int)), (.string ByteArray.empty)] <|
 ldAW [(.int .u8), (.int .u64), .str] (⟨r1, 0, none⟩ : Addr) fun (u18 : (Int × Int × ByteArray × Unit)) => K (.tuple #[(.agg #[(.int .u8 u18.1), (.int .u64 u18.2.1), (.string u18.2.2.1)]), (.int .i64 (4 : Int))])) <|
 splitW (!(u17.1.toList == x0.toList)) (guardW ((#[(.int .u8 (0 : Int)), (.int .u64 (0 : Int)), (.string ByteArray.empty)] : Array Value).size = 3) <|
 stAW (⟨r1, 0, none⟩ : Addr) [(.int .u8 (0 : Int)), (.int .u64 (0 : Int)), (.string ByteArray.empty)] <|
 ldAW [(.int .u8), (.int .u64), .str] (⟨r1, 0, none⟩ : Addr) fun (u19 : (Int × Int × ByteArray × Unit)) => K (.tuple #[(.agg #[(.int .u8 u19.1), (.int .u64 u19.2.1), (.string u19.2.2.1)]), (.int .i64 (4 : Int))])) <|
 ldAW [(.int .u8), (.int .u64), .str] (⟨r1, 0, none⟩ : Addr) fun (u20 : (Int × Int × ByteArray × Unit)) =>
 guardW ((#[(.int .u8 u20.1), (.int .u64 u20.2.1), (.string u20.2.2.1)] : Array Value).size = 3) <|
 stAW (⟨r1, 0, none⟩ : Addr) [(.int .u8 u20.1), (.int .u64 u20.2.1), (.string u20.2.2.1)] <|
 ldAW [(.int .u8), (.int .u64), .str] (⟨r1, 0, none⟩ : Addr) fun (u21 : (Int × Int × ByteArray × Unit)) => K (.tuple #[(.agg #[(.int .u8 u21.1), (.int .u64 u21.2.1), (.string u21.2.2.1)]), (.int .i64 (0 : Int))])
theorem eq68 (x0 : ByteArray) (K : Value → WP) : bodyW Tryz.prog Tryz.f68 an68 false [(.string x0)] K = S68 x0 K := by kernel_rfl
theorem calls68 (x0 : ByteArray) {K : Value → WP} {w : World} (h : S68 x0 K w) : Calls Tryz.prog 68 #[(.string x0)] w (Ret K) := callsR_of_bodyW mixed Tryz.func68 (of_decide_eq_true (by kernel_rfl)) (by rw [eq68]; exact h)
def an69 : Ann := (.seq .nil (.seq (.seq .nil (.cond (.seq .nil .nil) .nil)) (.seq .nil (.seq .nil (.seq .nil .nil)))))
def S69 (x0_0 : Int) (x0_1 : Int) (K : Value → WP) : WP := 
 newW (.cells #[(.int .i64 x0_0), (.int .i64 x0_1)] 23) fun (r1 : Nat) =>
 ldAW [(.int .i64), (.int .i64)] (⟨r1, 0, none⟩ : Addr) fun (u2 : (Int × Int × Unit)) =>
 callW Tryz.prog 90 [(.agg #[(.int .i64 u2.1), (.int .i64 u2.2.1)])] (.one (.one (.int .i64))) fun (u3 : Int) =>
 splitW (u3 != (0 : Int)) (K (.tuple #[(.pointer none), (.int .i64 (2 : Int))])) <|
 drewW <|
 ldAW [(.int .i64), (.int .i64)] (⟨r1, 0, none⟩ : Addr) fun (u4 : (Int × Int × Unit)) =>
 ldW (.int .i64) ((⟨r1, 0, none⟩ : Addr).add 1) fun (u5 : Int) =>
 runW Tryz.prog (Instr.makeSlice 140 (.int .i64 u5) (.int .i64 u5)) .slc fun (u6 : Option Addr × Nat × Nat) =>
 heldW [[((⟨r1, 0, none⟩ : Addr).add 0, (.int .i64 u4.1)), ((⟨r1, 0, none⟩ : Addr).add 1, (.int .i64 u4.2.1))]] <|
 newW (.cells #[(.int .i64 u4.1), (.int .i64 u4.2.1), (.slice u6.1 u6.2.1 u6.2.2)] 142) fun (r7 : Nat) =>
 drewW <|
 ptrW (some (⟨r7, 0, none⟩ : Addr)) fun (p8 : Addr) =>
 ldW .slc (p8.add 2) fun (u9 : (Option Addr × Nat × Nat)) =>
 ptrW (some (⟨r7, 0, none⟩ : Addr)) fun (p10 : Addr) =>
 ldW .slc (p10.add 2) fun (u11 : (Option Addr × Nat × Nat)) =>
 guardW (0 ≤ (0 : Int) ∧ (0 : Int) < ((u9.2.1 : Nat) : Int)) <|
 ptrW u9.1 fun (p12 : Addr) =>
 stW (p12.add (Int.toNat (0 : Int) * 1)) (.int .u16 (1 : Int)) <|
 guardW (0 ≤ (1 : Int) ∧ (1 : Int) < ((u11.2.1 : Nat) : Int)) <|
 ptrW u11.1 fun (p13 : Addr) =>
 stW (p13.add (Int.toNat (1 : Int) * 1)) (.int .u16 (1 : Int)) <| K (.tuple #[(.pointer (some (⟨r7, 0, none⟩ : Addr))), (.int .i64 (0 : Int))])
theorem eq69 (x0_0 : Int) (x0_1 : Int) (K : Value → WP) : bodyW Tryz.prog Tryz.f69 an69 false [(.agg #[(.int .i64 x0_0), (.int .i64 x0_1)])] K = S69 x0_0 x0_1 K := by kernel_rfl
theorem calls69 (x0_0 : Int) (x0_1 : Int) {K : Value → WP} {w : World} (h : S69 x0_0 x0_1 K w) : Calls Tryz.prog 69 #[(.agg #[(.int .i64 x0_0), (.int .i64 x0_1)])] w (Ret K) := callsR_of_bodyW mixed Tryz.func69 (of_decide_eq_true (by kernel_rfl)) (by rw [eq69]; exact h)
def an70 : Ann := (.seq .nil (.seq .nil .nil))
def S70 (x0 : ByteArray) (x1 : ByteArray) (K : Value → WP) : WP := 
 K (.bool (((x0.size : Nat) : Int) == ((x1.size : Nat) : Int)))
theorem eq70 (x0 : ByteArray) (x1 : ByteArray) (K : Value → WP) : bodyW Tryz.prog Tryz.f70 an70 false [(.string x0), (.string x1)] K = S70 x0 x1 K := by kernel_rfl
theorem calls70 (x0 : ByteArray) (x1 : ByteArray) {K : Value → WP} {w : World} (h : S70 x0 x1 K w) : Calls Tryz.prog 70 #[(.string x0), (.string x1)] w (Ret K) := callsR_of_bodyW mixed Tryz.func70 (of_decide_eq_true (by kernel_rfl)) (by rw [eq70]; exact h)
def an71 : Ann := (.seq .nil (.seq (.seq .nil (.cond (.seq .nil .nil) .nil)) (.seq .nil (.seq .nil .nil))))
def S71 (x0_0 : Int) (x0_1 : Int) (K : Value → WP) : WP := 
 newW (.cells #[(.int .i64 x0_0), (.int .i64 x0_1)] 23) fun (r1 : Nat) =>
 ldAW [(.int .i64), (.int .i64)] (⟨r1, 0, none⟩ : Addr) fun (u2 : (Int × Int × Unit)) =>
 callW Tryz.prog 90 [(.agg #[(.int .i64 u2.1), (.int .i64 u2.2.1)])] (.one (.one (.int .i64))) fun (u3 : Int) =>
 splitW (u3 != (0 : Int)) (K (.int .i64 (0 : Int))) <|
 ldW (.int .i64) (⟨r1, 0, none⟩ : Addr) fun (u4 : Int) =>
 callW Tryz.prog 96 [(.int .i64 u4)] (.one (.one (.int .i64))) fun (u5 : Int) =>
 ldW (.int .i64) ((⟨r1, 0, none⟩ : Addr).add 1) fun (u6 : Int) =>
 guardW (u5 ≠ 0) <| K (.int .i64 (IntKind.wrap .i64 (Int.tdiv (IntKind.wrap .i64 ((IntKind.wrap .i64 ((IntKind.wrap .i64 ((2 : Int) * u6)) + u5)) - (1 : Int))) u5)))
theorem eq71 (x0_0 : Int) (x0_1 : Int) (K : Value → WP) : bodyW Tryz.prog Tryz.f71 an71 false [(.agg #[(.int .i64 x0_0), (.int .i64 x0_1)])] K = S71 x0_0 x0_1 K := by kernel_rfl
theorem calls71 (x0_0 : Int) (x0_1 : Int) {K : Value → WP} {w : World} (h : S71 x0_0 x0_1 K w) : Calls Tryz.prog 71 #[(.agg #[(.int .i64 x0_0), (.int .i64 x0_1)])] w (Ret K) := callsR_of_bodyW mixed Tryz.func71 (of_decide_eq_true (by kernel_rfl)) (by rw [eq71]; exact h)
def an72 : Ann := (.seq .nil (.seq (.seq .nil (.cond (.seq .nil .nil) .nil)) (.seq (.seq .nil (.block (.loop [(17, .sh (.one (.int .i64)))] [1, 2, 15, 16, 1000000] (.seq .nil (.seq (.cond .nil .nil) (.seq (.block (.seq .nil (.seq .nil (.seq .nil (.cond (.seq .nil .nil) .nil))))) .nil)))))) (.seq .nil .nil))))
def S72 (a0 : Option Addr) (n0 c0 : Nat) (a1 : Option Addr) (n1 c1 : Nat) (x2 : Value) (K : Value → WP) : WP := 
 splitW (((n0 : Nat) : Int) != ((n1 : Nat) : Int)) (K (.bool false)) <|
 loopW (Int × Unit) ((0 : Int), ()) fun (y2 : Int × Unit) (I1 : (Int × Unit) → WP) =>
 splitW (decide (y2.1 < ((n0 : Nat) : Int))) (guardW (0 ≤ y2.1 ∧ y2.1 < ((n0 : Nat) : Int)) <|
 ptrW a0 fun (p3 : Addr) =>
 ldW .str (p3.add (Int.toNat y2.1 * 1)) fun (u4 : ByteArray) =>
 guardW (0 ≤ y2.1 ∧ y2.1 < ((n1 : Nat) : Int)) <|
 ptrW a1 fun (p5 : Addr) =>
 ldW .str (p5.add (Int.toNat y2.1 * 1)) fun (u6 : ByteArray) =>
 callVW Tryz.prog x2 [(.string u4), (.string u6)] (.one (.one .bool)) fun (u7 : Bool) =>
 splitW (!u7) (K (.bool false)) <| I1 ((IntKind.wrap .i64 (y2.1 + (1 : Int))), ())) <| K (.bool true)
theorem eq72 (a0 : Option Addr) (n0 c0 : Nat) (a1 : Option Addr) (n1 c1 : Nat) (x2 : Value) (K : Value → WP) : bodyW Tryz.prog Tryz.f72 an72 false [(.slice a0 n0 c0), (.slice a1 n1 c1), x2] K = S72 a0 n0 c0 a1 n1 c1 x2 K := by kernel_rfl
theorem calls72 (a0 : Option Addr) (n0 c0 : Nat) (a1 : Option Addr) (n1 c1 : Nat) (x2 : Value) {K : Value → WP} {w : World} (h : S72 a0 n0 c0 a1 n1 c1 x2 K w) : Calls Tryz.prog 72 #[(.slice a0 n0 c0), (.slice a1 n1 c1), x2] w (Ret K) := callsR_of_bodyW mixed Tryz.func72 (of_decide_eq_true (by kernel_rfl)) (by rw [eq72]; exact h)
def an73 : Ann := (.seq .nil (.seq (.seq .nil (.cond (.seq .nil .nil) .nil)) (.seq (.seq .nil (.block (.loop [(21, .sh (.one .slc))] [] (.seq .nil (.block (.seq .nil (.seq (.seq .nil (.block (.loop [(4, .sh (.one .slc)), (24, .sh (.one (.int .i64)))] [2, 22, 23, 1000000] (.seq .nil (.seq (.cond .nil .nil) (.seq (.block (.seq .nil .nil)) .nil)))))) .nil))))))) (.seq .nil .nil))))
def S73 (x0 : Option Addr) (K : Value → WP) : WP := 
 newW (.cells #[(.slice none 0 0)] 85) fun (r1 : Nat) =>
 splitW (Option.isNone x0) (stW (⟨r1, 0, none⟩ : Addr) (.slice none 0 0) <|
 leaveW Tryz.prog [] <|
 ldW .slc (⟨r1, 0, none⟩ : Addr) fun (u2 : (Option Addr × Nat × Nat)) => K (.slice u2.1 u2.2.1 u2.2.2)) <|
 drewW <|
 ptrW x0 fun (p3 : Addr) =>
 ldW .slc (p3.add 2) fun (u4 : (Option Addr × Nat × Nat)) =>
 ptrW x0 fun (p5 : Addr) =>
 ldW (.int .i64) p5 fun (u6 : Int) =>
 callW Tryz.prog 96 [(.int .i64 u6)] (.one (.one (.int .i64))) fun (u7 : Int) =>
 heldW [[((p3.add 2), (.slice u4.1 u4.2.1 u4.2.2))]] <|
 callW Tryz.prog 103 [(.slice u4.1 u4.2.1 u4.2.2), (.int .i64 (IntKind.wrap .i64 (Int.tdiv u7 (2 : Int))))] (.one (.one .any)) fun (u8 : Value) =>
 rangeW Tryz.prog u8 ((Option Addr × Nat × Nat) × Unit) (fun (t9 : (Option Addr × Nat × Nat) × Unit) => [(.slice t9.1.1 t9.1.2.1 t9.1.2.2)]) (fun (t9 : (Option Addr × Nat × Nat) × Unit) (B10 : WP → WP) (N11 : WP) (Q12 : Code → WP) => B10 (loopW ((Option Addr × Nat × Nat) × Int × Unit) ((none, 0, 0), (0 : Int), ()) fun (y16 : (Option Addr × Nat × Nat) × Int × Unit) (I15 : ((Option Addr × Nat × Nat) × Int × Unit) → WP) =>
 splitW (decide (y16.2.1 < ((t9.1.2.1 : Nat) : Int))) (guardW (0 ≤ y16.2.1 ∧ y16.2.1 < ((t9.1.2.1 : Nat) : Int)) <|
 ptrW t9.1.1 fun (p17 : Addr) =>
 ldW (.int .u16) (p17.add (Int.toNat y16.2.1 * 1)) fun (u18 : Int) =>
 callW Tryz.prog 58 [(.slice y16.1.1 y16.1.2.1 y16.1.2.2), (.int .u64 (IntKind.wrap .u64 u18)), (.int .i64 (2 : Int))] (.one (.one .slc)) fun (u19 : (Option Addr × Nat × Nat)) => I15 ((u19.1, u19.2.1, u19.2.2), (IntKind.wrap .i64 (y16.2.1 + (1 : Int))), ())) <|
 ldW .slc (⟨r1, 0, none⟩ : Addr) fun (u20 : (Option Addr × Nat × Nat)) =>
 runW Tryz.prog (Go.convert 93 9 (.slice y16.1.1 y16.1.2.1 y16.1.2.2)) .str fun (u21 : ByteArray) =>
 newW (.cells #[(.string u21)] 9) fun (r22 : Nat) =>
 runW Tryz.prog (Builtin.append_ #[85, 85] 85 #[(.slice u20.1 u20.2.1 u20.2.2), (.slice (some (⟨r22, 0, none⟩ : Addr)) 1 1)]) .slc fun (u23 : (Option Addr × Nat × Nat)) =>
 stW (⟨r1, 0, none⟩ : Addr) (.slice u23.1 u23.2.1 u23.2.2) <| N11)) fun (r13 : Nat) (p14 : Option Code) =>
 jumpK (ldW .slc (⟨r1, 0, none⟩ : Addr) fun (u24 : (Option Addr × Nat × Nat)) =>
 stW (⟨r1, 0, none⟩ : Addr) (.slice u24.1 u24.2.1 u24.2.2) <|
 leaveW Tryz.prog (⟨.collected r13, #[]⟩ :: []) <|
 ldW .slc (⟨r1, 0, none⟩ : Addr) fun (u25 : (Option Addr × Nat × Nat)) => K (.slice u25.1 u25.2.1 u25.2.2)) (leaveW Tryz.prog (⟨.collected r13, #[]⟩ :: []) <|
 ldW .slc (⟨r1, 0, none⟩ : Addr) fun (u26 : (Option Addr × Nat × Nat)) => K (.slice u26.1 u26.2.1 u26.2.2)) [] p14
theorem eq73 (x0 : Option Addr) (K : Value → WP) : bodyW Tryz.prog Tryz.f73 an73 true [(.pointer x0)] K = S73 x0 K := by kernel_rfl
theorem calls73 (x0 : Option Addr) {K : Value → WP} {w : World} (h : S73 x0 K w) : Calls Tryz.prog 73 #[(.pointer x0)] w (Ret K) := callsR_of_bodyW mixed Tryz.func73 (of_decide_eq_true (by kernel_rfl)) (by rw [eq73]; exact h)
def an74 : Ann := (.seq .nil (.seq (.seq .nil (.cond .nil .nil)) (.seq .nil .nil)))
def S74 (a0 : Option Addr) (n0 c0 : Nat) (x1 : Int) (K : Value → WP) : WP := 
 newW (.cells #[(.slice a0 n0 c0)] 93) fun (r1 : Nat) =>
 newW (.cells #[(.int .i64 x1)] 3) fun (r2 : Nat) =>
 ldW (.int .i64) (⟨r2, 0, none⟩ : Addr) fun (u3 : Int) =>
 splitW (decide (u3 < (1 : Int))) (FalseW) <| K (.func (.func 104) #[] #[(.pointer (some (⟨r1, 0, none⟩ : Addr))), (.pointer (some (⟨r2, 0, none⟩ : Addr)))])
theorem eq74 (a0 : Option Addr) (n0 c0 : Nat) (x1 : Int) (K : Value → WP) : bodyW Tryz.prog Tryz.f74 an74 false [(.slice a0 n0 c0), (.int .i64 x1)] K = S74 a0 n0 c0 x1 K := by kernel_rfl
theorem calls74 (a0 : Option Addr) (n0 c0 : Nat) (x1 : Int) {K : Value → WP} {w : World} (h : S74 a0 n0 c0 x1 K w) : Calls Tryz.prog 74 #[(.slice a0 n0 c0), (.int .i64 x1)] w (Ret K) := callsR_of_bodyW mixed Tryz.func74 (of_decide_eq_true (by kernel_rfl)) (by rw [eq74]; exact h)
def an75 : Ann := (.seq .nil (.seq (.seq .nil (.cond (.seq .nil .nil) .nil)) (.seq (.seq .nil (.block (.loop [(10, .sh (.one (.int .i64))), (11, .sh (.one (.int .u8)))] [] (.seq .nil (.block .nil))))) (.seq .nil .nil))))
def S75 (a0 : Option Addr) (n0 c0 : Nat) (K : Value → WP) : WP := 
 newW (.cells #[(.int .u64 (0 : Int))] 37) fun (r1 : Nat) =>
 splitW (decide (((n0 : Nat) : Int) > (8 : Int))) (stW (⟨r1, 0, none⟩ : Addr) (.int .u64 (0 : Int)) <|
 leaveW Tryz.prog [] <|
 ldW (.int .u64) (⟨r1, 0, none⟩ : Addr) fun (u2 : Int) => K (.int .u64 u2)) <|
 callW Tryz.prog 105 [(.slice a0 n0 c0)] (.one (.one .any)) fun (u3 : Value) =>
 rangeW Tryz.prog u3 (Int × Int × Unit) (fun (t4 : Int × Int × Unit) => [(.int .i64 t4.1), (.int .u8 t4.2.1)]) (fun (t4 : Int × Int × Unit) (B5 : WP → WP) (N6 : WP) (Q7 : Code → WP) => B5 (ldW (.int .u64) (⟨r1, 0, none⟩ : Addr) fun (u10 : Int) =>
 stW (⟨r1, 0, none⟩ : Addr) (.int .u64 (ior .u64 (ishl .u64 u10 (8 : Int)) (IntKind.wrap .u64 t4.2.1))) <| N6)) fun (r8 : Nat) (p9 : Option Code) =>
 jumpK (ldW (.int .u64) (⟨r1, 0, none⟩ : Addr) fun (u11 : Int) =>
 stW (⟨r1, 0, none⟩ : Addr) (.int .u64 u11) <|
 leaveW Tryz.prog (⟨.collected r8, #[]⟩ :: []) <|
 ldW (.int .u64) (⟨r1, 0, none⟩ : Addr) fun (u12 : Int) => K (.int .u64 u12)) (leaveW Tryz.prog (⟨.collected r8, #[]⟩ :: []) <|
 ldW (.int .u64) (⟨r1, 0, none⟩ : Addr) fun (u13 : Int) => K (.int .u64 u13)) [] p9
theorem eq75 (a0 : Option Addr) (n0 c0 : Nat) (K : Value → WP) : bodyW Tryz.prog Tryz.f75 an75 true [(.slice a0 n0 c0)] K = S75 a0 n0 c0 K := by kernel_rfl
theorem calls75 (a0 : Option Addr) (n0 c0 : Nat) {K : Value → WP} {w : World} (h : S75 a0 n0 c0 K w) : Calls Tryz.prog 75 #[(.slice a0 n0 c0)] w (Ret K) := callsR_of_bodyW mixed Tryz.func75 (of_decide_eq_true (by kernel_rfl)) (by rw [eq75]; exact h)
def an76 : Ann := (.seq .nil (.seq (.seq .nil (.cond (.seq .nil .nil) .nil)) (.seq .nil .nil)))
def S76 (a0 : Option Addr) (n0 c0 : Nat) (K : Value → WP) : WP := 
 splitW (Option.isNone a0) (K (.slice none 0 0)) <|
 newW (.cells #[] 138) fun (r1 : Nat) =>
 runW Tryz.prog (Builtin.append_ #[140, 140] 140 #[(.slice (some (⟨r1, 0, none⟩ : Addr)) 0 0), (.slice a0 n0 c0)]) .slc fun (u2 : (Option Addr × Nat × Nat)) => K (.slice u2.1 u2.2.1 u2.2.2)
theorem eq76 (a0 : Option Addr) (n0 c0 : Nat) (K : Value → WP) : bodyW Tryz.prog Tryz.f76 an76 false [(.slice a0 n0 c0)] K = S76 a0 n0 c0 K := by kernel_rfl
theorem calls76 (a0 : Option Addr) (n0 c0 : Nat) {K : Value → WP} {w : World} (h : S76 a0 n0 c0 K w) : Calls Tryz.prog 76 #[(.slice a0 n0 c0)] w (Ret K) := callsR_of_bodyW mixed Tryz.func76 (of_decide_eq_true (by kernel_rfl)) (by rw [eq76]; exact h)
def an77 : Ann := (.seq .nil (.seq .nil .nil))
def S77 (a0 : Option Addr) (n0 c0 : Nat) (K : Value → WP) : WP := 
 newW (.cells #[(.slice a0 n0 c0)] 52) fun (r1 : Nat) => K (.func (.func 106) #[] #[(.pointer (some (⟨r1, 0, none⟩ : Addr)))])
theorem eq77 (a0 : Option Addr) (n0 c0 : Nat) (K : Value → WP) : bodyW Tryz.prog Tryz.f77 an77 false [(.slice a0 n0 c0)] K = S77 a0 n0 c0 K := by kernel_rfl
theorem calls77 (a0 : Option Addr) (n0 c0 : Nat) {K : Value → WP} {w : World} (h : S77 a0 n0 c0 K w) : Calls Tryz.prog 77 #[(.slice a0 n0 c0)] w (Ret K) := callsR_of_bodyW mixed Tryz.func77 (of_decide_eq_true (by kernel_rfl)) (by rw [eq77]; exact h)
def an78 : Ann := (.seq .nil (.seq .nil .nil))
def S78 (a0 : Option Addr) (n0 c0 : Nat) (x1 : Int) (K : Value → WP) : WP := 
 callW Tryz.prog 107 [(.slice a0 n0 c0), (.int .u32 x1)] (.one (.one (.int .i64))) fun (u1 : Int) => K (.bool (decide (u1 ≥ (0 : Int))))
theorem eq78 (a0 : Option Addr) (n0 c0 : Nat) (x1 : Int) (K : Value → WP) : bodyW Tryz.prog Tryz.f78 an78 false [(.slice a0 n0 c0), (.int .u32 x1)] K = S78 a0 n0 c0 x1 K := by kernel_rfl
theorem calls78 (a0 : Option Addr) (n0 c0 : Nat) (x1 : Int) {K : Value → WP} {w : World} (h : S78 a0 n0 c0 x1 K w) : Calls Tryz.prog 78 #[(.slice a0 n0 c0), (.int .u32 x1)] w (Ret K) := callsR_of_bodyW mixed Tryz.func78 (of_decide_eq_true (by kernel_rfl)) (by rw [eq78]; exact h)
def an79 : Ann := (.seq .nil (.block (.loop [(6, .sh (.one (.int .i64)))] [1, 4, 5, 1000000] (.seq .nil (.seq (.cond .nil .nil) (.seq (.block (.seq .nil .nil)) .nil))))))
def S79 (a0 : Addr) (a1 : Addr) (K : Value → WP) : WP := 
 ldW .slc a0 fun (u1 : (Option Addr × Nat × Nat)) =>
 loopW (Int × Unit) ((0 : Int), ()) fun (y3 : Int × Unit) (I2 : (Int × Unit) → WP) =>
 splitW (decide (y3.1 < ((u1.2.1 : Nat) : Int))) (guardW (0 ≤ y3.1 ∧ y3.1 < ((u1.2.1 : Nat) : Int)) <|
 ptrW u1.1 fun (p4 : Addr) =>
 ldW (.int .u32) (p4.add (Int.toNat y3.1 * 1)) fun (u5 : Int) =>
 ldW .ptr a1 fun (u6 : Option Addr) =>
 ptrW u6 fun (p7 : Addr) =>
 ldW .ptr (p7.add 8) fun (u8 : Option Addr) =>
 callW Tryz.prog 44 [(.pointer u8), (.int .u32 u5)] (.many [(.one (.int .i64)), (.one (.int .i64))]) fun (u9 : Int × Int × Unit) => I2 ((IntKind.wrap .i64 (y3.1 + (1 : Int))), ())) <| K (.tuple #[])
theorem eq79 (a0 : Addr) (a1 : Addr) (K : Value → WP) : bodyW Tryz.prog Tryz.f79 an79 false [(.pointer (some a0)), (.pointer (some a1))] K = S79 a0 a1 K := by kernel_rfl
theorem callsD79 (a0 : Addr) (a1 : Addr) {K : Value → WP} {w : World} (h : S79 a0 a1 K w) : DCalls Tryz.prog 79 [(.pointer (some a0)), (.pointer (some a1))] w K := callsD_of_bodyW mixed Tryz.func79 (of_decide_eq_true (by kernel_rfl)) (by rw [eq79]; exact h)
def an80 : Ann := (.seq .nil (.join [] [0, 1, 1000000] (.block (.seq .nil (.cond (.seq .nil .nil) (.seq .nil (.cond (.seq .nil .nil) .nil))))) (.seq (.seq .nil (.block (.loop [(30, .sh (.one (.int .i64)))] [0, 1, 28, 29, 1000000] (.seq .nil (.seq (.cond .nil .nil) (.seq (.block (.seq .nil (.seq .nil (.cond (.seq .nil (.seq .nil .nil)) .nil)))) .nil)))))) (.seq .nil .nil))))
def S80 (x0 : Option Addr) (x1 : Option Addr) (K : Value → WP) : WP := 
 joinW (Unit) (fun (J1 : (Unit) → WP) =>
 splitW (Option.isNone x0) (K (.tuple #[(.int .u32 (0 : Int)), (.int .i64 (1 : Int))])) <|
 drewW <|
 splitW (!(Option.isNone x1)) (ptrW x1 fun (p3 : Addr) =>
 ldAW [(.int .i64), (.int .i64)] p3 fun (u4 : (Int × Int × Unit)) =>
 ptrW x0 fun (p5 : Addr) =>
 ldAW [(.int .i64), (.int .i64)] p5 fun (u6 : (Int × Int × Unit)) =>
 eqW Tryz.prog (eqS .neq 23 (.tmp 18) (.tmp 22) (.agg #[(.int .i64 u4.1), (.int .i64 u4.2.1)]) (.agg #[(.int .i64 u6.1), (.int .i64 u6.2.1)])) fun (b7 : Bool) =>
 splitW b7 (K (.tuple #[(.int .u32 (0 : Int)), (.int .i64 (2 : Int))])) <| J1 ()) <| J1 ()) fun (y2 : Unit) =>
 ptrW x0 fun (p8 : Addr) =>
 ldW .slc (p8.add 2) fun (u9 : (Option Addr × Nat × Nat)) =>
 loopW (Int × Unit) ((0 : Int), ()) fun (y11 : Int × Unit) (I10 : (Int × Unit) → WP) =>
 splitW (decide (y11.1 < ((u9.2.1 : Nat) : Int))) (guardW (0 ≤ y11.1 ∧ y11.1 < ((u9.2.1 : Nat) : Int)) <|
 ptrW u9.1 fun (p12 : Addr) =>
 ldW (.int .u16) (p12.add (Int.toNat y11.1 * 1)) fun (u13 : Int) =>
 splitW (u13 == (0 : Int)) (callW Tryz.prog 42 [(.pointer x1), (.int .u32 (IntKind.wrap .u32 y11.1))] (.one (.one (.int .i64))) fun (u14 : Int) =>
 splitW (u14 == (0 : Int)) (ptrW x0 fun (p15 : Addr) =>
 ldW .slc (p15.add 2) fun (u16 : (Option Addr × Nat × Nat)) =>
 guardW (0 ≤ y11.1 ∧ y11.1 < ((u16.2.1 : Nat) : Int)) <|
 ptrW u16.1 fun (p17 : Addr) =>
 stW (p17.add (Int.toNat y11.1 * 1)) (.int .u16 (1 : Int)) <| K (.tuple #[(.int .u32 (IntKind.wrap .u32 y11.1)), (.int .i64 (0 : Int))])) <| I10 ((IntKind.wrap .i64 (y11.1 + (1 : Int))), ())) <| I10 ((IntKind.wrap .i64 (y11.1 + (1 : Int))), ())) <| K (.tuple #[(.int .u32 (0 : Int)), (.int .i64 (9 : Int))])
theorem eq80 (x0 : Option Addr) (x1 : Option Addr) (K : Value → WP) : bodyW Tryz.prog Tryz.f80 an80 false [(.pointer x0), (.pointer x1)] K = S80 x0 x1 K := by kernel_rfl
theorem calls80 (x0 : Option Addr) (x1 : Option Addr) {K : Value → WP} {w : World} (h : S80 x0 x1 K w) : Calls Tryz.prog 80 #[(.pointer x0), (.pointer x1)] w (Ret K) := callsR_of_bodyW mixed Tryz.func80 (of_decide_eq_true (by kernel_rfl)) (by rw [eq80]; exact h)
def an81 : Ann := (.seq .nil (.seq (.block (.seq .nil (.cond (.seq .nil .nil) (.seq .nil (.cond (.seq .nil .nil) (.seq .nil (.cond (.seq .nil .nil) .nil))))))) (.seq .nil .nil)))
def S81 (x0 : Option Addr) (x1 : Int) (K : Value → WP) : WP := 
 splitW (Option.isNone x0) (K (.tuple #[(.pointer none), (.int .i64 (1 : Int))])) <|
 splitW (decide (x1 < (2 : Int))) (K (.tuple #[(.pointer none), (.int .i64 (2 : Int))])) <|
 ptrW x0 fun (p1 : Addr) =>
 ldW .slc (p1.add 2) fun (u2 : (Option Addr × Nat × Nat)) =>
 splitW (decide ((IntKind.wrap .u64 x1) ≥ (IntKind.wrap .u64 ((u2.2.1 : Nat) : Int)))) (K (.tuple #[(.pointer none), (.int .i64 (2 : Int))])) <|
 ptrW x0 fun (p3 : Addr) =>
 ldW .slc (p3.add 2) fun (u4 : (Option Addr × Nat × Nat)) =>
 guardW (0 ≤ x1 ∧ x1 < ((u4.2.1 : Nat) : Int)) <|
 ptrW u4.1 fun (p5 : Addr) =>
 ldW (.int .u16) (p5.add (Int.toNat x1 * 1)) fun (u6 : Int) =>
 splitW (u6 == (0 : Int)) (K (.tuple #[(.pointer none), (.int .i64 (8 : Int))])) <|
 ptrW x0 fun (p7 : Addr) =>
 ldW .slc (p7.add 2) fun (u8 : (Option Addr × Nat × Nat)) =>
 guardW (0 ≤ x1 ∧ x1 < ((u8.2.1 : Nat) : Int)) <|
 ptrW u8.1 fun (p9 : Addr) => K (.tuple #[(.pointer (some (p9.add (Int.toNat x1 * 1)))), (.int .i64 (0 : Int))])
theorem eq81 (x0 : Option Addr) (x1 : Int) (K : Value → WP) : bodyW Tryz.prog Tryz.f81 an81 false [(.pointer x0), (.int .u32 x1)] K = S81 x0 x1 K := by kernel_rfl
theorem calls81 (x0 : Option Addr) (x1 : Int) {K : Value → WP} {w : World} (h : S81 x0 x1 K w) : Calls Tryz.prog 81 #[(.pointer x0), (.int .u32 x1)] w (Ret K) := callsR_of_bodyW mixed Tryz.func81 (of_decide_eq_true (by kernel_rfl)) (by rw [eq81]; exact h)
def an82 : Ann := (.seq .nil (.seq (.block (.seq .nil (.cond (.seq .nil .nil) (.seq .nil (.cond (.seq .nil .nil) .nil))))) (.seq (.seq .nil (.block (.loop [(17, .sh (.one (.int .i64)))] [0, 15, 16, 1000000] (.seq .nil (.seq (.cond .nil .nil) (.seq (.block (.seq .nil .nil)) .nil)))))) (.seq .nil (.seq .nil .nil)))))
def S82 (x0 : Option Addr) (K : Value → WP) : WP := 
 splitW (Option.isNone x0) (K (.int .i64 (1 : Int))) <|
 callW Tryz.prog 108 [(.pointer x0)] (.one (.one .bool)) fun (u1 : Bool) =>
 splitW (!u1) (K (.int .i64 (8 : Int))) <|
 ptrW x0 fun (p2 : Addr) =>
 ldW .slc (p2.add 3) fun (u3 : (Option Addr × Nat × Nat)) =>
 loopW (Int × Unit) ((0 : Int), ()) fun (y5 : Int × Unit) (I4 : (Int × Unit) → WP) =>
 splitW (decide (y5.1 < ((u3.2.1 : Nat) : Int))) (guardW (0 ≤ y5.1 ∧ y5.1 < ((u3.2.1 : Nat) : Int)) <|
 ptrW u3.1 fun (p6 : Addr) =>
 ldAW [(.int .i64), .str] (p6.add (Int.toNat y5.1 * 2)) fun (u7 : (Int × ByteArray × Unit)) =>
 newW (.cells #[(.int .i64 (0 : Int)), (.string ByteArray.empty)] 99) fun (r8 : Nat) =>
 guardW ((#[(.int .i64 u7.1), (.string u7.2.1)] : Array Value).size = 2) <|
 stAW (⟨r8, 0, none⟩ : Addr) [(.int .i64 u7.1), (.string u7.2.1)] <|
 drewW <|
 ptrW x0 fun (p9 : Addr) =>
 ldW .slc (p9.add 2) fun (u10 : (Option Addr × Nat × Nat)) =>
 ldW (.int .i64) (⟨r8, 0, none⟩ : Addr) fun (u11 : Int) =>
 ldW .str ((⟨r8, 0, none⟩ : Addr).add 1) fun (u12 : ByteArray) =>
 guardW (0 ≤ u11 ∧ u11 < ((u10.2.1 : Nat) : Int)) <|
 ptrW u10.1 fun (p13 : Addr) =>
 stW (p13.add (Int.toNat u11 * 1)) (.string u12) <| I4 ((IntKind.wrap .i64 (y5.1 + (1 : Int))), ())) <|
 ptrW x0 fun (p14 : Addr) =>
 stW (p14.add 3) (.slice none 0 0) <| K (.int .i64 (0 : Int))
theorem eq82 (x0 : Option Addr) (K : Value → WP) : bodyW Tryz.prog Tryz.f82 an82 false [(.pointer x0)] K = S82 x0 K := by kernel_rfl
theorem calls82 (x0 : Option Addr) {K : Value → WP} {w : World} (h : S82 x0 K w) : Calls Tryz.prog 82 #[(.pointer x0)] w (Ret K) := callsR_of_bodyW mixed Tryz.func82 (of_decide_eq_true (by kernel_rfl)) (by rw [eq82]; exact h)
def an83 : Ann := (.seq .nil (.seq (.seq .nil (.seq .nil (.cond (.seq .nil .nil) .nil))) (.seq .nil (.seq (.seq .nil (.block (.loop [(5, .sh (.one .slc)), (28, .sh (.one (.int .i64)))] [1, 26, 27, 1000000] (.seq .nil (.seq (.cond .nil .nil) (.seq (.block (.seq .nil .nil)) .nil)))))) (.seq .nil (.seq (.seq .nil (.block (.loop [(5, .sh (.one .slc)), (45, .sh (.one (.int .i64)))] [1, 43, 44, 1000000] (.seq .nil (.seq (.cond .nil .nil) (.seq (.block (.seq .nil .nil)) .nil)))))) (.seq .nil .nil)))))))
def S83 (x0_0 : Int) (x0_1 : Int) (x0_2 : Int) (x0_3 : Int) (a0_4 : Option Addr) (n0_4 c0_4 : Nat) (K : Value → WP) : WP := 
 newW (.cells #[(.int .u64 x0_0), (.int .i64 x0_1), (.int .i64 x0_2), (.int .u32 x0_3), (.slice a0_4 n0_4 c0_4)] 79) fun (r1 : Nat) =>
 ldAW [(.int .u64), (.int .i64), (.int .i64), (.int .u32), .slc] (⟨r1, 0, none⟩ : Addr) fun (u2 : (Int × Int × Int × Int × (Option Addr × Nat × Nat) × Unit)) =>
 callW Tryz.prog 93 [(.agg #[(.int .u64 u2.1), (.int .i64 u2.2.1), (.int .i64 u2.2.2.1), (.int .u32 u2.2.2.2.1), (.slice u2.2.2.2.2.1.1 u2.2.2.2.2.1.2.1 u2.2.2.2.2.1.2.2)])] (.one (.one (.int .i64))) fun (u3 : Int) =>
 splitW (u3 != (0 : Int)) (K (.tuple #[(.string (ByteArray.mk #[])), (.int .i64 u3)])) <|
 ldW (.int .i64) ((⟨r1, 0, none⟩ : Addr).add 1) fun (u4 : Int) =>
 ldW (.int .i64) (((⟨r1, 0, none⟩ : Addr).add 1).add 1) fun (u5 : Int) =>
 ldW (.int .u32) ((⟨r1, 0, none⟩ : Addr).add 3) fun (u6 : Int) =>
 newW (.cells #[(.int .u64 (IntKind.wrap .u64 u4)), (.int .u64 (IntKind.wrap .u64 u5)), (.int .u64 (IntKind.wrap .u64 u6))] 37) fun (r7 : Nat) =>
 loopW ((Option Addr × Nat × Nat) × Int × Unit) ((none, 0, 0), (0 : Int), ()) fun (y9 : (Option Addr × Nat × Nat) × Int × Unit) (I8 : ((Option Addr × Nat × Nat) × Int × Unit) → WP) =>
 splitW (decide (y9.2.1 < ((3 : Nat) : Int))) (guardW (0 ≤ y9.2.1 ∧ y9.2.1 < ((3 : Nat) : Int)) <|
 ptrW (some (⟨r7, 0, none⟩ : Addr)) fun (p10 : Addr) =>
 ldW (.int .u64) (p10.add (Int.toNat y9.2.1 * 1)) fun (u11 : Int) =>
 callW Tryz.prog 58 [(.slice y9.1.1 y9.1.2.1 y9.1.2.2), (.int .u64 u11), (.int .i64 (4 : Int))] (.one (.one .slc)) fun (u12 : (Option Addr × Nat × Nat)) => I8 ((u12.1, u12.2.1, u12.2.2), (IntKind.wrap .i64 (y9.2.1 + (1 : Int))), ())) <|
 ldW .slc ((⟨r1, 0, none⟩ : Addr).add 4) fun (u13 : (Option Addr × Nat × Nat)) =>
 callW Tryz.prog 58 [(.slice y9.1.1 y9.1.2.1 y9.1.2.2), (.int .u64 (IntKind.wrap .u64 ((u13.2.1 : Nat) : Int))), (.int .i64 (2 : Int))] (.one (.one .slc)) fun (u14 : (Option Addr × Nat × Nat)) =>
 ldW .slc ((⟨r1, 0, none⟩ : Addr).add 4) fun (u15 : (Option Addr × Nat × Nat)) =>
 loopW ((Option Addr × Nat × Nat) × Int × Unit) ((u14.1, u14.2.1, u14.2.2), (0 : Int), ()) fun (y17 : (Option Addr × Nat × Nat) × Int × Unit) (I16 : ((Option Addr × Nat × Nat) × Int × Unit) → WP) =>
 splitW (decide (y17.2.1 < ((u15.2.1 : Nat) : Int))) (guardW (0 ≤ y17.2.1 ∧ y17.2.1 < ((u15.2.1 : Nat) : Int)) <|
 ptrW u15.1 fun (p18 : Addr) =>
 ldW (.int .u32) (p18.add (Int.toNat y17.2.1 * 1)) fun (u19 : Int) =>
 callW Tryz.prog 58 [(.slice y17.1.1 y17.1.2.1 y17.1.2.2), (.int .u64 (IntKind.wrap .u64 u19)), (.int .i64 (4 : Int))] (.one (.one .slc)) fun (u20 : (Option Addr × Nat × Nat)) => I16 ((u20.1, u20.2.1, u20.2.2), (IntKind.wrap .i64 (y17.2.1 + (1 : Int))), ())) <|
 ldW (.int .i64) ((⟨r1, 0, none⟩ : Addr).add 1) fun (u21 : Int) =>
 ldW (.int .u64) (⟨r1, 0, none⟩ : Addr) fun (u22 : Int) =>
 runW Tryz.prog (Go.convert 93 9 (.slice y17.1.1 y17.1.2.1 y17.1.2.2)) .str fun (u23 : ByteArray) =>
 callW Tryz.prog 97 [(.int .i64 u21), (.agg #[(.int .u8 (1 : Int)), (.int .u64 u22), (.string u23)])] (.many [(.one .str), (.one (.int .i64))]) fun (u24 : ByteArray × Int × Unit) => K (.tuple #[(.string u24.1), (.int .i64 u24.2.1)])
theorem eq83 (x0_0 : Int) (x0_1 : Int) (x0_2 : Int) (x0_3 : Int) (a0_4 : Option Addr) (n0_4 c0_4 : Nat) (K : Value → WP) : bodyW Tryz.prog Tryz.f83 an83 false [(.agg #[(.int .u64 x0_0), (.int .i64 x0_1), (.int .i64 x0_2), (.int .u32 x0_3), (.slice a0_4 n0_4 c0_4)])] K = S83 x0_0 x0_1 x0_2 x0_3 a0_4 n0_4 c0_4 K := by kernel_rfl
theorem calls83 (x0_0 : Int) (x0_1 : Int) (x0_2 : Int) (x0_3 : Int) (a0_4 : Option Addr) (n0_4 c0_4 : Nat) {K : Value → WP} {w : World} (h : S83 x0_0 x0_1 x0_2 x0_3 a0_4 n0_4 c0_4 K w) : Calls Tryz.prog 83 #[(.agg #[(.int .u64 x0_0), (.int .i64 x0_1), (.int .i64 x0_2), (.int .u32 x0_3), (.slice a0_4 n0_4 c0_4)])] w (Ret K) := callsR_of_bodyW mixed Tryz.func83 (of_decide_eq_true (by kernel_rfl)) (by rw [eq83]; exact h)
def an84 : Ann := (.seq .nil (.seq (.block (.seq .nil (.cond (.seq .nil .nil) (.seq .nil (.cond (.seq .nil .nil) (.seq .nil (.cond (.seq .nil .nil) .nil))))))) (.seq .nil (.seq .nil .nil))))
def S84 (x0 : Option Addr) (x1 : Int) (x2 : ByteArray) (K : Value → WP) : WP := 
 splitW (Option.isNone x0) (K (.int .i64 (1 : Int))) <|
 callW Tryz.prog 39 [(.pointer x0), (.int .i64 x1)] (.one (.one .bool)) fun (u1 : Bool) =>
 splitW (!u1) (K (.int .i64 (2 : Int))) <|
 ptrW x0 fun (p2 : Addr) =>
 ldW (.int .i64) p2 fun (u3 : Int) =>
 splitW (((x2.size : Nat) : Int) != u3) (K (.int .i64 (2 : Int))) <|
 callW Tryz.prog 108 [(.pointer x0)] (.one (.one .bool)) fun (u4 : Bool) =>
 splitW (!u4) (K (.int .i64 (8 : Int))) <|
 ptrW x0 fun (p5 : Addr) =>
 ldW .slc (p5.add 3) fun (u6 : (Option Addr × Nat × Nat)) =>
 newW (.cells #[(.int .i64 x1), (.string x2)] 99) fun (r7 : Nat) =>
 runW Tryz.prog (Builtin.append_ #[52, 52] 52 #[(.slice u6.1 u6.2.1 u6.2.2), (.slice (some (⟨r7, 0, none⟩ : Addr)) 1 1)]) .slc fun (u8 : (Option Addr × Nat × Nat)) =>
 ptrW x0 fun (p9 : Addr) =>
 stW (p9.add 3) (.slice u8.1 u8.2.1 u8.2.2) <| K (.int .i64 (0 : Int))
theorem eq84 (x0 : Option Addr) (x1 : Int) (x2 : ByteArray) (K : Value → WP) : bodyW Tryz.prog Tryz.f84 an84 false [(.pointer x0), (.int .i64 x1), (.string x2)] K = S84 x0 x1 x2 K := by kernel_rfl
theorem calls84 (x0 : Option Addr) (x1 : Int) (x2 : ByteArray) {K : Value → WP} {w : World} (h : S84 x0 x1 x2 K w) : Calls Tryz.prog 84 #[(.pointer x0), (.int .i64 x1), (.string x2)] w (Ret K) := callsR_of_bodyW mixed Tryz.func84 (of_decide_eq_true (by kernel_rfl)) (by rw [eq84]; exact h)
def an85 : Ann := (.block (.loop [] [0, 1, 1000000] (.seq (.seq .nil (.cond .nil .nil)) (.seq (.block (.seq .nil (.cond .nil .nil))) .nil))))
def S85 (x0 : Value) (a1 : Addr) (K : Value → WP) : WP := 
 loopW (Unit) () fun (y2 : Unit) (I1 : (Unit) → WP) =>
 ldW (.int .u64) a1 fun (u3 : Int) =>
 splitW (u3 != (0 : Int)) (ldW (.int .u64) a1 fun (u4 : Int) =>
 callW Tryz.prog 86 [(.int .u64 u4)] (.one (.one (.int .i64))) fun (u5 : Int) =>
 callVW Tryz.prog x0 [(.int .i64 u5)] (.one (.one .bool)) fun (u6 : Bool) =>
 splitW (!u6) (K (.tuple #[])) <|
 ldW (.int .u64) a1 fun (u7 : Int) =>
 ldW (.int .u64) a1 fun (u8 : Int) =>
 stW a1 (.int .u64 (iand .u64 u7 (IntKind.wrap .u64 (u8 - (1 : Int))))) <| I1 ()) <| K (.tuple #[])
theorem eq85 (x0 : Value) (a1 : Addr) (K : Value → WP) : bodyW Tryz.prog Tryz.f85 an85 false [x0, (.pointer (some a1))] K = S85 x0 a1 K := by kernel_rfl
theorem calls85 (x0 : Value) (a1 : Addr) {K : Value → WP} {w : World} (h : S85 x0 a1 K w) : Calls Tryz.prog 85 #[x0, (.pointer (some a1))] w (Ret K) := callsR_of_bodyW mixed Tryz.func85 (of_decide_eq_true (by kernel_rfl)) (by rw [eq85]; exact h)
def an86 : Ann := (.seq .nil (.seq (.seq .nil (.cond (.seq .nil .nil) .nil)) (.seq .nil .nil)))
def S86 (x0 : Int) (K : Value → WP) : WP := 
 splitW (x0 == (0 : Int)) (K (.int .i64 (64 : Int))) <|
 guardW (0 ≤ (ishr .u64 (IntKind.wrap .u64 ((iand .u64 x0 (IntKind.wrap .u64 (0 - x0))) * (285870213051353865 : Int))) (58 : Int)) ∧ (ishr .u64 (IntKind.wrap .u64 ((iand .u64 x0 (IntKind.wrap .u64 (0 - x0))) * (285870213051353865 : Int))) (58 : Int)) < ((64 : Nat) : Int)) <|
 ldW (.int .u8) ((⟨0, 0, none⟩ : Addr).add (Int.toNat (ishr .u64 (IntKind.wrap .u64 ((iand .u64 x0 (IntKind.wrap .u64 (0 - x0))) * (285870213051353865 : Int))) (58 : Int)) * 1)) fun (u1 : Int) => K (.int .i64 (IntKind.wrap .i64 u1))
theorem eq86 (x0 : Int) (K : Value → WP) : bodyW Tryz.prog Tryz.f86 an86 false [(.int .u64 x0)] K = S86 x0 K := by kernel_rfl
theorem calls86 (x0 : Int) {K : Value → WP} {w : World} (h : S86 x0 K w) : Calls Tryz.prog 86 #[(.int .u64 x0)] w (Ret K) := callsR_of_bodyW mixed Tryz.func86 (of_decide_eq_true (by kernel_rfl)) (by rw [eq86]; exact h)
def an87 : Ann := (.seq .nil (.seq .nil (.seq (.seq .nil (.cond (.seq .nil .nil) .nil)) (.seq .nil .nil))))
def S87 (x0 : ByteArray) (x1 : Int) (K : Value → WP) : WP := 
 newW (.cells #[(.int .u8 (0 : Int)), (.int .u64 (0 : Int)), (.string ByteArray.empty)] 87) fun (r1 : Nat) =>
 callW Tryz.prog 109 [(.string x0)] (.many [(.agg [(.int .u8), (.int .u64), .str]), (.one (.int .i64))]) fun (u2 : (Int × Int × ByteArray × Unit) × Int × Unit) =>
 newW (.cells #[(.int .u8 (0 : Int)), (.int .u64 (0 : Int)), (.string ByteArray.empty)] 87) fun (r3 : Nat) =>
 guardW ((#[(.int .u8 u2.1.1), (.int .u64 u2.1.2.1), (.string u2.1.2.2.1)] : Array Value).size = 3) <|
 stAW (⟨r3, 0, none⟩ : Addr) [(.int .u8 u2.1.1), (.int .u64 u2.1.2.1), (.string u2.1.2.2.1)] <|
 splitW (u2.2.1 == (0 : Int)) (ldW (.int .u8) (⟨r3, 0, none⟩ : Addr) fun (u4 : Int) =>
 splitW (u4 != x1) (guardW ((#[(.int .u8 (0 : Int)), (.int .u64 (0 : Int)), (.string ByteArray.empty)] : Array Value).size = 3) <|
 stAW (⟨r1, 0, none⟩ : Addr) [(.int .u8 (0 : Int)), (.int .u64 (0 : Int)), (.string ByteArray.empty)] <|
 ldAW [(.int .u8), (.int .u64), .str] (⟨r1, 0, none⟩ : Addr) fun (u5 : (Int × Int × ByteArray × Unit)) => K (.tuple #[(.agg #[(.int .u8 u5.1), (.int .u64 u5.2.1), (.string u5.2.2.1)]), (.int .i64 (11 : Int))])) <|
 ldAW [(.int .u8), (.int .u64), .str] (⟨r3, 0, none⟩ : Addr) fun (u6 : (Int × Int × ByteArray × Unit)) =>
 guardW ((#[(.int .u8 u6.1), (.int .u64 u6.2.1), (.string u6.2.2.1)] : Array Value).size = 3) <|
 stAW (⟨r1, 0, none⟩ : Addr) [(.int .u8 u6.1), (.int .u64 u6.2.1), (.string u6.2.2.1)] <|
 ldAW [(.int .u8), (.int .u64), .str] (⟨r1, 0, none⟩ : Addr) fun (u7 : (Int × Int × ByteArray × Unit)) => K (.tuple #[(.agg #[(.int .u8 u7.1), (.int .u64 u7.2.1), (.string u7.2.2.1)]), (.int .i64 u2.2.1)])) <|
 ldAW [(.int .u8), (.int .u64), .str] (⟨r3, 0, none⟩ : Addr) fun (u8 : (Int × Int × ByteArray × Unit)) =>
 guardW ((#[(.int .u8 u8.1), (.int .u64 u8.2.1), (.string u8.2.2.1)] : Array Value).size = 3) <|
 stAW (⟨r1, 0, none⟩ : Addr) [(.int .u8 u8.1), (.int .u64 u8.2.1), (.string u8.2.2.1)] <|
 ldAW [(.int .u8), (.int .u64), .str] (⟨r1, 0, none⟩ : Addr) fun (u9 : (Int × Int × ByteArray × Unit)) => K (.tuple #[(.agg #[(.int .u8 u9.1), (.int .u64 u9.2.1), (.string u9.2.2.1)]), (.int .i64 u2.2.1)])
theorem eq87 (x0 : ByteArray) (x1 : Int) (K : Value → WP) : bodyW Tryz.prog Tryz.f87 an87 false [(.string x0), (.int .u8 x1)] K = S87 x0 x1 K := by kernel_rfl
theorem calls87 (x0 : ByteArray) (x1 : Int) {K : Value → WP} {w : World} (h : S87 x0 x1 K w) : Calls Tryz.prog 87 #[(.string x0), (.int .u8 x1)] w (Ret K) := callsR_of_bodyW mixed Tryz.func87 (of_decide_eq_true (by kernel_rfl)) (by rw [eq87]; exact h)
def an88 : Ann := (.seq .nil (.seq .nil (.seq (.seq .nil (.cond (.seq .nil .nil) .nil)) (.seq (.seq .nil (.block (.loop [(3, .sh (.one (.int .u64))), (4, .sh (.one (.int .i64)))] [0, 1000000] (.seq (.seq .nil (.cond .nil .nil)) (.seq (.block .nil) .nil))))) (.seq .nil .nil)))))
def S88 (a0 : Option Addr) (n0 c0 : Nat) (K : Value → WP) : WP := 
 splitW (decide (((n0 : Nat) : Int) > (8 : Int))) (K (.int .u64 (0 : Int))) <|
 loopW (Int × Int × Unit) ((0 : Int), (0 : Int), ()) fun (y2 : Int × Int × Unit) (I1 : (Int × Int × Unit) → WP) =>
 splitW (decide (y2.2.1 < ((n0 : Nat) : Int))) (guardW (0 ≤ y2.2.1 ∧ y2.2.1 < ((n0 : Nat) : Int)) <|
 ptrW a0 fun (p3 : Addr) =>
 ldW (.int .u8) (p3.add (Int.toNat y2.2.1 * 1)) fun (u4 : Int) =>
 guardW (0 ≤ (IntKind.wrap .u64 (IntKind.wrap .i64 ((8 : Int) * y2.2.1)))) <| I1 ((ior .u64 y2.1 (ishl .u64 (IntKind.wrap .u64 u4) (IntKind.wrap .u64 (IntKind.wrap .i64 ((8 : Int) * y2.2.1))))), (IntKind.wrap .i64 (y2.2.1 + (1 : Int))), ())) <| K (.int .u64 y2.1)
theorem eq88 (a0 : Option Addr) (n0 c0 : Nat) (K : Value → WP) : bodyW Tryz.prog Tryz.f88 an88 false [(.slice a0 n0 c0)] K = S88 a0 n0 c0 K := by kernel_rfl
theorem calls88 (a0 : Option Addr) (n0 c0 : Nat) {K : Value → WP} {w : World} (h : S88 a0 n0 c0 K w) : Calls Tryz.prog 88 #[(.slice a0 n0 c0)] w (Ret K) := callsR_of_bodyW mixed Tryz.func88 (of_decide_eq_true (by kernel_rfl)) (by rw [eq88]; exact h)
def an89 : Ann := (.seq .nil (.seq .nil (.seq (.seq .nil (.cond (.seq .nil .nil) .nil)) (.seq .nil (.seq .nil (.seq .nil (.seq .nil (.seq (.seq .nil (.block (.loop [(5, .sh (.one .slc)), (6, .sh (.one (.int .i64)))] [1, 1000000] (.seq (.seq .nil (.cond .nil .nil)) (.seq (.block .nil) .nil))))) (.seq .nil .nil)))))))))
def S89 (x0_0 : Int) (x0_1 : Int) (x0_2 : Int) (x0_3 : Int) (a0_4 : Option Addr) (n0_4 c0_4 : Nat) (K : Value → WP) : WP := 
 newW (.cells #[(.int .u64 x0_0), (.int .i64 x0_1), (.int .i64 x0_2), (.int .u32 x0_3), (.slice a0_4 n0_4 c0_4)] 79) fun (r1 : Nat) =>
 ldAW [(.int .u64), (.int .i64), (.int .i64), (.int .u32), .slc] (⟨r1, 0, none⟩ : Addr) fun (u2 : (Int × Int × Int × Int × (Option Addr × Nat × Nat) × Unit)) =>
 callW Tryz.prog 110 [(.agg #[(.int .u64 u2.1), (.int .i64 u2.2.1), (.int .i64 u2.2.2.1), (.int .u32 u2.2.2.2.1), (.slice u2.2.2.2.2.1.1 u2.2.2.2.2.1.2.1 u2.2.2.2.2.1.2.2)])] (.one (.one (.int .i64))) fun (u3 : Int) =>
 splitW (u3 != (0 : Int)) (K (.tuple #[(.string (ByteArray.mk #[])), (.int .i64 u3)])) <|
 ldW (.int .i64) ((⟨r1, 0, none⟩ : Addr).add 1) fun (u4 : Int) =>
 callW Tryz.prog 111 [(.slice none 0 0), (.int .u64 (IntKind.wrap .u64 u4)), (.int .i64 (4 : Int))] (.one (.one .slc)) fun (u5 : (Option Addr × Nat × Nat)) =>
 ldW (.int .i64) (((⟨r1, 0, none⟩ : Addr).add 1).add 1) fun (u6 : Int) =>
 callW Tryz.prog 111 [(.slice u5.1 u5.2.1 u5.2.2), (.int .u64 (IntKind.wrap .u64 u6)), (.int .i64 (4 : Int))] (.one (.one .slc)) fun (u7 : (Option Addr × Nat × Nat)) =>
 ldW (.int .u32) ((⟨r1, 0, none⟩ : Addr).add 3) fun (u8 : Int) =>
 callW Tryz.prog 111 [(.slice u7.1 u7.2.1 u7.2.2), (.int .u64 (IntKind.wrap .u64 u8)), (.int .i64 (4 : Int))] (.one (.one .slc)) fun (u9 : (Option Addr × Nat × Nat)) =>
 ldW .slc ((⟨r1, 0, none⟩ : Addr).add 4) fun (u10 : (Option Addr × Nat × Nat)) =>
 callW Tryz.prog 111 [(.slice u9.1 u9.2.1 u9.2.2), (.int .u64 (IntKind.wrap .u64 ((u10.2.1 : Nat) : Int))), (.int .i64 (2 : Int))] (.one (.one .slc)) fun (u11 : (Option Addr × Nat × Nat)) =>
 loopW ((Option Addr × Nat × Nat) × Int × Unit) ((u11.1, u11.2.1, u11.2.2), (0 : Int), ()) fun (y13 : (Option Addr × Nat × Nat) × Int × Unit) (I12 : ((Option Addr × Nat × Nat) × Int × Unit) → WP) =>
 ldW .slc ((⟨r1, 0, none⟩ : Addr).add 4) fun (u14 : (Option Addr × Nat × Nat)) =>
 splitW (decide (y13.2.1 < ((u14.2.1 : Nat) : Int))) (ldW .slc ((⟨r1, 0, none⟩ : Addr).add 4) fun (u15 : (Option Addr × Nat × Nat)) =>
 guardW (0 ≤ y13.2.1 ∧ y13.2.1 < ((u15.2.1 : Nat) : Int)) <|
 ptrW u15.1 fun (p16 : Addr) =>
 ldW (.int .u32) (p16.add (Int.toNat y13.2.1 * 1)) fun (u17 : Int) =>
 callW Tryz.prog 111 [(.slice y13.1.1 y13.1.2.1 y13.1.2.2), (.int .u64 (IntKind.wrap .u64 u17)), (.int .i64 (4 : Int))] (.one (.one .slc)) fun (u18 : (Option Addr × Nat × Nat)) => I12 ((u18.1, u18.2.1, u18.2.2), (IntKind.wrap .i64 (y13.2.1 + (1 : Int))), ())) <|
 ldW (.int .i64) ((⟨r1, 0, none⟩ : Addr).add 1) fun (u19 : Int) =>
 ldW (.int .u64) (⟨r1, 0, none⟩ : Addr) fun (u20 : Int) =>
 runW Tryz.prog (Go.convert 93 9 (.slice y13.1.1 y13.1.2.1 y13.1.2.2)) .str fun (u21 : ByteArray) =>
 callW Tryz.prog 112 [(.int .i64 u19), (.agg #[(.int .u8 (1 : Int)), (.int .u64 u20), (.string u21)])] (.many [(.one .str), (.one (.int .i64))]) fun (u22 : ByteArray × Int × Unit) => K (.tuple #[(.string u22.1), (.int .i64 u22.2.1)])
theorem eq89 (x0_0 : Int) (x0_1 : Int) (x0_2 : Int) (x0_3 : Int) (a0_4 : Option Addr) (n0_4 c0_4 : Nat) (K : Value → WP) : bodyW Tryz.prog Tryz.f89 an89 false [(.agg #[(.int .u64 x0_0), (.int .i64 x0_1), (.int .i64 x0_2), (.int .u32 x0_3), (.slice a0_4 n0_4 c0_4)])] K = S89 x0_0 x0_1 x0_2 x0_3 a0_4 n0_4 c0_4 K := by kernel_rfl
theorem calls89 (x0_0 : Int) (x0_1 : Int) (x0_2 : Int) (x0_3 : Int) (a0_4 : Option Addr) (n0_4 c0_4 : Nat) {K : Value → WP} {w : World} (h : S89 x0_0 x0_1 x0_2 x0_3 a0_4 n0_4 c0_4 K w) : Calls Tryz.prog 89 #[(.agg #[(.int .u64 x0_0), (.int .i64 x0_1), (.int .i64 x0_2), (.int .u32 x0_3), (.slice a0_4 n0_4 c0_4)])] w (Ret K) := callsR_of_bodyW mixed Tryz.func89 (of_decide_eq_true (by kernel_rfl)) (by rw [eq89]; exact h)
def an90 : Ann := (.seq .nil (.seq (.seq .nil (.cond (.seq .nil .nil) .nil)) (.seq .nil .nil)))
def S90 (x0_0 : Int) (x0_1 : Int) (K : Value → WP) : WP := 
 newW (.cells #[(.int .i64 x0_0), (.int .i64 x0_1)] 23) fun (r1 : Nat) =>
 ldW (.int .i64) (⟨r1, 0, none⟩ : Addr) fun (u2 : Int) =>
 splitW (decide (u2 < (128 : Int))) (K (.int .i64 (2 : Int))) <|
 ldW (.int .i64) (⟨r1, 0, none⟩ : Addr) fun (u3 : Int) =>
 splitW (decide (u3 > (4096 : Int))) (K (.int .i64 (2 : Int))) <|
 ldW (.int .i64) (⟨r1, 0, none⟩ : Addr) fun (u4 : Int) =>
 splitW ((Int.tmod u4 (64 : Int)) != (0 : Int)) (K (.int .i64 (2 : Int))) <|
 ldW (.int .i64) ((⟨r1, 0, none⟩ : Addr).add 1) fun (u5 : Int) =>
 splitW (decide (u5 < (8 : Int))) (K (.int .i64 (2 : Int))) <|
 ldW (.int .i64) ((⟨r1, 0, none⟩ : Addr).add 1) fun (u6 : Int) =>
 splitW (decide (u6 > (4096 : Int))) (K (.int .i64 (2 : Int))) <| K (.int .i64 (0 : Int))
theorem eq90 (x0_0 : Int) (x0_1 : Int) (K : Value → WP) : bodyW Tryz.prog Tryz.f90 an90 false [(.agg #[(.int .i64 x0_0), (.int .i64 x0_1)])] K = S90 x0_0 x0_1 K := by kernel_rfl
theorem calls90 (x0_0 : Int) (x0_1 : Int) {K : Value → WP} {w : World} (h : S90 x0_0 x0_1 K w) : Calls Tryz.prog 90 #[(.agg #[(.int .i64 x0_0), (.int .i64 x0_1)])] w (Ret K) := callsR_of_bodyW mixed Tryz.func90 (of_decide_eq_true (by kernel_rfl)) (by rw [eq90]; exact h)
def an91 : Ann := (.seq .nil (.join [] [0, 1, 1000000] (.seq .nil (.cond .nil .nil)) (.seq .nil (.join [] [0, 6, 1000000] (.seq .nil (.cond .nil .nil)) (.seq .nil (.seq .nil (.seq (.block (.loop [(8, .sh (.one (.int .i64)))] [7, 1000000] (.seq (.seq .nil (.cond .nil .nil)) (.block .nil)))) (.seq .nil .nil))))))))
def S91 (a0 : Option Addr) (n0 c0 : Nat) (x1 : Int) (K : Value → WP) : WP := 
 joinW (Unit) (fun (J1 : (Unit) → WP) =>
 splitW (decide (x1 < (0 : Int))) (FalseW) <| J1 ()) fun (y2 : Unit) =>
 callW Tryz.prog 113 [(.int .u64 (IntKind.wrap .u64 ((n0 : Nat) : Int))), (.int .u64 (IntKind.wrap .u64 x1))] (.many [(.one (.int .u64)), (.one (.int .u64))]) fun (u3 : Int × Int × Unit) =>
 joinW (Unit) (fun (J4 : (Unit) → WP) =>
 splitW (decide (u3.1 > (0 : Int))) (FalseW) <|
 splitW (decide (u3.2.1 > (9223372036854775807 : Int))) (FalseW) <| J4 ()) fun (y5 : Unit) =>
 runW Tryz.prog (Instr.makeSlice 85 (.int .i64 (IntKind.wrap .i64 u3.2.1)) (.int .i64 (IntKind.wrap .i64 u3.2.1))) .slc fun (u6 : Option Addr × Nat × Nat) =>
 runW Tryz.prog (Builtin.copy_ #[85, 85] 3 #[(.slice u6.1 u6.2.1 u6.2.2), (.slice a0 n0 c0)]) (.int .i64) fun (u7 : Int) =>
 loopW (Int × Unit) (u7, ()) fun (y9 : Int × Unit) (I8 : (Int × Unit) → WP) =>
 splitW (decide (y9.1 < ((u6.2.1 : Nat) : Int))) (drewW <|
 guardW (0 ≤ y9.1 ∧ y9.1 ≤ ((u6.2.1 : Nat) : Int)) <|
 guardW (0 ≤ y9.1 ∧ y9.1 ≤ ((u6.2.2 : Nat) : Int)) <|
 runW Tryz.prog (Builtin.copy_ #[85, 85] 3 #[(.slice (cutAddr u6.1 (Int.toNat y9.1) u6.2.2 1) (u6.2.1 - (Int.toNat y9.1)) (u6.2.2 - (Int.toNat y9.1))), (.slice (cutAddr u6.1 0 u6.2.2 1) (Int.toNat y9.1) u6.2.2)]) (.int .i64) fun (u10 : Int) => I8 ((IntKind.wrap .i64 (y9.1 + u10)), ())) <| K (.slice u6.1 u6.2.1 u6.2.2)
theorem eq91 (a0 : Option Addr) (n0 c0 : Nat) (x1 : Int) (K : Value → WP) : bodyW Tryz.prog Tryz.f91 an91 false [(.slice a0 n0 c0), (.int .i64 x1)] K = S91 a0 n0 c0 x1 K := by kernel_rfl
theorem calls91 (a0 : Option Addr) (n0 c0 : Nat) (x1 : Int) {K : Value → WP} {w : World} (h : S91 a0 n0 c0 x1 K w) : Calls Tryz.prog 91 #[(.slice a0 n0 c0), (.int .i64 x1)] w (Ret K) := callsR_of_bodyW mixed Tryz.func91 (of_decide_eq_true (by kernel_rfl)) (by rw [eq91]; exact h)
def an93 : Ann := (.seq .nil (.seq .nil (.join [] [1, 3, 1000000] (.seq .nil (.cond (.seq .nil .nil) .nil)) (.seq (.seq .nil (.block (.loop [(40, .sh (.one (.int .i64)))] [1, 3, 38, 39, 1000000] (.seq .nil (.seq (.cond .nil .nil) (.seq (.block (.seq .nil (.seq .nil (.cond (.seq .nil .nil) .nil)))) .nil)))))) (.seq (.seq .nil (.cond (.seq .nil .nil) .nil)) (.seq .nil .nil))))))
def S93 (x0_0 : Int) (x0_1 : Int) (x0_2 : Int) (x0_3 : Int) (a0_4 : Option Addr) (n0_4 c0_4 : Nat) (K : Value → WP) : WP := 
 newW (.cells #[(.int .u64 x0_0), (.int .i64 x0_1), (.int .i64 x0_2), (.int .u32 x0_3), (.slice a0_4 n0_4 c0_4)] 79) fun (r1 : Nat) =>
 joinW (Unit) (fun (J2 : (Unit) → WP) =>
 drewW <|
 ldAW [(.int .i64), (.int .i64)] ((⟨r1, 0, none⟩ : Addr).add 1) fun (u4 : (Int × Int × Unit)) =>
 callW Tryz.prog 90 [(.agg #[(.int .i64 u4.1), (.int .i64 u4.2.1)])] (.one (.one (.int .i64))) fun (u5 : Int) =>
 splitW (u5 != (0 : Int)) (K (.int .i64 (2 : Int))) <|
 ldW (.int .u64) (⟨r1, 0, none⟩ : Addr) fun (u6 : Int) =>
 splitW (u6 == (0 : Int)) (K (.int .i64 (2 : Int))) <|
 ldW (.int .u32) ((⟨r1, 0, none⟩ : Addr).add 3) fun (u7 : Int) =>
 splitW (u7 != (0 : Int)) (ldW (.int .u32) ((⟨r1, 0, none⟩ : Addr).add 3) fun (u8 : Int) =>
 callVW Tryz.prog (.func (.func 119) #[] #[(.pointer (some (⟨r1, 0, none⟩ : Addr)))]) [(.int .u32 u8)] (.one (.one .bool)) fun (u9 : Bool) =>
 splitW (!u9) (K (.int .i64 (2 : Int))) <|
 ldW .slc ((⟨r1, 0, none⟩ : Addr).add 4) fun (u10 : (Option Addr × Nat × Nat)) =>
 ldAW [(.int .i64), (.int .i64)] ((⟨r1, 0, none⟩ : Addr).add 1) fun (u11 : (Int × Int × Unit)) =>
 callW Tryz.prog 71 [(.agg #[(.int .i64 u11.1), (.int .i64 u11.2.1)])] (.one (.one (.int .i64))) fun (u12 : Int) =>
 heldW [[(((⟨r1, 0, none⟩ : Addr).add 4), (.slice u10.1 u10.2.1 u10.2.2))]] <|
 splitW (((u10.2.1 : Nat) : Int) != u12) (K (.int .i64 (2 : Int))) <| J2 ()) <|
 ldW .slc ((⟨r1, 0, none⟩ : Addr).add 4) fun (u13 : (Option Addr × Nat × Nat)) =>
 ldAW [(.int .i64), (.int .i64)] ((⟨r1, 0, none⟩ : Addr).add 1) fun (u14 : (Int × Int × Unit)) =>
 callW Tryz.prog 71 [(.agg #[(.int .i64 u14.1), (.int .i64 u14.2.1)])] (.one (.one (.int .i64))) fun (u15 : Int) =>
 heldW [[(((⟨r1, 0, none⟩ : Addr).add 4), (.slice u13.1 u13.2.1 u13.2.2))]] <|
 splitW (((u13.2.1 : Nat) : Int) != u15) (K (.int .i64 (2 : Int))) <| J2 ()) fun (y3 : Unit) =>
 ldW .slc ((⟨r1, 0, none⟩ : Addr).add 4) fun (u16 : (Option Addr × Nat × Nat)) =>
 loopW (Int × Unit) ((0 : Int), ()) fun (y18 : Int × Unit) (I17 : (Int × Unit) → WP) =>
 splitW (decide (y18.1 < ((u16.2.1 : Nat) : Int))) (guardW (0 ≤ y18.1 ∧ y18.1 < ((u16.2.1 : Nat) : Int)) <|
 ptrW u16.1 fun (p19 : Addr) =>
 ldW (.int .u32) (p19.add (Int.toNat y18.1 * 1)) fun (u20 : Int) =>
 callVW Tryz.prog (.func (.func 119) #[] #[(.pointer (some (⟨r1, 0, none⟩ : Addr)))]) [(.int .u32 u20)] (.one (.one .bool)) fun (u21 : Bool) =>
 splitW (!u21) (K (.int .i64 (2 : Int))) <|
 ldW (.int .u32) ((⟨r1, 0, none⟩ : Addr).add 3) fun (u22 : Int) =>
 splitW (u20 == u22) (K (.int .i64 (2 : Int))) <|
 ldW .slc ((⟨r1, 0, none⟩ : Addr).add 4) fun (u23 : (Option Addr × Nat × Nat)) =>
 guardW (0 ≤ y18.1 ∧ y18.1 ≤ ((u23.2.2 : Nat) : Int)) <|
 callW Tryz.prog 78 [(.slice (cutAddr u23.1 0 u23.2.2 1) (Int.toNat y18.1) u23.2.2), (.int .u32 u20)] (.one (.one .bool)) fun (u24 : Bool) =>
 splitW u24 (K (.int .i64 (2 : Int))) <| I17 ((IntKind.wrap .i64 (y18.1 + (1 : Int))), ())) <|
 drewW <|
 ldW .slc ((⟨r1, 0, none⟩ : Addr).add 4) fun (u25 : (Option Addr × Nat × Nat)) =>
 ldW (.int .i64) ((⟨r1, 0, none⟩ : Addr).add 1) fun (u26 : Int) =>
 callW Tryz.prog 96 [(.int .i64 u26)] (.one (.one (.int .i64))) fun (u27 : Int) =>
 heldW [[(((⟨r1, 0, none⟩ : Addr).add 4), (.slice u25.1 u25.2.1 u25.2.2))]] <|
 splitW (decide ((IntKind.wrap .i64 ((14 : Int) + (IntKind.wrap .i64 ((4 : Int) * ((u25.2.1 : Nat) : Int))))) > u27)) (K (.int .i64 (3 : Int))) <| K (.int .i64 (0 : Int))
theorem eq93 (x0_0 : Int) (x0_1 : Int) (x0_2 : Int) (x0_3 : Int) (a0_4 : Option Addr) (n0_4 c0_4 : Nat) (K : Value → WP) : bodyW Tryz.prog Tryz.f93 an93 false [(.agg #[(.int .u64 x0_0), (.int .i64 x0_1), (.int .i64 x0_2), (.int .u32 x0_3), (.slice a0_4 n0_4 c0_4)])] K = S93 x0_0 x0_1 x0_2 x0_3 a0_4 n0_4 c0_4 K := by kernel_rfl
theorem calls93 (x0_0 : Int) (x0_1 : Int) (x0_2 : Int) (x0_3 : Int) (a0_4 : Option Addr) (n0_4 c0_4 : Nat) {K : Value → WP} {w : World} (h : S93 x0_0 x0_1 x0_2 x0_3 a0_4 n0_4 c0_4 K w) : Calls Tryz.prog 93 #[(.agg #[(.int .u64 x0_0), (.int .i64 x0_1), (.int .i64 x0_2), (.int .u32 x0_3), (.slice a0_4 n0_4 c0_4)])] w (Ret K) := callsR_of_bodyW mixed Tryz.func93 (of_decide_eq_true (by kernel_rfl)) (by rw [eq93]; exact h)
def an94 : Ann := (.seq .nil (.block (.loop [(3, .sh (.one (.int .u32)))] [0, 1, 1000000] (.seq (.seq .nil (.cond .nil .nil)) (.seq (.block (.seq .nil (.cond .nil .nil))) .nil)))))
def S94 (x0 : Value) (a1 : Addr) (K : Value → WP) : WP := 
 loopW (Int × Unit) ((2 : Int), ()) fun (y2 : Int × Unit) (I1 : (Int × Unit) → WP) =>
 ldW .ptr a1 fun (u3 : Option Addr) =>
 ptrW u3 fun (p4 : Addr) =>
 ldW (.int .i64) (((p4.add 1).add 1).add 1) fun (u5 : Int) =>
 splitW (decide ((IntKind.wrap .i64 y2.1) < u5)) (drewW <|
 ldW .ptr a1 fun (u6 : Option Addr) =>
 ptrW u6 fun (p7 : Addr) =>
 ldW .ptr (p7.add 8) fun (u8 : Option Addr) =>
 ldW .ptr a1 fun (u9 : Option Addr) =>
 ptrW u9 fun (p10 : Addr) =>
 ldW .ptr (p10.add 7) fun (u11 : Option Addr) =>
 ldW .ptr a1 fun (u12 : Option Addr) =>
 ptrW u12 fun (p13 : Addr) =>
 ldW .ptr (p13.add 9) fun (u14 : Option Addr) =>
 callW Tryz.prog 42 [(.pointer u8), (.int .u32 y2.1)] (.one (.one (.int .i64))) fun (u15 : Int) =>
 heldW [[((p13.add 9), (.pointer u14))], [(a1, (.pointer u12))], [((p10.add 7), (.pointer u11))], [(a1, (.pointer u9))]] <|
 callW Tryz.prog 42 [(.pointer u11), (.int .u32 y2.1)] (.one (.one (.int .i64))) fun (u16 : Int) =>
 heldW [[((p13.add 9), (.pointer u14))], [(a1, (.pointer u12))]] <|
 callW Tryz.prog 42 [(.pointer u14), (.int .u32 y2.1)] (.one (.one (.int .i64))) fun (u17 : Int) =>
 splitW ((IntKind.wrap .i64 ((IntKind.wrap .i64 (u15 + u16)) + u17)) == (0 : Int)) (callVW Tryz.prog x0 [(.int .u32 y2.1)] (.one (.one .bool)) fun (u18 : Bool) =>
 splitW (!u18) (K (.tuple #[])) <| I1 ((IntKind.wrap .u32 (y2.1 + (1 : Int))), ())) <| I1 ((IntKind.wrap .u32 (y2.1 + (1 : Int))), ())) <| K (.tuple #[])
theorem eq94 (x0 : Value) (a1 : Addr) (K : Value → WP) : bodyW Tryz.prog Tryz.f94 an94 false [x0, (.pointer (some a1))] K = S94 x0 a1 K := by kernel_rfl
theorem calls94 (x0 : Value) (a1 : Addr) {K : Value → WP} {w : World} (h : S94 x0 a1 K w) : Calls Tryz.prog 94 #[x0, (.pointer (some a1))] w (Ret K) := callsR_of_bodyW mixed Tryz.func94 (of_decide_eq_true (by kernel_rfl)) (by rw [eq94]; exact h)
def an95 : Ann := (.seq .nil (.seq (.seq .nil (.block (.loop [(8, .sh (.one (.int .i64)))] [0, 1, 7, 1000000] (.seq .nil (.seq (.cond .nil .nil) (.seq (.block (.seq .nil (.seq .nil (.cond (.seq .nil .nil) .nil)))) .nil)))))) (.seq .nil .nil)))
def S95 (a0 : Option Addr) (n0 c0 : Nat) (x1 : Value) (K : Value → WP) : WP := 
 loopW (Int × Unit) ((0 : Int), ()) fun (y2 : Int × Unit) (I1 : (Int × Unit) → WP) =>
 splitW (decide (y2.1 < ((n0 : Nat) : Int))) (guardW (0 ≤ y2.1 ∧ y2.1 < ((n0 : Nat) : Int)) <|
 ptrW a0 fun (p3 : Addr) =>
 ldW (.int .u32) (p3.add (Int.toNat y2.1 * 1)) fun (u4 : Int) =>
 callVW Tryz.prog x1 [(.int .u32 u4)] (.one (.one .bool)) fun (u5 : Bool) =>
 splitW u5 (K (.int .i64 y2.1)) <| I1 ((IntKind.wrap .i64 (y2.1 + (1 : Int))), ())) <| K (.int .i64 (-1 : Int))
theorem eq95 (a0 : Option Addr) (n0 c0 : Nat) (x1 : Value) (K : Value → WP) : bodyW Tryz.prog Tryz.f95 an95 false [(.slice a0 n0 c0), x1] K = S95 a0 n0 c0 x1 K := by kernel_rfl
theorem calls95 (a0 : Option Addr) (n0 c0 : Nat) (x1 : Value) {K : Value → WP} {w : World} (h : S95 a0 n0 c0 x1 K w) : Calls Tryz.prog 95 #[(.slice a0 n0 c0), x1] w (Ret K) := callsR_of_bodyW mixed Tryz.func95 (of_decide_eq_true (by kernel_rfl)) (by rw [eq95]; exact h)
def an96 : Ann := (.seq .nil (.seq (.seq .nil (.cond (.seq .nil .nil) .nil)) (.seq .nil .nil)))
def S96 (x0 : Int) (K : Value → WP) : WP := 
 callW Tryz.prog 90 [(.agg #[(.int .i64 x0), (.int .i64 (8 : Int))])] (.one (.one (.int .i64))) fun (u1 : Int) =>
 splitW (u1 != (0 : Int)) (K (.int .i64 (0 : Int))) <| K (.int .i64 (IntKind.wrap .i64 ((IntKind.wrap .i64 (x0 - (12 : Int))) - (4 : Int))))
theorem eq96 (x0 : Int) (K : Value → WP) : bodyW Tryz.prog Tryz.f96 an96 false [(.int .i64 x0)] K = S96 x0 K := by kernel_rfl
theorem calls96 (x0 : Int) {K : Value → WP} {w : World} (h : S96 x0 K w) : Calls Tryz.prog 96 #[(.int .i64 x0)] w (Ret K) := callsR_of_bodyW mixed Tryz.func96 (of_decide_eq_true (by kernel_rfl)) (by rw [eq96]; exact h)
def an97 : Ann := (.seq .nil (.seq .nil (.seq (.block (.seq .nil (.cond (.seq .nil .nil) (.seq .nil (.cond (.seq .nil .nil) .nil))))) (.seq .nil (.seq .nil (.seq .nil (.seq .nil (.seq .nil (.seq .nil (.seq .nil (.seq .nil .nil)))))))))))
def S97 (x0 : Int) (x1_0 : Int) (x1_1 : Int) (x1_2 : ByteArray) (K : Value → WP) : WP := 
 newW (.cells #[(.int .u8 x1_0), (.int .u64 x1_1), (.string x1_2)] 87) fun (r1 : Nat) =>
 callW Tryz.prog 96 [(.int .i64 x0)] (.one (.one (.int .i64))) fun (u2 : Int) =>
 splitW (u2 == (0 : Int)) (K (.tuple #[(.string (ByteArray.mk #[])), (.int .i64 (2 : Int))])) <|
 ldW .str ((⟨r1, 0, none⟩ : Addr).add 2) fun (u3 : ByteArray) =>
 splitW (decide (((u3.size : Nat) : Int) > u2)) (K (.tuple #[(.string (ByteArray.mk #[])), (.int .i64 (3 : Int))])) <|
 runW Tryz.prog (Instr.makeSlice 93 (.int .i64 x0) (.int .i64 x0)) .slc fun (u4 : Option Addr × Nat × Nat) =>
 drewW <|
 guardW (0 ≤ (0 : Int) ∧ (0 : Int) ≤ (12 : Int) ∧ (12 : Int) ≤ ((u4.2.2 : Nat) : Int)) <|
 ldW (.int .u8) (⟨r1, 0, none⟩ : Addr) fun (u5 : Int) =>
 newW (.cells #[(.int .u8 u5), (.int .u8 (0 : Int))] 5) fun (r6 : Nat) =>
 runW Tryz.prog (Builtin.append_ #[93, 93] 93 #[(.slice (cutAddr u4.1 0 (Int.toNat (12 : Int)) 1) (Int.toNat (0 : Int)) (Int.toNat (12 : Int))), (.slice (some (⟨r6, 0, none⟩ : Addr)) 2 2)]) .slc fun (u7 : (Option Addr × Nat × Nat)) =>
 ldW .str ((⟨r1, 0, none⟩ : Addr).add 2) fun (u8 : ByteArray) =>
 callW Tryz.prog 58 [(.slice u7.1 u7.2.1 u7.2.2), (.int .u64 (IntKind.wrap .u64 ((u8.size : Nat) : Int))), (.int .i64 (2 : Int))] (.one (.one .slc)) fun (u9 : (Option Addr × Nat × Nat)) =>
 ldW (.int .u64) ((⟨r1, 0, none⟩ : Addr).add 1) fun (u10 : Int) =>
 callW Tryz.prog 58 [(.slice u9.1 u9.2.1 u9.2.2), (.int .u64 u10), (.int .i64 (8 : Int))] (.one (.one .slc)) fun (u11 : (Option Addr × Nat × Nat)) =>
 drewW <|
 guardW (0 ≤ (12 : Int) ∧ (12 : Int) ≤ ((u4.2.1 : Nat) : Int)) <|
 ldW .str ((⟨r1, 0, none⟩ : Addr).add 2) fun (u12 : ByteArray) =>
 runW Tryz.prog (Builtin.copy_ #[93, 9] 3 #[(.slice (cutAddr u4.1 (Int.toNat (12 : Int)) u4.2.2 1) (u4.2.1 - (Int.toNat (12 : Int))) (u4.2.2 - (Int.toNat (12 : Int)))), (.string u12)]) (.int .i64) fun (u13 : Int) =>
 drewW <|
 guardW (0 ≤ (IntKind.wrap .i64 (x0 - (4 : Int))) ∧ (IntKind.wrap .i64 (x0 - (4 : Int))) ≤ (IntKind.wrap .i64 (x0 - (4 : Int))) ∧ (IntKind.wrap .i64 (x0 - (4 : Int))) ≤ x0 ∧ x0 ≤ ((u4.2.2 : Nat) : Int)) <|
 guardW (0 ≤ (IntKind.wrap .i64 (x0 - (4 : Int))) ∧ (IntKind.wrap .i64 (x0 - (4 : Int))) ≤ ((u4.2.2 : Nat) : Int)) <|
 callW Tryz.prog 102 [(.slice (cutAddr u4.1 0 u4.2.2 1) (Int.toNat (IntKind.wrap .i64 (x0 - (4 : Int)))) u4.2.2)] (.one (.one (.int .u32))) fun (u14 : Int) =>
 callW Tryz.prog 58 [(.slice (cutAddr u4.1 (Int.toNat (IntKind.wrap .i64 (x0 - (4 : Int)))) (Int.toNat x0) 1) ((Int.toNat (IntKind.wrap .i64 (x0 - (4 : Int)))) - (Int.toNat (IntKind.wrap .i64 (x0 - (4 : Int))))) ((Int.toNat x0) - (Int.toNat (IntKind.wrap .i64 (x0 - (4 : Int)))))), (.int .u64 (IntKind.wrap .u64 u14)), (.int .i64 (4 : Int))] (.one (.one .slc)) fun (u15 : (Option Addr × Nat × Nat)) =>
 runW Tryz.prog (Go.convert 93 9 (.slice u4.1 u4.2.1 u4.2.2)) .str fun (u16 : ByteArray) => K (.tuple #[(.string u16), (.int .i64 (0 : Int))])
theorem eq97 (x0 : Int) (x1_0 : Int) (x1_1 : Int) (x1_2 : ByteArray) (K : Value → WP) : bodyW Tryz.prog Tryz.f97 an97 false [(.int .i64 x0), (.agg #[(.int .u8 x1_0), (.int .u64 x1_1), (.string x1_2)])] K = S97 x0 x1_0 x1_1 x1_2 K := by kernel_rfl
theorem calls97 (x0 : Int) (x1_0 : Int) (x1_1 : Int) (x1_2 : ByteArray) {K : Value → WP} {w : World} (h : S97 x0 x1_0 x1_1 x1_2 K w) : Calls Tryz.prog 97 #[(.int .i64 x0), (.agg #[(.int .u8 x1_0), (.int .u64 x1_1), (.string x1_2)])] w (Ret K) := callsR_of_bodyW mixed Tryz.func97 (of_decide_eq_true (by kernel_rfl)) (by rw [eq97]; exact h)
def an98 : Ann := (.seq .nil (.seq .nil .nil))
def S98 (a0 : Option Addr) (n0 c0 : Nat) (K : Value → WP) : WP := 
 callW Tryz.prog 120 [(.slice a0 n0 c0)] (.one (.one .slc)) fun (u1 : (Option Addr × Nat × Nat)) =>
 newW (.cells #[(.slice u1.1 u1.2.1 u1.2.2)] 190) fun (r2 : Nat) => K (.pointer (some (⟨r2, 0, none⟩ : Addr)))
theorem eq98 (a0 : Option Addr) (n0 c0 : Nat) (K : Value → WP) : bodyW Tryz.prog Tryz.f98 an98 false [(.slice a0 n0 c0)] K = S98 a0 n0 c0 K := by kernel_rfl
theorem calls98 (a0 : Option Addr) (n0 c0 : Nat) {K : Value → WP} {w : World} (h : S98 a0 n0 c0 K w) : Calls Tryz.prog 98 #[(.slice a0 n0 c0)] w (Ret K) := callsR_of_bodyW mixed Tryz.func98 (of_decide_eq_true (by kernel_rfl)) (by rw [eq98]; exact h)
def an99 : Ann := (.seq .nil (.seq (.block (.seq .nil (.cond (.seq .nil .nil) (.seq .nil (.cond (.seq .nil .nil) .nil))))) (.seq .nil (.seq .nil .nil))))
def S99 (x0 : Option Addr) (x1 : Int) (K : Value → WP) : WP := 
 splitW (Option.isNone x0) (K (.tuple #[(.int .u64 (0 : Int)), (.int .i64 (1 : Int))])) <|
 splitW (decide (x1 < (1 : Int))) (K (.tuple #[(.int .u64 (0 : Int)), (.int .i64 (2 : Int))])) <|
 splitW (decide (x1 > (8 : Int))) (K (.tuple #[(.int .u64 (0 : Int)), (.int .i64 (2 : Int))])) <|
 callW Tryz.prog 121 [(.pointer x0), (.int .i64 x1)] (.many [(.one .slc), (.one (.int .i64))]) fun (u1 : (Option Addr × Nat × Nat) × Int × Unit) =>
 callW Tryz.prog 75 [(.slice u1.1.1 u1.1.2.1 u1.1.2.2)] (.one (.one (.int .u64))) fun (u2 : Int) => K (.tuple #[(.int .u64 u2), (.int .i64 u1.2.1)])
theorem eq99 (x0 : Option Addr) (x1 : Int) (K : Value → WP) : bodyW Tryz.prog Tryz.f99 an99 false [(.pointer x0), (.int .i64 x1)] K = S99 x0 x1 K := by kernel_rfl
theorem calls99 (x0 : Option Addr) (x1 : Int) {K : Value → WP} {w : World} (h : S99 x0 x1 K w) : Calls Tryz.prog 99 #[(.pointer x0), (.int .i64 x1)] w (Ret K) := callsR_of_bodyW mixed Tryz.func99 (of_decide_eq_true (by kernel_rfl)) (by rw [eq99]; exact h)
def an100 : Ann := (.seq .nil (.seq (.block (.seq .nil (.cond (.seq .nil .nil) (.seq .nil (.cond (.seq .nil .nil) .nil))))) (.seq .nil (.seq .nil .nil))))
def S100 (x0 : Option Addr) (x1 : Int) (K : Value → WP) : WP := 
 splitW (Option.isNone x0) (K (.tuple #[(.slice none 0 0), (.int .i64 (1 : Int))])) <|
 splitW (decide (x1 < (0 : Int))) (K (.tuple #[(.slice none 0 0), (.int .i64 (2 : Int))])) <|
 callW Tryz.prog 121 [(.pointer x0), (.int .i64 x1)] (.many [(.one .slc), (.one (.int .i64))]) fun (u1 : (Option Addr × Nat × Nat) × Int × Unit) =>
 callW Tryz.prog 120 [(.slice u1.1.1 u1.1.2.1 u1.1.2.2)] (.one (.one .slc)) fun (u2 : (Option Addr × Nat × Nat)) => K (.tuple #[(.slice u2.1 u2.2.1 u2.2.2), (.int .i64 u1.2.1)])
theorem eq100 (x0 : Option Addr) (x1 : Int) (K : Value → WP) : bodyW Tryz.prog Tryz.f100 an100 false [(.pointer x0), (.int .i64 x1)] K = S100 x0 x1 K := by kernel_rfl
theorem calls100 (x0 : Option Addr) (x1 : Int) {K : Value → WP} {w : World} (h : S100 x0 x1 K w) : Calls Tryz.prog 100 #[(.pointer x0), (.int .i64 x1)] w (Ret K) := callsR_of_bodyW mixed Tryz.func100 (of_decide_eq_true (by kernel_rfl)) (by rw [eq100]; exact h)
def an101 : Ann := (.seq .nil (.seq (.seq .nil (.cond (.seq .nil .nil) .nil)) (.seq .nil .nil)))
def S101 (x0 : Option Addr) (K : Value → WP) : WP := 
 splitW (Option.isNone x0) (K (.int .i64 (0 : Int))) <|
 ptrW x0 fun (p1 : Addr) =>
 ldW .slc p1 fun (u2 : (Option Addr × Nat × Nat)) => K (.int .i64 ((u2.2.1 : Nat) : Int))
theorem eq101 (x0 : Option Addr) (K : Value → WP) : bodyW Tryz.prog Tryz.f101 an101 false [(.pointer x0)] K = S101 x0 K := by kernel_rfl
theorem calls101 (x0 : Option Addr) {K : Value → WP} {w : World} (h : S101 x0 K w) : Calls Tryz.prog 101 #[(.pointer x0)] w (Ret K) := callsR_of_bodyW mixed Tryz.func101 (of_decide_eq_true (by kernel_rfl)) (by rw [eq101]; exact h)
def an102 : Ann := (.seq .nil (.seq .nil .nil))
def S102 (a0 : Option Addr) (n0 c0 : Nat) (K : Value → WP) : WP := 
 callW Tryz.prog 123 [] (.one (.arr 256)) fun (u1 : Array Value) =>
 callW Tryz.prog 122 [(.agg u1), (.slice a0 n0 c0)] (.one (.one (.int .u32))) fun (u2 : Int) => K (.int .u32 u2)
theorem eq102 (a0 : Option Addr) (n0 c0 : Nat) (K : Value → WP) : bodyW Tryz.prog Tryz.f102 an102 false [(.slice a0 n0 c0)] K = S102 a0 n0 c0 K := by kernel_rfl
theorem calls102 (a0 : Option Addr) (n0 c0 : Nat) {K : Value → WP} {w : World} (h : S102 a0 n0 c0 K w) : Calls Tryz.prog 102 #[(.slice a0 n0 c0)] w (Ret K) := callsR_of_bodyW mixed Tryz.func102 (of_decide_eq_true (by kernel_rfl)) (by rw [eq102]; exact h)
def an103 : Ann := (.seq .nil (.seq (.seq .nil (.cond .nil .nil)) (.seq .nil .nil)))
def S103 (a0 : Option Addr) (n0 c0 : Nat) (x1 : Int) (K : Value → WP) : WP := 
 newW (.cells #[(.slice a0 n0 c0)] 140) fun (r1 : Nat) =>
 newW (.cells #[(.int .i64 x1)] 3) fun (r2 : Nat) =>
 ldW (.int .i64) (⟨r2, 0, none⟩ : Addr) fun (u3 : Int) =>
 splitW (decide (u3 < (1 : Int))) (FalseW) <| K (.func (.func 124) #[] #[(.pointer (some (⟨r1, 0, none⟩ : Addr))), (.pointer (some (⟨r2, 0, none⟩ : Addr)))])
theorem eq103 (a0 : Option Addr) (n0 c0 : Nat) (x1 : Int) (K : Value → WP) : bodyW Tryz.prog Tryz.f103 an103 false [(.slice a0 n0 c0), (.int .i64 x1)] K = S103 a0 n0 c0 x1 K := by kernel_rfl
theorem calls103 (a0 : Option Addr) (n0 c0 : Nat) (x1 : Int) {K : Value → WP} {w : World} (h : S103 a0 n0 c0 x1 K w) : Calls Tryz.prog 103 #[(.slice a0 n0 c0), (.int .i64 x1)] w (Ret K) := callsR_of_bodyW mixed Tryz.func103 (of_decide_eq_true (by kernel_rfl)) (by rw [eq103]; exact h)
def an104 : Ann := (.seq .nil (.block (.loop [(4, .sh (.one (.int .i64)))] [0, 1, 2, 1000000] (.seq (.seq .nil (.cond .nil .nil)) (.seq (.block (.seq .nil (.seq .nil (.cond .nil .nil)))) .nil)))))
def S104 (x0 : Value) (a1 : Addr) (a2 : Addr) (K : Value → WP) : WP := 
 loopW (Int × Unit) ((0 : Int), ()) fun (y2 : Int × Unit) (I1 : (Int × Unit) → WP) =>
 ldW .slc a1 fun (u3 : (Option Addr × Nat × Nat)) =>
 splitW (decide (y2.1 < ((u3.2.1 : Nat) : Int))) (drewW <|
 ldW (.int .i64) a2 fun (u4 : Int) =>
 ldW .slc a1 fun (u5 : (Option Addr × Nat × Nat)) =>
 guardW (0 ≤ y2.1 ∧ y2.1 ≤ ((u5.2.1 : Nat) : Int)) <|
 ldW .slc a1 fun (u6 : (Option Addr × Nat × Nat)) =>
 guardW (0 ≤ y2.1 ∧ y2.1 ≤ (IntKind.wrap .i64 (y2.1 + (if (((u5.2.1 - (Int.toNat y2.1)) : Nat) : Int) < u4 then (((u5.2.1 - (Int.toNat y2.1)) : Nat) : Int) else u4))) ∧ (IntKind.wrap .i64 (y2.1 + (if (((u5.2.1 - (Int.toNat y2.1)) : Nat) : Int) < u4 then (((u5.2.1 - (Int.toNat y2.1)) : Nat) : Int) else u4))) ≤ (IntKind.wrap .i64 (y2.1 + (if (((u5.2.1 - (Int.toNat y2.1)) : Nat) : Int) < u4 then (((u5.2.1 - (Int.toNat y2.1)) : Nat) : Int) else u4))) ∧ (IntKind.wrap .i64 (y2.1 + (if (((u5.2.1 - (Int.toNat y2.1)) : Nat) : Int) < u4 then (((u5.2.1 - (Int.toNat y2.1)) : Nat) : Int) else u4))) ≤ ((u6.2.2 : Nat) : Int)) <|
 callVW Tryz.prog x0 [(.slice (cutAddr u6.1 (Int.toNat y2.1) (Int.toNat (IntKind.wrap .i64 (y2.1 + (if (((u5.2.1 - (Int.toNat y2.1)) : Nat) : Int) < u4 then (((u5.2.1 - (Int.toNat y2.1)) : Nat) : Int) else u4)))) 1) ((Int.toNat (IntKind.wrap .i64 (y2.1 + (if (((u5.2.1 - (Int.toNat y2.1)) : Nat) : Int) < u4 then (((u5.2.1 - (Int.toNat y2.1)) : Nat) : Int) else u4)))) - (Int.toNat y2.1)) ((Int.toNat (IntKind.wrap .i64 (y2.1 + (if (((u5.2.1 - (Int.toNat y2.1)) : Nat) : Int) < u4 then (((u5.2.1 - (Int.toNat y2.1)) : Nat) : Int) else u4)))) - (Int.toNat y2.1)))] (.one (.one .bool)) fun (u7 : Bool) =>
 splitW (!u7) (K (.tuple #[])) <|
 ldW (.int .i64) a2 fun (u8 : Int) => I1 ((IntKind.wrap .i64 (y2.1 + u8)), ())) <| K (.tuple #[])
theorem eq104 (x0 : Value) (a1 : Addr) (a2 : Addr) (K : Value → WP) : bodyW Tryz.prog Tryz.f104 an104 false [x0, (.pointer (some a1)), (.pointer (some a2))] K = S104 x0 a1 a2 K := by kernel_rfl
theorem calls104 (x0 : Value) (a1 : Addr) (a2 : Addr) {K : Value → WP} {w : World} (h : S104 x0 a1 a2 K w) : Calls Tryz.prog 104 #[x0, (.pointer (some a1)), (.pointer (some a2))] w (Ret K) := callsR_of_bodyW mixed Tryz.func104 (of_decide_eq_true (by kernel_rfl)) (by rw [eq104]; exact h)
def an105 : Ann := (.seq .nil (.seq .nil .nil))
def S105 (a0 : Option Addr) (n0 c0 : Nat) (K : Value → WP) : WP := 
 newW (.cells #[(.slice a0 n0 c0)] 93) fun (r1 : Nat) => K (.func (.func 125) #[] #[(.pointer (some (⟨r1, 0, none⟩ : Addr)))])
theorem eq105 (a0 : Option Addr) (n0 c0 : Nat) (K : Value → WP) : bodyW Tryz.prog Tryz.f105 an105 false [(.slice a0 n0 c0)] K = S105 a0 n0 c0 K := by kernel_rfl
theorem calls105 (a0 : Option Addr) (n0 c0 : Nat) {K : Value → WP} {w : World} (h : S105 a0 n0 c0 K w) : Calls Tryz.prog 105 #[(.slice a0 n0 c0)] w (Ret K) := callsR_of_bodyW mixed Tryz.func105 (of_decide_eq_true (by kernel_rfl)) (by rw [eq105]; exact h)
def an106 : Ann := (.seq .nil (.block (.loop [(3, .sh (.one (.int .i64)))] [0, 1, 1000000] (.seq (.seq .nil (.cond .nil .nil)) (.seq (.block (.seq .nil (.cond .nil .nil))) .nil)))))
def S106 (x0 : Value) (a1 : Addr) (K : Value → WP) : WP := 
 ldW .slc a1 fun (u1 : (Option Addr × Nat × Nat)) =>
 loopW (Int × Unit) ((IntKind.wrap .i64 (((u1.2.1 : Nat) : Int) - (1 : Int))), ()) fun (y3 : Int × Unit) (I2 : (Int × Unit) → WP) =>
 splitW (decide (y3.1 ≥ (0 : Int))) (ldW .slc a1 fun (u4 : (Option Addr × Nat × Nat)) =>
 guardW (0 ≤ y3.1 ∧ y3.1 < ((u4.2.1 : Nat) : Int)) <|
 ptrW u4.1 fun (p5 : Addr) =>
 ldAW [(.int .i64), .str] (p5.add (Int.toNat y3.1 * 2)) fun (u6 : (Int × ByteArray × Unit)) =>
 callVW Tryz.prog x0 [(.int .i64 y3.1), (.agg #[(.int .i64 u6.1), (.string u6.2.1)])] (.one (.one .bool)) fun (u7 : Bool) =>
 splitW (!u7) (K (.tuple #[])) <| I2 ((IntKind.wrap .i64 (y3.1 - (1 : Int))), ())) <| K (.tuple #[])
theorem eq106 (x0 : Value) (a1 : Addr) (K : Value → WP) : bodyW Tryz.prog Tryz.f106 an106 false [x0, (.pointer (some a1))] K = S106 x0 a1 K := by kernel_rfl
theorem calls106 (x0 : Value) (a1 : Addr) {K : Value → WP} {w : World} (h : S106 x0 a1 K w) : Calls Tryz.prog 106 #[x0, (.pointer (some a1))] w (Ret K) := callsR_of_bodyW mixed Tryz.func106 (of_decide_eq_true (by kernel_rfl)) (by rw [eq106]; exact h)
def an107 : Ann := (.seq .nil (.seq (.seq .nil (.block (.loop [(8, .sh (.one (.int .i64)))] [0, 1, 7, 1000000] (.seq .nil (.seq (.cond .nil .nil) (.seq (.block (.seq .nil (.seq .nil (.cond (.seq .nil .nil) .nil)))) .nil)))))) (.seq .nil .nil)))
def S107 (a0 : Option Addr) (n0 c0 : Nat) (x1 : Int) (K : Value → WP) : WP := 
 loopW (Int × Unit) ((0 : Int), ()) fun (y2 : Int × Unit) (I1 : (Int × Unit) → WP) =>
 splitW (decide (y2.1 < ((n0 : Nat) : Int))) (guardW (0 ≤ y2.1 ∧ y2.1 < ((n0 : Nat) : Int)) <|
 ptrW a0 fun (p3 : Addr) =>
 ldW (.int .u32) (p3.add (Int.toNat y2.1 * 1)) fun (u4 : Int) =>
 splitW (x1 == u4) (K (.int .i64 y2.1)) <| I1 ((IntKind.wrap .i64 (y2.1 + (1 : Int))), ())) <| K (.int .i64 (-1 : Int))
theorem eq107 (a0 : Option Addr) (n0 c0 : Nat) (x1 : Int) (K : Value → WP) : bodyW Tryz.prog Tryz.f107 an107 false [(.slice a0 n0 c0), (.int .u32 x1)] K = S107 a0 n0 c0 x1 K := by kernel_rfl
theorem calls107 (a0 : Option Addr) (n0 c0 : Nat) (x1 : Int) {K : Value → WP} {w : World} (h : S107 a0 n0 c0 x1 K w) : Calls Tryz.prog 107 #[(.slice a0 n0 c0), (.int .u32 x1)] w (Ret K) := callsR_of_bodyW mixed Tryz.func107 (of_decide_eq_true (by kernel_rfl)) (by rw [eq107]; exact h)
def an108 : Ann := (.seq .nil (.seq (.seq .nil (.cond (.seq .nil .nil) .nil)) (.seq .nil (.seq .nil (.seq .nil .nil)))))
def S108 (x0 : Option Addr) (K : Value → WP) : WP := 
 ptrW x0 fun (p1 : Addr) =>
 ldW (.int .i64) (p1.add 5) fun (u2 : Int) =>
 splitW (u2 == (0 : Int)) (K (.bool false)) <|
 ptrW x0 fun (p3 : Addr) =>
 ldW (.int .i64) (p3.add 5) fun (u4 : Int) =>
 ptrW x0 fun (p5 : Addr) =>
 stW (p5.add 5) (.int .i64 (if (IntKind.wrap .i64 (u4 - (1 : Int))) > (-1 : Int) then (IntKind.wrap .i64 (u4 - (1 : Int))) else (-1 : Int))) <|
 ptrW x0 fun (p6 : Addr) =>
 ldW (.int .i64) (p6.add 4) fun (u7 : Int) =>
 ptrW x0 fun (p8 : Addr) =>
 stW (p8.add 4) (.int .i64 (IntKind.wrap .i64 (u7 + (1 : Int)))) <| K (.bool true)
theorem eq108 (x0 : Option Addr) (K : Value → WP) : bodyW Tryz.prog Tryz.f108 an108 false [(.pointer x0)] K = S108 x0 K := by kernel_rfl
theorem calls108 (x0 : Option Addr) {K : Value → WP} {w : World} (h : S108 x0 K w) : Calls Tryz.prog 108 #[(.pointer x0)] w (Ret K) := callsR_of_bodyW mixed Tryz.func108 (of_decide_eq_true (by kernel_rfl)) (by rw [eq108]; exact h)
def an109 : Ann := (.seq .nil (.seq (.seq .nil (.cond (.seq .nil .nil) .nil)) (.seq .nil (.seq .nil (.seq (.seq .nil (.cond (.seq .nil .nil) .nil)) (.seq .nil (.seq (.seq .nil (.cond (.seq .nil .nil) .nil)) (.seq .nil (.seq .nil (.seq (.seq .nil (.cond (.seq .nil .nil) .nil)) (.seq .nil .nil)))))))))))
def S109 (x0 : ByteArray) (K : Value → WP) : WP := 
 newW (.cells #[(.int .u8 (0 : Int)), (.int .u64 (0 : Int)), (.string ByteArray.empty)] 87) fun (r1 : Nat) =>
 callW Tryz.prog 126 [(.int .i64 ((x0.size : Nat) : Int))] (.one (.one (.int .i64))) fun (u2 : Int) =>
 splitW (u2 == (0 : Int)) (guardW ((#[(.int .u8 (0 : Int)), (.int .u64 (0 : Int)), (.string ByteArray.empty)] : Array Value).size = 3) <|
 stAW (⟨r1, 0, none⟩ : Addr) [(.int .u8 (0 : Int)), (.int .u64 (0 : Int)), (.string ByteArray.empty)] <|
 ldAW [(.int .u8), (.int .u64), .str] (⟨r1, 0, none⟩ : Addr) fun (u3 : (Int × Int × ByteArray × Unit)) => K (.tuple #[(.agg #[(.int .u8 u3.1), (.int .u64 u3.2.1), (.string u3.2.2.1)]), (.int .i64 (2 : Int))])) <|
 runW Tryz.prog (Go.convert 9 93 (.string x0)) .slc fun (u4 : (Option Addr × Nat × Nat)) =>
 drewW <|
 guardW (0 ≤ (IntKind.wrap .i64 (((u4.2.1 : Nat) : Int) - (4 : Int))) ∧ (IntKind.wrap .i64 (((u4.2.1 : Nat) : Int) - (4 : Int))) ≤ ((u4.2.2 : Nat) : Int)) <|
 guardW (0 ≤ (IntKind.wrap .i64 (((u4.2.1 : Nat) : Int) - (4 : Int))) ∧ (IntKind.wrap .i64 (((u4.2.1 : Nat) : Int) - (4 : Int))) ≤ ((u4.2.1 : Nat) : Int)) <|
 callW Tryz.prog 127 [(.slice (cutAddr u4.1 0 u4.2.2 1) (Int.toNat (IntKind.wrap .i64 (((u4.2.1 : Nat) : Int) - (4 : Int)))) u4.2.2)] (.one (.one (.int .u32))) fun (u5 : Int) =>
 callW Tryz.prog 88 [(.slice (cutAddr u4.1 (Int.toNat (IntKind.wrap .i64 (((u4.2.1 : Nat) : Int) - (4 : Int)))) u4.2.2 1) (u4.2.1 - (Int.toNat (IntKind.wrap .i64 (((u4.2.1 : Nat) : Int) - (4 : Int))))) (u4.2.2 - (Int.toNat (IntKind.wrap .i64 (((u4.2.1 : Nat) : Int) - (4 : Int))))))] (.one (.one (.int .u64))) fun (u6 : Int) =>
 splitW ((IntKind.wrap .u64 u5) != u6) (guardW ((#[(.int .u8 (0 : Int)), (.int .u64 (0 : Int)), (.string ByteArray.empty)] : Array Value).size = 3) <|
 stAW (⟨r1, 0, none⟩ : Addr) [(.int .u8 (0 : Int)), (.int .u64 (0 : Int)), (.string ByteArray.empty)] <|
 ldAW [(.int .u8), (.int .u64), .str] (⟨r1, 0, none⟩ : Addr) fun (u7 : (Int × Int × ByteArray × Unit)) => K (.tuple #[(.agg #[(.int .u8 u7.1), (.int .u64 u7.2.1), (.string u7.2.2.1)]), (.int .i64 (10 : Int))])) <|
 guardW (0 ≤ (2 : Int) ∧ (2 : Int) ≤ (4 : Int) ∧ (4 : Int) ≤ ((u4.2.2 : Nat) : Int)) <|
 callW Tryz.prog 88 [(.slice (cutAddr u4.1 (Int.toNat (2 : Int)) u4.2.2 1) ((Int.toNat (4 : Int)) - (Int.toNat (2 : Int))) (u4.2.2 - (Int.toNat (2 : Int))))] (.one (.one (.int .u64))) fun (u8 : Int) =>
 callW Tryz.prog 126 [(.int .i64 ((u4.2.1 : Nat) : Int))] (.one (.one (.int .i64))) fun (u9 : Int) =>
 splitW (decide ((IntKind.wrap .i64 u8) > u9)) (guardW ((#[(.int .u8 (0 : Int)), (.int .u64 (0 : Int)), (.string ByteArray.empty)] : Array Value).size = 3) <|
 stAW (⟨r1, 0, none⟩ : Addr) [(.int .u8 (0 : Int)), (.int .u64 (0 : Int)), (.string ByteArray.empty)] <|
 ldAW [(.int .u8), (.int .u64), .str] (⟨r1, 0, none⟩ : Addr) fun (u10 : (Int × Int × ByteArray × Unit)) => K (.tuple #[(.agg #[(.int .u8 u10.1), (.int .u64 u10.2.1), (.string u10.2.2.1)]), (.int .i64 (4 : Int))])) <|
 drewW <|
 guardW (0 ≤ (0 : Int) ∧ (0 : Int) < ((u4.2.1 : Nat) : Int)) <|
 ptrW u4.1 fun (p11 : Addr) =>
 ldW (.int .u8) (p11.add (Int.toNat (0 : Int) * 1)) fun (u12 : Int) =>
 guardW (0 ≤ (4 : Int) ∧ (4 : Int) ≤ (12 : Int) ∧ (12 : Int) ≤ ((u4.2.2 : Nat) : Int)) <|
 guardW (0 ≤ (12 : Int) ∧ (12 : Int) ≤ (IntKind.wrap .i64 ((12 : Int) + (IntKind.wrap .i64 u8))) ∧ (IntKind.wrap .i64 ((12 : Int) + (IntKind.wrap .i64 u8))) ≤ ((x0.size : Nat) : Int)) <|
 bothW (callW Tryz.prog 88 [(.slice (cutAddr u4.1 (Int.toNat (4 : Int)) u4.2.2 1) ((Int.toNat (12 : Int)) - (Int.toNat (4 : Int))) (u4.2.2 - (Int.toNat (4 : Int))))] (.one (.one (.int .u64))) fun (u13 : Int) =>
 heldW [[((p11.add (Int.toNat (0 : Int) * 1)), (.int .u8 u12))]] <|
 newW (.cells #[(.int .u8 (0 : Int)), (.int .u64 (0 : Int)), (.string ByteArray.empty)] 87) fun (r14 : Nat) =>
 heldW [[((p11.add (Int.toNat (0 : Int) * 1)), (.int .u8 u12))]] <|
 guardW ((#[(.int .u8 u12), (.int .u64 u13), (.string (ByteArray.extract x0 (Int.toNat (12 : Int)) (Int.toNat (IntKind.wrap .i64 ((12 : Int) + (IntKind.wrap .i64 u8))))))] : Array Value).size = 3) <|
 stAW (⟨r14, 0, none⟩ : Addr) [(.int .u8 u12), (.int .u64 u13), (.string (ByteArray.extract x0 (Int.toNat (12 : Int)) (Int.toNat (IntKind.wrap .i64 ((12 : Int) + (IntKind.wrap .i64 u8))))))] <|
 ldAW [(.int .u8), (.int .u64), .str] (⟨r14, 0, none⟩ : Addr) fun (u15 : (Int × Int × ByteArray × Unit)) =>
 callW Tryz.prog 112 [(.int .i64 ((u4.2.1 : Nat) : Int)), (.agg #[(.int .u8 u15.1), (.int .u64 u15.2.1), (.string u15.2.2.1)])] (.many [(.one .str), (.one (.int .i64))]) fun (u16 : ByteArray × Int × Unit) =>
 splitW (u16.2.1 != (0 : Int)) (guardW ((#[(.int .u8 (0 : Int)), (.int .u64 (0 : Int)), (.string ByteArray.empty)] : Array Value).size = 3) <|
 stAW (⟨r1, 0, none⟩ : Addr) [(.int .u8 (0 : Int)), (.int .u64 (0 : Int)), (.string ByteArray.empty)] <|
 ldAW [(.int .u8), (.int .u64), .str] (⟨r1, 0, none⟩ : Addr) fun (u17 : (Int × Int × ByteArray × Unit)) => K (.tuple #[(.agg #[(.int .u8 u17.1), (.int .u64 u17.2.1), (.string u17.2.2.1)]), (.int .i64 (4 : Int))])) <|
 splitW (!(u16.1.toList == x0.toList)) (guardW ((#[(.int .u8 (0 : Int)), (.int .u64 (0 : Int)), (.string ByteArray.empty)] : Array Value).size = 3) <|
 stAW (⟨r1, 0, none⟩ : Addr) [(.int .u8 (0 : Int)), (.int .u64 (0 : Int)), (.string ByteArray.empty)] <|
 ldAW [(.int .u8), (.int .u64), .str] (⟨r1, 0, none⟩ : Addr) fun (u18 : (Int × Int × ByteArray × Unit)) => K (.tuple #[(.agg #[(.int .u8 u18.1), (.int .u64 u18.2.1), (.string u18.2.2.1)]), (.int .i64 (4 : Int))])) <|
 ldAW [(.int .u8), (.int .u64), .str] (⟨r14, 0, none⟩ : Addr) fun (u19 : (Int × Int × ByteArray × Unit)) =>
 guardW ((#[(.int .u8 u19.1), (.int .u64 u19.2.1), (.string u19.2.2.1)] : Array Value).size = 3) <|
 stAW (⟨r1, 0, none⟩ : Addr) [(.int .u8 u19.1), (.int .u64 u19.2.1), (.string u19.2.2.1)] <|
 ldAW [(.int .u8), (.int .u64), .str] (⟨r1, 0, none⟩ : Addr) fun (u20 : (Int × Int × ByteArray × Unit)) => K (.tuple #[(.agg #[(.int .u8 u20.1), (.int .u64 u20.2.1), (.string u20.2.2.1)]), (.int .i64 (0 : Int))])) <|
 newW (.cells #[(.int .u8 (0 : Int)), (.int .u64 (0 : Int)), (.string ByteArray.empty)] 87) fun (r21 : Nat) =>
 heldW [[((p11.add (Int.toNat (0 : Int) * 1)), (.int .u8 u12))]] <|
 callW Tryz.prog 88 [(.slice (cutAddr u4.1 (Int.toNat (4 : Int)) u4.2.2 1) ((Int.toNat (12 : Int)) - (Int.toNat (4 : Int))) (u4.2.2 - (Int.toNat (4 : Int))))] (.one (.one (.int .u64))) fun (u22 : Int) =>
 heldW [[((p11.add (Int.toNat (0 : Int) * 1)), (.int .u8 u12))]] <|
 guardW ((#[(.int .u8 u12), (.int .u64 u22), (.string (ByteArray.extract x0 (Int.toNat (12 : Int)) (Int.toNat (IntKind.wrap .i64 ((12 : Int) + (IntKind.wrap .i64 u8))))))] : Array Value).size = 3) <|
 stAW (⟨r21, 0, none⟩ : Addr) [(.int .u8 u12), (.int .u64 u22), (.string (ByteArray.extract x0 (Int.toNat (12 : Int)) (Int.toNat (IntKind.wrap .i64 ((12 : Int) + (IntKind.wrap .i64 u8))))))] <|
 ldAW [(.int .u8), (.int .u64), .str] (⟨r21, 0, none⟩ : Addr) fun (u23 : (Int × Int × ByteArray × Unit)) =>
 callW Tryz.prog 112 [(.int .i64 ((u4.2.1 : Nat) : Int)), (.agg #[(.int .u8 u23.1), (.int .u64 u23.2.1), (.string u23.2.2.1)])] (.many [(.one .str), (.one (.int .i64))]) fun (u24 : ByteArray × Int × Unit) =>
 splitW (u24.2.1 != (0 : Int)) (guardW ((#[(.int .u8 (0 : Int)), (.int .u64 (0 : Int)), (.string ByteArray.empty)] : Array Value).size = 3) <|
 stAW (⟨r1, 0, none⟩ : Addr) [(.int .u8 (0 : Int)), (.int .u64 (0 : Int)), (.string ByteArray.empty)] <|
 ldAW [(.int .u8), (.int .u64), .str] (⟨r1, 0, none⟩ : Addr) fun (u25 : (Int × Int × ByteArray × Unit)) => K (.tuple #[(.agg #[(.int .u8 u25.1), (.int .u64 u25.2.1), (.string u25.2.2.1)]), (.int .i64 (4 : Int))])) <|
 splitW (!(u24.1.toList == x0.toList)) (guardW ((#[(.int .u8 (0 : Int)), (.int .u64 (0 : Int)), (.string ByteArray.empty)] : Array Value).size = 3) <|
 stAW (⟨r1, 0, none⟩ : Addr) [(.int .u8 (0 : Int)), (.int .u64 (0 : Int)), (.string ByteArray.empty)] <|
 ldAW [(.int .u8), (.int .u64), .str] (⟨r1, 0, none⟩ : Addr) fun (u26 : (Int × Int × ByteArray × Unit)) => K (.tuple #[(.agg #[(.int .u8 u26.1), (.int .u64 u26.2.1), (.string u26.2.2.1)]), (.int .i64 (4 : Int))])) <|
 ldAW [(.int .u8), (.int .u64), .str] (⟨r21, 0, none⟩ : Addr) fun (u27 : (Int × Int × ByteArray × Unit)) =>
 guardW ((#[(.int .u8 u27.1), (.int .u64 u27.2.1), (.string u27.2.2.1)] : Array Value).size = 3) <|
 stAW (⟨r1, 0, none⟩ : Addr) [(.int .u8 u27.1), (.int .u64 u27.2.1), (.string u27.2.2.1)] <|
 ldAW [(.int .u8), (.int .u64), .str] (⟨r1, 0, none⟩ : Addr) fun (u28 : (Int × Int × ByteArray × Unit)) => K (.tuple #[(.agg #[(.int .u8 u28.1), (.int .u64 u28.2.1), (.string u28.2.2.1)]), (.int .i64 (0 : Int))])
theorem eq109 (x0 : ByteArray) (K : Value → WP) : bodyW Tryz.prog Tryz.f109 an109 false [(.string x0)] K = S109 x0 K := by kernel_rfl
theorem calls109 (x0 : ByteArray) {K : Value → WP} {w : World} (h : S109 x0 K w) : Calls Tryz.prog 109 #[(.string x0)] w (Ret K) := callsR_of_bodyW mixed Tryz.func109 (of_decide_eq_true (by kernel_rfl)) (by rw [eq109]; exact h)
def an110 : Ann := (.seq .nil (.join [] [1, 1000000] (.seq .nil (.cond (.seq .nil .nil) .nil)) (.seq (.seq .nil (.block (.loop [(3, .sh (.one (.int .i64)))] [1, 1000000] (.seq (.seq .nil (.cond .nil .nil)) (.seq (.block (.seq (.seq .nil (.cond (.seq .nil .nil) .nil)) (.seq .nil (.block (.loop [(4, .sh (.one (.int .i64)))] [1, 3, 1000000] (.seq (.seq .nil (.cond .nil .nil)) (.seq (.block (.seq .nil (.cond (.seq .nil .nil) .nil))) .nil))))))) .nil))))) (.seq (.seq .nil (.cond (.seq .nil .nil) .nil)) (.seq .nil .nil)))))
def S110 (x0_0 : Int) (x0_1 : Int) (x0_2 : Int) (x0_3 : Int) (a0_4 : Option Addr) (n0_4 c0_4 : Nat) (K : Value → WP) : WP := 
 newW (.cells #[(.int .u64 x0_0), (.int .i64 x0_1), (.int .i64 x0_2), (.int .u32 x0_3), (.slice a0_4 n0_4 c0_4)] 79) fun (r1 : Nat) =>
 joinW (Unit) (fun (J2 : (Unit) → WP) =>
 drewW <|
 ldAW [(.int .i64), (.int .i64)] ((⟨r1, 0, none⟩ : Addr).add 1) fun (u4 : (Int × Int × Unit)) =>
 callW Tryz.prog 128 [(.agg #[(.int .i64 u4.1), (.int .i64 u4.2.1)])] (.one (.one (.int .i64))) fun (u5 : Int) =>
 splitW (u5 != (0 : Int)) (K (.int .i64 (2 : Int))) <|
 ldW (.int .u64) (⟨r1, 0, none⟩ : Addr) fun (u6 : Int) =>
 splitW (u6 == (0 : Int)) (K (.int .i64 (2 : Int))) <|
 ldW (.int .u32) ((⟨r1, 0, none⟩ : Addr).add 3) fun (u7 : Int) =>
 splitW (u7 != (0 : Int)) (ldAW [(.int .i64), (.int .i64)] ((⟨r1, 0, none⟩ : Addr).add 1) fun (u8 : (Int × Int × Unit)) =>
 ldW (.int .u32) ((⟨r1, 0, none⟩ : Addr).add 3) fun (u9 : Int) =>
 callW Tryz.prog 129 [(.agg #[(.int .i64 u8.1), (.int .i64 u8.2.1)]), (.int .u32 u9)] (.one (.one .bool)) fun (u10 : Bool) =>
 splitW (!u10) (K (.int .i64 (2 : Int))) <|
 ldW .slc ((⟨r1, 0, none⟩ : Addr).add 4) fun (u11 : (Option Addr × Nat × Nat)) =>
 ldAW [(.int .i64), (.int .i64)] ((⟨r1, 0, none⟩ : Addr).add 1) fun (u12 : (Int × Int × Unit)) =>
 callW Tryz.prog 130 [(.agg #[(.int .i64 u12.1), (.int .i64 u12.2.1)])] (.one (.one (.int .i64))) fun (u13 : Int) =>
 heldW [[(((⟨r1, 0, none⟩ : Addr).add 4), (.slice u11.1 u11.2.1 u11.2.2))]] <|
 splitW (((u11.2.1 : Nat) : Int) != u13) (K (.int .i64 (2 : Int))) <| J2 ()) <|
 ldW .slc ((⟨r1, 0, none⟩ : Addr).add 4) fun (u14 : (Option Addr × Nat × Nat)) =>
 ldAW [(.int .i64), (.int .i64)] ((⟨r1, 0, none⟩ : Addr).add 1) fun (u15 : (Int × Int × Unit)) =>
 callW Tryz.prog 130 [(.agg #[(.int .i64 u15.1), (.int .i64 u15.2.1)])] (.one (.one (.int .i64))) fun (u16 : Int) =>
 heldW [[(((⟨r1, 0, none⟩ : Addr).add 4), (.slice u14.1 u14.2.1 u14.2.2))]] <|
 splitW (((u14.2.1 : Nat) : Int) != u16) (K (.int .i64 (2 : Int))) <| J2 ()) fun (y3 : Unit) =>
 loopW (Int × Unit) ((0 : Int), ()) fun (y18 : Int × Unit) (I17 : (Int × Unit) → WP) =>
 ldW .slc ((⟨r1, 0, none⟩ : Addr).add 4) fun (u19 : (Option Addr × Nat × Nat)) =>
 splitW (decide (y18.1 < ((u19.2.1 : Nat) : Int))) (drewW <|
 ldAW [(.int .i64), (.int .i64)] ((⟨r1, 0, none⟩ : Addr).add 1) fun (u20 : (Int × Int × Unit)) =>
 ldW .slc ((⟨r1, 0, none⟩ : Addr).add 4) fun (u21 : (Option Addr × Nat × Nat)) =>
 guardW (0 ≤ y18.1 ∧ y18.1 < ((u21.2.1 : Nat) : Int)) <|
 ptrW u21.1 fun (p22 : Addr) =>
 ldW (.int .u32) (p22.add (Int.toNat y18.1 * 1)) fun (u23 : Int) =>
 callW Tryz.prog 129 [(.agg #[(.int .i64 u20.1), (.int .i64 u20.2.1)]), (.int .u32 u23)] (.one (.one .bool)) fun (u24 : Bool) =>
 splitW (!u24) (K (.int .i64 (2 : Int))) <|
 ldW .slc ((⟨r1, 0, none⟩ : Addr).add 4) fun (u25 : (Option Addr × Nat × Nat)) =>
 guardW (0 ≤ y18.1 ∧ y18.1 < ((u25.2.1 : Nat) : Int)) <|
 ptrW u25.1 fun (p26 : Addr) =>
 ldW (.int .u32) (p26.add (Int.toNat y18.1 * 1)) fun (u27 : Int) =>
 ldW (.int .u32) ((⟨r1, 0, none⟩ : Addr).add 3) fun (u28 : Int) =>
 splitW (u27 == u28) (K (.int .i64 (2 : Int))) <|
 loopW (Int × Unit) ((0 : Int), ()) fun (y30 : Int × Unit) (I29 : (Int × Unit) → WP) =>
 splitW (decide (y30.1 < y18.1)) (drewW <|
 ldW .slc ((⟨r1, 0, none⟩ : Addr).add 4) fun (u31 : (Option Addr × Nat × Nat)) =>
 guardW (0 ≤ y30.1 ∧ y30.1 < ((u31.2.1 : Nat) : Int)) <|
 ptrW u31.1 fun (p32 : Addr) =>
 ldW (.int .u32) (p32.add (Int.toNat y30.1 * 1)) fun (u33 : Int) =>
 ldW .slc ((⟨r1, 0, none⟩ : Addr).add 4) fun (u34 : (Option Addr × Nat × Nat)) =>
 guardW (0 ≤ y18.1 ∧ y18.1 < ((u34.2.1 : Nat) : Int)) <|
 ptrW u34.1 fun (p35 : Addr) =>
 ldW (.int .u32) (p35.add (Int.toNat y18.1 * 1)) fun (u36 : Int) =>
 splitW (u33 == u36) (K (.int .i64 (2 : Int))) <| I29 ((IntKind.wrap .i64 (y30.1 + (1 : Int))), ())) <| I17 ((IntKind.wrap .i64 (y18.1 + (1 : Int))), ())) <|
 drewW <|
 ldW .slc ((⟨r1, 0, none⟩ : Addr).add 4) fun (u37 : (Option Addr × Nat × Nat)) =>
 ldW (.int .i64) ((⟨r1, 0, none⟩ : Addr).add 1) fun (u38 : Int) =>
 callW Tryz.prog 126 [(.int .i64 u38)] (.one (.one (.int .i64))) fun (u39 : Int) =>
 heldW [[(((⟨r1, 0, none⟩ : Addr).add 4), (.slice u37.1 u37.2.1 u37.2.2))]] <|
 splitW (decide ((IntKind.wrap .i64 ((14 : Int) + (IntKind.wrap .i64 ((4 : Int) * ((u37.2.1 : Nat) : Int))))) > u39)) (K (.int .i64 (3 : Int))) <| K (.int .i64 (0 : Int))
theorem eq110 (x0_0 : Int) (x0_1 : Int) (x0_2 : Int) (x0_3 : Int) (a0_4 : Option Addr) (n0_4 c0_4 : Nat) (K : Value → WP) : bodyW Tryz.prog Tryz.f110 an110 false [(.agg #[(.int .u64 x0_0), (.int .i64 x0_1), (.int .i64 x0_2), (.int .u32 x0_3), (.slice a0_4 n0_4 c0_4)])] K = S110 x0_0 x0_1 x0_2 x0_3 a0_4 n0_4 c0_4 K := by kernel_rfl
theorem calls110 (x0_0 : Int) (x0_1 : Int) (x0_2 : Int) (x0_3 : Int) (a0_4 : Option Addr) (n0_4 c0_4 : Nat) {K : Value → WP} {w : World} (h : S110 x0_0 x0_1 x0_2 x0_3 a0_4 n0_4 c0_4 K w) : Calls Tryz.prog 110 #[(.agg #[(.int .u64 x0_0), (.int .i64 x0_1), (.int .i64 x0_2), (.int .u32 x0_3), (.slice a0_4 n0_4 c0_4)])] w (Ret K) := callsR_of_bodyW mixed Tryz.func110 (of_decide_eq_true (by kernel_rfl)) (by rw [eq110]; exact h)
def an111 : Ann := (.seq .nil (.seq (.seq .nil (.cond (.seq .nil .nil) .nil)) (.seq (.seq .nil (.block (.loop [(0, .sh (.one .slc)), (7, .sh (.one (.int .i64)))] [1, 2, 1000000] (.seq (.seq .nil (.cond .nil .nil)) (.seq (.block .nil) .nil))))) (.seq .nil .nil))))
def S111 (a0 : Option Addr) (n0 c0 : Nat) (x1 : Int) (x2 : Int) (K : Value → WP) : WP := 
 splitW (decide (x2 < (1 : Int))) (K (.slice a0 n0 c0)) <|
 splitW (decide (x2 > (8 : Int))) (K (.slice a0 n0 c0)) <|
 loopW ((Option Addr × Nat × Nat) × Int × Unit) ((a0, n0, c0), (0 : Int), ()) fun (y2 : (Option Addr × Nat × Nat) × Int × Unit) (I1 : ((Option Addr × Nat × Nat) × Int × Unit) → WP) =>
 splitW (decide (y2.2.1 < x2)) (guardW (0 ≤ (IntKind.wrap .u64 (IntKind.wrap .i64 ((8 : Int) * y2.2.1)))) <|
 newW (.cells #[(.int .u8 (IntKind.wrap .u8 (ishr .u64 x1 (IntKind.wrap .u64 (IntKind.wrap .i64 ((8 : Int) * y2.2.1))))))] 5) fun (r3 : Nat) =>
 runW Tryz.prog (Builtin.append_ #[93, 93] 93 #[(.slice y2.1.1 y2.1.2.1 y2.1.2.2), (.slice (some (⟨r3, 0, none⟩ : Addr)) 1 1)]) .slc fun (u4 : (Option Addr × Nat × Nat)) => I1 ((u4.1, u4.2.1, u4.2.2), (IntKind.wrap .i64 (y2.2.1 + (1 : Int))), ())) <| K (.slice y2.1.1 y2.1.2.1 y2.1.2.2)
theorem eq111 (a0 : Option Addr) (n0 c0 : Nat) (x1 : Int) (x2 : Int) (K : Value → WP) : bodyW Tryz.prog Tryz.f111 an111 false [(.slice a0 n0 c0), (.int .u64 x1), (.int .i64 x2)] K = S111 a0 n0 c0 x1 x2 K := by kernel_rfl
theorem calls111 (a0 : Option Addr) (n0 c0 : Nat) (x1 : Int) (x2 : Int) {K : Value → WP} {w : World} (h : S111 a0 n0 c0 x1 x2 K w) : Calls Tryz.prog 111 #[(.slice a0 n0 c0), (.int .u64 x1), (.int .i64 x2)] w (Ret K) := callsR_of_bodyW mixed Tryz.func111 (of_decide_eq_true (by kernel_rfl)) (by rw [eq111]; exact h)
def an112 : Ann := (.seq .nil (.seq (.seq .nil (.cond (.seq .nil .nil) .nil)) (.seq (.seq .nil (.cond (.seq .nil .nil) .nil)) (.seq .nil (.seq .nil (.seq .nil (.seq .nil (.seq .nil (.seq .nil .nil)))))))))
def S112 (x0 : Int) (x1_0 : Int) (x1_1 : Int) (x1_2 : ByteArray) (K : Value → WP) : WP := 
 newW (.cells #[(.int .u8 x1_0), (.int .u64 x1_1), (.string x1_2)] 87) fun (r1 : Nat) =>
 callW Tryz.prog 126 [(.int .i64 x0)] (.one (.one (.int .i64))) fun (u2 : Int) =>
 splitW (u2 == (0 : Int)) (K (.tuple #[(.string (ByteArray.mk #[])), (.int .i64 (2 : Int))])) <|
 drewW <|
 ldW .str ((⟨r1, 0, none⟩ : Addr).add 2) fun (u3 : ByteArray) =>
 callW Tryz.prog 126 [(.int .i64 x0)] (.one (.one (.int .i64))) fun (u4 : Int) =>
 heldW [[(((⟨r1, 0, none⟩ : Addr).add 2), (.string u3))]] <|
 splitW (decide (((u3.size : Nat) : Int) > u4)) (K (.tuple #[(.string (ByteArray.mk #[])), (.int .i64 (3 : Int))])) <|
 ldW (.int .u8) (⟨r1, 0, none⟩ : Addr) fun (u5 : Int) =>
 newW (.cells #[(.int .u8 u5), (.int .u8 (0 : Int))] 5) fun (r6 : Nat) =>
 ldW .str ((⟨r1, 0, none⟩ : Addr).add 2) fun (u7 : ByteArray) =>
 callW Tryz.prog 111 [(.slice (some (⟨r6, 0, none⟩ : Addr)) 2 2), (.int .u64 (IntKind.wrap .u64 ((u7.size : Nat) : Int))), (.int .i64 (2 : Int))] (.one (.one .slc)) fun (u8 : (Option Addr × Nat × Nat)) =>
 ldW (.int .u64) ((⟨r1, 0, none⟩ : Addr).add 1) fun (u9 : Int) =>
 callW Tryz.prog 111 [(.slice u8.1 u8.2.1 u8.2.2), (.int .u64 u9), (.int .i64 (8 : Int))] (.one (.one .slc)) fun (u10 : (Option Addr × Nat × Nat)) =>
 ldW .str ((⟨r1, 0, none⟩ : Addr).add 2) fun (u11 : ByteArray) =>
 runW Tryz.prog (Builtin.append_ #[93, 9] 93 #[(.slice u10.1 u10.2.1 u10.2.2), (.string u11)]) .slc fun (u12 : (Option Addr × Nat × Nat)) =>
 runW Tryz.prog (Builtin.append_ #[93, 3] 93 #[(.slice u12.1 u12.2.1 u12.2.2), (.int .i64 (IntKind.wrap .i64 ((IntKind.wrap .i64 (x0 - (4 : Int))) - ((u12.2.1 : Nat) : Int))))]) .slc fun (u13 : (Option Addr × Nat × Nat)) =>
 callW Tryz.prog 127 [(.slice u13.1 u13.2.1 u13.2.2)] (.one (.one (.int .u32))) fun (u14 : Int) =>
 callW Tryz.prog 111 [(.slice u13.1 u13.2.1 u13.2.2), (.int .u64 (IntKind.wrap .u64 u14)), (.int .i64 (4 : Int))] (.one (.one .slc)) fun (u15 : (Option Addr × Nat × Nat)) =>
 runW Tryz.prog (Go.convert 93 9 (.slice u15.1 u15.2.1 u15.2.2)) .str fun (u16 : ByteArray) => K (.tuple #[(.string u16), (.int .i64 (0 : Int))])
theorem eq112 (x0 : Int) (x1_0 : Int) (x1_1 : Int) (x1_2 : ByteArray) (K : Value → WP) : bodyW Tryz.prog Tryz.f112 an112 false [(.int .i64 x0), (.agg #[(.int .u8 x1_0), (.int .u64 x1_1), (.string x1_2)])] K = S112 x0 x1_0 x1_1 x1_2 K := by kernel_rfl
theorem calls112 (x0 : Int) (x1_0 : Int) (x1_1 : Int) (x1_2 : ByteArray) {K : Value → WP} {w : World} (h : S112 x0 x1_0 x1_1 x1_2 K w) : Calls Tryz.prog 112 #[(.int .i64 x0), (.agg #[(.int .u8 x1_0), (.int .u64 x1_1), (.string x1_2)])] w (Ret K) := callsR_of_bodyW mixed Tryz.func112 (of_decide_eq_true (by kernel_rfl)) (by rw [eq112]; exact h)
def an119 : Ann := (.seq .nil (.seq .nil .nil))
def S119 (x0 : Int) (a1 : Addr) (K : Value → WP) : WP := 
 splitW (decide (x0 ≥ (2 : Int))) (ldW (.int .i64) ((a1.add 1).add 1) fun (u1 : Int) => K (.bool (decide ((IntKind.wrap .u64 x0) < (IntKind.wrap .u64 u1))))) <| K (.bool false)
theorem eq119 (x0 : Int) (a1 : Addr) (K : Value → WP) : bodyW Tryz.prog Tryz.f119 an119 false [(.int .u32 x0), (.pointer (some a1))] K = S119 x0 a1 K := by kernel_rfl
theorem calls119 (x0 : Int) (a1 : Addr) {K : Value → WP} {w : World} (h : S119 x0 a1 K w) : Calls Tryz.prog 119 #[(.int .u32 x0), (.pointer (some a1))] w (Ret K) := callsR_of_bodyW mixed Tryz.func119 (of_decide_eq_true (by kernel_rfl)) (by rw [eq119]; exact h)
def an120 : Ann := (.seq .nil (.seq (.seq .nil (.cond (.seq .nil .nil) .nil)) (.seq .nil .nil)))
def S120 (a0 : Option Addr) (n0 c0 : Nat) (K : Value → WP) : WP := 
 splitW (Option.isNone a0) (K (.slice none 0 0)) <|
 newW (.cells #[] 5) fun (r1 : Nat) =>
 runW Tryz.prog (Builtin.append_ #[93, 93] 93 #[(.slice (some (⟨r1, 0, none⟩ : Addr)) 0 0), (.slice a0 n0 c0)]) .slc fun (u2 : (Option Addr × Nat × Nat)) => K (.slice u2.1 u2.2.1 u2.2.2)
theorem eq120 (a0 : Option Addr) (n0 c0 : Nat) (K : Value → WP) : bodyW Tryz.prog Tryz.f120 an120 false [(.slice a0 n0 c0)] K = S120 a0 n0 c0 K := by kernel_rfl
theorem calls120 (a0 : Option Addr) (n0 c0 : Nat) {K : Value → WP} {w : World} (h : S120 a0 n0 c0 K w) : Calls Tryz.prog 120 #[(.slice a0 n0 c0)] w (Ret K) := callsR_of_bodyW mixed Tryz.func120 (of_decide_eq_true (by kernel_rfl)) (by rw [eq120]; exact h)
def an121 : Ann := (.seq .nil (.seq (.seq .nil (.cond (.seq .nil .nil) .nil)) (.seq .nil (.seq .nil (.seq .nil .nil)))))
def S121 (x0 : Option Addr) (x1 : Int) (K : Value → WP) : WP := 
 ptrW x0 fun (p1 : Addr) =>
 ldW .slc p1 fun (u2 : (Option Addr × Nat × Nat)) =>
 splitW (decide (((u2.2.1 : Nat) : Int) < x1)) (K (.tuple #[(.slice none 0 0), (.int .i64 (7 : Int))])) <|
 ptrW x0 fun (p3 : Addr) =>
 ldW .slc p3 fun (u4 : (Option Addr × Nat × Nat)) =>
 guardW (0 ≤ x1 ∧ x1 ≤ x1 ∧ x1 ≤ ((u4.2.2 : Nat) : Int)) <|
 ptrW x0 fun (p5 : Addr) =>
 ldW .slc p5 fun (u6 : (Option Addr × Nat × Nat)) =>
 guardW (0 ≤ x1 ∧ x1 ≤ ((u6.2.1 : Nat) : Int)) <|
 ptrW x0 fun (p7 : Addr) =>
 stW p7 (.slice (cutAddr u6.1 (Int.toNat x1) u6.2.2 1) (u6.2.1 - (Int.toNat x1)) (u6.2.2 - (Int.toNat x1))) <| K (.tuple #[(.slice (cutAddr u4.1 0 (Int.toNat x1) 1) (Int.toNat x1) (Int.toNat x1)), (.int .i64 (0 : Int))])
theorem eq121 (x0 : Option Addr) (x1 : Int) (K : Value → WP) : bodyW Tryz.prog Tryz.f121 an121 false [(.pointer x0), (.int .i64 x1)] K = S121 x0 x1 K := by kernel_rfl
theorem calls121 (x0 : Option Addr) (x1 : Int) {K : Value → WP} {w : World} (h : S121 x0 x1 K w) : Calls Tryz.prog 121 #[(.pointer x0), (.int .i64 x1)] w (Ret K) := callsR_of_bodyW mixed Tryz.func121 (of_decide_eq_true (by kernel_rfl)) (by rw [eq121]; exact h)
def an122 : Ann := (.seq .nil (.seq .nil .nil))
def S122 (x0 : Array Value) (a1 : Option Addr) (n1 c1 : Nat) (K : Value → WP) : WP := 
 newW (.cells x0 192) fun (r1 : Nat) =>
 ldRW 256 (⟨r1, 0, none⟩ : Addr) fun (u2 : Array Value) =>
 callW Tryz.prog 136 [(.agg u2), (.int .u32 (4294967295 : Int)), (.slice a1 n1 c1)] (.one (.one (.int .u32))) fun (u3 : Int) => K (.int .u32 (inot .u32 u3))
theorem eq122 (x0 : Array Value) (a1 : Option Addr) (n1 c1 : Nat) (K : Value → WP) : bodyW Tryz.prog Tryz.f122 an122 false [(.agg x0), (.slice a1 n1 c1)] K = S122 x0 a1 n1 c1 K := by kernel_rfl
theorem calls122 (x0 : Array Value) (a1 : Option Addr) (n1 c1 : Nat) {K : Value → WP} {w : World} (h : S122 x0 a1 n1 c1 K w) : Calls Tryz.prog 122 #[(.agg x0), (.slice a1 n1 c1)] w (Ret K) := callsR_of_bodyW mixed Tryz.func122 (of_decide_eq_true (by kernel_rfl)) (by rw [eq122]; exact h)
def an123 : Ann := (.seq .nil (.seq (.seq .nil (.block (.loop [(3, .sh (.one (.int .i64)))] [0, 1000000] (.seq .nil (.seq (.cond .nil .nil) (.seq (.block (.seq .nil (.seq .nil (.seq (.seq .nil (.block (.loop [(2, .sh (.one (.int .u32))), (8, .sh (.one (.int .i64)))] [0, 1, 3, 1000000] (.seq .nil (.seq (.cond .nil .nil) (.seq (.block .nil) .nil)))))) .nil)))) .nil)))))) (.seq .nil .nil)))
def S123  (K : Value → WP) : WP := 
 newW (.cells (zeroC Tryz.prog 192) 192) fun (r1 : Nat) =>
 loopW (Int × Unit) ((0 : Int), ()) fun (y3 : Int × Unit) (I2 : (Int × Unit) → WP) =>
 splitW (decide (y3.1 < (256 : Int))) (loopW (Int × Int × Unit) ((IntKind.wrap .u32 y3.1), (0 : Int), ()) fun (y5 : Int × Int × Unit) (I4 : (Int × Int × Unit) → WP) =>
 splitW (decide (y5.2.1 < (8 : Int))) (I4 ((ixor .u32 (ishr .u32 y5.1 (1 : Int)) (IntKind.wrap .u32 ((2197175160 : Int) * (iand .u32 y5.1 (1 : Int))))), (IntKind.wrap .i64 (y5.2.1 + (1 : Int))), ())) <|
 guardW (0 ≤ y3.1 ∧ y3.1 < ((256 : Nat) : Int)) <|
 stW ((⟨r1, 0, none⟩ : Addr).add (Int.toNat y3.1 * 1)) (.int .u32 y5.1) <| I2 ((IntKind.wrap .i64 (y3.1 + (1 : Int))), ())) <|
 ldRW 256 (⟨r1, 0, none⟩ : Addr) fun (u6 : Array Value) =>
 guardW (u6.size = 256) <|
 stAW (⟨r1, 0, none⟩ : Addr) u6.toList <|
 ldRW 256 (⟨r1, 0, none⟩ : Addr) fun (u7 : Array Value) => K (.agg u7)
theorem eq123  (K : Value → WP) : bodyW Tryz.prog Tryz.f123 an123 false [] K = S123  K := by kernel_rfl
theorem calls123  {K : Value → WP} {w : World} (h : S123  K w) : Calls Tryz.prog 123 #[] w (Ret K) := callsR_of_bodyW mixed Tryz.func123 (of_decide_eq_true (by kernel_rfl)) (by rw [eq123]; exact h)
def an124 : Ann := (.seq .nil (.block (.loop [(4, .sh (.one (.int .i64)))] [0, 1, 2, 1000000] (.seq (.seq .nil (.cond .nil .nil)) (.seq (.block (.seq .nil (.seq .nil (.cond .nil .nil)))) .nil)))))
def S124 (x0 : Value) (a1 : Addr) (a2 : Addr) (K : Value → WP) : WP := 
 loopW (Int × Unit) ((0 : Int), ()) fun (y2 : Int × Unit) (I1 : (Int × Unit) → WP) =>
 ldW .slc a1 fun (u3 : (Option Addr × Nat × Nat)) =>
 splitW (decide (y2.1 < ((u3.2.1 : Nat) : Int))) (drewW <|
 ldW (.int .i64) a2 fun (u4 : Int) =>
 ldW .slc a1 fun (u5 : (Option Addr × Nat × Nat)) =>
 guardW (0 ≤ y2.1 ∧ y2.1 ≤ ((u5.2.1 : Nat) : Int)) <|
 ldW .slc a1 fun (u6 : (Option Addr × Nat × Nat)) =>
 guardW (0 ≤ y2.1 ∧ y2.1 ≤ (IntKind.wrap .i64 (y2.1 + (if (((u5.2.1 - (Int.toNat y2.1)) : Nat) : Int) < u4 then (((u5.2.1 - (Int.toNat y2.1)) : Nat) : Int) else u4))) ∧ (IntKind.wrap .i64 (y2.1 + (if (((u5.2.1 - (Int.toNat y2.1)) : Nat) : Int) < u4 then (((u5.2.1 - (Int.toNat y2.1)) : Nat) : Int) else u4))) ≤ (IntKind.wrap .i64 (y2.1 + (if (((u5.2.1 - (Int.toNat y2.1)) : Nat) : Int) < u4 then (((u5.2.1 - (Int.toNat y2.1)) : Nat) : Int) else u4))) ∧ (IntKind.wrap .i64 (y2.1 + (if (((u5.2.1 - (Int.toNat y2.1)) : Nat) : Int) < u4 then (((u5.2.1 - (Int.toNat y2.1)) : Nat) : Int) else u4))) ≤ ((u6.2.2 : Nat) : Int)) <|
 callVW Tryz.prog x0 [(.slice (cutAddr u6.1 (Int.toNat y2.1) (Int.toNat (IntKind.wrap .i64 (y2.1 + (if (((u5.2.1 - (Int.toNat y2.1)) : Nat) : Int) < u4 then (((u5.2.1 - (Int.toNat y2.1)) : Nat) : Int) else u4)))) 1) ((Int.toNat (IntKind.wrap .i64 (y2.1 + (if (((u5.2.1 - (Int.toNat y2.1)) : Nat) : Int) < u4 then (((u5.2.1 - (Int.toNat y2.1)) : Nat) : Int) else u4)))) - (Int.toNat y2.1)) ((Int.toNat (IntKind.wrap .i64 (y2.1 + (if (((u5.2.1 - (Int.toNat y2.1)) : Nat) : Int) < u4 then (((u5.2.1 - (Int.toNat y2.1)) : Nat) : Int) else u4)))) - (Int.toNat y2.1)))] (.one (.one .bool)) fun (u7 : Bool) =>
 splitW (!u7) (K (.tuple #[])) <|
 ldW (.int .i64) a2 fun (u8 : Int) => I1 ((IntKind.wrap .i64 (y2.1 + u8)), ())) <| K (.tuple #[])
theorem eq124 (x0 : Value) (a1 : Addr) (a2 : Addr) (K : Value → WP) : bodyW Tryz.prog Tryz.f124 an124 false [x0, (.pointer (some a1)), (.pointer (some a2))] K = S124 x0 a1 a2 K := by kernel_rfl
theorem calls124 (x0 : Value) (a1 : Addr) (a2 : Addr) {K : Value → WP} {w : World} (h : S124 x0 a1 a2 K w) : Calls Tryz.prog 124 #[x0, (.pointer (some a1)), (.pointer (some a2))] w (Ret K) := callsR_of_bodyW mixed Tryz.func124 (of_decide_eq_true (by kernel_rfl)) (by rw [eq124]; exact h)
def an125 : Ann := (.seq .nil (.block (.loop [(3, .sh (.one (.int .i64)))] [0, 1, 1000000] (.seq (.seq .nil (.cond .nil .nil)) (.seq (.block (.seq .nil (.cond .nil .nil))) .nil)))))
def S125 (x0 : Value) (a1 : Addr) (K : Value → WP) : WP := 
 ldW .slc a1 fun (u1 : (Option Addr × Nat × Nat)) =>
 loopW (Int × Unit) ((IntKind.wrap .i64 (((u1.2.1 : Nat) : Int) - (1 : Int))), ()) fun (y3 : Int × Unit) (I2 : (Int × Unit) → WP) =>
 splitW (decide (y3.1 ≥ (0 : Int))) (ldW .slc a1 fun (u4 : (Option Addr × Nat × Nat)) =>
 guardW (0 ≤ y3.1 ∧ y3.1 < ((u4.2.1 : Nat) : Int)) <|
 ptrW u4.1 fun (p5 : Addr) =>
 ldW (.int .u8) (p5.add (Int.toNat y3.1 * 1)) fun (u6 : Int) =>
 callVW Tryz.prog x0 [(.int .i64 y3.1), (.int .u8 u6)] (.one (.one .bool)) fun (u7 : Bool) =>
 splitW (!u7) (K (.tuple #[])) <| I2 ((IntKind.wrap .i64 (y3.1 - (1 : Int))), ())) <| K (.tuple #[])
theorem eq125 (x0 : Value) (a1 : Addr) (K : Value → WP) : bodyW Tryz.prog Tryz.f125 an125 false [x0, (.pointer (some a1))] K = S125 x0 a1 K := by kernel_rfl
theorem calls125 (x0 : Value) (a1 : Addr) {K : Value → WP} {w : World} (h : S125 x0 a1 K w) : Calls Tryz.prog 125 #[x0, (.pointer (some a1))] w (Ret K) := callsR_of_bodyW mixed Tryz.func125 (of_decide_eq_true (by kernel_rfl)) (by rw [eq125]; exact h)
def an126 : Ann := (.seq .nil (.seq (.seq .nil (.cond (.seq .nil .nil) .nil)) (.seq .nil .nil)))
def S126 (x0 : Int) (K : Value → WP) : WP := 
 callW Tryz.prog 128 [(.agg #[(.int .i64 x0), (.int .i64 (8 : Int))])] (.one (.one (.int .i64))) fun (u1 : Int) =>
 splitW (u1 != (0 : Int)) (K (.int .i64 (0 : Int))) <| K (.int .i64 (IntKind.wrap .i64 (x0 - (16 : Int))))
theorem eq126 (x0 : Int) (K : Value → WP) : bodyW Tryz.prog Tryz.f126 an126 false [(.int .i64 x0)] K = S126 x0 K := by kernel_rfl
theorem calls126 (x0 : Int) {K : Value → WP} {w : World} (h : S126 x0 K w) : Calls Tryz.prog 126 #[(.int .i64 x0)] w (Ret K) := callsR_of_bodyW mixed Tryz.func126 (of_decide_eq_true (by kernel_rfl)) (by rw [eq126]; exact h)
def an127 : Ann := (.seq .nil (.seq .nil .nil))
def S127 (a0 : Option Addr) (n0 c0 : Nat) (K : Value → WP) : WP := 
 callW Tryz.prog 138 [] (.one (.arr 256)) fun (u1 : Array Value) =>
 callW Tryz.prog 137 [(.agg u1), (.slice a0 n0 c0)] (.one (.one (.int .u32))) fun (u2 : Int) => K (.int .u32 u2)
theorem eq127 (a0 : Option Addr) (n0 c0 : Nat) (K : Value → WP) : bodyW Tryz.prog Tryz.f127 an127 false [(.slice a0 n0 c0)] K = S127 a0 n0 c0 K := by kernel_rfl
theorem calls127 (a0 : Option Addr) (n0 c0 : Nat) {K : Value → WP} {w : World} (h : S127 a0 n0 c0 K w) : Calls Tryz.prog 127 #[(.slice a0 n0 c0)] w (Ret K) := callsR_of_bodyW mixed Tryz.func127 (of_decide_eq_true (by kernel_rfl)) (by rw [eq127]; exact h)
def an128 : Ann := (.seq .nil (.seq (.seq .nil (.cond (.seq .nil .nil) .nil)) (.seq .nil .nil)))
def S128 (x0_0 : Int) (x0_1 : Int) (K : Value → WP) : WP := 
 newW (.cells #[(.int .i64 x0_0), (.int .i64 x0_1)] 23) fun (r1 : Nat) =>
 ldW (.int .i64) (⟨r1, 0, none⟩ : Addr) fun (u2 : Int) =>
 splitW (decide (u2 < (128 : Int))) (K (.int .i64 (2 : Int))) <|
 ldW (.int .i64) (⟨r1, 0, none⟩ : Addr) fun (u3 : Int) =>
 splitW (decide (u3 > (4096 : Int))) (K (.int .i64 (2 : Int))) <|
 ldW (.int .i64) (⟨r1, 0, none⟩ : Addr) fun (u4 : Int) =>
 splitW ((Int.tmod u4 (64 : Int)) != (0 : Int)) (K (.int .i64 (2 : Int))) <|
 ldW (.int .i64) ((⟨r1, 0, none⟩ : Addr).add 1) fun (u5 : Int) =>
 splitW (decide (u5 < (8 : Int))) (K (.int .i64 (2 : Int))) <|
 ldW (.int .i64) ((⟨r1, 0, none⟩ : Addr).add 1) fun (u6 : Int) =>
 splitW (decide (u6 > (4096 : Int))) (K (.int .i64 (2 : Int))) <| K (.int .i64 (0 : Int))
theorem eq128 (x0_0 : Int) (x0_1 : Int) (K : Value → WP) : bodyW Tryz.prog Tryz.f128 an128 false [(.agg #[(.int .i64 x0_0), (.int .i64 x0_1)])] K = S128 x0_0 x0_1 K := by kernel_rfl
theorem calls128 (x0_0 : Int) (x0_1 : Int) {K : Value → WP} {w : World} (h : S128 x0_0 x0_1 K w) : Calls Tryz.prog 128 #[(.agg #[(.int .i64 x0_0), (.int .i64 x0_1)])] w (Ret K) := callsR_of_bodyW mixed Tryz.func128 (of_decide_eq_true (by kernel_rfl)) (by rw [eq128]; exact h)
def an129 : Ann := (.seq .nil (.seq .nil .nil))
def S129 (x0_0 : Int) (x0_1 : Int) (x1 : Int) (K : Value → WP) : WP := 
 newW (.cells #[(.int .i64 x0_0), (.int .i64 x0_1)] 23) fun (r1 : Nat) =>
 splitW (decide (x1 ≥ (2 : Int))) (ldW (.int .i64) ((⟨r1, 0, none⟩ : Addr).add 1) fun (u2 : Int) => K (.bool (decide ((IntKind.wrap .u64 x1) < (IntKind.wrap .u64 u2))))) <| K (.bool false)
theorem eq129 (x0_0 : Int) (x0_1 : Int) (x1 : Int) (K : Value → WP) : bodyW Tryz.prog Tryz.f129 an129 false [(.agg #[(.int .i64 x0_0), (.int .i64 x0_1)]), (.int .u32 x1)] K = S129 x0_0 x0_1 x1 K := by kernel_rfl
theorem calls129 (x0_0 : Int) (x0_1 : Int) (x1 : Int) {K : Value → WP} {w : World} (h : S129 x0_0 x0_1 x1 K w) : Calls Tryz.prog 129 #[(.agg #[(.int .i64 x0_0), (.int .i64 x0_1)]), (.int .u32 x1)] w (Ret K) := callsR_of_bodyW mixed Tryz.func129 (of_decide_eq_true (by kernel_rfl)) (by rw [eq129]; exact h)
def an130 : Ann := (.seq .nil (.seq (.seq .nil (.cond (.seq .nil .nil) .nil)) (.seq .nil (.seq .nil .nil))))
def S130 (x0_0 : Int) (x0_1 : Int) (K : Value → WP) : WP := 
 newW (.cells #[(.int .i64 x0_0), (.int .i64 x0_1)] 23) fun (r1 : Nat) =>
 ldAW [(.int .i64), (.int .i64)] (⟨r1, 0, none⟩ : Addr) fun (u2 : (Int × Int × Unit)) =>
 callW Tryz.prog 128 [(.agg #[(.int .i64 u2.1), (.int .i64 u2.2.1)])] (.one (.one (.int .i64))) fun (u3 : Int) =>
 splitW (u3 != (0 : Int)) (K (.int .i64 (0 : Int))) <|
 ldW (.int .i64) (⟨r1, 0, none⟩ : Addr) fun (u4 : Int) =>
 callW Tryz.prog 126 [(.int .i64 u4)] (.one (.one (.int .i64))) fun (u5 : Int) =>
 ldW (.int .i64) ((⟨r1, 0, none⟩ : Addr).add 1) fun (u6 : Int) =>
 guardW (u5 ≠ 0) <| K (.int .i64 (IntKind.wrap .i64 (Int.tdiv (IntKind.wrap .i64 ((IntKind.wrap .i64 ((IntKind.wrap .i64 ((2 : Int) * u6)) + u5)) - (1 : Int))) u5)))
theorem eq130 (x0_0 : Int) (x0_1 : Int) (K : Value → WP) : bodyW Tryz.prog Tryz.f130 an130 false [(.agg #[(.int .i64 x0_0), (.int .i64 x0_1)])] K = S130 x0_0 x0_1 K := by kernel_rfl
theorem calls130 (x0_0 : Int) (x0_1 : Int) {K : Value → WP} {w : World} (h : S130 x0_0 x0_1 K w) : Calls Tryz.prog 130 #[(.agg #[(.int .i64 x0_0), (.int .i64 x0_1)])] w (Ret K) := callsR_of_bodyW mixed Tryz.func130 (of_decide_eq_true (by kernel_rfl)) (by rw [eq130]; exact h)
def an136 : Ann := (.seq .nil (.seq (.seq .nil (.block (.loop [(1, .sh (.one (.int .u32))), (11, .sh (.one (.int .i64)))] [3, 9, 10, 1000000] (.seq .nil (.seq (.cond .nil .nil) (.seq (.block (.seq .nil .nil)) .nil)))))) (.seq .nil .nil)))
def S136 (x0 : Array Value) (x1 : Int) (a2 : Option Addr) (n2 c2 : Nat) (K : Value → WP) : WP := 
 newW (.cells x0 192) fun (r1 : Nat) =>
 loopW (Int × Int × Unit) (x1, (0 : Int), ()) fun (y3 : Int × Int × Unit) (I2 : (Int × Int × Unit) → WP) =>
 splitW (decide (y3.2.1 < ((n2 : Nat) : Int))) (guardW (0 ≤ y3.2.1 ∧ y3.2.1 < ((n2 : Nat) : Int)) <|
 ptrW a2 fun (p4 : Addr) =>
 ldW (.int .u8) (p4.add (Int.toNat y3.2.1 * 1)) fun (u5 : Int) =>
 guardW (0 ≤ (ixor .u8 (IntKind.wrap .u8 y3.1) u5) ∧ (ixor .u8 (IntKind.wrap .u8 y3.1) u5) < ((256 : Nat) : Int)) <|
 ldW (.int .u32) ((⟨r1, 0, none⟩ : Addr).add (Int.toNat (ixor .u8 (IntKind.wrap .u8 y3.1) u5) * 1)) fun (u6 : Int) => I2 ((ixor .u32 (ishr .u32 y3.1 (8 : Int)) u6), (IntKind.wrap .i64 (y3.2.1 + (1 : Int))), ())) <| K (.int .u32 y3.1)
theorem eq136 (x0 : Array Value) (x1 : Int) (a2 : Option Addr) (n2 c2 : Nat) (K : Value → WP) : bodyW Tryz.prog Tryz.f136 an136 false [(.agg x0), (.int .u32 x1), (.slice a2 n2 c2)] K = S136 x0 x1 a2 n2 c2 K := by kernel_rfl
theorem calls136 (x0 : Array Value) (x1 : Int) (a2 : Option Addr) (n2 c2 : Nat) {K : Value → WP} {w : World} (h : S136 x0 x1 a2 n2 c2 K w) : Calls Tryz.prog 136 #[(.agg x0), (.int .u32 x1), (.slice a2 n2 c2)] w (Ret K) := callsR_of_bodyW mixed Tryz.func136 (of_decide_eq_true (by kernel_rfl)) (by rw [eq136]; exact h)
def an137 : Ann := (.seq .nil (.seq .nil .nil))
def S137 (x0 : Array Value) (a1 : Option Addr) (n1 c1 : Nat) (K : Value → WP) : WP := 
 newW (.cells x0 192) fun (r1 : Nat) =>
 ldRW 256 (⟨r1, 0, none⟩ : Addr) fun (u2 : Array Value) =>
 callW Tryz.prog 141 [(.agg u2), (.int .u32 (4294967295 : Int)), (.slice a1 n1 c1)] (.one (.one (.int .u32))) fun (u3 : Int) => K (.int .u32 (inot .u32 u3))
theorem eq137 (x0 : Array Value) (a1 : Option Addr) (n1 c1 : Nat) (K : Value → WP) : bodyW Tryz.prog Tryz.f137 an137 false [(.agg x0), (.slice a1 n1 c1)] K = S137 x0 a1 n1 c1 K := by kernel_rfl
theorem calls137 (x0 : Array Value) (a1 : Option Addr) (n1 c1 : Nat) {K : Value → WP} {w : World} (h : S137 x0 a1 n1 c1 K w) : Calls Tryz.prog 137 #[(.agg x0), (.slice a1 n1 c1)] w (Ret K) := callsR_of_bodyW mixed Tryz.func137 (of_decide_eq_true (by kernel_rfl)) (by rw [eq137]; exact h)
def an138 : Ann := (.seq .nil (.seq .nil (.seq (.seq .nil (.block (.loop [(2, .sh (.one (.int .i64)))] [0, 1, 1000000] (.seq (.seq .nil (.cond .nil .nil)) (.seq (.block (.seq .nil (.seq (.seq .nil (.block (.loop [(3, .sh (.one (.int .u32))), (4, .sh (.one (.int .i64)))] [0, 1, 2, 1000000] (.seq (.seq .nil (.cond .nil .nil)) (.seq (.block (.seq .nil (.cond .nil .nil))) .nil))))) .nil))) .nil))))) (.seq .nil .nil))))
def S138  (K : Value → WP) : WP := 
 newW (.cells (zeroC Tryz.prog 192) 192) fun (r1 : Nat) =>
 newW (.cells (zeroC Tryz.prog 192) 192) fun (r2 : Nat) =>
 loopW (Int × Unit) ((0 : Int), ()) fun (y4 : Int × Unit) (I3 : (Int × Unit) → WP) =>
 splitW (decide (y4.1 < (256 : Int))) (loopW (Int × Int × Unit) ((IntKind.wrap .u32 y4.1), (0 : Int), ()) fun (y6 : Int × Int × Unit) (I5 : (Int × Int × Unit) → WP) =>
 splitW (decide (y6.2.1 < (8 : Int))) (splitW ((Int.tmod y6.1 (2 : Int)) == (1 : Int)) (I5 ((ixor .u32 (ishr .u32 y6.1 (1 : Int)) (2197175160 : Int)), (IntKind.wrap .i64 (y6.2.1 + (1 : Int))), ())) <| I5 ((ishr .u32 y6.1 (1 : Int)), (IntKind.wrap .i64 (y6.2.1 + (1 : Int))), ())) <|
 guardW (0 ≤ y4.1 ∧ y4.1 < ((256 : Nat) : Int)) <|
 stW ((⟨r2, 0, none⟩ : Addr).add (Int.toNat y4.1 * 1)) (.int .u32 y6.1) <| I3 ((IntKind.wrap .i64 (y4.1 + (1 : Int))), ())) <|
 ldRW 256 (⟨r2, 0, none⟩ : Addr) fun (u7 : Array Value) =>
 guardW (u7.size = 256) <|
 stAW (⟨r1, 0, none⟩ : Addr) u7.toList <|
 ldRW 256 (⟨r1, 0, none⟩ : Addr) fun (u8 : Array Value) => K (.agg u8)
theorem eq138  (K : Value → WP) : bodyW Tryz.prog Tryz.f138 an138 false [] K = S138  K := by kernel_rfl
theorem calls138  {K : Value → WP} {w : World} (h : S138  K w) : Calls Tryz.prog 138 #[] w (Ret K) := callsR_of_bodyW mixed Tryz.func138 (of_decide_eq_true (by kernel_rfl)) (by rw [eq138]; exact h)
def an141 : Ann := (.seq .nil (.seq (.seq .nil (.block (.loop [(1, .sh (.one (.int .u32))), (7, .sh (.one (.int .i64)))] [2, 3, 1000000] (.seq (.seq .nil (.cond .nil .nil)) (.seq (.block .nil) .nil))))) (.seq .nil .nil)))
def S141 (x0 : Array Value) (x1 : Int) (a2 : Option Addr) (n2 c2 : Nat) (K : Value → WP) : WP := 
 newW (.cells x0 192) fun (r1 : Nat) =>
 loopW (Int × Int × Unit) (x1, (0 : Int), ()) fun (y3 : Int × Int × Unit) (I2 : (Int × Int × Unit) → WP) =>
 splitW (decide (y3.2.1 < ((n2 : Nat) : Int))) (guardW (0 ≤ y3.2.1 ∧ y3.2.1 < ((n2 : Nat) : Int)) <|
 ptrW a2 fun (p4 : Addr) =>
 ldW (.int .u8) (p4.add (Int.toNat y3.2.1 * 1)) fun (u5 : Int) =>
 guardW (0 ≤ (ixor .u8 (IntKind.wrap .u8 y3.1) u5) ∧ (ixor .u8 (IntKind.wrap .u8 y3.1) u5) < ((256 : Nat) : Int)) <|
 ldW (.int .u32) ((⟨r1, 0, none⟩ : Addr).add (Int.toNat (ixor .u8 (IntKind.wrap .u8 y3.1) u5) * 1)) fun (u6 : Int) => I2 ((ixor .u32 (ishr .u32 y3.1 (8 : Int)) u6), (IntKind.wrap .i64 (y3.2.1 + (1 : Int))), ())) <| K (.int .u32 y3.1)
theorem eq141 (x0 : Array Value) (x1 : Int) (a2 : Option Addr) (n2 c2 : Nat) (K : Value → WP) : bodyW Tryz.prog Tryz.f141 an141 false [(.agg x0), (.int .u32 x1), (.slice a2 n2 c2)] K = S141 x0 x1 a2 n2 c2 K := by kernel_rfl
theorem calls141 (x0 : Array Value) (x1 : Int) (a2 : Option Addr) (n2 c2 : Nat) {K : Value → WP} {w : World} (h : S141 x0 x1 a2 n2 c2 K w) : Calls Tryz.prog 141 #[(.agg x0), (.int .u32 x1), (.slice a2 n2 c2)] w (Ret K) := callsR_of_bodyW mixed Tryz.func141 (of_decide_eq_true (by kernel_rfl)) (by rw [eq141]; exact h)
end Go.Proofs.YtjdmggaeagnolaaGreatDoor.V
