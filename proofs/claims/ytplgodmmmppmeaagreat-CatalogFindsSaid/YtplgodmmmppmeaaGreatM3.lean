/- Texts of mine, merged (wip/tool/mergep.py): S, KKit, KSchema, DecSchema, KSchema2, SchP, HP, KGeo, HI, KIter, Crc, Crc2, KCrc, KFrame, HH, CatP, HM, HB, KRef02, KKit2, HD. -/
import Derived.Test.YtplgodmmmppmeaaGreatM1
import Derived.Test.YtplgodmmmppmeaaGreatChecked
import Derived.Test.YtplgodmmmppmeaaGreatM2
import Derived.Lib.AppendZerosOnto
import Derived.RangeFuncRecord
import Derived.Laws.CopyRow
import Derived.MapKept
set_option linter.unusedVariables false
set_option linter.unusedSimpArgs false
namespace Go.Proofs.YtplgodmmmppmeaaGreat
/- The shallow forms of the functions, by a program of mine (wip/tool/gen.py). -/
set_option maxRecDepth 100000
namespace V
open Go Go.Proofs
theorem zkY (a0 : Option Addr) (n0 c0 : Nat) {K : Value -> WP} {w : World} (h : S107 a0 n0 c0 K w) : Calls Tryz.prog 107 #[(.slice a0 n0 c0)] w (Ret K) := cE an107 true Tryz.func107 mixed (by kernel_rfl) (by kernel_rfl) h
def an108 : Ann := (.seq .nil (.join [] [0, 1, 1000000] (.seq .nil (.cond .nil .nil)) (.seq (.seq .nil (.cond (.seq .nil .nil) .nil)) (.seq .nil (.seq .nil (.seq .nil .nil))))))
def S108 (x0 : Option Addr) (x1 : Int) (K : Value -> WP) : WP :=
 xh (Unit) (fun (J1 : (Unit) -> WP) =>
 zh x0 fun (p3 : Addr) =>
 ldW (.int .i64) (p3.add 1) fun (u4 : Int) =>
 za (u4 == (0 : Int)) (zh x0 fun (p5 : Addr) =>
 ldW .str p5 fun (u6 : ByteArray) =>
 za (decide (x1 > ((u6.size : Nat) : Int))) (zh x0 fun (p7 : Addr) =>
 stW (p7.add 1) (.int .i64 (240 : Int)) <| J1 ()) <| J1 ()) <| J1 ()) fun (y2 : Unit) =>
 zh x0 fun (p8 : Addr) =>
 ldW (.int .i64) (p8.add 1) fun (u9 : Int) =>
 za (u9 != (0 : Int)) (K (.string (ByteArray.mk #[]))) <|
 zh x0 fun (p10 : Addr) =>
 ldW .str p10 fun (u11 : ByteArray) =>
 zd (0 <= x1 /\ x1 <= ((u11.size : Nat) : Int)) <|
 zh x0 fun (p12 : Addr) =>
 ldW .str p12 fun (u13 : ByteArray) =>
 zd (0 <= x1 /\ x1 <= ((u13.size : Nat) : Int)) <|
 zh x0 fun (p14 : Addr) =>
 stW p14 (.string (ByteArray.extract u13 (Int.toNat x1) u13.size)) <| K (.string (ByteArray.extract u11 0 (Int.toNat x1)))
theorem zkZ (x0 : Option Addr) (x1 : Int) {K : Value -> WP} {w : World} (h : S108 x0 x1 K w) : Calls Tryz.prog 108 #[(.pointer x0), (.int .i64 x1)] w (Ret K) := cE an108 false Tryz.func108 mixed (by kernel_rfl) (by kernel_rfl) h
def an109 : Ann := (.seq .nil (.seq (.seq .nil (.cond (.seq .nil .nil) .nil)) (.seq .nil (.seq (.seq .nil (.block (.loop [(2, .sh (.one .slc)), (3, .sh (.one .str)), (17, .sh (.one (.int .i64)))] [16, 1000000] (.seq .nil (.seq (.cond .nil .nil) (.seq (.block (.seq .nil (.seq (.seq .nil (.cond (.seq .nil .nil) .nil)) .nil))) .nil)))))) (.seq (.seq .nil (.cond (.seq .nil .nil) .nil)) (.seq .nil .nil))))))
def S109 (x0 : ByteArray) (K : Value -> WP) : WP :=
 za (x0.toList == (ByteArray.mk #[]).toList) (K (.tuple #[(.slice none 0 0), (.string (ByteArray.mk #[])), (.int .i64 (171 : Int))])) <|
 zA <|
 zd (0 <= (0 : Int) /\ (0 : Int) < ((x0.size : Nat) : Int)) <|
 zd (0 <= (1 : Int) /\ (1 : Int) <= ((x0.size : Nat) : Int)) <|
 zD (SLC × ByteArray × Int × Unit) ((none, 0, 0), (ByteArray.extract x0 (Int.toNat (1 : Int)) x0.size), (0 : Int), ()) fun (y2 : SLC × ByteArray × Int × Unit) (I1 : (SLC × ByteArray × Int × Unit) -> WP) =>
 za (decide (y2.2.2.1 < (IntKind.wrap .i64 (bt x0 (0 : Int))))) (ze Tryz.prog 157 [(.string y2.2.1)] (.many [(.agg [.str, (.int .i64), .bool]), (.one .str), (.one .bool)]) fun (u3 : (ByteArray × Int × Bool × Unit) × ByteArray × Bool × Unit) =>
 zi (.cells #[(.string ByteArray.empty), (.int .i64 (0 : Int)), (.bool false)] 62) fun (r4 : Nat) =>
 zd ((#[(.string u3.1.1), (.int .i64 u3.1.2.1), (.bool u3.1.2.2.1)] : Array Value).size = 3) <|
 zt (aD r4) [(.string u3.1.1), (.int .i64 u3.1.2.1), (.bool u3.1.2.2.1)] <|
 za (!u3.2.2.1) (K (.tuple #[(.slice none 0 0), (.string (ByteArray.mk #[])), (.int .i64 (171 : Int))])) <|
 zk [.str, (.int .i64), .bool] (aD r4) fun (u5 : (ByteArray × Int × Bool × Unit)) =>
 zi (.cells #[(.string u5.1), (.int .i64 u5.2.1), (.bool u5.2.2.1)] 62) fun (r6 : Nat) =>
 zw Tryz.prog (Builtin.append_ #[40, 40] 40 #[(.slice y2.1.1 y2.1.2.1 y2.1.2.2), (.slice (some (aD r6)) 1 1)]) .slc fun (u7 : SLC) => I1 ((u7.1, u7.2.1, u7.2.2), u3.2.1, (IntKind.wrap .i64 (y2.2.2.1 + (1 : Int))), ())) <|
 ze Tryz.prog 106 [(.slice y2.1.1 y2.1.2.1 y2.1.2.2)] (.one (.one (.int .i64))) fun (u8 : Int) =>
 za (u8 != (0 : Int)) (K (.tuple #[(.slice none 0 0), (.string (ByteArray.mk #[])), (.int .i64 (171 : Int))])) <| K (.tuple #[(.slice y2.1.1 y2.1.2.1 y2.1.2.2), (.string y2.2.1), (.int .i64 (0 : Int))])
theorem zk0 (x0 : ByteArray) {K : Value -> WP} {w : World} (h : S109 x0 K w) : Calls Tryz.prog 109 #[(.string x0)] w (Ret K) := cE an109 false Tryz.func109 mixed (by kernel_rfl) (by kernel_rfl) h
def an110 : Ann := (.seq .nil (.seq (.seq .nil (.cond (.seq .nil .nil) .nil)) (.seq .nil (.seq (.seq .nil (.block (.loop [] [14, 1000000] (.seq .nil (.seq (.cond .nil .nil) (.block (.seq .nil (.join [] [1000000] (.block (.join [(19, .sh (.one .bool))] [3, 4, 14, 1000000] (.seq .nil (.cond .nil (.seq .nil (.cond .nil .nil)))) (.cond .nil (.seq .nil (.cond .nil .nil))))) (.seq .nil .nil))))))))) (.seq .nil .nil)))))
def S110 (x0 : ByteArray) (K : Value -> WP) : WP :=
 za (decide (((x0.size : Nat) : Int) < (1 : Int))) (K (.int .i64 (170 : Int))) <|
 za (decide (((x0.size : Nat) : Int) > (32 : Int))) (K (.int .i64 (170 : Int))) <|
 zi (.stringIter x0 0) fun (r1 : Nat) =>
 zD (Unit) () fun (y3 : Unit) (I2 : (Unit) -> WP) =>
 zmM r1 (fun (i4 c5 : Int) =>
 za true (xh (Unit) (fun (J6 : (Unit) -> WP) =>
 xh (Bool × Unit) (fun (J8 : (Bool × Unit) -> WP) =>
 za (decide (c5 >= (97 : Int))) (za (decide (c5 <= (122 : Int))) (J8 ((decide (c5 <= (122 : Int))), ())) <|
 za (decide (c5 >= (65 : Int))) (za (decide (c5 <= (90 : Int))) (J8 ((decide (c5 <= (90 : Int))), ())) <| J8 ((c5 == (95 : Int)), ())) <| J8 ((c5 == (95 : Int)), ())) <|
 za (decide (c5 >= (65 : Int))) (za (decide (c5 <= (90 : Int))) (J8 ((decide (c5 <= (90 : Int))), ())) <| J8 ((c5 == (95 : Int)), ())) <| J8 ((c5 == (95 : Int)), ())) fun (y9 : Bool × Unit) =>
 za y9.1 (I2 ()) <|
 za (decide (i4 > (0 : Int))) (za (decide (c5 >= (48 : Int))) (za (decide (c5 <= (57 : Int))) (I2 ()) <| J6 ()) <| J6 ()) <| J6 ()) fun (y7 : Unit) => K (.int .i64 (170 : Int))) <| K (.int .i64 (0 : Int))) <|
 za false (zl) <| K (.int .i64 (0 : Int))
theorem zk1 (x0 : ByteArray) {K : Value -> WP} {w : World} (h : S110 x0 K w) : Calls Tryz.prog 110 #[(.string x0)] w (Ret K) := cE an110 false Tryz.func110 mixed (by kernel_rfl) (by kernel_rfl) h
def an111 : Ann := (.seq .nil (.seq (.seq .nil (.cond (.seq .nil .nil) .nil)) (.seq .nil .nil)))
def S111 (x0_0 : Int) (x0_1 : Int) (K : Value -> WP) : WP :=
 zi (.cells #[(.int .i64 x0_0), (.int .i64 x0_1)] 72) fun (r1 : Nat) =>
 ldW (.int .i64) (aD r1) fun (u2 : Int) =>
 za (decide (u2 < (128 : Int))) (K (.int .i64 (2 : Int))) <|
 ldW (.int .i64) (aD r1) fun (u3 : Int) =>
 za (decide (u3 > (4096 : Int))) (K (.int .i64 (2 : Int))) <|
 ldW (.int .i64) (aD r1) fun (u4 : Int) =>
 za ((Int.tmod u4 (64 : Int)) != (0 : Int)) (K (.int .i64 (2 : Int))) <|
 ldW (.int .i64) ((aD r1).add 1) fun (u5 : Int) =>
 za (decide (u5 < (8 : Int))) (K (.int .i64 (2 : Int))) <|
 ldW (.int .i64) ((aD r1).add 1) fun (u6 : Int) =>
 za (decide (u6 > (4096 : Int))) (K (.int .i64 (2 : Int))) <| K (.int .i64 (0 : Int))
theorem zk2 (x0_0 : Int) (x0_1 : Int) {K : Value -> WP} {w : World} (h : S111 x0_0 x0_1 K w) : Calls Tryz.prog 111 #[(.agg #[(.int .i64 x0_0), (.int .i64 x0_1)])] w (Ret K) := cE an111 false Tryz.func111 mixed (by kernel_rfl) (by kernel_rfl) h
def an112 : Ann := (.seq .nil (.join [] [0, 1, 1000000] (.seq .nil (.cond .nil .nil)) (.seq .nil (.join [] [0, 6, 1000000] (.seq .nil (.cond .nil .nil)) (.seq .nil (.seq .nil (.seq (.block (.loop [(8, .sh (.one (.int .i64)))] [7, 1000000] (.seq (.seq .nil (.cond .nil .nil)) (.block .nil)))) (.seq .nil .nil))))))))
def S112 (a0 : Option Addr) (n0 c0 : Nat) (x1 : Int) (K : Value -> WP) : WP :=
 xh (Unit) (fun (J1 : (Unit) -> WP) =>
 za (decide (x1 < (0 : Int))) (zl) <| J1 ()) fun (y2 : Unit) =>
 ze Tryz.prog 158 [(.int .u64 (IntKind.wrap .u64 ((n0 : Nat) : Int))), (.int .u64 (IntKind.wrap .u64 x1))] (.many [(.one (.int .u64)), (.one (.int .u64))]) fun (u3 : Int × Int × Unit) =>
 xh (Unit) (fun (J4 : (Unit) -> WP) =>
 za (decide (u3.1 > (0 : Int))) (zl) <|
 za (decide (u3.2.1 > (9223372036854775807 : Int))) (zl) <| J4 ()) fun (y5 : Unit) =>
 zw Tryz.prog (Instr.makeSlice 158 (.int .i64 (IntKind.wrap .i64 u3.2.1)) (.int .i64 (IntKind.wrap .i64 u3.2.1))) .slc fun (u6 : SLC) =>
 zw Tryz.prog (Builtin.copy_ #[158, 158] 3 #[(.slice u6.1 u6.2.1 u6.2.2), (.slice a0 n0 c0)]) (.int .i64) fun (u7 : Int) =>
 zD (Int × Unit) (u7, ()) fun (y9 : Int × Unit) (I8 : (Int × Unit) -> WP) =>
 za (decide (y9.1 < ((u6.2.1 : Nat) : Int))) (zA <|
 zd (0 <= y9.1 /\ y9.1 <= ((u6.2.1 : Nat) : Int)) <|
 zd (0 <= y9.1 /\ y9.1 <= ((u6.2.2 : Nat) : Int)) <|
 zw Tryz.prog (Builtin.copy_ #[158, 158] 3 #[(.slice (zm u6.1 (Int.toNat y9.1) u6.2.2 1) (u6.2.1 - (Int.toNat y9.1)) (u6.2.2 - (Int.toNat y9.1))), (.slice (zm u6.1 0 u6.2.2 1) (Int.toNat y9.1) u6.2.2)]) (.int .i64) fun (u10 : Int) => I8 ((IntKind.wrap .i64 (y9.1 + u10)), ())) <| K (.slice u6.1 u6.2.1 u6.2.2)
theorem zk3 (a0 : Option Addr) (n0 c0 : Nat) (x1 : Int) {K : Value -> WP} {w : World} (h : S112 a0 n0 c0 x1 K w) : Calls Tryz.prog 112 #[(.slice a0 n0 c0), (.int .i64 x1)] w (Ret K) := cE an112 false Tryz.func112 mixed (by kernel_rfl) (by kernel_rfl) h
def an114 : Ann := (.seq .nil (.seq (.seq .nil (.cond (.seq .nil .nil) .nil)) (.seq .nil (.seq .nil (.seq .nil .nil)))))
def S114 (x0_0 : Int) (x0_1 : Int) (K : Value -> WP) : WP :=
 zi (.cells #[(.int .i64 x0_0), (.int .i64 x0_1)] 72) fun (r1 : Nat) =>
 zk [(.int .i64), (.int .i64)] (aD r1) fun (u2 : (Int × Int × Unit)) =>
 ze Tryz.prog 111 [(.agg #[(.int .i64 u2.1), (.int .i64 u2.2.1)])] (.one (.one (.int .i64))) fun (u3 : Int) =>
 za (u3 != (0 : Int)) (K (.tuple #[(.pointer none), (.int .i64 (2 : Int))])) <|
 zA <|
 zk [(.int .i64), (.int .i64)] (aD r1) fun (u4 : (Int × Int × Unit)) =>
 ldW (.int .i64) ((aD r1).add 1) fun (u5 : Int) =>
 zw Tryz.prog (Instr.makeSlice 191 (.int .i64 u5) (.int .i64 u5)) .slc fun (u6 : SLC) =>
 zq [[((aD r1).add 0, (.int .i64 u4.1)), ((aD r1).add 1, (.int .i64 u4.2.1))]] <|
 zi (.cells #[(.int .i64 u4.1), (.int .i64 u4.2.1), (.slice u6.1 u6.2.1 u6.2.2)] 193) fun (r7 : Nat) =>
 zA <|
 zh (some (aD r7)) fun (p8 : Addr) =>
 ldW .slc (p8.add 2) fun (u9 : SLC) =>
 zh (some (aD r7)) fun (p10 : Addr) =>
 ldW .slc (p10.add 2) fun (u11 : SLC) =>
 zd (0 <= (0 : Int) /\ (0 : Int) < ((u9.2.1 : Nat) : Int)) <|
 zh u9.1 fun (p12 : Addr) =>
 stW (p12.add (Int.toNat (0 : Int) * 1)) (.int .u16 (1 : Int)) <|
 zd (0 <= (1 : Int) /\ (1 : Int) < ((u11.2.1 : Nat) : Int)) <|
 zh u11.1 fun (p13 : Addr) =>
 stW (p13.add (Int.toNat (1 : Int) * 1)) (.int .u16 (1 : Int)) <| K (.tuple #[(.pointer (some (aD r7))), (.int .i64 (0 : Int))])
theorem zk4 (x0_0 : Int) (x0_1 : Int) {K : Value -> WP} {w : World} (h : S114 x0_0 x0_1 K w) : Calls Tryz.prog 114 #[(.agg #[(.int .i64 x0_0), (.int .i64 x0_1)])] w (Ret K) := cE an114 false Tryz.func114 mixed (by kernel_rfl) (by kernel_rfl) h
def an115 : Ann := (.seq .nil (.seq (.seq .nil (.cond (.seq .nil .nil) .nil)) (.seq .nil (.seq .nil .nil))))
def S115 (x0_0 : Int) (x0_1 : Int) (K : Value -> WP) : WP :=
 zi (.cells #[(.int .i64 x0_0), (.int .i64 x0_1)] 72) fun (r1 : Nat) =>
 zk [(.int .i64), (.int .i64)] (aD r1) fun (u2 : (Int × Int × Unit)) =>
 ze Tryz.prog 111 [(.agg #[(.int .i64 u2.1), (.int .i64 u2.2.1)])] (.one (.one (.int .i64))) fun (u3 : Int) =>
 za (u3 != (0 : Int)) (K (.int .i64 (0 : Int))) <|
 ldW (.int .i64) (aD r1) fun (u4 : Int) =>
 ze Tryz.prog 121 [(.int .i64 u4)] (.one (.one (.int .i64))) fun (u5 : Int) =>
 ldW (.int .i64) ((aD r1).add 1) fun (u6 : Int) =>
 zd (u5 ≠ 0) <| K (.int .i64 (IntKind.wrap .i64 (Int.tdiv (IntKind.wrap .i64 ((IntKind.wrap .i64 ((IntKind.wrap .i64 ((2 : Int) * u6)) + u5)) - (1 : Int))) u5)))
theorem zge (x0_0 : Int) (x0_1 : Int) {K : Value -> WP} {w : World} (h : S115 x0_0 x0_1 K w) : Calls Tryz.prog 115 #[(.agg #[(.int .i64 x0_0), (.int .i64 x0_1)])] w (Ret K) := cE an115 false Tryz.func115 mixed (by kernel_rfl) (by kernel_rfl) h
def an116 : Ann := (.seq .nil (.join [] [0, 1, 1000000] (.block (.seq .nil (.cond (.seq .nil .nil) (.seq .nil (.cond (.seq .nil .nil) .nil))))) (.seq (.seq .nil (.block (.loop [(30, .sh (.one (.int .i64)))] [0, 1, 28, 29, 1000000] (.seq .nil (.seq (.cond .nil .nil) (.seq (.block (.seq .nil (.seq .nil (.cond (.seq .nil (.seq .nil .nil)) .nil)))) .nil)))))) (.seq .nil .nil))))
def S116 (x0 : Option Addr) (x1 : Option Addr) (K : Value -> WP) : WP :=
 xh (Unit) (fun (J1 : (Unit) -> WP) =>
 za (Option.isNone x0) (K (.tuple #[(.int .u32 (0 : Int)), (.int .i64 (1 : Int))])) <|
 zA <|
 za (!(Option.isNone x1)) (zh x1 fun (p3 : Addr) =>
 zk [(.int .i64), (.int .i64)] p3 fun (u4 : (Int × Int × Unit)) =>
 zh x0 fun (p5 : Addr) =>
 zk [(.int .i64), (.int .i64)] p5 fun (u6 : (Int × Int × Unit)) =>
 eqW Tryz.prog (eqS .neq 72 (.tmp 18) (.tmp 22) (.agg #[(.int .i64 u4.1), (.int .i64 u4.2.1)]) (.agg #[(.int .i64 u6.1), (.int .i64 u6.2.1)])) fun (b7 : Bool) =>
 za b7 (K (.tuple #[(.int .u32 (0 : Int)), (.int .i64 (2 : Int))])) <| J1 ()) <| J1 ()) fun (y2 : Unit) =>
 zh x0 fun (p8 : Addr) =>
 ldW .slc (p8.add 2) fun (u9 : SLC) =>
 zD (Int × Unit) ((0 : Int), ()) fun (y11 : Int × Unit) (I10 : (Int × Unit) -> WP) =>
 za (decide (y11.1 < ((u9.2.1 : Nat) : Int))) (zd (0 <= y11.1 /\ y11.1 < ((u9.2.1 : Nat) : Int)) <|
 zh u9.1 fun (p12 : Addr) =>
 ldW (.int .u16) (p12.add (Int.toNat y11.1 * 1)) fun (u13 : Int) =>
 za (u13 == (0 : Int)) (ze Tryz.prog 75 [(.pointer x1), (.int .u32 (IntKind.wrap .u32 y11.1))] (.one (.one (.int .i64))) fun (u14 : Int) =>
 za (u14 == (0 : Int)) (zh x0 fun (p15 : Addr) =>
 ldW .slc (p15.add 2) fun (u16 : SLC) =>
 zd (0 <= y11.1 /\ y11.1 < ((u16.2.1 : Nat) : Int)) <|
 zh u16.1 fun (p17 : Addr) =>
 stW (p17.add (Int.toNat y11.1 * 1)) (.int .u16 (1 : Int)) <| K (.tuple #[(.int .u32 (IntKind.wrap .u32 y11.1)), (.int .i64 (0 : Int))])) <| I10 ((IntKind.wrap .i64 (y11.1 + (1 : Int))), ())) <| I10 ((IntKind.wrap .i64 (y11.1 + (1 : Int))), ())) <| K (.tuple #[(.int .u32 (0 : Int)), (.int .i64 (9 : Int))])
theorem zk5 (x0 : Option Addr) (x1 : Option Addr) {K : Value -> WP} {w : World} (h : S116 x0 x1 K w) : Calls Tryz.prog 116 #[(.pointer x0), (.pointer x1)] w (Ret K) := cE an116 false Tryz.func116 mixed (by kernel_rfl) (by kernel_rfl) h
def an117 : Ann := (.seq .nil (.seq .nil (.join [] [1, 3, 1000000] (.seq .nil (.cond (.seq .nil .nil) .nil)) (.seq (.seq .nil (.block (.loop [(40, .sh (.one (.int .i64)))] [1, 3, 38, 39, 1000000] (.seq .nil (.seq (.cond .nil .nil) (.seq (.block (.seq .nil (.seq .nil (.cond (.seq .nil .nil) .nil)))) .nil)))))) (.seq (.seq .nil (.cond (.seq .nil .nil) .nil)) (.seq .nil .nil))))))
def S117 (x0_0 : Int) (x0_1 : Int) (x0_2 : Int) (x0_3 : Int) (a0_4 : Option Addr) (n0_4 c0_4 : Nat) (K : Value -> WP) : WP :=
 zi (.cells #[(.int .u64 x0_0), (.int .i64 x0_1), (.int .i64 x0_2), (.int .u32 x0_3), (.slice a0_4 n0_4 c0_4)] 79) fun (r1 : Nat) =>
 xh (Unit) (fun (J2 : (Unit) -> WP) =>
 zA <|
 zk [(.int .i64), (.int .i64)] ((aD r1).add 1) fun (u4 : (Int × Int × Unit)) =>
 ze Tryz.prog 111 [(.agg #[(.int .i64 u4.1), (.int .i64 u4.2.1)])] (.one (.one (.int .i64))) fun (u5 : Int) =>
 za (u5 != (0 : Int)) (K (.int .i64 (2 : Int))) <|
 ldW (.int .u64) (aD r1) fun (u6 : Int) =>
 za (u6 == (0 : Int)) (K (.int .i64 (2 : Int))) <|
 ldW (.int .u32) ((aD r1).add 3) fun (u7 : Int) =>
 za (u7 != (0 : Int)) (ldW (.int .u32) ((aD r1).add 3) fun (u8 : Int) =>
 yy Tryz.prog (.func (.func 161) #[] #[(.pointer (some (aD r1)))]) [(.int .u32 u8)] (.one (.one .bool)) fun (u9 : Bool) =>
 za (!u9) (K (.int .i64 (2 : Int))) <|
 ldW .slc ((aD r1).add 4) fun (u10 : SLC) =>
 zk [(.int .i64), (.int .i64)] ((aD r1).add 1) fun (u11 : (Int × Int × Unit)) =>
 ze Tryz.prog 115 [(.agg #[(.int .i64 u11.1), (.int .i64 u11.2.1)])] (.one (.one (.int .i64))) fun (u12 : Int) =>
 zq [[(((aD r1).add 4), (.slice u10.1 u10.2.1 u10.2.2))]] <|
 za (((u10.2.1 : Nat) : Int) != u12) (K (.int .i64 (2 : Int))) <| J2 ()) <|
 ldW .slc ((aD r1).add 4) fun (u13 : SLC) =>
 zk [(.int .i64), (.int .i64)] ((aD r1).add 1) fun (u14 : (Int × Int × Unit)) =>
 ze Tryz.prog 115 [(.agg #[(.int .i64 u14.1), (.int .i64 u14.2.1)])] (.one (.one (.int .i64))) fun (u15 : Int) =>
 zq [[(((aD r1).add 4), (.slice u13.1 u13.2.1 u13.2.2))]] <|
 za (((u13.2.1 : Nat) : Int) != u15) (K (.int .i64 (2 : Int))) <| J2 ()) fun (y3 : Unit) =>
 ldW .slc ((aD r1).add 4) fun (u16 : SLC) =>
 zD (Int × Unit) ((0 : Int), ()) fun (y18 : Int × Unit) (I17 : (Int × Unit) -> WP) =>
 za (decide (y18.1 < ((u16.2.1 : Nat) : Int))) (zd (0 <= y18.1 /\ y18.1 < ((u16.2.1 : Nat) : Int)) <|
 zh u16.1 fun (p19 : Addr) =>
 ldW (.int .u32) (p19.add (Int.toNat y18.1 * 1)) fun (u20 : Int) =>
 yy Tryz.prog (.func (.func 161) #[] #[(.pointer (some (aD r1)))]) [(.int .u32 u20)] (.one (.one .bool)) fun (u21 : Bool) =>
 za (!u21) (K (.int .i64 (2 : Int))) <|
 ldW (.int .u32) ((aD r1).add 3) fun (u22 : Int) =>
 za (u20 == u22) (K (.int .i64 (2 : Int))) <|
 ldW .slc ((aD r1).add 4) fun (u23 : SLC) =>
 zd (0 <= y18.1 /\ y18.1 <= ((u23.2.2 : Nat) : Int)) <|
 ze Tryz.prog 120 [(.slice (zm u23.1 0 u23.2.2 1) (Int.toNat y18.1) u23.2.2), (.int .u32 u20)] (.one (.one .bool)) fun (u24 : Bool) =>
 za u24 (K (.int .i64 (2 : Int))) <| I17 ((IntKind.wrap .i64 (y18.1 + (1 : Int))), ())) <|
 zA <|
 ldW .slc ((aD r1).add 4) fun (u25 : SLC) =>
 ldW (.int .i64) ((aD r1).add 1) fun (u26 : Int) =>
 ze Tryz.prog 121 [(.int .i64 u26)] (.one (.one (.int .i64))) fun (u27 : Int) =>
 zq [[(((aD r1).add 4), (.slice u25.1 u25.2.1 u25.2.2))]] <|
 za (decide ((IntKind.wrap .i64 ((14 : Int) + (IntKind.wrap .i64 ((4 : Int) * ((u25.2.1 : Nat) : Int))))) > u27)) (K (.int .i64 (3 : Int))) <| K (.int .i64 (0 : Int))
theorem zk6 (x0_0 : Int) (x0_1 : Int) (x0_2 : Int) (x0_3 : Int) (a0_4 : Option Addr) (n0_4 c0_4 : Nat) {K : Value -> WP} {w : World} (h : S117 x0_0 x0_1 x0_2 x0_3 a0_4 n0_4 c0_4 K w) : Calls Tryz.prog 117 #[(.agg #[(.int .u64 x0_0), (.int .i64 x0_1), (.int .i64 x0_2), (.int .u32 x0_3), (.slice a0_4 n0_4 c0_4)])] w (Ret K) := cE an117 false Tryz.func117 mixed (by kernel_rfl) (by kernel_rfl) h
def an118 : Ann := (.seq .nil (.seq (.block (.seq .nil (.cond (.seq .nil .nil) (.seq .nil (.cond (.seq .nil .nil) (.seq .nil (.cond (.seq .nil .nil) .nil))))))) (.seq .nil (.seq .nil .nil))))
def S118 (x0 : Option Addr) (x1 : Int) (x2 : ByteArray) (K : Value -> WP) : WP :=
 za (Option.isNone x0) (K (.int .i64 (1 : Int))) <|
 ze Tryz.prog 162 [(.pointer x0), (.int .i64 x1)] (.one (.one .bool)) fun (u1 : Bool) =>
 za (!u1) (K (.int .i64 (2 : Int))) <|
 zh x0 fun (p2 : Addr) =>
 ldW (.int .i64) p2 fun (u3 : Int) =>
 za (((x2.size : Nat) : Int) != u3) (K (.int .i64 (2 : Int))) <|
 ze Tryz.prog 163 [(.pointer x0)] (.one (.one .bool)) fun (u4 : Bool) =>
 za (!u4) (K (.int .i64 (8 : Int))) <|
 zh x0 fun (p5 : Addr) =>
 ldW .slc (p5.add 3) fun (u6 : SLC) =>
 zi (.cells #[(.int .i64 x1), (.string x2)] 230) fun (r7 : Nat) =>
 zw Tryz.prog (Builtin.append_ #[159, 159] 159 #[(.slice u6.1 u6.2.1 u6.2.2), (.slice (some (aD r7)) 1 1)]) .slc fun (u8 : SLC) =>
 zh x0 fun (p9 : Addr) =>
 stW (p9.add 3) (.slice u8.1 u8.2.1 u8.2.2) <| K (.int .i64 (0 : Int))
theorem zk7 (x0 : Option Addr) (x1 : Int) (x2 : ByteArray) {K : Value -> WP} {w : World} (h : S118 x0 x1 x2 K w) : Calls Tryz.prog 118 #[(.pointer x0), (.int .i64 x1), (.string x2)] w (Ret K) := cE an118 false Tryz.func118 mixed (by kernel_rfl) (by kernel_rfl) h
def an119 : Ann := (.seq .nil (.seq (.seq .nil (.block (.loop [(8, .sh (.one (.int .i64)))] [0, 1, 7, 1000000] (.seq .nil (.seq (.cond .nil .nil) (.seq (.block (.seq .nil (.seq .nil (.cond (.seq .nil .nil) .nil)))) .nil)))))) (.seq .nil .nil)))
def S119 (a0 : Option Addr) (n0 c0 : Nat) (x1 : Value) (K : Value -> WP) : WP :=
 zD (Int × Unit) ((0 : Int), ()) fun (y2 : Int × Unit) (I1 : (Int × Unit) -> WP) =>
 za (decide (y2.1 < ((n0 : Nat) : Int))) (zd (0 <= y2.1 /\ y2.1 < ((n0 : Nat) : Int)) <|
 zh a0 fun (p3 : Addr) =>
 ldW (.int .u32) (p3.add (Int.toNat y2.1 * 1)) fun (u4 : Int) =>
 yy Tryz.prog x1 [(.int .u32 u4)] (.one (.one .bool)) fun (u5 : Bool) =>
 za u5 (K (.int .i64 y2.1)) <| I1 ((IntKind.wrap .i64 (y2.1 + (1 : Int))), ())) <| K (.int .i64 (-1 : Int))
theorem zk8 (a0 : Option Addr) (n0 c0 : Nat) (x1 : Value) {K : Value -> WP} {w : World} (h : S119 a0 n0 c0 x1 K w) : Calls Tryz.prog 119 #[(.slice a0 n0 c0), x1] w (Ret K) := cE an119 false Tryz.func119 mixed (by kernel_rfl) (by kernel_rfl) h
def an120 : Ann := (.seq .nil (.seq .nil .nil))
def S120 (a0 : Option Addr) (n0 c0 : Nat) (x1 : Int) (K : Value -> WP) : WP :=
 ze Tryz.prog 164 [(.slice a0 n0 c0), (.int .u32 x1)] (.one (.one (.int .i64))) fun (u1 : Int) => K (.bool (decide (u1 >= (0 : Int))))
theorem zk9 (a0 : Option Addr) (n0 c0 : Nat) (x1 : Int) {K : Value -> WP} {w : World} (h : S120 a0 n0 c0 x1 K w) : Calls Tryz.prog 120 #[(.slice a0 n0 c0), (.int .u32 x1)] w (Ret K) := cE an120 false Tryz.func120 mixed (by kernel_rfl) (by kernel_rfl) h
def an121 : Ann := (.seq .nil (.seq (.seq .nil (.cond (.seq .nil .nil) .nil)) (.seq .nil .nil)))
def S121 (x0 : Int) (K : Value -> WP) : WP :=
 ze Tryz.prog 111 [(.agg #[(.int .i64 x0), (.int .i64 (8 : Int))])] (.one (.one (.int .i64))) fun (u1 : Int) =>
 za (u1 != (0 : Int)) (K (.int .i64 (0 : Int))) <| K (.int .i64 (IntKind.wrap .i64 ((IntKind.wrap .i64 (x0 - (12 : Int))) - (4 : Int))))
theorem zla (x0 : Int) {K : Value -> WP} {w : World} (h : S121 x0 K w) : Calls Tryz.prog 121 #[(.int .i64 x0)] w (Ret K) := cE an121 false Tryz.func121 mixed (by kernel_rfl) (by kernel_rfl) h
def an122 : Ann := (.seq .nil (.block (.loop [(6, .sh (.one (.int .i64)))] [1, 4, 5, 1000000] (.seq .nil (.seq (.cond .nil .nil) (.seq (.block (.seq .nil .nil)) .nil))))))
def S122 (a0 : Addr) (a1 : Addr) (K : Value -> WP) : WP :=
 ldW .slc a0 fun (u1 : SLC) =>
 zD (Int × Unit) ((0 : Int), ()) fun (y3 : Int × Unit) (I2 : (Int × Unit) -> WP) =>
 za (decide (y3.1 < ((u1.2.1 : Nat) : Int))) (zd (0 <= y3.1 /\ y3.1 < ((u1.2.1 : Nat) : Int)) <|
 zh u1.1 fun (p4 : Addr) =>
 ldW (.int .u32) (p4.add (Int.toNat y3.1 * 1)) fun (u5 : Int) =>
 ldW .ptr a1 fun (u6 : Option Addr) =>
 zh u6 fun (p7 : Addr) =>
 ldW .ptr (p7.add 8) fun (u8 : Option Addr) =>
 ze Tryz.prog 87 [(.pointer u8), (.int .u32 u5)] (.many [(.one (.int .i64)), (.one (.int .i64))]) fun (u9 : Int × Int × Unit) => I2 ((IntKind.wrap .i64 (y3.1 + (1 : Int))), ())) <| K (.tuple #[])
theorem zpi (a0 : Addr) (a1 : Addr) (K : Value -> WP) : uK Tryz.prog Tryz.f122 an122 false [(.pointer (some a0)), (.pointer (some a1))] K = S122 a0 a1 K := by kernel_rfl
theorem zjP (a0 : Addr) (a1 : Addr) {K : Value -> WP} {w : World} (h : S122 a0 a1 K w) : ui Tryz.prog 122 [(.pointer (some a0)), (.pointer (some a1))] w K := uN mixed Tryz.func122 (of_decide_eq_true (by kernel_rfl)) (by rw [zpi]; exact h)
def an123 : Ann := (.seq .nil (.seq .nil (.seq (.block (.seq .nil (.cond (.seq .nil .nil) (.seq .nil (.cond (.seq .nil .nil) .nil))))) (.seq .nil (.seq .nil (.seq .nil (.seq .nil (.seq .nil (.seq .nil (.seq .nil (.seq .nil .nil)))))))))))
def S123 (x0 : Int) (x1_0 : Int) (x1_1 : Int) (x1_2 : ByteArray) (K : Value -> WP) : WP :=
 zi (.cells #[(.int .u8 x1_0), (.int .u64 x1_1), (.string x1_2)] 127) fun (r1 : Nat) =>
 ze Tryz.prog 121 [(.int .i64 x0)] (.one (.one (.int .i64))) fun (u2 : Int) =>
 za (u2 == (0 : Int)) (K (.tuple #[(.string (ByteArray.mk #[])), (.int .i64 (2 : Int))])) <|
 ldW .str ((aD r1).add 2) fun (u3 : ByteArray) =>
 za (decide (((u3.size : Nat) : Int) > u2)) (K (.tuple #[(.string (ByteArray.mk #[])), (.int .i64 (3 : Int))])) <|
 zw Tryz.prog (Instr.makeSlice 85 (.int .i64 x0) (.int .i64 x0)) .slc fun (u4 : SLC) =>
 zA <|
 zd (0 <= (0 : Int) /\ (0 : Int) <= (12 : Int) /\ (12 : Int) <= ((u4.2.2 : Nat) : Int)) <|
 ldW (.int .u8) (aD r1) fun (u5 : Int) =>
 zi (.cells #[(.int .u8 u5), (.int .u8 (0 : Int))] 5) fun (r6 : Nat) =>
 zw Tryz.prog (Builtin.append_ #[85, 85] 85 #[(.slice (zm u4.1 0 (Int.toNat (12 : Int)) 1) (Int.toNat (0 : Int)) (Int.toNat (12 : Int))), (.slice (some (aD r6)) 2 2)]) .slc fun (u7 : SLC) =>
 ldW .str ((aD r1).add 2) fun (u8 : ByteArray) =>
 ze Tryz.prog 42 [(.slice u7.1 u7.2.1 u7.2.2), (.int .u64 (IntKind.wrap .u64 ((u8.size : Nat) : Int))), (.int .i64 (2 : Int))] (.one (.one .slc)) fun (u9 : SLC) =>
 ldW (.int .u64) ((aD r1).add 1) fun (u10 : Int) =>
 ze Tryz.prog 42 [(.slice u9.1 u9.2.1 u9.2.2), (.int .u64 u10), (.int .i64 (8 : Int))] (.one (.one .slc)) fun (u11 : SLC) =>
 zA <|
 zd (0 <= (12 : Int) /\ (12 : Int) <= ((u4.2.1 : Nat) : Int)) <|
 ldW .str ((aD r1).add 2) fun (u12 : ByteArray) =>
 zw Tryz.prog (Builtin.copy_ #[85, 9] 3 #[(.slice (zm u4.1 (Int.toNat (12 : Int)) u4.2.2 1) (u4.2.1 - (Int.toNat (12 : Int))) (u4.2.2 - (Int.toNat (12 : Int)))), (.string u12)]) (.int .i64) fun (u13 : Int) =>
 zA <|
 zd (0 <= (IntKind.wrap .i64 (x0 - (4 : Int))) /\ (IntKind.wrap .i64 (x0 - (4 : Int))) <= (IntKind.wrap .i64 (x0 - (4 : Int))) /\ (IntKind.wrap .i64 (x0 - (4 : Int))) <= x0 /\ x0 <= ((u4.2.2 : Nat) : Int)) <|
 zd (0 <= (IntKind.wrap .i64 (x0 - (4 : Int))) /\ (IntKind.wrap .i64 (x0 - (4 : Int))) <= ((u4.2.2 : Nat) : Int)) <|
 ze Tryz.prog 165 [(.slice (zm u4.1 0 u4.2.2 1) (Int.toNat (IntKind.wrap .i64 (x0 - (4 : Int)))) u4.2.2)] (.one (.one (.int .u32))) fun (u14 : Int) =>
 ze Tryz.prog 42 [(.slice (zm u4.1 (Int.toNat (IntKind.wrap .i64 (x0 - (4 : Int)))) (Int.toNat x0) 1) ((Int.toNat (IntKind.wrap .i64 (x0 - (4 : Int)))) - (Int.toNat (IntKind.wrap .i64 (x0 - (4 : Int))))) ((Int.toNat x0) - (Int.toNat (IntKind.wrap .i64 (x0 - (4 : Int)))))), (.int .u64 (IntKind.wrap .u64 u14)), (.int .i64 (4 : Int))] (.one (.one .slc)) fun (u15 : SLC) =>
 zw Tryz.prog (Go.convert 85 9 (.slice u4.1 u4.2.1 u4.2.2)) .str fun (u16 : ByteArray) => K (.tuple #[(.string u16), (.int .i64 (0 : Int))])
theorem zlb (x0 : Int) (x1_0 : Int) (x1_1 : Int) (x1_2 : ByteArray) {K : Value -> WP} {w : World} (h : S123 x0 x1_0 x1_1 x1_2 K w) : Calls Tryz.prog 123 #[(.int .i64 x0), (.agg #[(.int .u8 x1_0), (.int .u64 x1_1), (.string x1_2)])] w (Ret K) := cE an123 false Tryz.func123 mixed (by kernel_rfl) (by kernel_rfl) h
def an124 : Ann := (.seq .nil (.seq .nil (.seq (.block (.seq .nil (.cond (.seq .nil .nil) (.seq .nil (.cond (.seq .nil .nil) (.seq .nil (.cond (.seq .nil .nil) .nil))))))) (.seq (.seq .nil (.block (.loop [(56, .sh (.one (.int .i64)))] [0, 2, 3, 8, 10, 54, 55, 1000000] (.seq .nil (.seq (.cond .nil .nil) (.join [] [0, 2, 3, 8, 10, 54, 55, 56, 1000000] (.block (.seq .nil (.seq .nil (.seq (.seq .nil (.cond (.seq .nil .nil) .nil)) (.join [(15, .sh (.one .bool))] [0, 2, 3, 8, 10, 11, 13, 54, 55, 56, 1000000] .nil (.join [] [0, 2, 3, 8, 10, 11, 13, 54, 55, 56, 1000000] (.seq .nil (.cond (.seq .nil .nil) .nil)) (.join [] [0, 2, 3, 8, 10, 13, 54, 55, 56, 1000000] (.seq .nil (.cond .nil .nil)) .nil))))))) .nil)))))) (.seq .nil .nil)))))
def S124 (x0 : Option Addr) (x1 : Int) (x2 : Int) (x3 : Bool) (K : Value -> WP) : WP :=
 zi (.cells #[(.int .i64 (0 : Int)), (.int .u64 (0 : Int)), (.int .u64 (0 : Int)), (.int .u8 (0 : Int)), (.int .i64 (0 : Int))] 197) fun (r1 : Nat) =>
 ze Tryz.prog 166 [(.pointer x0), (.int .u32 x1)] (.many [(.agg [(.int .u8), .slc, .slc, .slc]), (.one (.int .i64))]) fun (u2 : (Int × SLC × SLC × SLC × Unit) × Int × Unit) =>
 zi (.cells #[(.int .u8 (0 : Int)), (.slice none 0 0), (.slice none 0 0), (.slice none 0 0)] 215) fun (r3 : Nat) =>
 zd ((#[(.int .u8 u2.1.1), (.slice u2.1.2.1.1 u2.1.2.1.2.1 u2.1.2.1.2.2), (.slice u2.1.2.2.1.1 u2.1.2.2.1.2.1 u2.1.2.2.1.2.2), (.slice u2.1.2.2.2.1.1 u2.1.2.2.2.1.2.1 u2.1.2.2.2.1.2.2)] : Array Value).size = 4) <|
 zt (aD r3) [(.int .u8 u2.1.1), (.slice u2.1.2.1.1 u2.1.2.1.2.1 u2.1.2.1.2.2), (.slice u2.1.2.2.1.1 u2.1.2.2.1.2.1 u2.1.2.2.1.2.2), (.slice u2.1.2.2.2.1.1 u2.1.2.2.2.1.2.1 u2.1.2.2.2.1.2.2)] <|
 za (u2.2.1 != (0 : Int)) (zk [(.int .i64), (.int .u64), (.int .u64), (.int .u8), (.int .i64)] (aD r1) fun (u4 : (Int × Int × Int × Int × Int × Unit)) =>
 zd ((#[(.int .i64 u4.1), (.int .u64 u4.2.1), (.int .u64 u4.2.2.1), (.int .u8 u4.2.2.2.1), (.int .i64 u4.2.2.2.2.1)] : Array Value).size = 5) <|
 zt (aD r1) [(.int .i64 u4.1), (.int .u64 u4.2.1), (.int .u64 u4.2.2.1), (.int .u8 u4.2.2.2.1), (.int .i64 u4.2.2.2.2.1)] <|
 zk [(.int .i64), (.int .u64), (.int .u64), (.int .u8), (.int .i64)] (aD r1) fun (u5 : (Int × Int × Int × Int × Int × Unit)) => K (.tuple #[(.agg #[(.int .i64 u5.1), (.int .u64 u5.2.1), (.int .u64 u5.2.2.1), (.int .u8 u5.2.2.2.1), (.int .i64 u5.2.2.2.2.1)]), (.int .i64 u2.2.1)])) <|
 za (decide (x2 > (16 : Int))) (zk [(.int .i64), (.int .u64), (.int .u64), (.int .u8), (.int .i64)] (aD r1) fun (u6 : (Int × Int × Int × Int × Int × Unit)) =>
 zd ((#[(.int .i64 u6.1), (.int .u64 u6.2.1), (.int .u64 u6.2.2.1), (.int .u8 u6.2.2.2.1), (.int .i64 u6.2.2.2.2.1)] : Array Value).size = 5) <|
 zt (aD r1) [(.int .i64 u6.1), (.int .u64 u6.2.1), (.int .u64 u6.2.2.1), (.int .u8 u6.2.2.2.1), (.int .i64 u6.2.2.2.2.1)] <|
 zk [(.int .i64), (.int .u64), (.int .u64), (.int .u8), (.int .i64)] (aD r1) fun (u7 : (Int × Int × Int × Int × Int × Unit)) => K (.tuple #[(.agg #[(.int .i64 u7.1), (.int .u64 u7.2.1), (.int .u64 u7.2.2.1), (.int .u8 u7.2.2.2.1), (.int .i64 u7.2.2.2.2.1)]), (.int .i64 (10 : Int))])) <|
 zk [(.int .u8), .slc, .slc, .slc] (aD r3) fun (u8 : (Int × SLC × SLC × SLC × Unit)) =>
 ze Tryz.prog 167 [(.agg #[(.int .u8 u8.1), (.slice u8.2.1.1 u8.2.1.2.1 u8.2.1.2.2), (.slice u8.2.2.1.1 u8.2.2.1.2.1 u8.2.2.1.2.2), (.slice u8.2.2.2.1.1 u8.2.2.2.1.2.1 u8.2.2.2.1.2.2)])] (.one (.one .bool)) fun (u9 : Bool) =>
 za (!u9) (zA <|
 ldW .slc ((aD r3).add 1) fun (u10 : SLC) =>
 ldW .slc ((aD r3).add 1) fun (u11 : SLC) =>
 zd (0 <= (0 : Int) /\ (0 : Int) < ((u11.2.1 : Nat) : Int)) <|
 zh u11.1 fun (p12 : Addr) =>
 ldW (.int .u64) (p12.add (Int.toNat (0 : Int) * 1)) fun (u13 : Int) =>
 ldW .slc ((aD r3).add 1) fun (u14 : SLC) =>
 ldW .slc ((aD r3).add 1) fun (u15 : SLC) =>
 zd (0 <= (IntKind.wrap .i64 (((u15.2.1 : Nat) : Int) - (1 : Int))) /\ (IntKind.wrap .i64 (((u15.2.1 : Nat) : Int) - (1 : Int))) < ((u14.2.1 : Nat) : Int)) <|
 zh u14.1 fun (p16 : Addr) =>
 ldW (.int .u64) (p16.add (Int.toNat (IntKind.wrap .i64 (((u15.2.1 : Nat) : Int) - (1 : Int))) * 1)) fun (u17 : Int) =>
 ldW (.int .u8) (aD r3) fun (u18 : Int) =>
 zd ((#[(.int .i64 ((u10.2.1 : Nat) : Int)), (.int .u64 u13), (.int .u64 u17), (.int .u8 u18), (.int .i64 (1 : Int))] : Array Value).size = 5) <|
 zt (aD r1) [(.int .i64 ((u10.2.1 : Nat) : Int)), (.int .u64 u13), (.int .u64 u17), (.int .u8 u18), (.int .i64 (1 : Int))] <|
 zk [(.int .i64), (.int .u64), (.int .u64), (.int .u8), (.int .i64)] (aD r1) fun (u19 : (Int × Int × Int × Int × Int × Unit)) => K (.tuple #[(.agg #[(.int .i64 u19.1), (.int .u64 u19.2.1), (.int .u64 u19.2.2.1), (.int .u8 u19.2.2.2.1), (.int .i64 u19.2.2.2.2.1)]), (.int .i64 (0 : Int))])) <|
 ldW .slc ((aD r3).add 3) fun (u20 : SLC) =>
 zD (Int × Unit) ((0 : Int), ()) fun (y22 : Int × Unit) (I21 : (Int × Unit) -> WP) =>
 za (decide (y22.1 < ((u20.2.1 : Nat) : Int))) (xh (Unit) (fun (J23 : (Unit) -> WP) =>
 zd (0 <= y22.1 /\ y22.1 < ((u20.2.1 : Nat) : Int)) <|
 zh u20.1 fun (p25 : Addr) =>
 ldW (.int .u32) (p25.add (Int.toNat y22.1 * 1)) fun (u26 : Int) =>
 ze Tryz.prog 124 [(.pointer x0), (.int .u32 u26), (.int .i64 (IntKind.wrap .i64 (x2 + (1 : Int)))), (.bool x3)] (.many [(.agg [(.int .i64), (.int .u64), (.int .u64), (.int .u8), (.int .i64)]), (.one (.int .i64))]) fun (u27 : (Int × Int × Int × Int × Int × Unit) × Int × Unit) =>
 zi (.cells #[(.int .i64 (0 : Int)), (.int .u64 (0 : Int)), (.int .u64 (0 : Int)), (.int .u8 (0 : Int)), (.int .i64 (0 : Int))] 197) fun (r28 : Nat) =>
 zd ((#[(.int .i64 u27.1.1), (.int .u64 u27.1.2.1), (.int .u64 u27.1.2.2.1), (.int .u8 u27.1.2.2.2.1), (.int .i64 u27.1.2.2.2.2.1)] : Array Value).size = 5) <|
 zt (aD r28) [(.int .i64 u27.1.1), (.int .u64 u27.1.2.1), (.int .u64 u27.1.2.2.1), (.int .u8 u27.1.2.2.2.1), (.int .i64 u27.1.2.2.2.2.1)] <|
 za (u27.2.1 != (0 : Int)) (zk [(.int .i64), (.int .u64), (.int .u64), (.int .u8), (.int .i64)] (aD r1) fun (u29 : (Int × Int × Int × Int × Int × Unit)) =>
 zd ((#[(.int .i64 u29.1), (.int .u64 u29.2.1), (.int .u64 u29.2.2.1), (.int .u8 u29.2.2.2.1), (.int .i64 u29.2.2.2.2.1)] : Array Value).size = 5) <|
 zt (aD r1) [(.int .i64 u29.1), (.int .u64 u29.2.1), (.int .u64 u29.2.2.1), (.int .u8 u29.2.2.2.1), (.int .i64 u29.2.2.2.2.1)] <|
 zk [(.int .i64), (.int .u64), (.int .u64), (.int .u8), (.int .i64)] (aD r1) fun (u30 : (Int × Int × Int × Int × Int × Unit)) => K (.tuple #[(.agg #[(.int .i64 u30.1), (.int .u64 u30.2.1), (.int .u64 u30.2.2.1), (.int .u8 u30.2.2.2.1), (.int .i64 u30.2.2.2.2.1)]), (.int .i64 u27.2.1)])) <|
 xh (Bool × Unit) (fun (J31 : (Bool × Unit) -> WP) =>
 zA <|
 ldW (.int .u64) ((aD r28).add 1) fun (u33 : Int) =>
 ldW .slc ((aD r3).add 1) fun (u34 : SLC) =>
 zd (0 <= y22.1 /\ y22.1 < ((u34.2.1 : Nat) : Int)) <|
 zh u34.1 fun (p35 : Addr) =>
 ldW (.int .u64) (p35.add (Int.toNat y22.1 * 1)) fun (u36 : Int) =>
 za (u33 != u36) (J31 (true, ())) <|
 za (decide (y22.1 > (0 : Int))) (ldW (.int .u64) ((aD r1).add 2) fun (u37 : Int) =>
 ldW (.int .u64) ((aD r28).add 1) fun (u38 : Int) =>
 za (decide (u37 >= u38)) (J31 (true, ())) <|
 ldW (.int .u8) ((aD r1).add 3) fun (u39 : Int) =>
 ldW (.int .u8) ((aD r28).add 3) fun (u40 : Int) =>
 za (u39 != u40) (J31 (true, ())) <|
 ldW (.int .i64) ((aD r1).add 4) fun (u41 : Int) =>
 ldW (.int .i64) ((aD r28).add 4) fun (u42 : Int) => J31 ((u41 != (IntKind.wrap .i64 (u42 + (1 : Int)))), ())) <| J31 (false, ())) fun (y32 : Bool × Unit) =>
 xh (Unit) (fun (J43 : (Unit) -> WP) =>
 za x3 (za y32.1 (zk [(.int .i64), (.int .u64), (.int .u64), (.int .u8), (.int .i64)] (aD r1) fun (u45 : (Int × Int × Int × Int × Int × Unit)) =>
 zd ((#[(.int .i64 u45.1), (.int .u64 u45.2.1), (.int .u64 u45.2.2.1), (.int .u8 u45.2.2.2.1), (.int .i64 u45.2.2.2.2.1)] : Array Value).size = 5) <|
 zt (aD r1) [(.int .i64 u45.1), (.int .u64 u45.2.1), (.int .u64 u45.2.2.1), (.int .u8 u45.2.2.2.1), (.int .i64 u45.2.2.2.2.1)] <|
 zk [(.int .i64), (.int .u64), (.int .u64), (.int .u8), (.int .i64)] (aD r1) fun (u46 : (Int × Int × Int × Int × Int × Unit)) => K (.tuple #[(.agg #[(.int .i64 u46.1), (.int .u64 u46.2.1), (.int .u64 u46.2.2.1), (.int .u8 u46.2.2.2.1), (.int .i64 u46.2.2.2.2.1)]), (.int .i64 (10 : Int))])) <| J43 ()) <| J43 ()) fun (y44 : Unit) =>
 xh (Unit) (fun (J47 : (Unit) -> WP) =>
 za (y22.1 == (0 : Int)) (ldW (.int .u64) ((aD r28).add 1) fun (u49 : Int) =>
 stW ((aD r1).add 1) (.int .u64 u49) <| J47 ()) <| J47 ()) fun (y48 : Unit) =>
 ldW (.int .i64) (aD r1) fun (u50 : Int) =>
 ldW (.int .i64) (aD r28) fun (u51 : Int) =>
 ldW (.int .u64) ((aD r1).add 1) fun (u52 : Int) =>
 ldW (.int .u64) ((aD r28).add 2) fun (u53 : Int) =>
 ldW (.int .u8) ((aD r28).add 3) fun (u54 : Int) =>
 ldW (.int .i64) ((aD r28).add 4) fun (u55 : Int) =>
 zd ((#[(.int .i64 (IntKind.wrap .i64 (u50 + u51))), (.int .u64 u52), (.int .u64 u53), (.int .u8 u54), (.int .i64 (IntKind.wrap .i64 (u55 + (1 : Int))))] : Array Value).size = 5) <|
 zt (aD r1) [(.int .i64 (IntKind.wrap .i64 (u50 + u51))), (.int .u64 u52), (.int .u64 u53), (.int .u8 u54), (.int .i64 (IntKind.wrap .i64 (u55 + (1 : Int))))] <| J23 ()) fun (y24 : Unit) => I21 ((IntKind.wrap .i64 (y22.1 + (1 : Int))), ())) <|
 zk [(.int .i64), (.int .u64), (.int .u64), (.int .u8), (.int .i64)] (aD r1) fun (u56 : (Int × Int × Int × Int × Int × Unit)) =>
 zd ((#[(.int .i64 u56.1), (.int .u64 u56.2.1), (.int .u64 u56.2.2.1), (.int .u8 u56.2.2.2.1), (.int .i64 u56.2.2.2.2.1)] : Array Value).size = 5) <|
 zt (aD r1) [(.int .i64 u56.1), (.int .u64 u56.2.1), (.int .u64 u56.2.2.1), (.int .u8 u56.2.2.2.1), (.int .i64 u56.2.2.2.2.1)] <|
 zk [(.int .i64), (.int .u64), (.int .u64), (.int .u8), (.int .i64)] (aD r1) fun (u57 : (Int × Int × Int × Int × Int × Unit)) => K (.tuple #[(.agg #[(.int .i64 u57.1), (.int .u64 u57.2.1), (.int .u64 u57.2.2.1), (.int .u8 u57.2.2.2.1), (.int .i64 u57.2.2.2.2.1)]), (.int .i64 (0 : Int))])
theorem zgf (x0 : Option Addr) (x1 : Int) (x2 : Int) (x3 : Bool) {K : Value -> WP} {w : World} (h : S124 x0 x1 x2 x3 K w) : Calls Tryz.prog 124 #[(.pointer x0), (.int .u32 x1), (.int .i64 x2), (.bool x3)] w (Ret K) := cE an124 false Tryz.func124 mixed (by kernel_rfl) (by kernel_rfl) h
def an125 : Ann := (.seq .nil (.cond .nil .nil))
def S125 (x0 : Value) (a1 : Addr) (a2 : Addr) (a3 : Addr) (K : Value -> WP) : WP :=
 ldW .ptr a1 fun (u1 : Option Addr) =>
 za (!(Option.isNone u1)) (ldW (.int .u32) a2 fun (u2 : Int) =>
 za (u2 != (0 : Int)) (ldW .ptr a1 fun (u3 : Option Addr) =>
 ldW (.int .u32) a2 fun (u4 : Int) =>
 ldW (.int .u64) a3 fun (u5 : Int) =>
 ze Tryz.prog 126 [(.pointer u3), (.int .u32 u4), (.int .u64 u5), (.int .i64 (1 : Int)), x0] (.one (.one .bool)) fun (u6 : Bool) => K (.tuple #[])) <| K (.tuple #[])) <| K (.tuple #[])
theorem zlc (x0 : Value) (a1 : Addr) (a2 : Addr) (a3 : Addr) {K : Value -> WP} {w : World} (h : S125 x0 a1 a2 a3 K w) : Calls Tryz.prog 125 #[x0, (.pointer (some a1)), (.pointer (some a2)), (.pointer (some a3))] w (Ret K) := cE an125 false Tryz.func125 mixed (by kernel_rfl) (by kernel_rfl) h
def an126 : Ann := (.seq .nil (.seq .nil (.seq (.seq .nil (.cond (.seq .nil .nil) .nil)) (.seq (.seq .nil (.block (.loop [(29, .sh (.one (.int .i64)))] [0, 2, 3, 4, 11, 28, 1000000] (.seq .nil (.seq (.cond .nil .nil) (.seq (.block (.seq .nil (.seq (.seq .nil (.cond (.seq (.seq .nil (.cond (.seq .nil .nil) .nil)) .nil) .nil)) (.seq (.seq .nil (.cond .nil .nil)) (.seq .nil (.cond (.seq .nil .nil) .nil)))))) .nil)))))) (.seq .nil .nil)))))
def S126 (x0 : Option Addr) (x1 : Int) (x2 : Int) (x3 : Int) (x4 : Value) (K : Value -> WP) : WP :=
 ze Tryz.prog 166 [(.pointer x0), (.int .u32 x1)] (.many [(.agg [(.int .u8), .slc, .slc, .slc]), (.one (.int .i64))]) fun (u1 : (Int × SLC × SLC × SLC × Unit) × Int × Unit) =>
 zi (.cells #[(.int .u8 (0 : Int)), (.slice none 0 0), (.slice none 0 0), (.slice none 0 0)] 215) fun (r2 : Nat) =>
 zd ((#[(.int .u8 u1.1.1), (.slice u1.1.2.1.1 u1.1.2.1.2.1 u1.1.2.1.2.2), (.slice u1.1.2.2.1.1 u1.1.2.2.1.2.1 u1.1.2.2.1.2.2), (.slice u1.1.2.2.2.1.1 u1.1.2.2.2.1.2.1 u1.1.2.2.2.1.2.2)] : Array Value).size = 4) <|
 zt (aD r2) [(.int .u8 u1.1.1), (.slice u1.1.2.1.1 u1.1.2.1.2.1 u1.1.2.1.2.2), (.slice u1.1.2.2.1.1 u1.1.2.2.1.2.1 u1.1.2.2.1.2.2), (.slice u1.1.2.2.2.1.1 u1.1.2.2.2.1.2.1 u1.1.2.2.2.1.2.2)] <|
 za (u1.2.1 != (0 : Int)) (K (.bool false)) <|
 za (decide (x3 > (16 : Int))) (K (.bool false)) <|
 ldW .slc ((aD r2).add 1) fun (u3 : SLC) =>
 zD (Int × Unit) ((0 : Int), ()) fun (y5 : Int × Unit) (I4 : (Int × Unit) -> WP) =>
 za (decide (y5.1 < ((u3.2.1 : Nat) : Int))) (zk [(.int .u8), .slc, .slc, .slc] (aD r2) fun (u6 : (Int × SLC × SLC × SLC × Unit)) =>
 ze Tryz.prog 167 [(.agg #[(.int .u8 u6.1), (.slice u6.2.1.1 u6.2.1.2.1 u6.2.1.2.2), (.slice u6.2.2.1.1 u6.2.2.1.2.1 u6.2.2.1.2.2), (.slice u6.2.2.2.1.1 u6.2.2.2.1.2.1 u6.2.2.2.1.2.2)])] (.one (.one .bool)) fun (u7 : Bool) =>
 za (!u7) (zA <|
 ldW .slc ((aD r2).add 1) fun (u8 : SLC) =>
 zd (0 <= y5.1 /\ y5.1 < ((u8.2.1 : Nat) : Int)) <|
 zh u8.1 fun (p9 : Addr) =>
 ldW (.int .u64) (p9.add (Int.toNat y5.1 * 1)) fun (u10 : Int) =>
 za (decide (u10 >= x2)) (ldW .slc ((aD r2).add 1) fun (u11 : SLC) =>
 zd (0 <= y5.1 /\ y5.1 < ((u11.2.1 : Nat) : Int)) <|
 zh u11.1 fun (p12 : Addr) =>
 ldW (.int .u64) (p12.add (Int.toNat y5.1 * 1)) fun (u13 : Int) =>
 zk [(.int .u8), .slc, .slc, .slc] (aD r2) fun (u14 : (Int × SLC × SLC × SLC × Unit)) =>
 ze Tryz.prog 168 [(.agg #[(.int .u8 u14.1), (.slice u14.2.1.1 u14.2.1.2.1 u14.2.1.2.2), (.slice u14.2.2.1.1 u14.2.2.1.2.1 u14.2.2.1.2.2), (.slice u14.2.2.2.1.1 u14.2.2.2.1.2.1 u14.2.2.2.1.2.2)]), (.int .i64 y5.1)] (.one (.one (.int .u64))) fun (u15 : Int) =>
 zq [[((p12.add (Int.toNat y5.1 * 1)), (.int .u64 u13))], [(((aD r2).add 1), (.slice u11.1 u11.2.1 u11.2.2))]] <|
 yy Tryz.prog x4 [(.int .u64 u13), (.int .u64 u15)] (.one (.one .bool)) fun (u16 : Bool) =>
 za (!u16) (K (.bool false)) <| I4 ((IntKind.wrap .i64 (y5.1 + (1 : Int))), ())) <| I4 ((IntKind.wrap .i64 (y5.1 + (1 : Int))), ())) <|
 ldW .slc ((aD r2).add 1) fun (u17 : SLC) =>
 za (decide ((IntKind.wrap .i64 (y5.1 + (1 : Int))) < ((u17.2.1 : Nat) : Int))) (ldW .slc ((aD r2).add 1) fun (u18 : SLC) =>
 zd (0 <= (IntKind.wrap .i64 (y5.1 + (1 : Int))) /\ (IntKind.wrap .i64 (y5.1 + (1 : Int))) < ((u18.2.1 : Nat) : Int)) <|
 zh u18.1 fun (p19 : Addr) =>
 ldW (.int .u64) (p19.add (Int.toNat (IntKind.wrap .i64 (y5.1 + (1 : Int))) * 1)) fun (u20 : Int) =>
 za (decide (u20 <= x2)) (I4 ((IntKind.wrap .i64 (y5.1 + (1 : Int))), ())) <|
 ldW .slc ((aD r2).add 3) fun (u21 : SLC) =>
 zd (0 <= y5.1 /\ y5.1 < ((u21.2.1 : Nat) : Int)) <|
 zh u21.1 fun (p22 : Addr) =>
 ldW (.int .u32) (p22.add (Int.toNat y5.1 * 1)) fun (u23 : Int) =>
 ze Tryz.prog 126 [(.pointer x0), (.int .u32 u23), (.int .u64 x2), (.int .i64 (IntKind.wrap .i64 (x3 + (1 : Int)))), x4] (.one (.one .bool)) fun (u24 : Bool) =>
 za (!u24) (K (.bool false)) <| I4 ((IntKind.wrap .i64 (y5.1 + (1 : Int))), ())) <|
 ldW .slc ((aD r2).add 3) fun (u25 : SLC) =>
 zd (0 <= y5.1 /\ y5.1 < ((u25.2.1 : Nat) : Int)) <|
 zh u25.1 fun (p26 : Addr) =>
 ldW (.int .u32) (p26.add (Int.toNat y5.1 * 1)) fun (u27 : Int) =>
 ze Tryz.prog 126 [(.pointer x0), (.int .u32 u27), (.int .u64 x2), (.int .i64 (IntKind.wrap .i64 (x3 + (1 : Int)))), x4] (.one (.one .bool)) fun (u28 : Bool) =>
 za (!u28) (K (.bool false)) <| I4 ((IntKind.wrap .i64 (y5.1 + (1 : Int))), ())) <| K (.bool true)
theorem zgg (x0 : Option Addr) (x1 : Int) (x2 : Int) (x3 : Int) (x4 : Value) {K : Value -> WP} {w : World} (h : S126 x0 x1 x2 x3 x4 K w) : Calls Tryz.prog 126 #[(.pointer x0), (.int .u32 x1), (.int .u64 x2), (.int .i64 x3), x4] w (Ret K) := cE an126 false Tryz.func126 mixed (by kernel_rfl) (by kernel_rfl) h
def an127 : Ann := (.seq .nil (.seq .nil .nil))
def S127 (x0 : Option Addr) (x1 : Int) (K : Value -> WP) : WP :=
 zi (.cells #[(.pointer x0)] 48) fun (r1 : Nat) =>
 zi (.cells #[(.int .u32 x1)] 41) fun (r2 : Nat) => K (.func (.func 169) #[] #[(.pointer (some (aD r1))), (.pointer (some (aD r2)))])
theorem zld (x0 : Option Addr) (x1 : Int) {K : Value -> WP} {w : World} (h : S127 x0 x1 K w) : Calls Tryz.prog 127 #[(.pointer x0), (.int .u32 x1)] w (Ret K) := cE an127 false Tryz.func127 mixed (by kernel_rfl) (by kernel_rfl) h
def an130 : Ann := (.seq .nil (.block (.loop [(3, .sh (.one (.int .u32)))] [0, 1, 1000000] (.seq (.seq .nil (.cond .nil .nil)) (.seq (.block (.seq .nil (.cond .nil .nil))) .nil)))))
def S130 (x0 : Value) (a1 : Addr) (K : Value -> WP) : WP :=
 zD (Int × Unit) ((2 : Int), ()) fun (y2 : Int × Unit) (I1 : (Int × Unit) -> WP) =>
 ldW .ptr a1 fun (u3 : Option Addr) =>
 zh u3 fun (p4 : Addr) =>
 ldW (.int .i64) (((p4.add 1).add 1).add 1) fun (u5 : Int) =>
 za (decide ((IntKind.wrap .i64 y2.1) < u5)) (zA <|
 ldW .ptr a1 fun (u6 : Option Addr) =>
 zh u6 fun (p7 : Addr) =>
 ldW .ptr (p7.add 8) fun (u8 : Option Addr) =>
 ldW .ptr a1 fun (u9 : Option Addr) =>
 zh u9 fun (p10 : Addr) =>
 ldW .ptr (p10.add 7) fun (u11 : Option Addr) =>
 ldW .ptr a1 fun (u12 : Option Addr) =>
 zh u12 fun (p13 : Addr) =>
 ldW .ptr (p13.add 9) fun (u14 : Option Addr) =>
 ze Tryz.prog 75 [(.pointer u8), (.int .u32 y2.1)] (.one (.one (.int .i64))) fun (u15 : Int) =>
 zq [[((p13.add 9), (.pointer u14))], [(a1, (.pointer u12))], [((p10.add 7), (.pointer u11))], [(a1, (.pointer u9))]] <|
 ze Tryz.prog 75 [(.pointer u11), (.int .u32 y2.1)] (.one (.one (.int .i64))) fun (u16 : Int) =>
 zq [[((p13.add 9), (.pointer u14))], [(a1, (.pointer u12))]] <|
 ze Tryz.prog 75 [(.pointer u14), (.int .u32 y2.1)] (.one (.one (.int .i64))) fun (u17 : Int) =>
 za ((IntKind.wrap .i64 ((IntKind.wrap .i64 (u15 + u16)) + u17)) == (0 : Int)) (yy Tryz.prog x0 [(.int .u32 y2.1)] (.one (.one .bool)) fun (u18 : Bool) =>
 za (!u18) (K (.tuple #[])) <| I1 ((IntKind.wrap .u32 (y2.1 + (1 : Int))), ())) <| I1 ((IntKind.wrap .u32 (y2.1 + (1 : Int))), ())) <| K (.tuple #[])
theorem zle (x0 : Value) (a1 : Addr) {K : Value -> WP} {w : World} (h : S130 x0 a1 K w) : Calls Tryz.prog 130 #[x0, (.pointer (some a1))] w (Ret K) := cE an130 false Tryz.func130 mixed (by kernel_rfl) (by kernel_rfl) h
def an131 : Ann := (.seq .nil (.seq .nil (.seq .nil .nil)))
def S131 (x0 : Option Addr) (K : Value -> WP) : WP :=
 ze Tryz.prog 76 [(.pointer x0), (.int .i64 (0 : Int))] (.one (.one (.int .i64))) fun (u1 : Int) => K (.int .i64 (if (if (IntKind.wrap .i64 ((IntKind.wrap .i64 (Int.tdiv (IntKind.wrap .i64 (u1 - (4 : Int))) (4 : Int))) * u1)) < (65536 : Int) then (IntKind.wrap .i64 ((IntKind.wrap .i64 (Int.tdiv (IntKind.wrap .i64 (u1 - (4 : Int))) (4 : Int))) * u1)) else (65536 : Int)) > (0 : Int) then (if (IntKind.wrap .i64 ((IntKind.wrap .i64 (Int.tdiv (IntKind.wrap .i64 (u1 - (4 : Int))) (4 : Int))) * u1)) < (65536 : Int) then (IntKind.wrap .i64 ((IntKind.wrap .i64 (Int.tdiv (IntKind.wrap .i64 (u1 - (4 : Int))) (4 : Int))) * u1)) else (65536 : Int)) else (0 : Int)))
theorem zlf (x0 : Option Addr) {K : Value -> WP} {w : World} (h : S131 x0 K w) : Calls Tryz.prog 131 #[(.pointer x0)] w (Ret K) := cE an131 false Tryz.func131 mixed (by kernel_rfl) (by kernel_rfl) h
def an132 : Ann := (.seq .nil (.cond (.seq .nil (.block (.loop [(9, .sh (.one (.int .i64)))] [2, 7, 8, 1000000] (.seq .nil (.seq (.cond .nil .nil) (.seq (.block (.seq .nil .nil)) .nil)))))) .nil))
def S132 (a0 : Addr) (a1 : Addr) (a2 : Addr) (K : Value -> WP) : WP :=
 ldW (.int .i64) a0 fun (u1 : Int) =>
 za (u1 != (0 : Int)) (ldW .slc a1 fun (u2 : SLC) =>
 zD (Int × Unit) ((0 : Int), ()) fun (y4 : Int × Unit) (I3 : (Int × Unit) -> WP) =>
 za (decide (y4.1 < ((u2.2.1 : Nat) : Int))) (zd (0 <= y4.1 /\ y4.1 < ((u2.2.1 : Nat) : Int)) <|
 zh u2.1 fun (p5 : Addr) =>
 ldW (.int .u32) (p5.add (Int.toNat y4.1 * 1)) fun (u6 : Int) =>
 ldW .ptr a2 fun (u7 : Option Addr) =>
 ze Tryz.prog 28 [(.pointer u7), (.int .u32 u6)] (.one (.one (.int .i64))) fun (u8 : Int) => I3 ((IntKind.wrap .i64 (y4.1 + (1 : Int))), ())) <| K (.tuple #[])) <| K (.tuple #[])
theorem zpj (a0 : Addr) (a1 : Addr) (a2 : Addr) (K : Value -> WP) : uK Tryz.prog Tryz.f132 an132 false [(.pointer (some a0)), (.pointer (some a1)), (.pointer (some a2))] K = S132 a0 a1 a2 K := by kernel_rfl
theorem zjQ (a0 : Addr) (a1 : Addr) (a2 : Addr) {K : Value -> WP} {w : World} (h : S132 a0 a1 a2 K w) : ui Tryz.prog 132 [(.pointer (some a0)), (.pointer (some a1)), (.pointer (some a2))] w K := uN mixed Tryz.func132 (of_decide_eq_true (by kernel_rfl)) (by rw [zpj]; exact h)
def an133 : Ann := (.seq .nil (.seq (.seq .nil (.cond (.seq .nil .nil) .nil)) (.seq .nil .nil)))
def S133 (x0 : Bool) (K : Value -> WP) : WP :=
 za x0 (K (.int .u8 (5 : Int))) <| K (.int .u8 (4 : Int))
theorem zlg (x0 : Bool) {K : Value -> WP} {w : World} (h : S133 x0 K w) : Calls Tryz.prog 133 #[(.bool x0)] w (Ret K) := cE an133 false Tryz.func133 mixed (by kernel_rfl) (by kernel_rfl) h
def an134 : Ann := (.seq .nil (.seq (.seq .nil (.cond (.seq .nil .nil) .nil)) (.seq (.seq .nil (.block (.seq .nil (.cond (.seq .nil .nil) (.seq .nil (.cond (.seq .nil .nil) .nil)))))) (.seq .nil .nil))))
def S134 (x0 : Option Addr) (x1 : Int) (K : Value -> WP) : WP :=
 za (decide (x1 > (4294967295 : Int))) (K (.bool false)) <|
 ze Tryz.prog 90 [(.pointer x0), (.int .u32 (IntKind.wrap .u32 x1))] (.one (.one (.int .i64))) fun (u1 : Int) =>
 za (u1 == (0 : Int)) (ze Tryz.prog 28 [(.pointer x0), (.int .u32 (IntKind.wrap .u32 x1))] (.one (.one (.int .i64))) fun (u2 : Int) => K (.bool (u2 == (0 : Int)))) <|
 za (u1 == (12 : Int)) (K (.bool true)) <| K (.bool false)
theorem zlh (x0 : Option Addr) (x1 : Int) {K : Value -> WP} {w : World} (h : S134 x0 x1 K w) : Calls Tryz.prog 134 #[(.pointer x0), (.int .u64 x1)] w (Ret K) := cE an134 false Tryz.func134 mixed (by kernel_rfl) (by kernel_rfl) h
def an135 : Ann := (.seq .nil (.join [] [1, 2, 3, 1000000] (.block (.seq .nil (.cond (.seq .nil .nil) (.seq .nil (.cond (.seq .nil .nil) (.seq .nil (.cond (.seq .nil .nil) .nil))))))) (.seq .nil (.seq (.seq .nil (.cond (.seq .nil .nil) .nil)) (.seq .nil .nil)))))
def S135 (x0_0 : Int) (a0_1 : Option Addr) (n0_1 c0_1 : Nat) (a0_2 : Option Addr) (n0_2 c0_2 : Nat) (a0_3 : Option Addr) (n0_3 c0_3 : Nat) (x1 : Option Addr) (x2 : Int) (K : Value -> WP) : WP :=
 zi (.cells #[(.int .u8 x0_0), (.slice a0_1 n0_1 c0_1), (.slice a0_2 n0_2 c0_2), (.slice a0_3 n0_3 c0_3)] 215) fun (r1 : Nat) =>
 xh (Unit) (fun (J2 : (Unit) -> WP) =>
 ldW .slc ((aD r1).add 1) fun (u4 : SLC) =>
 za (((u4.2.1 : Nat) : Int) == (0 : Int)) (K (.tuple #[(.int .u32 (0 : Int)), (.int .i64 (0 : Int))])) <|
 zk [(.int .u8), .slc, .slc, .slc] (aD r1) fun (u5 : (Int × SLC × SLC × SLC × Unit)) =>
 ze Tryz.prog 167 [(.agg #[(.int .u8 u5.1), (.slice u5.2.1.1 u5.2.1.2.1 u5.2.1.2.2), (.slice u5.2.2.1.1 u5.2.2.1.2.1 u5.2.2.1.2.2), (.slice u5.2.2.2.1.1 u5.2.2.2.1.2.1 u5.2.2.2.1.2.2)])] (.one (.one .bool)) fun (u6 : Bool) =>
 za u6 (ldW .slc ((aD r1).add 3) fun (u7 : SLC) =>
 za (((u7.2.1 : Nat) : Int) == (1 : Int)) (ldW .slc ((aD r1).add 3) fun (u8 : SLC) =>
 zd (0 <= (0 : Int) /\ (0 : Int) < ((u8.2.1 : Nat) : Int)) <|
 zh u8.1 fun (p9 : Addr) =>
 ldW (.int .u32) (p9.add (Int.toNat (0 : Int) * 1)) fun (u10 : Int) => K (.tuple #[(.int .u32 u10), (.int .i64 (0 : Int))])) <|
 za (decide (x2 > (16 : Int))) (K (.tuple #[(.int .u32 (0 : Int)), (.int .i64 (12 : Int))])) <| J2 ()) <|
 za (decide (x2 > (16 : Int))) (K (.tuple #[(.int .u32 (0 : Int)), (.int .i64 (12 : Int))])) <| J2 ()) fun (y3 : Unit) =>
 zk [(.int .u8), .slc, .slc, .slc] (aD r1) fun (u11 : (Int × SLC × SLC × SLC × Unit)) =>
 ze Tryz.prog 172 [(.agg #[(.int .u8 u11.1), (.slice u11.2.1.1 u11.2.1.2.1 u11.2.1.2.2), (.slice u11.2.2.1.1 u11.2.2.1.2.1 u11.2.2.1.2.2), (.slice u11.2.2.2.1.1 u11.2.2.2.1.2.1 u11.2.2.2.1.2.2)]), (.pointer x1)] (.many [(.one .slc), (.one .slc), (.one (.int .i64))]) fun (u12 : SLC × SLC × Int × Unit) =>
 za (u12.2.2.1 != (0 : Int)) (K (.tuple #[(.int .u32 (0 : Int)), (.int .i64 u12.2.2.1)])) <|
 ze Tryz.prog 135 [(.agg #[(.int .u8 (3 : Int)), (.slice u12.1.1 u12.1.2.1 u12.1.2.2), (.slice none 0 0), (.slice u12.2.1.1 u12.2.1.2.1 u12.2.1.2.2)]), (.pointer x1), (.int .i64 (IntKind.wrap .i64 (x2 + (1 : Int))))] (.many [(.one (.int .u32)), (.one (.int .i64))]) fun (u13 : Int × Int × Unit) => K (.tuple #[(.int .u32 u13.1), (.int .i64 u13.2.1)])
theorem zdk (x0_0 : Int) (a0_1 : Option Addr) (n0_1 c0_1 : Nat) (a0_2 : Option Addr) (n0_2 c0_2 : Nat) (a0_3 : Option Addr) (n0_3 c0_3 : Nat) (x1 : Option Addr) (x2 : Int) {K : Value -> WP} {w : World} (h : S135 x0_0 a0_1 n0_1 c0_1 a0_2 n0_2 c0_2 a0_3 n0_3 c0_3 x1 x2 K w) : Calls Tryz.prog 135 #[(.agg #[(.int .u8 x0_0), (.slice a0_1 n0_1 c0_1), (.slice a0_2 n0_2 c0_2), (.slice a0_3 n0_3 c0_3)]), (.pointer x1), (.int .i64 x2)] w (Ret K) := cE an135 false Tryz.func135 mixed (by kernel_rfl) (by kernel_rfl) h
def an136 : Ann := (.seq .nil (.seq (.block (.seq .nil (.cond (.seq .nil .nil) (.seq .nil (.cond (.seq .nil .nil) (.seq .nil (.cond (.seq .nil .nil) .nil))))))) (.seq .nil .nil)))
def S136 (x0 : Option Addr) (x1 : Int) (K : Value -> WP) : WP :=
 za (Option.isNone x0) (K (.tuple #[(.pointer none), (.int .i64 (1 : Int))])) <|
 za (decide (x1 < (2 : Int))) (K (.tuple #[(.pointer none), (.int .i64 (2 : Int))])) <|
 zh x0 fun (p1 : Addr) =>
 ldW .slc (p1.add 2) fun (u2 : SLC) =>
 za (decide ((IntKind.wrap .u64 x1) >= (IntKind.wrap .u64 ((u2.2.1 : Nat) : Int)))) (K (.tuple #[(.pointer none), (.int .i64 (2 : Int))])) <|
 zh x0 fun (p3 : Addr) =>
 ldW .slc (p3.add 2) fun (u4 : SLC) =>
 zd (0 <= x1 /\ x1 < ((u4.2.1 : Nat) : Int)) <|
 zh u4.1 fun (p5 : Addr) =>
 ldW (.int .u16) (p5.add (Int.toNat x1 * 1)) fun (u6 : Int) =>
 za (u6 == (0 : Int)) (K (.tuple #[(.pointer none), (.int .i64 (8 : Int))])) <|
 zh x0 fun (p7 : Addr) =>
 ldW .slc (p7.add 2) fun (u8 : SLC) =>
 zd (0 <= x1 /\ x1 < ((u8.2.1 : Nat) : Int)) <|
 zh u8.1 fun (p9 : Addr) => K (.tuple #[(.pointer (some (p9.add (Int.toNat x1 * 1)))), (.int .i64 (0 : Int))])
theorem zli (x0 : Option Addr) (x1 : Int) {K : Value -> WP} {w : World} (h : S136 x0 x1 K w) : Calls Tryz.prog 136 #[(.pointer x0), (.int .u32 x1)] w (Ret K) := cE an136 false Tryz.func136 mixed (by kernel_rfl) (by kernel_rfl) h
def an137 : Ann := (.seq .nil (.seq (.block (.seq .nil (.cond (.seq .nil .nil) (.seq .nil (.cond (.seq .nil .nil) .nil))))) (.seq (.seq .nil (.block (.loop [(18, .sh (.one (.int .i64))), (19, .sh (.agg [(.int .i64), .str]))] [] (.seq .nil (.block (.seq .nil (.cond (.seq .nil .nil) .nil))))))) (.seq .nil .nil))))
def S137 (x0 : Option Addr) (x1 : Int) (K : Value -> WP) : WP :=
 zi (.cells #[(.int .i64 x1)] 3) fun (r1 : Nat) =>
 zi (.cells #[(.string ByteArray.empty)] 9) fun (r2 : Nat) =>
 zi (.cells #[(.int .i64 (0 : Int))] 28) fun (r3 : Nat) =>
 za (Option.isNone x0) (stW (aD r2) (.string (ByteArray.mk #[])) <|
 stW (aD r3) (.int .i64 (1 : Int)) <|
 zM Tryz.prog [] <|
 ldW .str (aD r2) fun (u4 : ByteArray) =>
 ldW (.int .i64) (aD r3) fun (u5 : Int) => K (.tuple #[(.string u4), (.int .i64 u5)])) <|
 ldW (.int .i64) (aD r1) fun (u6 : Int) =>
 ze Tryz.prog 162 [(.pointer x0), (.int .i64 u6)] (.one (.one .bool)) fun (u7 : Bool) =>
 za (!u7) (stW (aD r2) (.string (ByteArray.mk #[])) <|
 stW (aD r3) (.int .i64 (2 : Int)) <|
 zM Tryz.prog [] <|
 ldW .str (aD r2) fun (u8 : ByteArray) =>
 ldW (.int .i64) (aD r3) fun (u9 : Int) => K (.tuple #[(.string u8), (.int .i64 u9)])) <|
 ze Tryz.prog 173 [(.pointer x0)] (.one (.one .any)) fun (u10 : Value) =>
 ji Tryz.prog u10 (Int × (Int × ByteArray × Unit) × Unit) (fun (t11 : Int × (Int × ByteArray × Unit) × Unit) => [(.int .i64 t11.1), (.agg #[(.int .i64 t11.2.1.1), (.string t11.2.1.2.1)])]) (fun (t11 : Int × (Int × ByteArray × Unit) × Unit) (B12 : WP -> WP) (N13 : WP) (Q14 : Code -> WP) =>
 zi (.cells #[(.int .i64 (0 : Int)), (.string ByteArray.empty)] 230) fun (r17 : Nat) =>
 zd ((#[(.int .i64 t11.2.1.1), (.string t11.2.1.2.1)] : Array Value).size = 2) <|
 zt (aD r17) [(.int .i64 t11.2.1.1), (.string t11.2.1.2.1)] <| B12 (ldW (.int .i64) (aD r17) fun (u18 : Int) =>
 ldW (.int .i64) (aD r1) fun (u19 : Int) =>
 za (u18 == u19) (ldW .str ((aD r17).add 1) fun (u20 : ByteArray) =>
 stW (aD r2) (.string u20) <|
 stW (aD r3) (.int .i64 (0 : Int)) <| Q14 .ret) <| N13)) fun (r15 : Nat) (p16 : Option Code) =>
 jd (zA <|
 zh x0 fun (p21 : Addr) =>
 ldW .slc (p21.add 2) fun (u22 : SLC) =>
 ldW (.int .i64) (aD r1) fun (u23 : Int) =>
 zd (0 <= u23 /\ u23 < ((u22.2.1 : Nat) : Int)) <|
 zh u22.1 fun (p24 : Addr) =>
 ldW .str (p24.add (Int.toNat u23 * 1)) fun (u25 : ByteArray) =>
 stW (aD r2) (.string u25) <|
 stW (aD r3) (.int .i64 (0 : Int)) <|
 zM Tryz.prog (⟨.collected r15, #[]⟩ :: []) <|
 ldW .str (aD r2) fun (u26 : ByteArray) =>
 ldW (.int .i64) (aD r3) fun (u27 : Int) => K (.tuple #[(.string u26), (.int .i64 u27)])) (zM Tryz.prog (⟨.collected r15, #[]⟩ :: []) <|
 ldW .str (aD r2) fun (u28 : ByteArray) =>
 ldW (.int .i64) (aD r3) fun (u29 : Int) => K (.tuple #[(.string u28), (.int .i64 u29)])) [] p16
theorem zlj (x0 : Option Addr) (x1 : Int) {K : Value -> WP} {w : World} (h : S137 x0 x1 K w) : Calls Tryz.prog 137 #[(.pointer x0), (.int .i64 x1)] w (Ret K) := cE an137 true Tryz.func137 mixed (by kernel_rfl) (by kernel_rfl) h
def an138 : Ann := (.seq .nil (.seq .nil (.seq (.seq .nil (.cond (.seq .nil .nil) .nil)) (.seq .nil (.seq .nil (.seq (.seq .nil (.cond (.seq .nil .nil) .nil)) (.seq .nil (.seq (.seq .nil (.block (.loop [(41, .sh (.one (.int .u64)))] [0, 4, 7, 40, 1000000] (.seq .nil (.seq (.cond .nil .nil) (.seq (.block (.seq .nil (.seq (.seq .nil (.cond (.seq .nil .nil) .nil)) .nil))) .nil)))))) (.seq .nil (.seq .nil (.seq .nil .nil)))))))))))
def S138 (x0 : Option Addr) (x1 : ByteArray) (K : Value -> WP) : WP :=
 zi (.cells #[(.int .u8 (0 : Int)), (.slice none 0 0), (.string ByteArray.empty)] 56) fun (r1 : Nat) =>
 ze Tryz.prog 174 [(.string x1)] (.many [(.agg [(.int .u8), (.int .u64), .str]), (.one (.int .i64))]) fun (u2 : (Int × Int × ByteArray × Unit) × Int × Unit) =>
 zi (.cells #[(.int .u8 (0 : Int)), (.int .u64 (0 : Int)), (.string ByteArray.empty)] 127) fun (r3 : Nat) =>
 zd ((#[(.int .u8 u2.1.1), (.int .u64 u2.1.2.1), (.string u2.1.2.2.1)] : Array Value).size = 3) <|
 zt (aD r3) [(.int .u8 u2.1.1), (.int .u64 u2.1.2.1), (.string u2.1.2.2.1)] <|
 za (u2.2.1 != (0 : Int)) (zk [(.int .u8), .slc, .str] (aD r1) fun (u4 : (Int × SLC × ByteArray × Unit)) =>
 zd ((#[(.int .u8 u4.1), (.slice u4.2.1.1 u4.2.1.2.1 u4.2.1.2.2), (.string u4.2.2.1)] : Array Value).size = 3) <|
 zt (aD r1) [(.int .u8 u4.1), (.slice u4.2.1.1 u4.2.1.2.1 u4.2.1.2.2), (.string u4.2.2.1)] <|
 zk [(.int .u8), .slc, .str] (aD r1) fun (u5 : (Int × SLC × ByteArray × Unit)) => K (.tuple #[(.agg #[(.int .u8 u5.1), (.slice u5.2.1.1 u5.2.1.2.1 u5.2.1.2.2), (.string u5.2.2.1)]), (.int .i64 (10 : Int))])) <|
 ldW (.int .u8) (aD r3) fun (u6 : Int) =>
 za (decide (u6 < (3 : Int))) (zk [(.int .u8), .slc, .str] (aD r1) fun (u7 : (Int × SLC × ByteArray × Unit)) =>
 zd ((#[(.int .u8 u7.1), (.slice u7.2.1.1 u7.2.1.2.1 u7.2.1.2.2), (.string u7.2.2.1)] : Array Value).size = 3) <|
 zt (aD r1) [(.int .u8 u7.1), (.slice u7.2.1.1 u7.2.1.2.1 u7.2.1.2.2), (.string u7.2.2.1)] <|
 zk [(.int .u8), .slc, .str] (aD r1) fun (u8 : (Int × SLC × ByteArray × Unit)) => K (.tuple #[(.agg #[(.int .u8 u8.1), (.slice u8.2.1.1 u8.2.1.2.1 u8.2.1.2.2), (.string u8.2.2.1)]), (.int .i64 (10 : Int))])) <|
 ldW .str ((aD r3).add 2) fun (u9 : ByteArray) =>
 zw Tryz.prog (Go.convert 9 85 (.string u9)) .slc fun (u10 : SLC) =>
 ze Tryz.prog 175 [(.slice u10.1 u10.2.1 u10.2.2)] (.one (.one .ptr)) fun (u11 : Option Addr) =>
 ze Tryz.prog 176 [(.pointer u11), (.int .i64 (2 : Int))] (.many [(.one (.int .u64)), (.one (.int .i64))]) fun (u12 : Int × Int × Unit) =>
 za (u12.2.1 != (0 : Int)) (zk [(.int .u8), .slc, .str] (aD r1) fun (u13 : (Int × SLC × ByteArray × Unit)) =>
 zd ((#[(.int .u8 u13.1), (.slice u13.2.1.1 u13.2.1.2.1 u13.2.1.2.2), (.string u13.2.2.1)] : Array Value).size = 3) <|
 zt (aD r1) [(.int .u8 u13.1), (.slice u13.2.1.1 u13.2.1.2.1 u13.2.1.2.2), (.string u13.2.2.1)] <|
 zk [(.int .u8), .slc, .str] (aD r1) fun (u14 : (Int × SLC × ByteArray × Unit)) => K (.tuple #[(.agg #[(.int .u8 u14.1), (.slice u14.2.1.1 u14.2.1.2.1 u14.2.1.2.2), (.string u14.2.2.1)]), (.int .i64 (10 : Int))])) <|
 ldW (.int .u8) (aD r3) fun (u15 : Int) =>
 stW (aD r1) (.int .u8 u15) <|
 zD (Int × Unit) ((0 : Int), ()) fun (y17 : Int × Unit) (I16 : (Int × Unit) -> WP) =>
 za (decide (y17.1 < u12.1)) (ze Tryz.prog 176 [(.pointer u11), (.int .i64 (4 : Int))] (.many [(.one (.int .u64)), (.one (.int .i64))]) fun (u18 : Int × Int × Unit) =>
 za (u18.2.1 != (0 : Int)) (zd ((#[(.int .u8 (0 : Int)), (.slice none 0 0), (.string ByteArray.empty)] : Array Value).size = 3) <|
 zt (aD r1) [(.int .u8 (0 : Int)), (.slice none 0 0), (.string ByteArray.empty)] <|
 zk [(.int .u8), .slc, .str] (aD r1) fun (u19 : (Int × SLC × ByteArray × Unit)) => K (.tuple #[(.agg #[(.int .u8 u19.1), (.slice u19.2.1.1 u19.2.1.2.1 u19.2.1.2.2), (.string u19.2.2.1)]), (.int .i64 (10 : Int))])) <|
 za (decide (u18.1 < (2 : Int))) (zd ((#[(.int .u8 (0 : Int)), (.slice none 0 0), (.string ByteArray.empty)] : Array Value).size = 3) <|
 zt (aD r1) [(.int .u8 (0 : Int)), (.slice none 0 0), (.string ByteArray.empty)] <|
 zk [(.int .u8), .slc, .str] (aD r1) fun (u20 : (Int × SLC × ByteArray × Unit)) => K (.tuple #[(.agg #[(.int .u8 u20.1), (.slice u20.2.1.1 u20.2.1.2.1 u20.2.1.2.2), (.string u20.2.2.1)]), (.int .i64 (10 : Int))])) <|
 zh x0 fun (p21 : Addr) =>
 ldW (.int .i64) (((p21.add 1).add 1).add 1) fun (u22 : Int) =>
 za (decide (u18.1 >= (IntKind.wrap .u64 u22))) (zd ((#[(.int .u8 (0 : Int)), (.slice none 0 0), (.string ByteArray.empty)] : Array Value).size = 3) <|
 zt (aD r1) [(.int .u8 (0 : Int)), (.slice none 0 0), (.string ByteArray.empty)] <|
 zk [(.int .u8), .slc, .str] (aD r1) fun (u23 : (Int × SLC × ByteArray × Unit)) => K (.tuple #[(.agg #[(.int .u8 u23.1), (.slice u23.2.1.1 u23.2.1.2.1 u23.2.1.2.2), (.string u23.2.2.1)]), (.int .i64 (10 : Int))])) <|
 ldW .slc ((aD r1).add 1) fun (u24 : SLC) =>
 zi (.cells #[(.int .u32 (IntKind.wrap .u32 u18.1))] 41) fun (r25 : Nat) =>
 zw Tryz.prog (Builtin.append_ #[54, 54] 54 #[(.slice u24.1 u24.2.1 u24.2.2), (.slice (some (aD r25)) 1 1)]) .slc fun (u26 : SLC) =>
 stW ((aD r1).add 1) (.slice u26.1 u26.2.1 u26.2.2) <| I16 ((IntKind.wrap .u64 (y17.1 + (1 : Int))), ())) <|
 ze Tryz.prog 178 [(.pointer u11)] (.one (.one (.int .i64))) fun (u27 : Int) =>
 ze Tryz.prog 177 [(.pointer u11), (.int .i64 u27)] (.many [(.one .slc), (.one (.int .i64))]) fun (u28 : SLC × Int × Unit) =>
 zw Tryz.prog (Go.convert 85 9 (.slice u28.1.1 u28.1.2.1 u28.1.2.2)) .str fun (u29 : ByteArray) =>
 stW ((aD r1).add 2) (.string u29) <|
 zk [(.int .u8), .slc, .str] (aD r1) fun (u30 : (Int × SLC × ByteArray × Unit)) =>
 zd ((#[(.int .u8 u30.1), (.slice u30.2.1.1 u30.2.1.2.1 u30.2.1.2.2), (.string u30.2.2.1)] : Array Value).size = 3) <|
 zt (aD r1) [(.int .u8 u30.1), (.slice u30.2.1.1 u30.2.1.2.1 u30.2.1.2.2), (.string u30.2.2.1)] <|
 zk [(.int .u8), .slc, .str] (aD r1) fun (u31 : (Int × SLC × ByteArray × Unit)) => K (.tuple #[(.agg #[(.int .u8 u31.1), (.slice u31.2.1.1 u31.2.1.2.1 u31.2.1.2.2), (.string u31.2.2.1)]), (.int .i64 u28.2.1)])
theorem zlk (x0 : Option Addr) (x1 : ByteArray) {K : Value -> WP} {w : World} (h : S138 x0 x1 K w) : Calls Tryz.prog 138 #[(.pointer x0), (.string x1)] w (Ret K) := cE an138 false Tryz.func138 mixed (by kernel_rfl) (by kernel_rfl) h
def an139 : Ann := (.seq .nil (.seq .nil (.seq (.seq .nil (.cond (.seq .nil .nil) .nil)) (.seq (.seq .nil (.cond (.seq .nil .nil) .nil)) (.seq .nil (.seq .nil .nil))))))
def S139 (x0 : Option Addr) (x1 : Int) (K : Value -> WP) : WP :=
 ze Tryz.prog 136 [(.pointer x0), (.int .u32 x1)] (.many [(.one .ptr), (.one (.int .i64))]) fun (u1 : Option Addr × Int × Unit) =>
 za (u1.2.1 != (0 : Int)) (K (.int .i64 u1.2.1)) <|
 zh u1.1 fun (p2 : Addr) =>
 ldW (.int .u16) p2 fun (u3 : Int) =>
 za (u3 == (65535 : Int)) (K (.int .i64 (12 : Int))) <|
 zh u1.1 fun (p4 : Addr) =>
 ldW (.int .u16) p4 fun (u5 : Int) =>
 zh u1.1 fun (p6 : Addr) =>
 stW p6 (.int .u16 (IntKind.wrap .u16 (u5 + (1 : Int)))) <| K (.int .i64 (0 : Int))
theorem zll (x0 : Option Addr) (x1 : Int) {K : Value -> WP} {w : World} (h : S139 x0 x1 K w) : Calls Tryz.prog 139 #[(.pointer x0), (.int .u32 x1)] w (Ret K) := cE an139 false Tryz.func139 mixed (by kernel_rfl) (by kernel_rfl) h
def an141 : Ann := (.seq .nil (.seq (.seq .nil (.cond (.seq .nil .nil) .nil)) (.seq (.seq .nil (.block (.loop [(21, .sh (.one .slc))] [] (.seq .nil (.block (.seq .nil (.seq (.seq .nil (.block (.loop [(4, .sh (.one .slc)), (24, .sh (.one (.int .i64)))] [2, 22, 23, 1000000] (.seq .nil (.seq (.cond .nil .nil) (.seq (.block (.seq .nil .nil)) .nil)))))) .nil))))))) (.seq .nil .nil))))
def S141 (x0 : Option Addr) (K : Value -> WP) : WP :=
 zi (.cells #[(.slice none 0 0)] 158) fun (r1 : Nat) =>
 za (Option.isNone x0) (stW (aD r1) (.slice none 0 0) <|
 zM Tryz.prog [] <|
 ldW .slc (aD r1) fun (u2 : SLC) => K (.slice u2.1 u2.2.1 u2.2.2)) <|
 zA <|
 zh x0 fun (p3 : Addr) =>
 ldW .slc (p3.add 2) fun (u4 : SLC) =>
 zh x0 fun (p5 : Addr) =>
 ldW (.int .i64) p5 fun (u6 : Int) =>
 ze Tryz.prog 121 [(.int .i64 u6)] (.one (.one (.int .i64))) fun (u7 : Int) =>
 zq [[((p3.add 2), (.slice u4.1 u4.2.1 u4.2.2))]] <|
 ze Tryz.prog 181 [(.slice u4.1 u4.2.1 u4.2.2), (.int .i64 (IntKind.wrap .i64 (Int.tdiv u7 (2 : Int))))] (.one (.one .any)) fun (u8 : Value) =>
 ji Tryz.prog u8 (SLC × Unit) (fun (t9 : SLC × Unit) => [(.slice t9.1.1 t9.1.2.1 t9.1.2.2)]) (fun (t9 : SLC × Unit) (B10 : WP -> WP) (N11 : WP) (Q12 : Code -> WP) => B10 (zD (SLC × Int × Unit) ((none, 0, 0), (0 : Int), ()) fun (y16 : SLC × Int × Unit) (I15 : (SLC × Int × Unit) -> WP) =>
 za (decide (y16.2.1 < ((t9.1.2.1 : Nat) : Int))) (zd (0 <= y16.2.1 /\ y16.2.1 < ((t9.1.2.1 : Nat) : Int)) <|
 zh t9.1.1 fun (p17 : Addr) =>
 ldW (.int .u16) (p17.add (Int.toNat y16.2.1 * 1)) fun (u18 : Int) =>
 ze Tryz.prog 42 [(.slice y16.1.1 y16.1.2.1 y16.1.2.2), (.int .u64 (IntKind.wrap .u64 u18)), (.int .i64 (2 : Int))] (.one (.one .slc)) fun (u19 : SLC) => I15 ((u19.1, u19.2.1, u19.2.2), (IntKind.wrap .i64 (y16.2.1 + (1 : Int))), ())) <|
 ldW .slc (aD r1) fun (u20 : SLC) =>
 zw Tryz.prog (Go.convert 85 9 (.slice y16.1.1 y16.1.2.1 y16.1.2.2)) .str fun (u21 : ByteArray) =>
 zi (.cells #[(.string u21)] 9) fun (r22 : Nat) =>
 zw Tryz.prog (Builtin.append_ #[158, 158] 158 #[(.slice u20.1 u20.2.1 u20.2.2), (.slice (some (aD r22)) 1 1)]) .slc fun (u23 : SLC) =>
 stW (aD r1) (.slice u23.1 u23.2.1 u23.2.2) <| N11)) fun (r13 : Nat) (p14 : Option Code) =>
 jd (ldW .slc (aD r1) fun (u24 : SLC) =>
 stW (aD r1) (.slice u24.1 u24.2.1 u24.2.2) <|
 zM Tryz.prog (⟨.collected r13, #[]⟩ :: []) <|
 ldW .slc (aD r1) fun (u25 : SLC) => K (.slice u25.1 u25.2.1 u25.2.2)) (zM Tryz.prog (⟨.collected r13, #[]⟩ :: []) <|
 ldW .slc (aD r1) fun (u26 : SLC) => K (.slice u26.1 u26.2.1 u26.2.2)) [] p14
theorem zlm (x0 : Option Addr) {K : Value -> WP} {w : World} (h : S141 x0 K w) : Calls Tryz.prog 141 #[(.pointer x0)] w (Ret K) := cE an141 true Tryz.func141 mixed (by kernel_rfl) (by kernel_rfl) h
def an142 : Ann := (.seq .nil (.seq (.block (.seq .nil (.cond (.seq .nil .nil) (.seq .nil (.cond (.seq .nil .nil) .nil))))) (.seq (.seq .nil (.block (.loop [(17, .sh (.one (.int .i64)))] [0, 15, 16, 1000000] (.seq .nil (.seq (.cond .nil .nil) (.seq (.block (.seq .nil .nil)) .nil)))))) (.seq .nil (.seq .nil .nil)))))
def S142 (x0 : Option Addr) (K : Value -> WP) : WP :=
 za (Option.isNone x0) (K (.int .i64 (1 : Int))) <|
 ze Tryz.prog 163 [(.pointer x0)] (.one (.one .bool)) fun (u1 : Bool) =>
 za (!u1) (K (.int .i64 (8 : Int))) <|
 zh x0 fun (p2 : Addr) =>
 ldW .slc (p2.add 3) fun (u3 : SLC) =>
 zD (Int × Unit) ((0 : Int), ()) fun (y5 : Int × Unit) (I4 : (Int × Unit) -> WP) =>
 za (decide (y5.1 < ((u3.2.1 : Nat) : Int))) (zd (0 <= y5.1 /\ y5.1 < ((u3.2.1 : Nat) : Int)) <|
 zh u3.1 fun (p6 : Addr) =>
 zk [(.int .i64), .str] (p6.add (Int.toNat y5.1 * 2)) fun (u7 : (Int × ByteArray × Unit)) =>
 zi (.cells #[(.int .i64 (0 : Int)), (.string ByteArray.empty)] 230) fun (r8 : Nat) =>
 zd ((#[(.int .i64 u7.1), (.string u7.2.1)] : Array Value).size = 2) <|
 zt (aD r8) [(.int .i64 u7.1), (.string u7.2.1)] <|
 zA <|
 zh x0 fun (p9 : Addr) =>
 ldW .slc (p9.add 2) fun (u10 : SLC) =>
 ldW (.int .i64) (aD r8) fun (u11 : Int) =>
 ldW .str ((aD r8).add 1) fun (u12 : ByteArray) =>
 zd (0 <= u11 /\ u11 < ((u10.2.1 : Nat) : Int)) <|
 zh u10.1 fun (p13 : Addr) =>
 stW (p13.add (Int.toNat u11 * 1)) (.string u12) <| I4 ((IntKind.wrap .i64 (y5.1 + (1 : Int))), ())) <|
 zh x0 fun (p14 : Addr) =>
 stW (p14.add 3) (.slice none 0 0) <| K (.int .i64 (0 : Int))
theorem zln (x0 : Option Addr) {K : Value -> WP} {w : World} (h : S142 x0 K w) : Calls Tryz.prog 142 #[(.pointer x0)] w (Ret K) := cE an142 false Tryz.func142 mixed (by kernel_rfl) (by kernel_rfl) h
def an143 : Ann := (.seq .nil (.seq (.seq .nil (.seq .nil (.cond (.seq .nil .nil) .nil))) (.seq .nil (.seq (.seq .nil (.block (.loop [(5, .sh (.one .slc)), (28, .sh (.one (.int .i64)))] [1, 26, 27, 1000000] (.seq .nil (.seq (.cond .nil .nil) (.seq (.block (.seq .nil .nil)) .nil)))))) (.seq .nil (.seq (.seq .nil (.block (.loop [(5, .sh (.one .slc)), (45, .sh (.one (.int .i64)))] [1, 43, 44, 1000000] (.seq .nil (.seq (.cond .nil .nil) (.seq (.block (.seq .nil .nil)) .nil)))))) (.seq .nil .nil)))))))
def S143 (x0_0 : Int) (x0_1 : Int) (x0_2 : Int) (x0_3 : Int) (a0_4 : Option Addr) (n0_4 c0_4 : Nat) (K : Value -> WP) : WP :=
 zi (.cells #[(.int .u64 x0_0), (.int .i64 x0_1), (.int .i64 x0_2), (.int .u32 x0_3), (.slice a0_4 n0_4 c0_4)] 79) fun (r1 : Nat) =>
 zk [(.int .u64), (.int .i64), (.int .i64), (.int .u32), .slc] (aD r1) fun (u2 : (Int × Int × Int × Int × SLC × Unit)) =>
 ze Tryz.prog 117 [(.agg #[(.int .u64 u2.1), (.int .i64 u2.2.1), (.int .i64 u2.2.2.1), (.int .u32 u2.2.2.2.1), (.slice u2.2.2.2.2.1.1 u2.2.2.2.2.1.2.1 u2.2.2.2.2.1.2.2)])] (.one (.one (.int .i64))) fun (u3 : Int) =>
 za (u3 != (0 : Int)) (K (.tuple #[(.string (ByteArray.mk #[])), (.int .i64 u3)])) <|
 ldW (.int .i64) ((aD r1).add 1) fun (u4 : Int) =>
 ldW (.int .i64) (((aD r1).add 1).add 1) fun (u5 : Int) =>
 ldW (.int .u32) ((aD r1).add 3) fun (u6 : Int) =>
 zi (.cells #[(.int .u64 (IntKind.wrap .u64 u4)), (.int .u64 (IntKind.wrap .u64 u5)), (.int .u64 (IntKind.wrap .u64 u6))] 42) fun (r7 : Nat) =>
 zD (SLC × Int × Unit) ((none, 0, 0), (0 : Int), ()) fun (y9 : SLC × Int × Unit) (I8 : (SLC × Int × Unit) -> WP) =>
 za (decide (y9.2.1 < ((3 : Nat) : Int))) (zd (0 <= y9.2.1 /\ y9.2.1 < ((3 : Nat) : Int)) <|
 zh (some (aD r7)) fun (p10 : Addr) =>
 ldW (.int .u64) (p10.add (Int.toNat y9.2.1 * 1)) fun (u11 : Int) =>
 ze Tryz.prog 42 [(.slice y9.1.1 y9.1.2.1 y9.1.2.2), (.int .u64 u11), (.int .i64 (4 : Int))] (.one (.one .slc)) fun (u12 : SLC) => I8 ((u12.1, u12.2.1, u12.2.2), (IntKind.wrap .i64 (y9.2.1 + (1 : Int))), ())) <|
 ldW .slc ((aD r1).add 4) fun (u13 : SLC) =>
 ze Tryz.prog 42 [(.slice y9.1.1 y9.1.2.1 y9.1.2.2), (.int .u64 (IntKind.wrap .u64 ((u13.2.1 : Nat) : Int))), (.int .i64 (2 : Int))] (.one (.one .slc)) fun (u14 : SLC) =>
 ldW .slc ((aD r1).add 4) fun (u15 : SLC) =>
 zD (SLC × Int × Unit) ((u14.1, u14.2.1, u14.2.2), (0 : Int), ()) fun (y17 : SLC × Int × Unit) (I16 : (SLC × Int × Unit) -> WP) =>
 za (decide (y17.2.1 < ((u15.2.1 : Nat) : Int))) (zd (0 <= y17.2.1 /\ y17.2.1 < ((u15.2.1 : Nat) : Int)) <|
 zh u15.1 fun (p18 : Addr) =>
 ldW (.int .u32) (p18.add (Int.toNat y17.2.1 * 1)) fun (u19 : Int) =>
 ze Tryz.prog 42 [(.slice y17.1.1 y17.1.2.1 y17.1.2.2), (.int .u64 (IntKind.wrap .u64 u19)), (.int .i64 (4 : Int))] (.one (.one .slc)) fun (u20 : SLC) => I16 ((u20.1, u20.2.1, u20.2.2), (IntKind.wrap .i64 (y17.2.1 + (1 : Int))), ())) <|
 ldW (.int .i64) ((aD r1).add 1) fun (u21 : Int) =>
 ldW (.int .u64) (aD r1) fun (u22 : Int) =>
 zw Tryz.prog (Go.convert 85 9 (.slice y17.1.1 y17.1.2.1 y17.1.2.2)) .str fun (u23 : ByteArray) =>
 ze Tryz.prog 123 [(.int .i64 u21), (.agg #[(.int .u8 (1 : Int)), (.int .u64 u22), (.string u23)])] (.many [(.one .str), (.one (.int .i64))]) fun (u24 : ByteArray × Int × Unit) => K (.tuple #[(.string u24.1), (.int .i64 u24.2.1)])
theorem zlo (x0_0 : Int) (x0_1 : Int) (x0_2 : Int) (x0_3 : Int) (a0_4 : Option Addr) (n0_4 c0_4 : Nat) {K : Value -> WP} {w : World} (h : S143 x0_0 x0_1 x0_2 x0_3 a0_4 n0_4 c0_4 K w) : Calls Tryz.prog 143 #[(.agg #[(.int .u64 x0_0), (.int .i64 x0_1), (.int .i64 x0_2), (.int .u32 x0_3), (.slice a0_4 n0_4 c0_4)])] w (Ret K) := cE an143 false Tryz.func143 mixed (by kernel_rfl) (by kernel_rfl) h
def an144 : Ann := (.seq .nil (.seq (.seq .nil (.cond (.seq .nil .nil) .nil)) (.seq .nil .nil)))
def S144 (a0 : Option Addr) (n0 c0 : Nat) (K : Value -> WP) : WP :=
 za (Option.isNone a0) (K (.slice none 0 0)) <|
 zi (.cells #[] 194) fun (r1 : Nat) =>
 zw Tryz.prog (Builtin.append_ #[191, 191] 191 #[(.slice (some (aD r1)) 0 0), (.slice a0 n0 c0)]) .slc fun (u2 : SLC) => K (.slice u2.1 u2.2.1 u2.2.2)
theorem zlp (a0 : Option Addr) (n0 c0 : Nat) {K : Value -> WP} {w : World} (h : S144 a0 n0 c0 K w) : Calls Tryz.prog 144 #[(.slice a0 n0 c0)] w (Ret K) := cE an144 false Tryz.func144 mixed (by kernel_rfl) (by kernel_rfl) h
def an154 : Ann := (.seq .nil (.seq .nil .nil))
def S154 (a0 : Option Addr) (n0 c0 : Nat) (x1 : Value) (K : Value -> WP) : WP :=
 ze Tryz.prog 195 [(.slice a0 n0 c0), x1] (.one (.one (.int .i64))) fun (u1 : Int) => K (.bool (decide (u1 >= (0 : Int))))
theorem zlq (a0 : Option Addr) (n0 c0 : Nat) (x1 : Value) {K : Value -> WP} {w : World} (h : S154 a0 n0 c0 x1 K w) : Calls Tryz.prog 154 #[(.slice a0 n0 c0), x1] w (Ret K) := cE an154 false Tryz.func154 mixed (by kernel_rfl) (by kernel_rfl) h
def an155 : Ann := (.seq .nil (.seq .nil .nil))
def S155 (x0_0 : ByteArray) (x0_1 : Int) (x0_2 : Bool) (a1 : Addr) (K : Value -> WP) : WP :=
 zi (.cells #[(.string x0_0), (.int .i64 x0_1), (.bool x0_2)] 62) fun (r1 : Nat) =>
 ldW .str (aD r1) fun (u2 : ByteArray) =>
 ldW .str a1 fun (u3 : ByteArray) => K (.bool (u2.toList == u3.toList))
theorem zlr (x0_0 : ByteArray) (x0_1 : Int) (x0_2 : Bool) (a1 : Addr) {K : Value -> WP} {w : World} (h : S155 x0_0 x0_1 x0_2 a1 K w) : Calls Tryz.prog 155 #[(.agg #[(.string x0_0), (.int .i64 x0_1), (.bool x0_2)]), (.pointer (some a1))] w (Ret K) := cE an155 false Tryz.func155 mixed (by kernel_rfl) (by kernel_rfl) h
def an156 : Ann := (.seq .nil (.seq .nil .nil))
def S156 (a0 : Option Addr) (n0 c0 : Nat) (K : Value -> WP) : WP :=
 zi (.cells #[(.slice a0 n0 c0)] 85) fun (r1 : Nat) => K (.func (.func 196) #[] #[(.pointer (some (aD r1)))])
theorem zls (a0 : Option Addr) (n0 c0 : Nat) {K : Value -> WP} {w : World} (h : S156 a0 n0 c0 K w) : Calls Tryz.prog 156 #[(.slice a0 n0 c0)] w (Ret K) := cE an156 false Tryz.func156 mixed (by kernel_rfl) (by kernel_rfl) h
def an157 : Ann := (.seq .nil (.seq (.seq .nil (.cond (.seq .nil .nil) .nil)) (.seq .nil (.seq .nil .nil))))
def S157 (x0 : ByteArray) (K : Value -> WP) : WP :=
 zi (.cells #[(.string ByteArray.empty), (.int .i64 (0 : Int)), (.bool false)] 62) fun (r1 : Nat) =>
 za (decide (((x0.size : Nat) : Int) < (2 : Int))) (zd ((#[(.string ByteArray.empty), (.int .i64 (0 : Int)), (.bool false)] : Array Value).size = 3) <|
 zt (aD r1) [(.string ByteArray.empty), (.int .i64 (0 : Int)), (.bool false)] <|
 zk [.str, (.int .i64), .bool] (aD r1) fun (u2 : (ByteArray × Int × Bool × Unit)) => K (.tuple #[(.agg #[(.string u2.1), (.int .i64 u2.2.1), (.bool u2.2.2.1)]), (.string (ByteArray.mk #[])), (.bool false)])) <|
 zd (0 <= (1 : Int) /\ (1 : Int) < ((x0.size : Nat) : Int)) <|
 za (decide ((IntKind.wrap .i64 (((x0.size : Nat) : Int) - (2 : Int))) < (IntKind.wrap .i64 (bt x0 (1 : Int))))) (zd ((#[(.string ByteArray.empty), (.int .i64 (0 : Int)), (.bool false)] : Array Value).size = 3) <|
 zt (aD r1) [(.string ByteArray.empty), (.int .i64 (0 : Int)), (.bool false)] <|
 zk [.str, (.int .i64), .bool] (aD r1) fun (u3 : (ByteArray × Int × Bool × Unit)) => K (.tuple #[(.agg #[(.string u3.1), (.int .i64 u3.2.1), (.bool u3.2.2.1)]), (.string (ByteArray.mk #[])), (.bool false)])) <|
 zd (0 <= (1 : Int) /\ (1 : Int) < ((x0.size : Nat) : Int)) <|
 zA <|
 zd (0 <= (2 : Int) /\ (2 : Int) <= (IntKind.wrap .i64 ((2 : Int) + (IntKind.wrap .i64 (bt x0 (1 : Int))))) /\ (IntKind.wrap .i64 ((2 : Int) + (IntKind.wrap .i64 (bt x0 (1 : Int))))) <= ((x0.size : Nat) : Int)) <|
 zd (0 <= (0 : Int) /\ (0 : Int) < ((x0.size : Nat) : Int)) <|
 zd (0 <= (0 : Int) /\ (0 : Int) < ((x0.size : Nat) : Int)) <|
 zd (0 <= (IntKind.wrap .i64 ((2 : Int) + (IntKind.wrap .i64 (bt x0 (1 : Int))))) /\ (IntKind.wrap .i64 ((2 : Int) + (IntKind.wrap .i64 (bt x0 (1 : Int))))) <= ((x0.size : Nat) : Int)) <|
 zd ((#[(.string (ByteArray.extract x0 (Int.toNat (2 : Int)) (Int.toNat (IntKind.wrap .i64 ((2 : Int) + (IntKind.wrap .i64 (bt x0 (1 : Int)))))))), (.int .i64 (IntKind.wrap .i64 (iandn .u8 (bt x0 (0 : Int)) (128 : Int)))), (.bool ((iand .u8 (bt x0 (0 : Int)) (128 : Int)) != (0 : Int)))] : Array Value).size = 3) <|
 zt (aD r1) [(.string (ByteArray.extract x0 (Int.toNat (2 : Int)) (Int.toNat (IntKind.wrap .i64 ((2 : Int) + (IntKind.wrap .i64 (bt x0 (1 : Int)))))))), (.int .i64 (IntKind.wrap .i64 (iandn .u8 (bt x0 (0 : Int)) (128 : Int)))), (.bool ((iand .u8 (bt x0 (0 : Int)) (128 : Int)) != (0 : Int)))] <|
 zk [.str, (.int .i64), .bool] (aD r1) fun (u4 : (ByteArray × Int × Bool × Unit)) => K (.tuple #[(.agg #[(.string u4.1), (.int .i64 u4.2.1), (.bool u4.2.2.1)]), (.string (ByteArray.extract x0 (Int.toNat (IntKind.wrap .i64 ((2 : Int) + (IntKind.wrap .i64 (bt x0 (1 : Int)))))) x0.size)), (.bool true)])
theorem zlt (x0 : ByteArray) {K : Value -> WP} {w : World} (h : S157 x0 K w) : Calls Tryz.prog 157 #[(.string x0)] w (Ret K) := cE an157 false Tryz.func157 mixed (by kernel_rfl) (by kernel_rfl) h
def an161 : Ann := (.seq .nil (.seq .nil .nil))
def S161 (x0 : Int) (a1 : Addr) (K : Value -> WP) : WP :=
 za (decide (x0 >= (2 : Int))) (ldW (.int .i64) ((a1.add 1).add 1) fun (u1 : Int) => K (.bool (decide ((IntKind.wrap .u64 x0) < (IntKind.wrap .u64 u1))))) <| K (.bool false)
theorem zlu (x0 : Int) (a1 : Addr) {K : Value -> WP} {w : World} (h : S161 x0 a1 K w) : Calls Tryz.prog 161 #[(.int .u32 x0), (.pointer (some a1))] w (Ret K) := cE an161 false Tryz.func161 mixed (by kernel_rfl) (by kernel_rfl) h
def an162 : Ann := (.seq .nil (.seq .nil .nil))
def S162 (x0 : Option Addr) (x1 : Int) (K : Value -> WP) : WP :=
 za (decide (x1 >= (0 : Int))) (zh x0 fun (p1 : Addr) =>
 ldW (.int .i64) (p1.add 1) fun (u2 : Int) => K (.bool (decide (x1 < u2)))) <| K (.bool false)
theorem zlv (x0 : Option Addr) (x1 : Int) {K : Value -> WP} {w : World} (h : S162 x0 x1 K w) : Calls Tryz.prog 162 #[(.pointer x0), (.int .i64 x1)] w (Ret K) := cE an162 false Tryz.func162 mixed (by kernel_rfl) (by kernel_rfl) h
def an163 : Ann := (.seq .nil (.seq (.seq .nil (.cond (.seq .nil .nil) .nil)) (.seq .nil (.seq .nil (.seq .nil .nil)))))
def S163 (x0 : Option Addr) (K : Value -> WP) : WP :=
 zh x0 fun (p1 : Addr) =>
 ldW (.int .i64) (p1.add 5) fun (u2 : Int) =>
 za (u2 == (0 : Int)) (K (.bool false)) <|
 zh x0 fun (p3 : Addr) =>
 ldW (.int .i64) (p3.add 5) fun (u4 : Int) =>
 zh x0 fun (p5 : Addr) =>
 stW (p5.add 5) (.int .i64 (if (IntKind.wrap .i64 (u4 - (1 : Int))) > (-1 : Int) then (IntKind.wrap .i64 (u4 - (1 : Int))) else (-1 : Int))) <|
 zh x0 fun (p6 : Addr) =>
 ldW (.int .i64) (p6.add 4) fun (u7 : Int) =>
 zh x0 fun (p8 : Addr) =>
 stW (p8.add 4) (.int .i64 (IntKind.wrap .i64 (u7 + (1 : Int)))) <| K (.bool true)
theorem zlw (x0 : Option Addr) {K : Value -> WP} {w : World} (h : S163 x0 K w) : Calls Tryz.prog 163 #[(.pointer x0)] w (Ret K) := cE an163 false Tryz.func163 mixed (by kernel_rfl) (by kernel_rfl) h
def an164 : Ann := (.seq .nil (.seq (.seq .nil (.block (.loop [(8, .sh (.one (.int .i64)))] [0, 1, 7, 1000000] (.seq .nil (.seq (.cond .nil .nil) (.seq (.block (.seq .nil (.seq .nil (.cond (.seq .nil .nil) .nil)))) .nil)))))) (.seq .nil .nil)))
def S164 (a0 : Option Addr) (n0 c0 : Nat) (x1 : Int) (K : Value -> WP) : WP :=
 zD (Int × Unit) ((0 : Int), ()) fun (y2 : Int × Unit) (I1 : (Int × Unit) -> WP) =>
 za (decide (y2.1 < ((n0 : Nat) : Int))) (zd (0 <= y2.1 /\ y2.1 < ((n0 : Nat) : Int)) <|
 zh a0 fun (p3 : Addr) =>
 ldW (.int .u32) (p3.add (Int.toNat y2.1 * 1)) fun (u4 : Int) =>
 za (x1 == u4) (K (.int .i64 y2.1)) <| I1 ((IntKind.wrap .i64 (y2.1 + (1 : Int))), ())) <| K (.int .i64 (-1 : Int))
theorem zlx (a0 : Option Addr) (n0 c0 : Nat) (x1 : Int) {K : Value -> WP} {w : World} (h : S164 a0 n0 c0 x1 K w) : Calls Tryz.prog 164 #[(.slice a0 n0 c0), (.int .u32 x1)] w (Ret K) := cE an164 false Tryz.func164 mixed (by kernel_rfl) (by kernel_rfl) h
def an165 : Ann := (.seq .nil (.seq .nil .nil))
def S165 (a0 : Option Addr) (n0 c0 : Nat) (K : Value -> WP) : WP :=
 ze Tryz.prog 201 [] (.one (.arr 256)) fun (u1 : Array Value) =>
 ze Tryz.prog 200 [(.agg u1), (.slice a0 n0 c0)] (.one (.one (.int .u32))) fun (u2 : Int) => K (.int .u32 u2)
theorem zly (a0 : Option Addr) (n0 c0 : Nat) {K : Value -> WP} {w : World} (h : S165 a0 n0 c0 K w) : Calls Tryz.prog 165 #[(.slice a0 n0 c0)] w (Ret K) := cE an165 false Tryz.func165 mixed (by kernel_rfl) (by kernel_rfl) h
def an166 : Ann := (.seq .nil (.seq .nil (.seq (.seq .nil (.cond (.seq .nil .nil) .nil)) (.seq .nil .nil))))
def S166 (x0 : Option Addr) (x1 : Int) (K : Value -> WP) : WP :=
 zi (.cells #[(.int .u8 (0 : Int)), (.slice none 0 0), (.slice none 0 0), (.slice none 0 0)] 215) fun (r1 : Nat) =>
 ze Tryz.prog 88 [(.pointer x0), (.int .u32 x1)] (.many [(.agg [(.int .u8), .slc, .str]), (.one (.int .i64))]) fun (u2 : (Int × SLC × ByteArray × Unit) × Int × Unit) =>
 zi (.cells #[(.int .u8 (0 : Int)), (.slice none 0 0), (.string ByteArray.empty)] 56) fun (r3 : Nat) =>
 zd ((#[(.int .u8 u2.1.1), (.slice u2.1.2.1.1 u2.1.2.1.2.1 u2.1.2.1.2.2), (.string u2.1.2.2.1)] : Array Value).size = 3) <|
 zt (aD r3) [(.int .u8 u2.1.1), (.slice u2.1.2.1.1 u2.1.2.1.2.1 u2.1.2.1.2.2), (.string u2.1.2.2.1)] <|
 za (u2.2.1 != (0 : Int)) (zd ((#[(.int .u8 (0 : Int)), (.slice none 0 0), (.slice none 0 0), (.slice none 0 0)] : Array Value).size = 4) <|
 zt (aD r1) [(.int .u8 (0 : Int)), (.slice none 0 0), (.slice none 0 0), (.slice none 0 0)] <|
 zk [(.int .u8), .slc, .slc, .slc] (aD r1) fun (u4 : (Int × SLC × SLC × SLC × Unit)) => K (.tuple #[(.agg #[(.int .u8 u4.1), (.slice u4.2.1.1 u4.2.1.2.1 u4.2.1.2.2), (.slice u4.2.2.1.1 u4.2.2.1.2.1 u4.2.2.1.2.2), (.slice u4.2.2.2.1.1 u4.2.2.2.1.2.1 u4.2.2.2.1.2.2)]), (.int .i64 u2.2.1)])) <|
 zk [(.int .u8), .slc, .str] (aD r3) fun (u5 : (Int × SLC × ByteArray × Unit)) =>
 ze Tryz.prog 202 [(.agg #[(.int .u8 u5.1), (.slice u5.2.1.1 u5.2.1.2.1 u5.2.1.2.2), (.string u5.2.2.1)])] (.many [(.agg [(.int .u8), .slc, .slc, .slc]), (.one (.int .i64))]) fun (u6 : (Int × SLC × SLC × SLC × Unit) × Int × Unit) =>
 zd ((#[(.int .u8 u6.1.1), (.slice u6.1.2.1.1 u6.1.2.1.2.1 u6.1.2.1.2.2), (.slice u6.1.2.2.1.1 u6.1.2.2.1.2.1 u6.1.2.2.1.2.2), (.slice u6.1.2.2.2.1.1 u6.1.2.2.2.1.2.1 u6.1.2.2.2.1.2.2)] : Array Value).size = 4) <|
 zt (aD r1) [(.int .u8 u6.1.1), (.slice u6.1.2.1.1 u6.1.2.1.2.1 u6.1.2.1.2.2), (.slice u6.1.2.2.1.1 u6.1.2.2.1.2.1 u6.1.2.2.1.2.2), (.slice u6.1.2.2.2.1.1 u6.1.2.2.2.1.2.1 u6.1.2.2.2.1.2.2)] <|
 zk [(.int .u8), .slc, .slc, .slc] (aD r1) fun (u7 : (Int × SLC × SLC × SLC × Unit)) => K (.tuple #[(.agg #[(.int .u8 u7.1), (.slice u7.2.1.1 u7.2.1.2.1 u7.2.1.2.2), (.slice u7.2.2.1.1 u7.2.2.1.2.1 u7.2.2.1.2.2), (.slice u7.2.2.2.1.1 u7.2.2.2.1.2.1 u7.2.2.2.1.2.2)]), (.int .i64 u6.2.1)])
theorem zlz (x0 : Option Addr) (x1 : Int) {K : Value -> WP} {w : World} (h : S166 x0 x1 K w) : Calls Tryz.prog 166 #[(.pointer x0), (.int .u32 x1)] w (Ret K) := cE an166 false Tryz.func166 mixed (by kernel_rfl) (by kernel_rfl) h
def an167 : Ann := (.seq .nil (.seq .nil .nil))
def S167 (x0_0 : Int) (a0_1 : Option Addr) (n0_1 c0_1 : Nat) (a0_2 : Option Addr) (n0_2 c0_2 : Nat) (a0_3 : Option Addr) (n0_3 c0_3 : Nat) (K : Value -> WP) : WP :=
 zi (.cells #[(.int .u8 x0_0), (.slice a0_1 n0_1 c0_1), (.slice a0_2 n0_2 c0_2), (.slice a0_3 n0_3 c0_3)] 215) fun (r1 : Nat) =>
 ldW (.int .u8) (aD r1) fun (u2 : Int) => K (.bool (u2 == (3 : Int)))
theorem zlA (x0_0 : Int) (a0_1 : Option Addr) (n0_1 c0_1 : Nat) (a0_2 : Option Addr) (n0_2 c0_2 : Nat) (a0_3 : Option Addr) (n0_3 c0_3 : Nat) {K : Value -> WP} {w : World} (h : S167 x0_0 a0_1 n0_1 c0_1 a0_2 n0_2 c0_2 a0_3 n0_3 c0_3 K w) : Calls Tryz.prog 167 #[(.agg #[(.int .u8 x0_0), (.slice a0_1 n0_1 c0_1), (.slice a0_2 n0_2 c0_2), (.slice a0_3 n0_3 c0_3)])] w (Ret K) := cE an167 false Tryz.func167 mixed (by kernel_rfl) (by kernel_rfl) h
def an168 : Ann := (.seq .nil (.seq (.seq .nil (.cond (.seq .nil .nil) .nil)) (.seq .nil .nil)))
def S168 (x0_0 : Int) (a0_1 : Option Addr) (n0_1 c0_1 : Nat) (a0_2 : Option Addr) (n0_2 c0_2 : Nat) (a0_3 : Option Addr) (n0_3 c0_3 : Nat) (x1 : Int) (K : Value -> WP) : WP :=
 zi (.cells #[(.int .u8 x0_0), (.slice a0_1 n0_1 c0_1), (.slice a0_2 n0_2 c0_2), (.slice a0_3 n0_3 c0_3)] 215) fun (r1 : Nat) =>
 zk [(.int .u8), .slc, .slc, .slc] (aD r1) fun (u2 : (Int × SLC × SLC × SLC × Unit)) =>
 ze Tryz.prog 203 [(.agg #[(.int .u8 u2.1), (.slice u2.2.1.1 u2.2.1.2.1 u2.2.1.2.2), (.slice u2.2.2.1.1 u2.2.2.1.2.1 u2.2.2.1.2.2), (.slice u2.2.2.2.1.1 u2.2.2.2.1.2.1 u2.2.2.2.1.2.2)])] (.one (.one .bool)) fun (u3 : Bool) =>
 za u3 (ldW .slc ((aD r1).add 3) fun (u4 : SLC) =>
 zd (0 <= x1 /\ x1 < ((u4.2.1 : Nat) : Int)) <|
 zh u4.1 fun (p5 : Addr) =>
 ldW (.int .u32) (p5.add (Int.toNat x1 * 1)) fun (u6 : Int) => K (.int .u64 (IntKind.wrap .u64 u6))) <|
 ldW .slc ((aD r1).add 2) fun (u7 : SLC) =>
 zd (0 <= x1 /\ x1 < ((u7.2.1 : Nat) : Int)) <|
 zh u7.1 fun (p8 : Addr) =>
 ldW (.int .u64) (p8.add (Int.toNat x1 * 1)) fun (u9 : Int) => K (.int .u64 u9)
theorem zlB (x0_0 : Int) (a0_1 : Option Addr) (n0_1 c0_1 : Nat) (a0_2 : Option Addr) (n0_2 c0_2 : Nat) (a0_3 : Option Addr) (n0_3 c0_3 : Nat) (x1 : Int) {K : Value -> WP} {w : World} (h : S168 x0_0 a0_1 n0_1 c0_1 a0_2 n0_2 c0_2 a0_3 n0_3 c0_3 x1 K w) : Calls Tryz.prog 168 #[(.agg #[(.int .u8 x0_0), (.slice a0_1 n0_1 c0_1), (.slice a0_2 n0_2 c0_2), (.slice a0_3 n0_3 c0_3)]), (.int .i64 x1)] w (Ret K) := cE an168 false Tryz.func168 mixed (by kernel_rfl) (by kernel_rfl) h
def an169 : Ann := (.seq .nil (.seq (.seq .nil (.cond (.seq .nil .nil) .nil)) (.seq .nil (.block (.loop [(4, .sh (.one (.int .i64))), (26, .sh (.one (.int .i64)))] [0, 1, 24, 25, 1000000] (.seq .nil (.seq (.cond .nil .nil) (.seq (.block (.seq .nil (.seq .nil (.seq .nil (.seq .nil (.join [(11, .sh (.one (.int .i64)))] [0, 1, 4, 10, 24, 25, 26, 1000000] (.seq .nil (.cond .nil .nil)) (.seq (.seq .nil (.cond (.seq .nil .nil) .nil)) (.seq .nil (.cond .nil .nil))))))))) .nil))))))))
def S169 (x0 : Value) (a1 : Addr) (a2 : Addr) (K : Value -> WP) : WP :=
 ldW .ptr a1 fun (u1 : Option Addr) =>
 ldW (.int .u32) a2 fun (u2 : Int) =>
 ze Tryz.prog 170 [(.pointer u1), (.int .u32 u2)] (.many [(.one (.int .i64)), (.one .slc), (.one (.int .i64))]) fun (u3 : Int × SLC × Int × Unit) =>
 za (u3.2.2.1 != (0 : Int)) (yy Tryz.prog x0 [(.string (ByteArray.mk #[])), (.int .i64 u3.2.2.1)] (.one (.one .bool)) fun (u4 : Bool) => K (.tuple #[])) <|
 zD (Int × Int × Unit) (u3.1, (0 : Int), ()) fun (y6 : Int × Int × Unit) (I5 : (Int × Int × Unit) -> WP) =>
 za (decide (y6.2.1 < ((u3.2.1.2.1 : Nat) : Int))) (zd (0 <= y6.2.1 /\ y6.2.1 < ((u3.2.1.2.1 : Nat) : Int)) <|
 zh u3.2.1.1 fun (p7 : Addr) =>
 ldW (.int .u32) (p7.add (Int.toNat y6.2.1 * 1)) fun (u8 : Int) =>
 ldW .ptr a1 fun (u9 : Option Addr) =>
 ze Tryz.prog 76 [(.pointer u9), (.int .i64 (0 : Int))] (.one (.one (.int .i64))) fun (u10 : Int) =>
 ldW .ptr a1 fun (u11 : Option Addr) =>
 ze Tryz.prog 88 [(.pointer u11), (.int .u32 u8)] (.many [(.agg [(.int .u8), .slc, .str]), (.one (.int .i64))]) fun (u12 : (Int × SLC × ByteArray × Unit) × Int × Unit) =>
 zi (.cells #[(.int .u8 (0 : Int)), (.slice none 0 0), (.string ByteArray.empty)] 56) fun (r13 : Nat) =>
 zd ((#[(.int .u8 u12.1.1), (.slice u12.1.2.1.1 u12.1.2.1.2.1 u12.1.2.1.2.2), (.string u12.1.2.2.1)] : Array Value).size = 3) <|
 zt (aD r13) [(.int .u8 u12.1.1), (.slice u12.1.2.1.1 u12.1.2.1.2.1 u12.1.2.1.2.2), (.string u12.1.2.2.1)] <|
 xh (Int × Unit) (fun (J14 : (Int × Unit) -> WP) =>
 za (u12.2.1 == (0 : Int)) (ldW (.int .u8) (aD r13) fun (u16 : Int) =>
 za (u16 != (7 : Int)) (J14 ((10 : Int), ())) <|
 ldW .slc ((aD r13).add 1) fun (u17 : SLC) =>
 za (decide (((u17.2.1 : Nat) : Int) > (0 : Int))) (J14 ((10 : Int), ())) <|
 ldW .str ((aD r13).add 2) fun (u18 : ByteArray) =>
 za (((u18.size : Nat) : Int) != (if u10 < y6.1 then u10 else y6.1)) (J14 ((10 : Int), ())) <| J14 (u12.2.1, ())) <| J14 (u12.2.1, ())) fun (y15 : Int × Unit) =>
 za (y15.1 != (0 : Int)) (yy Tryz.prog x0 [(.string (ByteArray.mk #[])), (.int .i64 y15.1)] (.one (.one .bool)) fun (u19 : Bool) => K (.tuple #[])) <|
 ldW .str ((aD r13).add 2) fun (u20 : ByteArray) =>
 yy Tryz.prog x0 [(.string u20), (.int .i64 (0 : Int))] (.one (.one .bool)) fun (u21 : Bool) =>
 za (!u21) (K (.tuple #[])) <| I5 ((IntKind.wrap .i64 (y6.1 - (if u10 < y6.1 then u10 else y6.1))), (IntKind.wrap .i64 (y6.2.1 + (1 : Int))), ())) <| K (.tuple #[])
theorem zlC (x0 : Value) (a1 : Addr) (a2 : Addr) {K : Value -> WP} {w : World} (h : S169 x0 a1 a2 K w) : Calls Tryz.prog 169 #[x0, (.pointer (some a1)), (.pointer (some a2))] w (Ret K) := cE an169 false Tryz.func169 mixed (by kernel_rfl) (by kernel_rfl) h
def an170 : Ann := (.seq .nil (.seq .nil (.seq (.block (.seq .nil (.cond (.seq .nil .nil) (.seq .nil (.cond (.seq .nil .nil) (.seq .nil (.cond (.seq .nil .nil) .nil))))))) (.seq .nil (.seq .nil (.seq (.seq .nil (.cond (.seq .nil .nil) .nil)) (.seq .nil .nil)))))))
def S170 (x0 : Option Addr) (x1 : Int) (K : Value -> WP) : WP :=
 ze Tryz.prog 88 [(.pointer x0), (.int .u32 x1)] (.many [(.agg [(.int .u8), .slc, .str]), (.one (.int .i64))]) fun (u1 : (Int × SLC × ByteArray × Unit) × Int × Unit) =>
 zi (.cells #[(.int .u8 (0 : Int)), (.slice none 0 0), (.string ByteArray.empty)] 56) fun (r2 : Nat) =>
 zd ((#[(.int .u8 u1.1.1), (.slice u1.1.2.1.1 u1.1.2.1.2.1 u1.1.2.1.2.2), (.string u1.1.2.2.1)] : Array Value).size = 3) <|
 zt (aD r2) [(.int .u8 u1.1.1), (.slice u1.1.2.1.1 u1.1.2.1.2.1 u1.1.2.1.2.2), (.string u1.1.2.2.1)] <|
 za (u1.2.1 != (0 : Int)) (K (.tuple #[(.int .i64 (0 : Int)), (.slice none 0 0), (.int .i64 u1.2.1)])) <|
 ldW (.int .u8) (aD r2) fun (u3 : Int) =>
 za (u3 != (6 : Int)) (K (.tuple #[(.int .i64 (0 : Int)), (.slice none 0 0), (.int .i64 (11 : Int))])) <|
 ldW .str ((aD r2).add 2) fun (u4 : ByteArray) =>
 za (((u4.size : Nat) : Int) != (4 : Int)) (K (.tuple #[(.int .i64 (0 : Int)), (.slice none 0 0), (.int .i64 (10 : Int))])) <|
 ldW .str ((aD r2).add 2) fun (u5 : ByteArray) =>
 zw Tryz.prog (Go.convert 9 85 (.string u5)) .slc fun (u6 : SLC) =>
 ze Tryz.prog 107 [(.slice u6.1 u6.2.1 u6.2.2)] (.one (.one (.int .u64))) fun (u7 : Int) =>
 ze Tryz.prog 76 [(.pointer x0), (.int .i64 (0 : Int))] (.one (.one (.int .i64))) fun (u8 : Int) =>
 zA <|
 za (decide ((IntKind.wrap .i64 u7) > (65536 : Int))) (K (.tuple #[(.int .i64 (0 : Int)), (.slice none 0 0), (.int .i64 (10 : Int))])) <|
 zd (u8 ≠ 0) <|
 ldW .slc ((aD r2).add 1) fun (u9 : SLC) =>
 za ((IntKind.wrap .i64 (Int.tdiv (IntKind.wrap .i64 ((IntKind.wrap .i64 ((IntKind.wrap .i64 u7) + u8)) - (1 : Int))) u8)) != ((u9.2.1 : Nat) : Int)) (K (.tuple #[(.int .i64 (0 : Int)), (.slice none 0 0), (.int .i64 (10 : Int))])) <|
 zA <|
 ldW .slc ((aD r2).add 1) fun (u10 : SLC) => K (.tuple #[(.int .i64 (IntKind.wrap .i64 u7)), (.slice u10.1 u10.2.1 u10.2.2), (.int .i64 (0 : Int))])
theorem zlD (x0 : Option Addr) (x1 : Int) {K : Value -> WP} {w : World} (h : S170 x0 x1 K w) : Calls Tryz.prog 170 #[(.pointer x0), (.int .u32 x1)] w (Ret K) := cE an170 false Tryz.func170 mixed (by kernel_rfl) (by kernel_rfl) h
def an172 : Ann := (.seq .nil (.seq .nil (.seq (.seq .nil (.cond (.seq .nil .nil) .nil)) (.seq .nil (.seq (.seq .nil (.block (.loop [(4, .sh (.one .slc)), (5, .sh (.one .slc)), (28, .sh (.one (.int .i64)))] [1, 2, 8, 27, 1000000] (.seq .nil (.seq (.cond .nil .nil) (.seq (.block (.seq .nil (.seq .nil (.seq .nil (.seq (.seq .nil (.cond (.seq .nil .nil) .nil)) .nil))))) .nil)))))) (.seq .nil .nil))))))
def S172 (x0_0 : Int) (a0_1 : Option Addr) (n0_1 c0_1 : Nat) (a0_2 : Option Addr) (n0_2 c0_2 : Nat) (a0_3 : Option Addr) (n0_3 c0_3 : Nat) (x1 : Option Addr) (K : Value -> WP) : WP :=
 zi (.cells #[(.int .u8 x0_0), (.slice a0_1 n0_1 c0_1), (.slice a0_2 n0_2 c0_2), (.slice a0_3 n0_3 c0_3)] 215) fun (r1 : Nat) =>
 ldW (.int .u8) (aD r1) fun (u2 : Int) =>
 ze Tryz.prog 205 [(.pointer x1), (.int .u8 u2)] (.one (.one (.int .i64))) fun (u3 : Int) =>
 za (decide (u3 < (2 : Int))) (K (.tuple #[(.slice none 0 0), (.slice none 0 0), (.int .i64 (3 : Int))])) <|
 ldW .slc ((aD r1).add 1) fun (u4 : SLC) =>
 zd (u3 ≠ 0) <|
 zD (SLC × SLC × Int × Unit) ((none, 0, 0), (none, 0, 0), (0 : Int), ()) fun (y6 : SLC × SLC × Int × Unit) (I5 : (SLC × SLC × Int × Unit) -> WP) =>
 za (decide (y6.2.2.1 < (IntKind.wrap .i64 (Int.tdiv (IntKind.wrap .i64 ((IntKind.wrap .i64 (((u4.2.1 : Nat) : Int) + u3)) - (1 : Int))) u3)))) (zA <|
 zk [(.int .u8), .slc, .slc, .slc] (aD r1) fun (u7 : (Int × SLC × SLC × SLC × Unit)) =>
 ldW .slc ((aD r1).add 1) fun (u8 : SLC) =>
 zd ((IntKind.wrap .i64 (Int.tdiv (IntKind.wrap .i64 ((IntKind.wrap .i64 (((u4.2.1 : Nat) : Int) + u3)) - (1 : Int))) u3)) ≠ 0) <|
 ldW .slc ((aD r1).add 1) fun (u9 : SLC) =>
 zd ((IntKind.wrap .i64 (Int.tdiv (IntKind.wrap .i64 ((IntKind.wrap .i64 (((u4.2.1 : Nat) : Int) + u3)) - (1 : Int))) u3)) ≠ 0) <|
 kH (ze Tryz.prog 206 [(.agg #[(.int .u8 u7.1), (.slice u7.2.1.1 u7.2.1.2.1 u7.2.1.2.2), (.slice u7.2.2.1.1 u7.2.2.1.2.1 u7.2.2.1.2.2), (.slice u7.2.2.2.1.1 u7.2.2.2.1.2.1 u7.2.2.2.1.2.2)]), (.int .i64 (IntKind.wrap .i64 (Int.tdiv (IntKind.wrap .i64 (y6.2.2.1 * ((u8.2.1 : Nat) : Int))) (IntKind.wrap .i64 (Int.tdiv (IntKind.wrap .i64 ((IntKind.wrap .i64 (((u4.2.1 : Nat) : Int) + u3)) - (1 : Int))) u3))))), (.int .i64 (IntKind.wrap .i64 (Int.tdiv (IntKind.wrap .i64 ((IntKind.wrap .i64 (y6.2.2.1 + (1 : Int))) * ((u9.2.1 : Nat) : Int))) (IntKind.wrap .i64 (Int.tdiv (IntKind.wrap .i64 ((IntKind.wrap .i64 (((u4.2.1 : Nat) : Int) + u3)) - (1 : Int))) u3)))))] (.one (.agg [(.int .u8), .slc, .slc, .slc])) fun (u10 : (Int × SLC × SLC × SLC × Unit)) =>
 zi (.cells #[(.int .u8 (0 : Int)), (.slice none 0 0), (.slice none 0 0), (.slice none 0 0)] 215) fun (r11 : Nat) =>
 zq [[(((aD r1).add 1), (.slice u9.1 u9.2.1 u9.2.2))], [(((aD r1).add 1), (.slice u8.1 u8.2.1 u8.2.2))], [((aD r1).add 0, (.int .u8 u7.1)), ((aD r1).add 1, (.slice u7.2.1.1 u7.2.1.2.1 u7.2.1.2.2)), ((aD r1).add 2, (.slice u7.2.2.1.1 u7.2.2.1.2.1 u7.2.2.1.2.2)), ((aD r1).add 3, (.slice u7.2.2.2.1.1 u7.2.2.2.1.2.1 u7.2.2.2.1.2.2))]] <|
 zd ((#[(.int .u8 u10.1), (.slice u10.2.1.1 u10.2.1.2.1 u10.2.1.2.2), (.slice u10.2.2.1.1 u10.2.2.1.2.1 u10.2.2.1.2.2), (.slice u10.2.2.2.1.1 u10.2.2.2.1.2.1 u10.2.2.2.1.2.2)] : Array Value).size = 4) <|
 zt (aD r11) [(.int .u8 u10.1), (.slice u10.2.1.1 u10.2.1.2.1 u10.2.1.2.2), (.slice u10.2.2.1.1 u10.2.2.1.2.1 u10.2.2.1.2.2), (.slice u10.2.2.2.1.1 u10.2.2.2.1.2.1 u10.2.2.2.1.2.2)] <|
 zk [(.int .u8), .slc, .slc, .slc] (aD r11) fun (u12 : (Int × SLC × SLC × SLC × Unit)) =>
 ze Tryz.prog 207 [(.agg #[(.int .u8 u12.1), (.slice u12.2.1.1 u12.2.1.2.1 u12.2.1.2.2), (.slice u12.2.2.1.1 u12.2.2.1.2.1 u12.2.2.1.2.2), (.slice u12.2.2.2.1.1 u12.2.2.2.1.2.1 u12.2.2.2.1.2.2)]), (.pointer x1)] (.many [(.one (.int .u32)), (.one (.int .i64))]) fun (u13 : Int × Int × Unit) =>
 za (u13.2.1 != (0 : Int)) (K (.tuple #[(.slice none 0 0), (.slice none 0 0), (.int .i64 u13.2.1)])) <|
 ldW .slc ((aD r11).add 1) fun (u14 : SLC) =>
 zd (0 <= (0 : Int) /\ (0 : Int) < ((u14.2.1 : Nat) : Int)) <|
 zh u14.1 fun (p15 : Addr) =>
 ldW (.int .u64) (p15.add (Int.toNat (0 : Int) * 1)) fun (u16 : Int) =>
 zi (.cells #[(.int .u64 u16)] 42) fun (r17 : Nat) =>
 zw Tryz.prog (Builtin.append_ #[129, 129] 129 #[(.slice y6.1.1 y6.1.2.1 y6.1.2.2), (.slice (some (aD r17)) 1 1)]) .slc fun (u18 : SLC) =>
 zi (.cells #[(.int .u32 u13.1)] 41) fun (r19 : Nat) =>
 zw Tryz.prog (Builtin.append_ #[54, 54] 54 #[(.slice y6.2.1.1 y6.2.1.2.1 y6.2.1.2.2), (.slice (some (aD r19)) 1 1)]) .slc fun (u20 : SLC) => I5 ((u18.1, u18.2.1, u18.2.2), (u20.1, u20.2.1, u20.2.2), (IntKind.wrap .i64 (y6.2.2.1 + (1 : Int))), ())) <|
 zi (.cells #[(.int .u8 (0 : Int)), (.slice none 0 0), (.slice none 0 0), (.slice none 0 0)] 215) fun (r21 : Nat) =>
 zq [[(((aD r1).add 1), (.slice u9.1 u9.2.1 u9.2.2))], [(((aD r1).add 1), (.slice u8.1 u8.2.1 u8.2.2))], [((aD r1).add 0, (.int .u8 u7.1)), ((aD r1).add 1, (.slice u7.2.1.1 u7.2.1.2.1 u7.2.1.2.2)), ((aD r1).add 2, (.slice u7.2.2.1.1 u7.2.2.1.2.1 u7.2.2.1.2.2)), ((aD r1).add 3, (.slice u7.2.2.2.1.1 u7.2.2.2.1.2.1 u7.2.2.2.1.2.2))]] <|
 ze Tryz.prog 206 [(.agg #[(.int .u8 u7.1), (.slice u7.2.1.1 u7.2.1.2.1 u7.2.1.2.2), (.slice u7.2.2.1.1 u7.2.2.1.2.1 u7.2.2.1.2.2), (.slice u7.2.2.2.1.1 u7.2.2.2.1.2.1 u7.2.2.2.1.2.2)]), (.int .i64 (IntKind.wrap .i64 (Int.tdiv (IntKind.wrap .i64 (y6.2.2.1 * ((u8.2.1 : Nat) : Int))) (IntKind.wrap .i64 (Int.tdiv (IntKind.wrap .i64 ((IntKind.wrap .i64 (((u4.2.1 : Nat) : Int) + u3)) - (1 : Int))) u3))))), (.int .i64 (IntKind.wrap .i64 (Int.tdiv (IntKind.wrap .i64 ((IntKind.wrap .i64 (y6.2.2.1 + (1 : Int))) * ((u9.2.1 : Nat) : Int))) (IntKind.wrap .i64 (Int.tdiv (IntKind.wrap .i64 ((IntKind.wrap .i64 (((u4.2.1 : Nat) : Int) + u3)) - (1 : Int))) u3)))))] (.one (.agg [(.int .u8), .slc, .slc, .slc])) fun (u22 : (Int × SLC × SLC × SLC × Unit)) =>
 zd ((#[(.int .u8 u22.1), (.slice u22.2.1.1 u22.2.1.2.1 u22.2.1.2.2), (.slice u22.2.2.1.1 u22.2.2.1.2.1 u22.2.2.1.2.2), (.slice u22.2.2.2.1.1 u22.2.2.2.1.2.1 u22.2.2.2.1.2.2)] : Array Value).size = 4) <|
 zt (aD r21) [(.int .u8 u22.1), (.slice u22.2.1.1 u22.2.1.2.1 u22.2.1.2.2), (.slice u22.2.2.1.1 u22.2.2.1.2.1 u22.2.2.1.2.2), (.slice u22.2.2.2.1.1 u22.2.2.2.1.2.1 u22.2.2.2.1.2.2)] <|
 zk [(.int .u8), .slc, .slc, .slc] (aD r21) fun (u23 : (Int × SLC × SLC × SLC × Unit)) =>
 ze Tryz.prog 207 [(.agg #[(.int .u8 u23.1), (.slice u23.2.1.1 u23.2.1.2.1 u23.2.1.2.2), (.slice u23.2.2.1.1 u23.2.2.1.2.1 u23.2.2.1.2.2), (.slice u23.2.2.2.1.1 u23.2.2.2.1.2.1 u23.2.2.2.1.2.2)]), (.pointer x1)] (.many [(.one (.int .u32)), (.one (.int .i64))]) fun (u24 : Int × Int × Unit) =>
 za (u24.2.1 != (0 : Int)) (K (.tuple #[(.slice none 0 0), (.slice none 0 0), (.int .i64 u24.2.1)])) <|
 ldW .slc ((aD r21).add 1) fun (u25 : SLC) =>
 zd (0 <= (0 : Int) /\ (0 : Int) < ((u25.2.1 : Nat) : Int)) <|
 zh u25.1 fun (p26 : Addr) =>
 ldW (.int .u64) (p26.add (Int.toNat (0 : Int) * 1)) fun (u27 : Int) =>
 zi (.cells #[(.int .u64 u27)] 42) fun (r28 : Nat) =>
 zw Tryz.prog (Builtin.append_ #[129, 129] 129 #[(.slice y6.1.1 y6.1.2.1 y6.1.2.2), (.slice (some (aD r28)) 1 1)]) .slc fun (u29 : SLC) =>
 zi (.cells #[(.int .u32 u24.1)] 41) fun (r30 : Nat) =>
 zw Tryz.prog (Builtin.append_ #[54, 54] 54 #[(.slice y6.2.1.1 y6.2.1.2.1 y6.2.1.2.2), (.slice (some (aD r30)) 1 1)]) .slc fun (u31 : SLC) => I5 ((u29.1, u29.2.1, u29.2.2), (u31.1, u31.2.1, u31.2.2), (IntKind.wrap .i64 (y6.2.2.1 + (1 : Int))), ())) <| K (.tuple #[(.slice y6.1.1 y6.1.2.1 y6.1.2.2), (.slice y6.2.1.1 y6.2.1.2.1 y6.2.1.2.2), (.int .i64 (0 : Int))])
theorem zlE (x0_0 : Int) (a0_1 : Option Addr) (n0_1 c0_1 : Nat) (a0_2 : Option Addr) (n0_2 c0_2 : Nat) (a0_3 : Option Addr) (n0_3 c0_3 : Nat) (x1 : Option Addr) {K : Value -> WP} {w : World} (h : S172 x0_0 a0_1 n0_1 c0_1 a0_2 n0_2 c0_2 a0_3 n0_3 c0_3 x1 K w) : Calls Tryz.prog 172 #[(.agg #[(.int .u8 x0_0), (.slice a0_1 n0_1 c0_1), (.slice a0_2 n0_2 c0_2), (.slice a0_3 n0_3 c0_3)]), (.pointer x1)] w (Ret K) := cE an172 false Tryz.func172 mixed (by kernel_rfl) (by kernel_rfl) h
def an173 : Ann := (.seq .nil (.seq .nil .nil))
def S173 (x0 : Option Addr) (K : Value -> WP) : WP :=
 zh x0 fun (p1 : Addr) =>
 ldW .slc (p1.add 3) fun (u2 : SLC) =>
 ze Tryz.prog 208 [(.slice u2.1 u2.2.1 u2.2.2)] (.one (.one .any)) fun (u3 : Value) => K u3
theorem zlF (x0 : Option Addr) {K : Value -> WP} {w : World} (h : S173 x0 K w) : Calls Tryz.prog 173 #[(.pointer x0)] w (Ret K) := cE an173 false Tryz.func173 mixed (by kernel_rfl) (by kernel_rfl) h
def an174 : Ann := (.seq .nil (.seq .nil (.seq (.seq .nil (.cond (.seq .nil .nil) .nil)) (.seq .nil (.seq .nil (.seq (.seq .nil (.cond (.seq .nil .nil) .nil)) (.seq .nil (.seq (.seq .nil (.cond (.seq .nil .nil) .nil)) (.seq .nil (.seq (.seq .nil (.seq .nil (.cond (.seq .nil .nil) .nil))) (.seq .nil .nil)))))))))))
def S174 (x0 : ByteArray) (K : Value -> WP) : WP :=
 zi (.cells #[(.int .u8 (0 : Int)), (.int .u64 (0 : Int)), (.string ByteArray.empty)] 127) fun (r1 : Nat) =>
 ze Tryz.prog 121 [(.int .i64 ((x0.size : Nat) : Int))] (.one (.one (.int .i64))) fun (u2 : Int) =>
 za (u2 == (0 : Int)) (zk [(.int .u8), (.int .u64), .str] (aD r1) fun (u3 : (Int × Int × ByteArray × Unit)) =>
 zd ((#[(.int .u8 u3.1), (.int .u64 u3.2.1), (.string u3.2.2.1)] : Array Value).size = 3) <|
 zt (aD r1) [(.int .u8 u3.1), (.int .u64 u3.2.1), (.string u3.2.2.1)] <|
 zk [(.int .u8), (.int .u64), .str] (aD r1) fun (u4 : (Int × Int × ByteArray × Unit)) => K (.tuple #[(.agg #[(.int .u8 u4.1), (.int .u64 u4.2.1), (.string u4.2.2.1)]), (.int .i64 (2 : Int))])) <|
 zw Tryz.prog (Go.convert 9 85 (.string x0)) .slc fun (u5 : SLC) =>
 zA <|
 zd (0 <= (IntKind.wrap .i64 (((u5.2.1 : Nat) : Int) - (4 : Int))) /\ (IntKind.wrap .i64 (((u5.2.1 : Nat) : Int) - (4 : Int))) <= ((u5.2.2 : Nat) : Int)) <|
 zd (0 <= (IntKind.wrap .i64 (((u5.2.1 : Nat) : Int) - (4 : Int))) /\ (IntKind.wrap .i64 (((u5.2.1 : Nat) : Int) - (4 : Int))) <= ((u5.2.1 : Nat) : Int)) <|
 ze Tryz.prog 165 [(.slice (zm u5.1 0 u5.2.2 1) (Int.toNat (IntKind.wrap .i64 (((u5.2.1 : Nat) : Int) - (4 : Int)))) u5.2.2)] (.one (.one (.int .u32))) fun (u6 : Int) =>
 ze Tryz.prog 107 [(.slice (zm u5.1 (Int.toNat (IntKind.wrap .i64 (((u5.2.1 : Nat) : Int) - (4 : Int)))) u5.2.2 1) (u5.2.1 - (Int.toNat (IntKind.wrap .i64 (((u5.2.1 : Nat) : Int) - (4 : Int))))) (u5.2.2 - (Int.toNat (IntKind.wrap .i64 (((u5.2.1 : Nat) : Int) - (4 : Int))))))] (.one (.one (.int .u64))) fun (u7 : Int) =>
 za ((IntKind.wrap .u64 u6) != u7) (zk [(.int .u8), (.int .u64), .str] (aD r1) fun (u8 : (Int × Int × ByteArray × Unit)) =>
 zd ((#[(.int .u8 u8.1), (.int .u64 u8.2.1), (.string u8.2.2.1)] : Array Value).size = 3) <|
 zt (aD r1) [(.int .u8 u8.1), (.int .u64 u8.2.1), (.string u8.2.2.1)] <|
 zk [(.int .u8), (.int .u64), .str] (aD r1) fun (u9 : (Int × Int × ByteArray × Unit)) => K (.tuple #[(.agg #[(.int .u8 u9.1), (.int .u64 u9.2.1), (.string u9.2.2.1)]), (.int .i64 (10 : Int))])) <|
 zd (0 <= (2 : Int) /\ (2 : Int) <= (4 : Int) /\ (4 : Int) <= ((u5.2.2 : Nat) : Int)) <|
 ze Tryz.prog 107 [(.slice (zm u5.1 (Int.toNat (2 : Int)) u5.2.2 1) ((Int.toNat (4 : Int)) - (Int.toNat (2 : Int))) (u5.2.2 - (Int.toNat (2 : Int))))] (.one (.one (.int .u64))) fun (u10 : Int) =>
 za (decide ((IntKind.wrap .i64 u10) > u2)) (zk [(.int .u8), (.int .u64), .str] (aD r1) fun (u11 : (Int × Int × ByteArray × Unit)) =>
 zd ((#[(.int .u8 u11.1), (.int .u64 u11.2.1), (.string u11.2.2.1)] : Array Value).size = 3) <|
 zt (aD r1) [(.int .u8 u11.1), (.int .u64 u11.2.1), (.string u11.2.2.1)] <|
 zk [(.int .u8), (.int .u64), .str] (aD r1) fun (u12 : (Int × Int × ByteArray × Unit)) => K (.tuple #[(.agg #[(.int .u8 u12.1), (.int .u64 u12.2.1), (.string u12.2.2.1)]), (.int .i64 (4 : Int))])) <|
 zA <|
 zd (0 <= (0 : Int) /\ (0 : Int) < ((u5.2.1 : Nat) : Int)) <|
 zh u5.1 fun (p13 : Addr) =>
 ldW (.int .u8) (p13.add (Int.toNat (0 : Int) * 1)) fun (u14 : Int) =>
 zd (0 <= (4 : Int) /\ (4 : Int) <= (12 : Int) /\ (12 : Int) <= ((u5.2.2 : Nat) : Int)) <|
 zd (0 <= (12 : Int) /\ (12 : Int) <= (IntKind.wrap .i64 ((12 : Int) + (IntKind.wrap .i64 u10))) /\ (IntKind.wrap .i64 ((12 : Int) + (IntKind.wrap .i64 u10))) <= ((x0.size : Nat) : Int)) <|
 ze Tryz.prog 107 [(.slice (zm u5.1 (Int.toNat (4 : Int)) u5.2.2 1) ((Int.toNat (12 : Int)) - (Int.toNat (4 : Int))) (u5.2.2 - (Int.toNat (4 : Int))))] (.one (.one (.int .u64))) fun (u15 : Int) =>
 zq [[((p13.add (Int.toNat (0 : Int) * 1)), (.int .u8 u14))]] <|
 zd ((#[(.int .u8 u14), (.int .u64 u15), (.string (ByteArray.extract x0 (Int.toNat (12 : Int)) (Int.toNat (IntKind.wrap .i64 ((12 : Int) + (IntKind.wrap .i64 u10))))))] : Array Value).size = 3) <|
 zt (aD r1) [(.int .u8 u14), (.int .u64 u15), (.string (ByteArray.extract x0 (Int.toNat (12 : Int)) (Int.toNat (IntKind.wrap .i64 ((12 : Int) + (IntKind.wrap .i64 u10))))))] <|
 zk [(.int .u8), (.int .u64), .str] (aD r1) fun (u16 : (Int × Int × ByteArray × Unit)) =>
 ze Tryz.prog 123 [(.int .i64 ((x0.size : Nat) : Int)), (.agg #[(.int .u8 u16.1), (.int .u64 u16.2.1), (.string u16.2.2.1)])] (.many [(.one .str), (.one (.int .i64))]) fun (u17 : ByteArray × Int × Unit) =>
 za (u17.2.1 != (0 : Int)) (zd ((#[(.int .u8 (0 : Int)), (.int .u64 (0 : Int)), (.string ByteArray.empty)] : Array Value).size = 3) <|
 zt (aD r1) [(.int .u8 (0 : Int)), (.int .u64 (0 : Int)), (.string ByteArray.empty)] <|
 zk [(.int .u8), (.int .u64), .str] (aD r1) fun (u18 : (Int × Int × ByteArray × Unit)) => K (.tuple #[(.agg #[(.int .u8 u18.1), (.int .u64 u18.2.1), (.string u18.2.2.1)]), (.int .i64 (4 : Int))])) <|
 za (!(u17.1.toList == x0.toList)) (zd ((#[(.int .u8 (0 : Int)), (.int .u64 (0 : Int)), (.string ByteArray.empty)] : Array Value).size = 3) <|
 zt (aD r1) [(.int .u8 (0 : Int)), (.int .u64 (0 : Int)), (.string ByteArray.empty)] <|
 zk [(.int .u8), (.int .u64), .str] (aD r1) fun (u19 : (Int × Int × ByteArray × Unit)) => K (.tuple #[(.agg #[(.int .u8 u19.1), (.int .u64 u19.2.1), (.string u19.2.2.1)]), (.int .i64 (4 : Int))])) <|
 zk [(.int .u8), (.int .u64), .str] (aD r1) fun (u20 : (Int × Int × ByteArray × Unit)) =>
 zd ((#[(.int .u8 u20.1), (.int .u64 u20.2.1), (.string u20.2.2.1)] : Array Value).size = 3) <|
 zt (aD r1) [(.int .u8 u20.1), (.int .u64 u20.2.1), (.string u20.2.2.1)] <|
 zk [(.int .u8), (.int .u64), .str] (aD r1) fun (u21 : (Int × Int × ByteArray × Unit)) => K (.tuple #[(.agg #[(.int .u8 u21.1), (.int .u64 u21.2.1), (.string u21.2.2.1)]), (.int .i64 (0 : Int))])
theorem zlG (x0 : ByteArray) {K : Value -> WP} {w : World} (h : S174 x0 K w) : Calls Tryz.prog 174 #[(.string x0)] w (Ret K) := cE an174 false Tryz.func174 mixed (by kernel_rfl) (by kernel_rfl) h
def an175 : Ann := (.seq .nil (.seq .nil .nil))
def S175 (a0 : Option Addr) (n0 c0 : Nat) (K : Value -> WP) : WP :=
 ze Tryz.prog 209 [(.slice a0 n0 c0)] (.one (.one .slc)) fun (u1 : SLC) =>
 zi (.cells #[(.slice u1.1 u1.2.1 u1.2.2)] 298) fun (r2 : Nat) => K (.pointer (some (aD r2)))
theorem zlH (a0 : Option Addr) (n0 c0 : Nat) {K : Value -> WP} {w : World} (h : S175 a0 n0 c0 K w) : Calls Tryz.prog 175 #[(.slice a0 n0 c0)] w (Ret K) := cE an175 false Tryz.func175 mixed (by kernel_rfl) (by kernel_rfl) h
def an176 : Ann := (.seq .nil (.seq (.block (.seq .nil (.cond (.seq .nil .nil) (.seq .nil (.cond (.seq .nil .nil) .nil))))) (.seq .nil (.seq .nil .nil))))
def S176 (x0 : Option Addr) (x1 : Int) (K : Value -> WP) : WP :=
 za (Option.isNone x0) (K (.tuple #[(.int .u64 (0 : Int)), (.int .i64 (1 : Int))])) <|
 za (decide (x1 < (1 : Int))) (K (.tuple #[(.int .u64 (0 : Int)), (.int .i64 (2 : Int))])) <|
 za (decide (x1 > (8 : Int))) (K (.tuple #[(.int .u64 (0 : Int)), (.int .i64 (2 : Int))])) <|
 ze Tryz.prog 210 [(.pointer x0), (.int .i64 x1)] (.many [(.one .slc), (.one (.int .i64))]) fun (u1 : SLC × Int × Unit) =>
 ze Tryz.prog 107 [(.slice u1.1.1 u1.1.2.1 u1.1.2.2)] (.one (.one (.int .u64))) fun (u2 : Int) => K (.tuple #[(.int .u64 u2), (.int .i64 u1.2.1)])
theorem zlI (x0 : Option Addr) (x1 : Int) {K : Value -> WP} {w : World} (h : S176 x0 x1 K w) : Calls Tryz.prog 176 #[(.pointer x0), (.int .i64 x1)] w (Ret K) := cE an176 false Tryz.func176 mixed (by kernel_rfl) (by kernel_rfl) h
def an177 : Ann := (.seq .nil (.seq (.block (.seq .nil (.cond (.seq .nil .nil) (.seq .nil (.cond (.seq .nil .nil) .nil))))) (.seq .nil (.seq .nil .nil))))
def S177 (x0 : Option Addr) (x1 : Int) (K : Value -> WP) : WP :=
 za (Option.isNone x0) (K (.tuple #[(.slice none 0 0), (.int .i64 (1 : Int))])) <|
 za (decide (x1 < (0 : Int))) (K (.tuple #[(.slice none 0 0), (.int .i64 (2 : Int))])) <|
 ze Tryz.prog 210 [(.pointer x0), (.int .i64 x1)] (.many [(.one .slc), (.one (.int .i64))]) fun (u1 : SLC × Int × Unit) =>
 ze Tryz.prog 209 [(.slice u1.1.1 u1.1.2.1 u1.1.2.2)] (.one (.one .slc)) fun (u2 : SLC) => K (.tuple #[(.slice u2.1 u2.2.1 u2.2.2), (.int .i64 u1.2.1)])
theorem zlJ (x0 : Option Addr) (x1 : Int) {K : Value -> WP} {w : World} (h : S177 x0 x1 K w) : Calls Tryz.prog 177 #[(.pointer x0), (.int .i64 x1)] w (Ret K) := cE an177 false Tryz.func177 mixed (by kernel_rfl) (by kernel_rfl) h
def an178 : Ann := (.seq .nil (.seq (.seq .nil (.cond (.seq .nil .nil) .nil)) (.seq .nil .nil)))
def S178 (x0 : Option Addr) (K : Value -> WP) : WP :=
 za (Option.isNone x0) (K (.int .i64 (0 : Int))) <|
 zh x0 fun (p1 : Addr) =>
 ldW .slc p1 fun (u2 : SLC) => K (.int .i64 ((u2.2.1 : Nat) : Int))
theorem zlK (x0 : Option Addr) {K : Value -> WP} {w : World} (h : S178 x0 K w) : Calls Tryz.prog 178 #[(.pointer x0)] w (Ret K) := cE an178 false Tryz.func178 mixed (by kernel_rfl) (by kernel_rfl) h
def an181 : Ann := (.seq .nil (.seq (.seq .nil (.cond .nil .nil)) (.seq .nil .nil)))
def S181 (a0 : Option Addr) (n0 c0 : Nat) (x1 : Int) (K : Value -> WP) : WP :=
 zi (.cells #[(.slice a0 n0 c0)] 191) fun (r1 : Nat) =>
 zi (.cells #[(.int .i64 x1)] 3) fun (r2 : Nat) =>
 ldW (.int .i64) (aD r2) fun (u3 : Int) =>
 za (decide (u3 < (1 : Int))) (zl) <| K (.func (.func 211) #[] #[(.pointer (some (aD r1))), (.pointer (some (aD r2)))])
theorem zlL (a0 : Option Addr) (n0 c0 : Nat) (x1 : Int) {K : Value -> WP} {w : World} (h : S181 a0 n0 c0 x1 K w) : Calls Tryz.prog 181 #[(.slice a0 n0 c0), (.int .i64 x1)] w (Ret K) := cE an181 false Tryz.func181 mixed (by kernel_rfl) (by kernel_rfl) h
def an195 : Ann := (.seq .nil (.seq (.seq .nil (.block (.loop [(8, .sh (.one (.int .i64)))] [0, 1, 7, 1000000] (.seq .nil (.seq (.cond .nil .nil) (.seq (.block (.seq .nil (.seq .nil (.cond (.seq .nil .nil) .nil)))) .nil)))))) (.seq .nil .nil)))
def S195 (a0 : Option Addr) (n0 c0 : Nat) (x1 : Value) (K : Value -> WP) : WP :=
 zD (Int × Unit) ((0 : Int), ()) fun (y2 : Int × Unit) (I1 : (Int × Unit) -> WP) =>
 za (decide (y2.1 < ((n0 : Nat) : Int))) (zd (0 <= y2.1 /\ y2.1 < ((n0 : Nat) : Int)) <|
 zh a0 fun (p3 : Addr) =>
 zk [.str, (.int .i64), .bool] (p3.add (Int.toNat y2.1 * 3)) fun (u4 : (ByteArray × Int × Bool × Unit)) =>
 yy Tryz.prog x1 [(.agg #[(.string u4.1), (.int .i64 u4.2.1), (.bool u4.2.2.1)])] (.one (.one .bool)) fun (u5 : Bool) =>
 za u5 (K (.int .i64 y2.1)) <| I1 ((IntKind.wrap .i64 (y2.1 + (1 : Int))), ())) <| K (.int .i64 (-1 : Int))
theorem zlM (a0 : Option Addr) (n0 c0 : Nat) (x1 : Value) {K : Value -> WP} {w : World} (h : S195 a0 n0 c0 x1 K w) : Calls Tryz.prog 195 #[(.slice a0 n0 c0), x1] w (Ret K) := cE an195 false Tryz.func195 mixed (by kernel_rfl) (by kernel_rfl) h
def an196 : Ann := (.seq .nil (.block (.loop [(3, .sh (.one (.int .i64)))] [0, 1, 1000000] (.seq (.seq .nil (.cond .nil .nil)) (.seq (.block (.seq .nil (.cond .nil .nil))) .nil)))))
def S196 (x0 : Value) (a1 : Addr) (K : Value -> WP) : WP :=
 ldW .slc a1 fun (u1 : SLC) =>
 zD (Int × Unit) ((IntKind.wrap .i64 (((u1.2.1 : Nat) : Int) - (1 : Int))), ()) fun (y3 : Int × Unit) (I2 : (Int × Unit) -> WP) =>
 za (decide (y3.1 >= (0 : Int))) (ldW .slc a1 fun (u4 : SLC) =>
 zd (0 <= y3.1 /\ y3.1 < ((u4.2.1 : Nat) : Int)) <|
 zh u4.1 fun (p5 : Addr) =>
 ldW (.int .u8) (p5.add (Int.toNat y3.1 * 1)) fun (u6 : Int) =>
 yy Tryz.prog x0 [(.int .i64 y3.1), (.int .u8 u6)] (.one (.one .bool)) fun (u7 : Bool) =>
 za (!u7) (K (.tuple #[])) <| I2 ((IntKind.wrap .i64 (y3.1 - (1 : Int))), ())) <| K (.tuple #[])
theorem zlN (x0 : Value) (a1 : Addr) {K : Value -> WP} {w : World} (h : S196 x0 a1 K w) : Calls Tryz.prog 196 #[x0, (.pointer (some a1))] w (Ret K) := cE an196 false Tryz.func196 mixed (by kernel_rfl) (by kernel_rfl) h
def an200 : Ann := (.seq .nil (.seq .nil .nil))
def S200 (x0 : Array Value) (a1 : Option Addr) (n1 c1 : Nat) (K : Value -> WP) : WP :=
 zi (.cells x0 287) fun (r1 : Nat) =>
 zc6 256 (aD r1) fun (u2 : Array Value) =>
 ze Tryz.prog 216 [(.agg u2), (.int .u32 (4294967295 : Int)), (.slice a1 n1 c1)] (.one (.one (.int .u32))) fun (u3 : Int) => K (.int .u32 (inot .u32 u3))
theorem zlO (x0 : Array Value) (a1 : Option Addr) (n1 c1 : Nat) {K : Value -> WP} {w : World} (h : S200 x0 a1 n1 c1 K w) : Calls Tryz.prog 200 #[(.agg x0), (.slice a1 n1 c1)] w (Ret K) := cE an200 false Tryz.func200 mixed (by kernel_rfl) (by kernel_rfl) h
def an201 : Ann := (.seq .nil (.seq (.seq .nil (.block (.loop [(3, .sh (.one (.int .i64)))] [0, 1000000] (.seq .nil (.seq (.cond .nil .nil) (.seq (.block (.seq .nil (.seq .nil (.seq (.seq .nil (.block (.loop [(2, .sh (.one (.int .u32))), (8, .sh (.one (.int .i64)))] [0, 1, 3, 1000000] (.seq .nil (.seq (.cond .nil .nil) (.seq (.block .nil) .nil)))))) .nil)))) .nil)))))) (.seq .nil .nil)))
def S201  (K : Value -> WP) : WP :=
 zi (.cells (zdG Tryz.prog 287) 287) fun (r1 : Nat) =>
 zD (Int × Unit) ((0 : Int), ()) fun (y3 : Int × Unit) (I2 : (Int × Unit) -> WP) =>
 za (decide (y3.1 < (256 : Int))) (zD (Int × Int × Unit) ((IntKind.wrap .u32 y3.1), (0 : Int), ()) fun (y5 : Int × Int × Unit) (I4 : (Int × Int × Unit) -> WP) =>
 za (decide (y5.2.1 < (8 : Int))) (I4 ((ixor .u32 (ishr .u32 y5.1 (1 : Int)) (IntKind.wrap .u32 ((2197175160 : Int) * (iand .u32 y5.1 (1 : Int))))), (IntKind.wrap .i64 (y5.2.1 + (1 : Int))), ())) <|
 zd (0 <= y3.1 /\ y3.1 < ((256 : Nat) : Int)) <|
 stW ((aD r1).add (Int.toNat y3.1 * 1)) (.int .u32 y5.1) <| I2 ((IntKind.wrap .i64 (y3.1 + (1 : Int))), ())) <|
 zc6 256 (aD r1) fun (u6 : Array Value) =>
 zd (u6.size = 256) <|
 zt (aD r1) u6.toList <|
 zc6 256 (aD r1) fun (u7 : Array Value) => K (.agg u7)
theorem zlP  {K : Value -> WP} {w : World} (h : S201  K w) : Calls Tryz.prog 201 #[] w (Ret K) := cE an201 false Tryz.func201 mixed (by kernel_rfl) (by kernel_rfl) h
def an202 : Ann := (.seq .nil (.seq .nil (.seq .nil (.seq .nil (.join [(5, .sh (.one .bool)), (6, .sh (.one (.int .i64))), (1000000, .ds)] [2] (.seq .nil (.block (.seq .nil (.cond (.seq .nil (.seq (.seq .nil (.block (.loop [(28, .sh (.one .slc))] [] (.seq .nil (.block (.seq .nil .nil)))))) .nil)) (.seq .nil (.cond (.seq .nil .nil) (.seq .nil (.cond .nil .nil)))))))) (.seq (.seq .nil (.block (.loop [(5, .sh (.one .bool)), (8, .sh (.one (.int .i64)))] [2, 6, 1000000] (.seq (.seq .nil (.cond .nil .nil)) (.seq (.block .nil) .nil))))) (.seq (.seq .nil (.cond (.seq .nil .nil) .nil)) (.seq .nil .nil))))))))
def S202 (x0_0 : Int) (a0_1 : Option Addr) (n0_1 c0_1 : Nat) (x0_2 : ByteArray) (K : Value -> WP) : WP :=
 zi (.cells #[(.int .u8 x0_0), (.slice a0_1 n0_1 c0_1), (.string x0_2)] 56) fun (r1 : Nat) =>
 zi (.cells #[(.int .u8 (0 : Int)), (.slice none 0 0), (.slice none 0 0), (.slice none 0 0)] 215) fun (r2 : Nat) =>
 ldW .str ((aD r1).add 2) fun (u3 : ByteArray) =>
 ze Tryz.prog 217 [(.string u3)] (.many [(.one .slc), (.one .bool)]) fun (u4 : SLC × Bool × Unit) =>
 ldW (.int .u8) (aD r1) fun (u5 : Int) =>
 ldW .slc ((aD r1).add 1) fun (u6 : SLC) =>
 zd ((#[(.int .u8 u5), (.slice u4.1.1 u4.1.2.1 u4.1.2.2), (.slice none 0 0), (.slice u6.1 u6.2.1 u6.2.2)] : Array Value).size = 4) <|
 zt (aD r2) [(.int .u8 u5), (.slice u4.1.1 u4.1.2.1 u4.1.2.2), (.slice none 0 0), (.slice u6.1 u6.2.1 u6.2.2)] <|
 xh (Bool × Int × List Deferred × Unit) (fun (J7 : (Bool × Int × List Deferred × Unit) -> WP) =>
 ldW (.int .u8) (aD r1) fun (u9 : Int) =>
 za (u9 == (4 : Int)) (stW ((aD r2).add 1) (.slice none 0 0) <|
 ze Tryz.prog 218 [(.slice u4.1.1 u4.1.2.1 u4.1.2.2), (.int .i64 (2 : Int))] (.one (.one .any)) fun (u10 : Value) =>
 ji Tryz.prog u10 (SLC × Unit) (fun (t11 : SLC × Unit) => [(.slice t11.1.1 t11.1.2.1 t11.1.2.2)]) (fun (t11 : SLC × Unit) (B12 : WP -> WP) (N13 : WP) (Q14 : Code -> WP) => B12 (zA <|
 ldW .slc ((aD r2).add 1) fun (u17 : SLC) =>
 zd (0 <= (0 : Int) /\ (0 : Int) < ((t11.1.2.1 : Nat) : Int)) <|
 zh t11.1.1 fun (p18 : Addr) =>
 ldW (.int .u64) (p18.add (Int.toNat (0 : Int) * 1)) fun (u19 : Int) =>
 zi (.cells #[(.int .u64 u19)] 42) fun (r20 : Nat) =>
 zq [[(((aD r2).add 1), (.slice u17.1 u17.2.1 u17.2.2))]] <|
 zw Tryz.prog (Builtin.append_ #[129, 129] 129 #[(.slice u17.1 u17.2.1 u17.2.2), (.slice (some (aD r20)) 1 1)]) .slc fun (u21 : SLC) =>
 stW ((aD r2).add 1) (.slice u21.1 u21.2.1 u21.2.2) <|
 zA <|
 ldW .slc ((aD r2).add 2) fun (u22 : SLC) =>
 zd (0 <= (IntKind.wrap .i64 (((t11.1.2.1 : Nat) : Int) - (1 : Int))) /\ (IntKind.wrap .i64 (((t11.1.2.1 : Nat) : Int) - (1 : Int))) < ((t11.1.2.1 : Nat) : Int)) <|
 zh t11.1.1 fun (p23 : Addr) =>
 ldW (.int .u64) (p23.add (Int.toNat (IntKind.wrap .i64 (((t11.1.2.1 : Nat) : Int) - (1 : Int))) * 1)) fun (u24 : Int) =>
 zi (.cells #[(.int .u64 u24)] 42) fun (r25 : Nat) =>
 zq [[(((aD r2).add 2), (.slice u22.1 u22.2.1 u22.2.2))]] <|
 zw Tryz.prog (Builtin.append_ #[129, 129] 129 #[(.slice u22.1 u22.2.1 u22.2.2), (.slice (some (aD r25)) 1 1)]) .slc fun (u26 : SLC) =>
 stW ((aD r2).add 2) (.slice u26.1 u26.2.1 u26.2.2) <| N13)) fun (r15 : Nat) (p16 : Option Code) =>
 jd (za u4.2.1 (za ((Int.tmod ((u4.1.2.1 : Nat) : Int) (2 : Int)) == (0 : Int)) (ldW .slc ((aD r1).add 1) fun (u27 : SLC) => J7 ((((u27.2.1 : Nat) : Int) == (0 : Int)), (1 : Int), (⟨.collected r15, #[]⟩ :: []), ())) <| J7 (false, (1 : Int), (⟨.collected r15, #[]⟩ :: []), ())) <| J7 (false, (1 : Int), (⟨.collected r15, #[]⟩ :: []), ())) (zM Tryz.prog (⟨.collected r15, #[]⟩ :: []) <|
 zk [(.int .u8), .slc, .slc, .slc] (aD r2) fun (u28 : (Int × SLC × SLC × SLC × Unit)) => K (.tuple #[(.agg #[(.int .u8 u28.1), (.slice u28.2.1.1 u28.2.1.2.1 u28.2.1.2.2), (.slice u28.2.2.1.1 u28.2.2.1.2.1 u28.2.2.1.2.2), (.slice u28.2.2.2.1.1 u28.2.2.2.1.2.1 u28.2.2.2.1.2.2)]), (.int .i64 (0 : Int))])) [] p16) <|
 za (u9 == (3 : Int)) (za u4.2.1 (ldW .slc ((aD r1).add 1) fun (u29 : SLC) => J7 ((((u4.1.2.1 : Nat) : Int) == ((u29.2.1 : Nat) : Int)), (2 : Int), [], ())) <| J7 (false, (2 : Int), [], ())) <|
 za (u9 == (5 : Int)) (za u4.2.1 (ldW .slc ((aD r1).add 1) fun (u30 : SLC) => J7 ((((u4.1.2.1 : Nat) : Int) == ((u30.2.1 : Nat) : Int)), (1 : Int), [], ())) <| J7 (false, (1 : Int), [], ())) <| J7 (false, (1 : Int), [], ())) fun (y8 : Bool × Int × List Deferred × Unit) =>
 zD (Bool × Int × Unit) (y8.1, (1 : Int), ()) fun (y32 : Bool × Int × Unit) (I31 : (Bool × Int × Unit) -> WP) =>
 ldW .slc ((aD r2).add 1) fun (u33 : SLC) =>
 za (decide (y32.2.1 < ((u33.2.1 : Nat) : Int))) (zA <|
 za y32.1 (ldW .slc ((aD r2).add 1) fun (u34 : SLC) =>
 zd (0 <= (IntKind.wrap .i64 (y32.2.1 - (1 : Int))) /\ (IntKind.wrap .i64 (y32.2.1 - (1 : Int))) < ((u34.2.1 : Nat) : Int)) <|
 zh u34.1 fun (p35 : Addr) =>
 ldW (.int .u64) (p35.add (Int.toNat (IntKind.wrap .i64 (y32.2.1 - (1 : Int))) * 1)) fun (u36 : Int) =>
 ldW .slc ((aD r2).add 1) fun (u37 : SLC) =>
 zd (0 <= y32.2.1 /\ y32.2.1 < ((u37.2.1 : Nat) : Int)) <|
 zh u37.1 fun (p38 : Addr) =>
 ldW (.int .u64) (p38.add (Int.toNat y32.2.1 * 1)) fun (u39 : Int) => I31 ((decide (u36 < u39)), (IntKind.wrap .i64 (y32.2.1 + (1 : Int))), ())) <| I31 (false, (IntKind.wrap .i64 (y32.2.1 + (1 : Int))), ())) <|
 za (!y32.1) (zd ((#[(.int .u8 (0 : Int)), (.slice none 0 0), (.slice none 0 0), (.slice none 0 0)] : Array Value).size = 4) <|
 zt (aD r2) [(.int .u8 (0 : Int)), (.slice none 0 0), (.slice none 0 0), (.slice none 0 0)] <|
 zM Tryz.prog y8.2.2.1 <|
 zk [(.int .u8), .slc, .slc, .slc] (aD r2) fun (u40 : (Int × SLC × SLC × SLC × Unit)) => K (.tuple #[(.agg #[(.int .u8 u40.1), (.slice u40.2.1.1 u40.2.1.2.1 u40.2.1.2.2), (.slice u40.2.2.1.1 u40.2.2.1.2.1 u40.2.2.1.2.2), (.slice u40.2.2.2.1.1 u40.2.2.2.1.2.1 u40.2.2.2.1.2.2)]), (.int .i64 (10 : Int))])) <|
 ldW .slc ((aD r2).add 1) fun (u41 : SLC) =>
 za (decide (((u41.2.1 : Nat) : Int) < y8.2.1)) (zd ((#[(.int .u8 (0 : Int)), (.slice none 0 0), (.slice none 0 0), (.slice none 0 0)] : Array Value).size = 4) <|
 zt (aD r2) [(.int .u8 (0 : Int)), (.slice none 0 0), (.slice none 0 0), (.slice none 0 0)] <|
 zM Tryz.prog y8.2.2.1 <|
 zk [(.int .u8), .slc, .slc, .slc] (aD r2) fun (u42 : (Int × SLC × SLC × SLC × Unit)) => K (.tuple #[(.agg #[(.int .u8 u42.1), (.slice u42.2.1.1 u42.2.1.2.1 u42.2.1.2.2), (.slice u42.2.2.1.1 u42.2.2.1.2.1 u42.2.2.1.2.2), (.slice u42.2.2.2.1.1 u42.2.2.2.1.2.1 u42.2.2.2.1.2.2)]), (.int .i64 (10 : Int))])) <|
 zk [(.int .u8), .slc, .slc, .slc] (aD r2) fun (u43 : (Int × SLC × SLC × SLC × Unit)) =>
 zd ((#[(.int .u8 u43.1), (.slice u43.2.1.1 u43.2.1.2.1 u43.2.1.2.2), (.slice u43.2.2.1.1 u43.2.2.1.2.1 u43.2.2.1.2.2), (.slice u43.2.2.2.1.1 u43.2.2.2.1.2.1 u43.2.2.2.1.2.2)] : Array Value).size = 4) <|
 zt (aD r2) [(.int .u8 u43.1), (.slice u43.2.1.1 u43.2.1.2.1 u43.2.1.2.2), (.slice u43.2.2.1.1 u43.2.2.1.2.1 u43.2.2.1.2.2), (.slice u43.2.2.2.1.1 u43.2.2.2.1.2.1 u43.2.2.2.1.2.2)] <|
 zM Tryz.prog y8.2.2.1 <|
 zk [(.int .u8), .slc, .slc, .slc] (aD r2) fun (u44 : (Int × SLC × SLC × SLC × Unit)) => K (.tuple #[(.agg #[(.int .u8 u44.1), (.slice u44.2.1.1 u44.2.1.2.1 u44.2.1.2.2), (.slice u44.2.2.1.1 u44.2.2.1.2.1 u44.2.2.1.2.2), (.slice u44.2.2.2.1.1 u44.2.2.2.1.2.1 u44.2.2.2.1.2.2)]), (.int .i64 (0 : Int))])
theorem zlQ (x0_0 : Int) (a0_1 : Option Addr) (n0_1 c0_1 : Nat) (x0_2 : ByteArray) {K : Value -> WP} {w : World} (h : S202 x0_0 a0_1 n0_1 c0_1 x0_2 K w) : Calls Tryz.prog 202 #[(.agg #[(.int .u8 x0_0), (.slice a0_1 n0_1 c0_1), (.string x0_2)])] w (Ret K) := cE an202 true Tryz.func202 mixed (by kernel_rfl) (by kernel_rfl) h
def an203 : Ann := (.seq .nil (.seq .nil .nil))
def S203 (x0_0 : Int) (a0_1 : Option Addr) (n0_1 c0_1 : Nat) (a0_2 : Option Addr) (n0_2 c0_2 : Nat) (a0_3 : Option Addr) (n0_3 c0_3 : Nat) (K : Value -> WP) : WP :=
 zi (.cells #[(.int .u8 x0_0), (.slice a0_1 n0_1 c0_1), (.slice a0_2 n0_2 c0_2), (.slice a0_3 n0_3 c0_3)] 215) fun (r1 : Nat) =>
 ldW (.int .u8) (aD r1) fun (u2 : Int) => K (.bool (u2 != (4 : Int)))
theorem zlR (x0_0 : Int) (a0_1 : Option Addr) (n0_1 c0_1 : Nat) (a0_2 : Option Addr) (n0_2 c0_2 : Nat) (a0_3 : Option Addr) (n0_3 c0_3 : Nat) {K : Value -> WP} {w : World} (h : S203 x0_0 a0_1 n0_1 c0_1 a0_2 n0_2 c0_2 a0_3 n0_3 c0_3 K w) : Calls Tryz.prog 203 #[(.agg #[(.int .u8 x0_0), (.slice a0_1 n0_1 c0_1), (.slice a0_2 n0_2 c0_2), (.slice a0_3 n0_3 c0_3)])] w (Ret K) := cE an203 false Tryz.func203 mixed (by kernel_rfl) (by kernel_rfl) h
def an205 : Ann := (.seq .nil (.seq (.seq .nil (.cond (.seq .nil .nil) .nil)) (.seq .nil .nil)))
def S205 (x0 : Option Addr) (x1 : Int) (K : Value -> WP) : WP :=
 za (x1 == (4 : Int)) (ze Tryz.prog 76 [(.pointer x0), (.int .i64 (0 : Int))] (.one (.one (.int .i64))) fun (u1 : Int) => K (.int .i64 (IntKind.wrap .i64 (Int.tdiv u1 (16 : Int))))) <|
 ze Tryz.prog 76 [(.pointer x0), (.int .i64 (0 : Int))] (.one (.one (.int .i64))) fun (u2 : Int) => K (.int .i64 (IntKind.wrap .i64 (Int.tdiv u2 (12 : Int))))
theorem zlS (x0 : Option Addr) (x1 : Int) {K : Value -> WP} {w : World} (h : S205 x0 x1 K w) : Calls Tryz.prog 205 #[(.pointer x0), (.int .u8 x1)] w (Ret K) := cE an205 false Tryz.func205 mixed (by kernel_rfl) (by kernel_rfl) h
def an206 : Ann := (.seq .nil (.seq .nil (.seq (.seq .nil (.cond .nil .nil)) (.seq .nil .nil))))
def S206 (x0_0 : Int) (a0_1 : Option Addr) (n0_1 c0_1 : Nat) (a0_2 : Option Addr) (n0_2 c0_2 : Nat) (a0_3 : Option Addr) (n0_3 c0_3 : Nat) (x1 : Int) (x2 : Int) (K : Value -> WP) : WP :=
 zi (.cells #[(.int .u8 x0_0), (.slice a0_1 n0_1 c0_1), (.slice a0_2 n0_2 c0_2), (.slice a0_3 n0_3 c0_3)] 215) fun (r1 : Nat) =>
 zi (.cells #[(.int .u8 (0 : Int)), (.slice none 0 0), (.slice none 0 0), (.slice none 0 0)] 215) fun (r2 : Nat) =>
 zA <|
 ldW (.int .u8) (aD r1) fun (u3 : Int) =>
 ldW .slc ((aD r1).add 1) fun (u4 : SLC) =>
 zd (0 <= x1 /\ x1 <= x2 /\ x2 <= ((u4.2.2 : Nat) : Int)) <|
 zi (.cells #[(.int .u8 (0 : Int)), (.slice none 0 0), (.slice none 0 0), (.slice none 0 0)] 215) fun (r5 : Nat) =>
 zq [[(((aD r1).add 1), (.slice u4.1 u4.2.1 u4.2.2))], [((aD r1), (.int .u8 u3))]] <|
 zd ((#[(.int .u8 u3), (.slice (zm u4.1 (Int.toNat x1) u4.2.2 1) ((Int.toNat x2) - (Int.toNat x1)) (u4.2.2 - (Int.toNat x1))), (.slice none 0 0), (.slice none 0 0)] : Array Value).size = 4) <|
 zt (aD r5) [(.int .u8 u3), (.slice (zm u4.1 (Int.toNat x1) u4.2.2 1) ((Int.toNat x2) - (Int.toNat x1)) (u4.2.2 - (Int.toNat x1))), (.slice none 0 0), (.slice none 0 0)] <|
 zk [(.int .u8), .slc, .slc, .slc] (aD r1) fun (u6 : (Int × SLC × SLC × SLC × Unit)) =>
 ze Tryz.prog 203 [(.agg #[(.int .u8 u6.1), (.slice u6.2.1.1 u6.2.1.2.1 u6.2.1.2.2), (.slice u6.2.2.1.1 u6.2.2.1.2.1 u6.2.2.1.2.2), (.slice u6.2.2.2.1.1 u6.2.2.2.1.2.1 u6.2.2.2.1.2.2)])] (.one (.one .bool)) fun (u7 : Bool) =>
 za u7 (ldW .slc ((aD r1).add 3) fun (u8 : SLC) =>
 zd (0 <= x1 /\ x1 <= x2 /\ x2 <= ((u8.2.2 : Nat) : Int)) <|
 stW ((aD r5).add 3) (.slice (zm u8.1 (Int.toNat x1) u8.2.2 1) ((Int.toNat x2) - (Int.toNat x1)) (u8.2.2 - (Int.toNat x1))) <|
 zk [(.int .u8), .slc, .slc, .slc] (aD r5) fun (u9 : (Int × SLC × SLC × SLC × Unit)) =>
 zd ((#[(.int .u8 u9.1), (.slice u9.2.1.1 u9.2.1.2.1 u9.2.1.2.2), (.slice u9.2.2.1.1 u9.2.2.1.2.1 u9.2.2.1.2.2), (.slice u9.2.2.2.1.1 u9.2.2.2.1.2.1 u9.2.2.2.1.2.2)] : Array Value).size = 4) <|
 zt (aD r2) [(.int .u8 u9.1), (.slice u9.2.1.1 u9.2.1.2.1 u9.2.1.2.2), (.slice u9.2.2.1.1 u9.2.2.1.2.1 u9.2.2.1.2.2), (.slice u9.2.2.2.1.1 u9.2.2.2.1.2.1 u9.2.2.2.1.2.2)] <|
 zk [(.int .u8), .slc, .slc, .slc] (aD r2) fun (u10 : (Int × SLC × SLC × SLC × Unit)) => K (.agg #[(.int .u8 u10.1), (.slice u10.2.1.1 u10.2.1.2.1 u10.2.1.2.2), (.slice u10.2.2.1.1 u10.2.2.1.2.1 u10.2.2.1.2.2), (.slice u10.2.2.2.1.1 u10.2.2.2.1.2.1 u10.2.2.2.1.2.2)])) <|
 ldW .slc ((aD r1).add 2) fun (u11 : SLC) =>
 zd (0 <= x1 /\ x1 <= x2 /\ x2 <= ((u11.2.2 : Nat) : Int)) <|
 stW ((aD r5).add 2) (.slice (zm u11.1 (Int.toNat x1) u11.2.2 1) ((Int.toNat x2) - (Int.toNat x1)) (u11.2.2 - (Int.toNat x1))) <|
 zk [(.int .u8), .slc, .slc, .slc] (aD r5) fun (u12 : (Int × SLC × SLC × SLC × Unit)) =>
 zd ((#[(.int .u8 u12.1), (.slice u12.2.1.1 u12.2.1.2.1 u12.2.1.2.2), (.slice u12.2.2.1.1 u12.2.2.1.2.1 u12.2.2.1.2.2), (.slice u12.2.2.2.1.1 u12.2.2.2.1.2.1 u12.2.2.2.1.2.2)] : Array Value).size = 4) <|
 zt (aD r2) [(.int .u8 u12.1), (.slice u12.2.1.1 u12.2.1.2.1 u12.2.1.2.2), (.slice u12.2.2.1.1 u12.2.2.1.2.1 u12.2.2.1.2.2), (.slice u12.2.2.2.1.1 u12.2.2.2.1.2.1 u12.2.2.2.1.2.2)] <|
 zk [(.int .u8), .slc, .slc, .slc] (aD r2) fun (u13 : (Int × SLC × SLC × SLC × Unit)) => K (.agg #[(.int .u8 u13.1), (.slice u13.2.1.1 u13.2.1.2.1 u13.2.1.2.2), (.slice u13.2.2.1.1 u13.2.2.1.2.1 u13.2.2.1.2.2), (.slice u13.2.2.2.1.1 u13.2.2.2.1.2.1 u13.2.2.2.1.2.2)])
theorem zlT (x0_0 : Int) (a0_1 : Option Addr) (n0_1 c0_1 : Nat) (a0_2 : Option Addr) (n0_2 c0_2 : Nat) (a0_3 : Option Addr) (n0_3 c0_3 : Nat) (x1 : Int) (x2 : Int) {K : Value -> WP} {w : World} (h : S206 x0_0 a0_1 n0_1 c0_1 a0_2 n0_2 c0_2 a0_3 n0_3 c0_3 x1 x2 K w) : Calls Tryz.prog 206 #[(.agg #[(.int .u8 x0_0), (.slice a0_1 n0_1 c0_1), (.slice a0_2 n0_2 c0_2), (.slice a0_3 n0_3 c0_3)]), (.int .i64 x1), (.int .i64 x2)] w (Ret K) := cE an206 false Tryz.func206 mixed (by kernel_rfl) (by kernel_rfl) h
def an207 : Ann := (.seq .nil (.seq .nil (.seq (.seq .nil (.block (.loop [(6, .sh (.one .slc)), (12, .sh (.one (.int .i64)))] [1, 2, 10, 11, 1000000] (.seq .nil (.seq (.cond .nil .nil) (.seq (.block (.seq .nil (.seq .nil (.seq .nil (.cond .nil .nil))))) .nil)))))) (.seq .nil .nil))))
def S207 (x0_0 : Int) (a0_1 : Option Addr) (n0_1 c0_1 : Nat) (a0_2 : Option Addr) (n0_2 c0_2 : Nat) (a0_3 : Option Addr) (n0_3 c0_3 : Nat) (x1 : Option Addr) (K : Value -> WP) : WP :=
 zi (.cells #[(.int .u8 x0_0), (.slice a0_1 n0_1 c0_1), (.slice a0_2 n0_2 c0_2), (.slice a0_3 n0_3 c0_3)] 215) fun (r1 : Nat) =>
 ldW .slc ((aD r1).add 1) fun (u2 : SLC) =>
 zD (SLC × Int × Unit) ((none, 0, 0), (0 : Int), ()) fun (y4 : SLC × Int × Unit) (I3 : (SLC × Int × Unit) -> WP) =>
 za (decide (y4.2.1 < ((u2.2.1 : Nat) : Int))) (zd (0 <= y4.2.1 /\ y4.2.1 < ((u2.2.1 : Nat) : Int)) <|
 zh u2.1 fun (p5 : Addr) =>
 ldW (.int .u64) (p5.add (Int.toNat y4.2.1 * 1)) fun (u6 : Int) =>
 ze Tryz.prog 42 [(.slice y4.1.1 y4.1.2.1 y4.1.2.2), (.int .u64 u6), (.int .i64 (8 : Int))] (.one (.one .slc)) fun (u7 : SLC) =>
 zk [(.int .u8), .slc, .slc, .slc] (aD r1) fun (u8 : (Int × SLC × SLC × SLC × Unit)) =>
 ze Tryz.prog 203 [(.agg #[(.int .u8 u8.1), (.slice u8.2.1.1 u8.2.1.2.1 u8.2.1.2.2), (.slice u8.2.2.1.1 u8.2.2.1.2.1 u8.2.2.1.2.2), (.slice u8.2.2.2.1.1 u8.2.2.2.1.2.1 u8.2.2.2.1.2.2)])] (.one (.one .bool)) fun (u9 : Bool) =>
 za (!u9) (ldW .slc ((aD r1).add 2) fun (u10 : SLC) =>
 zd (0 <= y4.2.1 /\ y4.2.1 < ((u10.2.1 : Nat) : Int)) <|
 zh u10.1 fun (p11 : Addr) =>
 ldW (.int .u64) (p11.add (Int.toNat y4.2.1 * 1)) fun (u12 : Int) =>
 ze Tryz.prog 42 [(.slice u7.1 u7.2.1 u7.2.2), (.int .u64 u12), (.int .i64 (8 : Int))] (.one (.one .slc)) fun (u13 : SLC) => I3 ((u13.1, u13.2.1, u13.2.2), (IntKind.wrap .i64 (y4.2.1 + (1 : Int))), ())) <| I3 ((u7.1, u7.2.1, u7.2.2), (IntKind.wrap .i64 (y4.2.1 + (1 : Int))), ())) <|
 ldW (.int .u8) (aD r1) fun (u14 : Int) =>
 ldW .slc ((aD r1).add 3) fun (u15 : SLC) =>
 zw Tryz.prog (Go.convert 85 9 (.slice y4.1.1 y4.1.2.1 y4.1.2.2)) .str fun (u16 : ByteArray) =>
 ze Tryz.prog 24 [(.pointer x1), (.agg #[(.int .u8 u14), (.slice u15.1 u15.2.1 u15.2.2), (.string u16)])] (.many [(.one (.int .u32)), (.one (.int .i64))]) fun (u17 : Int × Int × Unit) => K (.tuple #[(.int .u32 u17.1), (.int .i64 u17.2.1)])
theorem zlU (x0_0 : Int) (a0_1 : Option Addr) (n0_1 c0_1 : Nat) (a0_2 : Option Addr) (n0_2 c0_2 : Nat) (a0_3 : Option Addr) (n0_3 c0_3 : Nat) (x1 : Option Addr) {K : Value -> WP} {w : World} (h : S207 x0_0 a0_1 n0_1 c0_1 a0_2 n0_2 c0_2 a0_3 n0_3 c0_3 x1 K w) : Calls Tryz.prog 207 #[(.agg #[(.int .u8 x0_0), (.slice a0_1 n0_1 c0_1), (.slice a0_2 n0_2 c0_2), (.slice a0_3 n0_3 c0_3)]), (.pointer x1)] w (Ret K) := cE an207 false Tryz.func207 mixed (by kernel_rfl) (by kernel_rfl) h
def an208 : Ann := (.seq .nil (.seq .nil .nil))
def S208 (a0 : Option Addr) (n0 c0 : Nat) (K : Value -> WP) : WP :=
 zi (.cells #[(.slice a0 n0 c0)] 159) fun (r1 : Nat) => K (.func (.func 219) #[] #[(.pointer (some (aD r1)))])
theorem zlV (a0 : Option Addr) (n0 c0 : Nat) {K : Value -> WP} {w : World} (h : S208 a0 n0 c0 K w) : Calls Tryz.prog 208 #[(.slice a0 n0 c0)] w (Ret K) := cE an208 false Tryz.func208 mixed (by kernel_rfl) (by kernel_rfl) h
def an209 : Ann := (.seq .nil (.seq (.seq .nil (.cond (.seq .nil .nil) .nil)) (.seq .nil .nil)))
def S209 (a0 : Option Addr) (n0 c0 : Nat) (K : Value -> WP) : WP :=
 za (Option.isNone a0) (K (.slice none 0 0)) <|
 zi (.cells #[] 5) fun (r1 : Nat) =>
 zw Tryz.prog (Builtin.append_ #[85, 85] 85 #[(.slice (some (aD r1)) 0 0), (.slice a0 n0 c0)]) .slc fun (u2 : SLC) => K (.slice u2.1 u2.2.1 u2.2.2)
theorem zlW (a0 : Option Addr) (n0 c0 : Nat) {K : Value -> WP} {w : World} (h : S209 a0 n0 c0 K w) : Calls Tryz.prog 209 #[(.slice a0 n0 c0)] w (Ret K) := cE an209 false Tryz.func209 mixed (by kernel_rfl) (by kernel_rfl) h
def an210 : Ann := (.seq .nil (.seq (.seq .nil (.cond (.seq .nil .nil) .nil)) (.seq .nil (.seq .nil (.seq .nil .nil)))))
def S210 (x0 : Option Addr) (x1 : Int) (K : Value -> WP) : WP :=
 zh x0 fun (p1 : Addr) =>
 ldW .slc p1 fun (u2 : SLC) =>
 za (decide (((u2.2.1 : Nat) : Int) < x1)) (K (.tuple #[(.slice none 0 0), (.int .i64 (7 : Int))])) <|
 zh x0 fun (p3 : Addr) =>
 ldW .slc p3 fun (u4 : SLC) =>
 zd (0 <= x1 /\ x1 <= x1 /\ x1 <= ((u4.2.2 : Nat) : Int)) <|
 zh x0 fun (p5 : Addr) =>
 ldW .slc p5 fun (u6 : SLC) =>
 zd (0 <= x1 /\ x1 <= ((u6.2.1 : Nat) : Int)) <|
 zh x0 fun (p7 : Addr) =>
 stW p7 (.slice (zm u6.1 (Int.toNat x1) u6.2.2 1) (u6.2.1 - (Int.toNat x1)) (u6.2.2 - (Int.toNat x1))) <| K (.tuple #[(.slice (zm u4.1 0 (Int.toNat x1) 1) (Int.toNat x1) (Int.toNat x1)), (.int .i64 (0 : Int))])
theorem zlX (x0 : Option Addr) (x1 : Int) {K : Value -> WP} {w : World} (h : S210 x0 x1 K w) : Calls Tryz.prog 210 #[(.pointer x0), (.int .i64 x1)] w (Ret K) := cE an210 false Tryz.func210 mixed (by kernel_rfl) (by kernel_rfl) h
def an211 : Ann := (.seq .nil (.block (.loop [(4, .sh (.one (.int .i64)))] [0, 1, 2, 1000000] (.seq (.seq .nil (.cond .nil .nil)) (.seq (.block (.seq .nil (.seq .nil (.cond .nil .nil)))) .nil)))))
def S211 (x0 : Value) (a1 : Addr) (a2 : Addr) (K : Value -> WP) : WP :=
 zD (Int × Unit) ((0 : Int), ()) fun (y2 : Int × Unit) (I1 : (Int × Unit) -> WP) =>
 ldW .slc a1 fun (u3 : SLC) =>
 za (decide (y2.1 < ((u3.2.1 : Nat) : Int))) (zA <|
 ldW (.int .i64) a2 fun (u4 : Int) =>
 ldW .slc a1 fun (u5 : SLC) =>
 zd (0 <= y2.1 /\ y2.1 <= ((u5.2.1 : Nat) : Int)) <|
 ldW .slc a1 fun (u6 : SLC) =>
 zd (0 <= y2.1 /\ y2.1 <= (IntKind.wrap .i64 (y2.1 + (if (((u5.2.1 - (Int.toNat y2.1)) : Nat) : Int) < u4 then (((u5.2.1 - (Int.toNat y2.1)) : Nat) : Int) else u4))) /\ (IntKind.wrap .i64 (y2.1 + (if (((u5.2.1 - (Int.toNat y2.1)) : Nat) : Int) < u4 then (((u5.2.1 - (Int.toNat y2.1)) : Nat) : Int) else u4))) <= (IntKind.wrap .i64 (y2.1 + (if (((u5.2.1 - (Int.toNat y2.1)) : Nat) : Int) < u4 then (((u5.2.1 - (Int.toNat y2.1)) : Nat) : Int) else u4))) /\ (IntKind.wrap .i64 (y2.1 + (if (((u5.2.1 - (Int.toNat y2.1)) : Nat) : Int) < u4 then (((u5.2.1 - (Int.toNat y2.1)) : Nat) : Int) else u4))) <= ((u6.2.2 : Nat) : Int)) <|
 yy Tryz.prog x0 [(.slice (zm u6.1 (Int.toNat y2.1) (Int.toNat (IntKind.wrap .i64 (y2.1 + (if (((u5.2.1 - (Int.toNat y2.1)) : Nat) : Int) < u4 then (((u5.2.1 - (Int.toNat y2.1)) : Nat) : Int) else u4)))) 1) ((Int.toNat (IntKind.wrap .i64 (y2.1 + (if (((u5.2.1 - (Int.toNat y2.1)) : Nat) : Int) < u4 then (((u5.2.1 - (Int.toNat y2.1)) : Nat) : Int) else u4)))) - (Int.toNat y2.1)) ((Int.toNat (IntKind.wrap .i64 (y2.1 + (if (((u5.2.1 - (Int.toNat y2.1)) : Nat) : Int) < u4 then (((u5.2.1 - (Int.toNat y2.1)) : Nat) : Int) else u4)))) - (Int.toNat y2.1)))] (.one (.one .bool)) fun (u7 : Bool) =>
 za (!u7) (K (.tuple #[])) <|
 ldW (.int .i64) a2 fun (u8 : Int) => I1 ((IntKind.wrap .i64 (y2.1 + u8)), ())) <| K (.tuple #[])
theorem zlY (x0 : Value) (a1 : Addr) (a2 : Addr) {K : Value -> WP} {w : World} (h : S211 x0 a1 a2 K w) : Calls Tryz.prog 211 #[x0, (.pointer (some a1)), (.pointer (some a2))] w (Ret K) := cE an211 false Tryz.func211 mixed (by kernel_rfl) (by kernel_rfl) h
def an216 : Ann := (.seq .nil (.seq (.seq .nil (.block (.loop [(1, .sh (.one (.int .u32))), (11, .sh (.one (.int .i64)))] [3, 9, 10, 1000000] (.seq .nil (.seq (.cond .nil .nil) (.seq (.block (.seq .nil .nil)) .nil)))))) (.seq .nil .nil)))
def S216 (x0 : Array Value) (x1 : Int) (a2 : Option Addr) (n2 c2 : Nat) (K : Value -> WP) : WP :=
 zi (.cells x0 287) fun (r1 : Nat) =>
 zD (Int × Int × Unit) (x1, (0 : Int), ()) fun (y3 : Int × Int × Unit) (I2 : (Int × Int × Unit) -> WP) =>
 za (decide (y3.2.1 < ((n2 : Nat) : Int))) (zd (0 <= y3.2.1 /\ y3.2.1 < ((n2 : Nat) : Int)) <|
 zh a2 fun (p4 : Addr) =>
 ldW (.int .u8) (p4.add (Int.toNat y3.2.1 * 1)) fun (u5 : Int) =>
 zd (0 <= (ixor .u8 (IntKind.wrap .u8 y3.1) u5) /\ (ixor .u8 (IntKind.wrap .u8 y3.1) u5) < ((256 : Nat) : Int)) <|
 ldW (.int .u32) ((aD r1).add (Int.toNat (ixor .u8 (IntKind.wrap .u8 y3.1) u5) * 1)) fun (u6 : Int) => I2 ((ixor .u32 (ishr .u32 y3.1 (8 : Int)) u6), (IntKind.wrap .i64 (y3.2.1 + (1 : Int))), ())) <| K (.int .u32 y3.1)
theorem zlZ (x0 : Array Value) (x1 : Int) (a2 : Option Addr) (n2 c2 : Nat) {K : Value -> WP} {w : World} (h : S216 x0 x1 a2 n2 c2 K w) : Calls Tryz.prog 216 #[(.agg x0), (.int .u32 x1), (.slice a2 n2 c2)] w (Ret K) := cE an216 false Tryz.func216 mixed (by kernel_rfl) (by kernel_rfl) h
def an217 : Ann := (.seq .nil (.seq (.seq .nil (.block (.loop [(8, .sh (.one .slc))] [] (.seq .nil (.block .nil))))) (.seq .nil .nil)))
def S217 (x0 : ByteArray) (K : Value -> WP) : WP :=
 zi (.cells #[(.slice none 0 0)] 129) fun (r1 : Nat) =>
 zw Tryz.prog (Go.convert 9 85 (.string x0)) .slc fun (u2 : SLC) =>
 ze Tryz.prog 222 [(.slice u2.1 u2.2.1 u2.2.2), (.int .i64 (8 : Int))] (.one (.one .any)) fun (u3 : Value) =>
 ji Tryz.prog u3 (SLC × Unit) (fun (t4 : SLC × Unit) => [(.slice t4.1.1 t4.1.2.1 t4.1.2.2)]) (fun (t4 : SLC × Unit) (B5 : WP -> WP) (N6 : WP) (Q7 : Code -> WP) => B5 (zA <|
 ldW .slc (aD r1) fun (u10 : SLC) =>
 ze Tryz.prog 107 [(.slice t4.1.1 t4.1.2.1 t4.1.2.2)] (.one (.one (.int .u64))) fun (u11 : Int) =>
 zq [[((aD r1), (.slice u10.1 u10.2.1 u10.2.2))]] <|
 zi (.cells #[(.int .u64 u11)] 42) fun (r12 : Nat) =>
 zq [[((aD r1), (.slice u10.1 u10.2.1 u10.2.2))]] <|
 zw Tryz.prog (Builtin.append_ #[129, 129] 129 #[(.slice u10.1 u10.2.1 u10.2.2), (.slice (some (aD r12)) 1 1)]) .slc fun (u13 : SLC) =>
 stW (aD r1) (.slice u13.1 u13.2.1 u13.2.2) <| N6)) fun (r8 : Nat) (p9 : Option Code) =>
 jd (ldW .slc (aD r1) fun (u14 : SLC) =>
 stW (aD r1) (.slice u14.1 u14.2.1 u14.2.2) <|
 zM Tryz.prog (⟨.collected r8, #[]⟩ :: []) <|
 ldW .slc (aD r1) fun (u15 : SLC) => K (.tuple #[(.slice u15.1 u15.2.1 u15.2.2), (.bool ((Int.tmod ((x0.size : Nat) : Int) (8 : Int)) == (0 : Int)))])) (zM Tryz.prog (⟨.collected r8, #[]⟩ :: []) <|
 ldW .slc (aD r1) fun (u16 : SLC) => K (.tuple #[(.slice u16.1 u16.2.1 u16.2.2), (.bool false)])) [] p9
theorem zl0 (x0 : ByteArray) {K : Value -> WP} {w : World} (h : S217 x0 K w) : Calls Tryz.prog 217 #[(.string x0)] w (Ret K) := cE an217 true Tryz.func217 mixed (by kernel_rfl) (by kernel_rfl) h
def an218 : Ann := (.seq .nil (.seq (.seq .nil (.cond .nil .nil)) (.seq .nil .nil)))
def S218 (a0 : Option Addr) (n0 c0 : Nat) (x1 : Int) (K : Value -> WP) : WP :=
 zi (.cells #[(.slice a0 n0 c0)] 129) fun (r1 : Nat) =>
 zi (.cells #[(.int .i64 x1)] 3) fun (r2 : Nat) =>
 ldW (.int .i64) (aD r2) fun (u3 : Int) =>
 za (decide (u3 < (1 : Int))) (zl) <| K (.func (.func 223) #[] #[(.pointer (some (aD r1))), (.pointer (some (aD r2)))])
theorem zl1 (a0 : Option Addr) (n0 c0 : Nat) (x1 : Int) {K : Value -> WP} {w : World} (h : S218 a0 n0 c0 x1 K w) : Calls Tryz.prog 218 #[(.slice a0 n0 c0), (.int .i64 x1)] w (Ret K) := cE an218 false Tryz.func218 mixed (by kernel_rfl) (by kernel_rfl) h
def an219 : Ann := (.seq .nil (.block (.loop [(3, .sh (.one (.int .i64)))] [0, 1, 1000000] (.seq (.seq .nil (.cond .nil .nil)) (.seq (.block (.seq .nil (.cond .nil .nil))) .nil)))))
def S219 (x0 : Value) (a1 : Addr) (K : Value -> WP) : WP :=
 ldW .slc a1 fun (u1 : SLC) =>
 zD (Int × Unit) ((IntKind.wrap .i64 (((u1.2.1 : Nat) : Int) - (1 : Int))), ()) fun (y3 : Int × Unit) (I2 : (Int × Unit) -> WP) =>
 za (decide (y3.1 >= (0 : Int))) (ldW .slc a1 fun (u4 : SLC) =>
 zd (0 <= y3.1 /\ y3.1 < ((u4.2.1 : Nat) : Int)) <|
 zh u4.1 fun (p5 : Addr) =>
 zk [(.int .i64), .str] (p5.add (Int.toNat y3.1 * 2)) fun (u6 : (Int × ByteArray × Unit)) =>
 yy Tryz.prog x0 [(.int .i64 y3.1), (.agg #[(.int .i64 u6.1), (.string u6.2.1)])] (.one (.one .bool)) fun (u7 : Bool) =>
 za (!u7) (K (.tuple #[])) <| I2 ((IntKind.wrap .i64 (y3.1 - (1 : Int))), ())) <| K (.tuple #[])
theorem zl2 (x0 : Value) (a1 : Addr) {K : Value -> WP} {w : World} (h : S219 x0 a1 K w) : Calls Tryz.prog 219 #[x0, (.pointer (some a1))] w (Ret K) := cE an219 false Tryz.func219 mixed (by kernel_rfl) (by kernel_rfl) h
def an222 : Ann := (.seq .nil (.seq (.seq .nil (.cond .nil .nil)) (.seq .nil .nil)))
def S222 (a0 : Option Addr) (n0 c0 : Nat) (x1 : Int) (K : Value -> WP) : WP :=
 zi (.cells #[(.slice a0 n0 c0)] 85) fun (r1 : Nat) =>
 zi (.cells #[(.int .i64 x1)] 3) fun (r2 : Nat) =>
 ldW (.int .i64) (aD r2) fun (u3 : Int) =>
 za (decide (u3 < (1 : Int))) (zl) <| K (.func (.func 224) #[] #[(.pointer (some (aD r1))), (.pointer (some (aD r2)))])
theorem zl3 (a0 : Option Addr) (n0 c0 : Nat) (x1 : Int) {K : Value -> WP} {w : World} (h : S222 a0 n0 c0 x1 K w) : Calls Tryz.prog 222 #[(.slice a0 n0 c0), (.int .i64 x1)] w (Ret K) := cE an222 false Tryz.func222 mixed (by kernel_rfl) (by kernel_rfl) h
def an223 : Ann := (.seq .nil (.block (.loop [(4, .sh (.one (.int .i64)))] [0, 1, 2, 1000000] (.seq (.seq .nil (.cond .nil .nil)) (.seq (.block (.seq .nil (.seq .nil (.cond .nil .nil)))) .nil)))))
def S223 (x0 : Value) (a1 : Addr) (a2 : Addr) (K : Value -> WP) : WP :=
 zD (Int × Unit) ((0 : Int), ()) fun (y2 : Int × Unit) (I1 : (Int × Unit) -> WP) =>
 ldW .slc a1 fun (u3 : SLC) =>
 za (decide (y2.1 < ((u3.2.1 : Nat) : Int))) (zA <|
 ldW (.int .i64) a2 fun (u4 : Int) =>
 ldW .slc a1 fun (u5 : SLC) =>
 zd (0 <= y2.1 /\ y2.1 <= ((u5.2.1 : Nat) : Int)) <|
 ldW .slc a1 fun (u6 : SLC) =>
 zd (0 <= y2.1 /\ y2.1 <= (IntKind.wrap .i64 (y2.1 + (if (((u5.2.1 - (Int.toNat y2.1)) : Nat) : Int) < u4 then (((u5.2.1 - (Int.toNat y2.1)) : Nat) : Int) else u4))) /\ (IntKind.wrap .i64 (y2.1 + (if (((u5.2.1 - (Int.toNat y2.1)) : Nat) : Int) < u4 then (((u5.2.1 - (Int.toNat y2.1)) : Nat) : Int) else u4))) <= (IntKind.wrap .i64 (y2.1 + (if (((u5.2.1 - (Int.toNat y2.1)) : Nat) : Int) < u4 then (((u5.2.1 - (Int.toNat y2.1)) : Nat) : Int) else u4))) /\ (IntKind.wrap .i64 (y2.1 + (if (((u5.2.1 - (Int.toNat y2.1)) : Nat) : Int) < u4 then (((u5.2.1 - (Int.toNat y2.1)) : Nat) : Int) else u4))) <= ((u6.2.2 : Nat) : Int)) <|
 yy Tryz.prog x0 [(.slice (zm u6.1 (Int.toNat y2.1) (Int.toNat (IntKind.wrap .i64 (y2.1 + (if (((u5.2.1 - (Int.toNat y2.1)) : Nat) : Int) < u4 then (((u5.2.1 - (Int.toNat y2.1)) : Nat) : Int) else u4)))) 1) ((Int.toNat (IntKind.wrap .i64 (y2.1 + (if (((u5.2.1 - (Int.toNat y2.1)) : Nat) : Int) < u4 then (((u5.2.1 - (Int.toNat y2.1)) : Nat) : Int) else u4)))) - (Int.toNat y2.1)) ((Int.toNat (IntKind.wrap .i64 (y2.1 + (if (((u5.2.1 - (Int.toNat y2.1)) : Nat) : Int) < u4 then (((u5.2.1 - (Int.toNat y2.1)) : Nat) : Int) else u4)))) - (Int.toNat y2.1)))] (.one (.one .bool)) fun (u7 : Bool) =>
 za (!u7) (K (.tuple #[])) <|
 ldW (.int .i64) a2 fun (u8 : Int) => I1 ((IntKind.wrap .i64 (y2.1 + u8)), ())) <| K (.tuple #[])
theorem zl4 (x0 : Value) (a1 : Addr) (a2 : Addr) {K : Value -> WP} {w : World} (h : S223 x0 a1 a2 K w) : Calls Tryz.prog 223 #[x0, (.pointer (some a1)), (.pointer (some a2))] w (Ret K) := cE an223 false Tryz.func223 mixed (by kernel_rfl) (by kernel_rfl) h
def an224 : Ann := (.seq .nil (.block (.loop [(4, .sh (.one (.int .i64)))] [0, 1, 2, 1000000] (.seq (.seq .nil (.cond .nil .nil)) (.seq (.block (.seq .nil (.seq .nil (.cond .nil .nil)))) .nil)))))
def S224 (x0 : Value) (a1 : Addr) (a2 : Addr) (K : Value -> WP) : WP :=
 zD (Int × Unit) ((0 : Int), ()) fun (y2 : Int × Unit) (I1 : (Int × Unit) -> WP) =>
 ldW .slc a1 fun (u3 : SLC) =>
 za (decide (y2.1 < ((u3.2.1 : Nat) : Int))) (zA <|
 ldW (.int .i64) a2 fun (u4 : Int) =>
 ldW .slc a1 fun (u5 : SLC) =>
 zd (0 <= y2.1 /\ y2.1 <= ((u5.2.1 : Nat) : Int)) <|
 ldW .slc a1 fun (u6 : SLC) =>
 zd (0 <= y2.1 /\ y2.1 <= (IntKind.wrap .i64 (y2.1 + (if (((u5.2.1 - (Int.toNat y2.1)) : Nat) : Int) < u4 then (((u5.2.1 - (Int.toNat y2.1)) : Nat) : Int) else u4))) /\ (IntKind.wrap .i64 (y2.1 + (if (((u5.2.1 - (Int.toNat y2.1)) : Nat) : Int) < u4 then (((u5.2.1 - (Int.toNat y2.1)) : Nat) : Int) else u4))) <= (IntKind.wrap .i64 (y2.1 + (if (((u5.2.1 - (Int.toNat y2.1)) : Nat) : Int) < u4 then (((u5.2.1 - (Int.toNat y2.1)) : Nat) : Int) else u4))) /\ (IntKind.wrap .i64 (y2.1 + (if (((u5.2.1 - (Int.toNat y2.1)) : Nat) : Int) < u4 then (((u5.2.1 - (Int.toNat y2.1)) : Nat) : Int) else u4))) <= ((u6.2.2 : Nat) : Int)) <|
 yy Tryz.prog x0 [(.slice (zm u6.1 (Int.toNat y2.1) (Int.toNat (IntKind.wrap .i64 (y2.1 + (if (((u5.2.1 - (Int.toNat y2.1)) : Nat) : Int) < u4 then (((u5.2.1 - (Int.toNat y2.1)) : Nat) : Int) else u4)))) 1) ((Int.toNat (IntKind.wrap .i64 (y2.1 + (if (((u5.2.1 - (Int.toNat y2.1)) : Nat) : Int) < u4 then (((u5.2.1 - (Int.toNat y2.1)) : Nat) : Int) else u4)))) - (Int.toNat y2.1)) ((Int.toNat (IntKind.wrap .i64 (y2.1 + (if (((u5.2.1 - (Int.toNat y2.1)) : Nat) : Int) < u4 then (((u5.2.1 - (Int.toNat y2.1)) : Nat) : Int) else u4)))) - (Int.toNat y2.1)))] (.one (.one .bool)) fun (u7 : Bool) =>
 za (!u7) (K (.tuple #[])) <|
 ldW (.int .i64) a2 fun (u8 : Int) => I1 ((IntKind.wrap .i64 (y2.1 + u8)), ())) <| K (.tuple #[])
theorem zl5 (x0 : Value) (a1 : Addr) (a2 : Addr) {K : Value -> WP} {w : World} (h : S224 x0 a1 a2 K w) : Calls Tryz.prog 224 #[x0, (.pointer (some a1)), (.pointer (some a2))] w (Ret K) := cE an224 false Tryz.func224 mixed (by kernel_rfl) (by kernel_rfl) h
end V
/- Contracts of the statements' own helpers, and of slices.Clone. -/
namespace V
open Go Go.Proofs
theorem qq : Elem Tryz.prog 85 5 (.int .u8 0) 1 := by
 refine ⟨by kernel_rfl, by kernel_rfl, rfl⟩
def Bytes (w : World) (bs : List UInt8) (v : Value) (w' : World) : Prop := ∃ x : SLC, v = .slice x.1 x.2.1 x.2.2 /\ Own 5 w' w.heap.size x.1 x.2.1 x.2.2 (bV bs) /\ Ext w w'
theorem ze8 {w w' : World} {bs : List UInt8} {A : Option Addr} {n c : Nat} (h : Own 5 w' w.heap.size A n c (bV bs)) (he : Ext w w') : Bytes w bs (.slice A n c) w' := ⟨(A, n, c), rfl, h, he⟩
theorem zoS {w : World} {A : Option Addr} {n c : Nat} {bs : List UInt8} {K : SLC -> WP} (h : Sl w A n (bV bs)) (hn : n <= 140737488355328)
  (hK : ∀ A' c' w', Own 5 w' w.heap.size A' n c' (bV bs) -> Ext w w' -> K (A', n, c') w') :
  (zi (.cells #[] 5) fun r => zw Tryz.prog (Builtin.append_ #[85, 85] 85 #[.slice (some (aD r)) 0 0, .slice A n c]) .slc K) w := by
 apply yz
 have ho : Own 5 (w.alloc (.cells #[] 5)) w.heap.size (some ⟨w.heap.size, 0, none⟩) 0 0 [] := Own.lit (cs := #[]) (Nat.le_refl _) (by simp)
 have he : Ext w (w.alloc (.cells #[] 5)) := (Ext.refl w).alloc _
 refine uO (c := 0) (n := 0) (m := n) qq ho he.size (h.ext he) (zat bs) (by omega) (by omega) ?_
 intro A' c' w' ho' hg _
 rw [List.nil_append, Nat.zero_add] at ho'
 rw [Nat.zero_add]
 exact hK A' c' w' ho' (he.grown hg.grown (ho.row'))
theorem zcP {w : World} {A : Option Addr} {n c : Nat} {bs : List UInt8} (h : Sl w A n (bV bs)) (hn : n <= 140737488355328) : Calls Tryz.prog 209 #[.slice A n c] w (Ret (Bytes w bs)) := by
 apply zlW
 unfold S209
 refine zg (fun hA => ?_) (fun hA => ?_)
 ·have hA : A = none := by simpa using hA
  subst hA
  have hn0 : n = 0 := by
   rcases Nat.eq_zero_or_pos n with h0 | h0
   ·exact h0
   ·obtain ⟨a, h1, _⟩ := h.2.2 h0; cases h1
  have hb := h.blen
  obtain rfl : bs = [] := List.eq_nil_of_length_eq_zero (by omega)
  exact ze8 (Own.nil _ _ _) (Ext.refl w)
 ·exact zoS h hn fun A' c' w' ho he => ze8 ho he
end V
/- Contracts of the package schema and of the document's answer (17). -/
namespace V
open Go Go.Proofs
abbrev Col := ByteArray × Int × Bool
def xM : Enc Col where
 k := 3
 f c := [.string c.1, .int .i64 c.2.1, .bool c.2.2]
 len _ := rfl
 one _ := by
  intro v hv
  simp only [List.mem_cons, List.not_mem_nil, or_false] at hv
  rcases hv with rfl | rfl | rfl <;> rfl
 pos := by omega
def letter (c : Nat) : Bool := (97 <= c && c <= 122) || (65 <= c && c <= 90) || c == 95
def digit (c : Nat) : Bool := 48 <= c && c <= 57
def qW (i c : Nat) : Bool := letter c || (decide (0 < i) && digit c)
theorem zaW {i c : Nat} : qW i c = true ↔ (97 <= c /\ c <= 122) \/ (65 <= c /\ c <= 90) \/ c = 95 \/ (0 < i /\ 48 <= c /\ c <= 57) := by
 simp only [qW, letter, digit, Bool.or_eq_true, Bool.and_eq_true, decide_eq_true_eq, beq_iff_eq]
 omega
def zax (s : List UInt8) : Bool := decide (1 <= s.length /\ s.length <= 32 /\ ∀ i, i < s.length -> qW i (s.getD i 0).toNat = true)
def yT (s : List UInt8) : Int := if zax s then 0 else 170
theorem zhq {s : List UInt8} (h : s.length < 1) : yT s = 170 := by
 unfold yT zax
 rw [decide_eq_false (by omega)]
 rfl
theorem ziL {s : List UInt8} (h : 32 < s.length) : yT s = 170 := by
 unfold yT zax
 rw [decide_eq_false (by omega)]
 rfl
theorem zjR {s : List UInt8} {i : Nat} (hi : i < s.length) (h : qW i (s.getD i 0).toNat = false) : yT s = 170 := by
 unfold yT zax
 rw [decide_eq_false (fun hh => by rw [hh.2.2 i hi] at h; cases h)]
 rfl
theorem ziM {s : List UInt8} (h1 : 1 <= s.length) (h2 : s.length <= 32) (h : ∀ i, i < s.length -> qW i (s.getD i 0).toNat = true) : yT s = 0 := by
 unfold yT zax
 rw [decide_eq_true ⟨h1, h2, h⟩]
 rfl
theorem zaX (w : World) (s : ByteArray) : Calls Tryz.prog 110 #[.string s] w (Ret fun v w' => v = .int .i64 (yT (B s)) /\ Ext w w') := by
 apply zk1
 unfold S110
 have hsz := yg s
 refine zg (fun h => ?_) (fun h1 => ?_)
 ·exact ⟨by rw [zhq (by have := of_decide_eq_true h; omega)], Ext.refl w⟩
 refine zg (fun h => ?_) (fun h2 => ?_)
 ·exact ⟨by rw [ziL (by have := of_decide_eq_true h; omega)], Ext.refl w⟩
 have h1 := of_decide_eq_false h1
 have h2 := of_decide_eq_false h2
 apply yz
 refine ⟨fun _ w' => ∃ pos, w'.heap[w.heap.size]? = some (.stringIter s pos) /\ pos <= s.size /\ Ext w w' /\ ∀ i, i < pos -> qW i ((B s).getD i 0).toNat = true,
  fun _ w' => match w'.heap[w.heap.size]? with | some (.stringIter s pos) => s.size - pos | _ => 0, ⟨0, by show (w.heap.push _)[_]? = _; simp, by omega, (Ext.refl w).alloc _, fun i hi => by omega⟩, ?_⟩
 rintro _ w' ⟨pos, hb, hp, he, hok⟩
 have hlt := (Array.getElem?_eq_some_iff.1 hb).1
 refine ⟨s, pos, hb, fun hps => ?_, fun hps => ?_⟩
 ·have hgo : qW pos ((B s).getD pos 0).toNat = true -> ((B s).getD pos 0).toNat < 128 -> (fun (_ : Unit) w'' => (∃ pos, w''.heap[w.heap.size]? = some (.stringIter s pos) /\ pos <= s.size /\ Ext w w'' /\ ∀ i, i < pos -> qW i ((B s).getD i 0).toNat = true) /\
      (match w''.heap[w.heap.size]? with | some (.stringIter s pos) => s.size - pos | _ => 0) < (match w'.heap[w.heap.size]? with | some (.stringIter s pos) => s.size - pos | _ => 0)) () (yr w' w.heap.size (.stringIter s (pos + (Utf8.decode s pos).2))) := by
   intro hc hlo
   have hd := decode_ascii hps hlo
   rw [hd]
   have hs := xF (w := w') (l := w.heap.size) (o := .stringIter s (pos + 1)) hlt
   refine ⟨⟨pos + 1, hs, by omega, he.yr (Nat.le_refl _) _, fun i hi => ?_⟩, ?_⟩
   ·by_cases hip : i = pos
    ·subst hip; exact hc
    ·exact hok i (by omega)
   ·rw [hs, hb]
    simp only
    omega
  have hw2 : Ext w (yr w' w.heap.size (.stringIter s (pos + (Utf8.decode s pos).2))) := he.yr (Nat.le_refl _) _
  have hbyte : ((B s).getD pos 0).toNat < 128 /\ (Utf8.decode s pos).1 = ((B s).getD pos 0).toNat \/ ¬ ((B s).getD pos 0).toNat < 128 /\ 128 <= (Utf8.decode s pos).1 := by
   by_cases hlo : ((B s).getD pos 0).toNat < 128
   ·exact .inl ⟨hlo, by rw [decode_ascii hps hlo]⟩
   ·exact .inr ⟨hlo, zgd hps hlo⟩
  have hbad : qW pos (Utf8.decode s pos).1 = false -> yT (B s) = 170 := by
   intro hc
   refine zjR (i := pos) (by omega) ?_
   rcases hbyte with ⟨h1, h2⟩ | ⟨h1, h2⟩
   ·rw [<- h2]; exact hc
   ·rw [Bool.eq_false_iff]
    intro hh
    rw [zaW] at hh
    omega
  have hgood : qW pos (Utf8.decode s pos).1 = true -> (fun (_ : Unit) w'' => (∃ pos, w''.heap[w.heap.size]? = some (.stringIter s pos) /\ pos <= s.size /\ Ext w w'' /\ ∀ i, i < pos -> qW i ((B s).getD i 0).toNat = true) /\
    (match w''.heap[w.heap.size]? with | some (.stringIter s pos) => s.size - pos | _ => 0) < (match w'.heap[w.heap.size]? with | some (.stringIter s pos) => s.size - pos | _ => 0)) () (yr w' w.heap.size (.stringIter s (pos + (Utf8.decode s pos).2))) := by
   intro hc
   rcases hbyte with ⟨h1, h2⟩ | ⟨h1, h2⟩
   ·exact hgo (by rw [<- h2]; exact hc) h1
   ·rw [zaW] at hc
    omega
  clear hgo hbyte
  generalize yr w' w.heap.size (.stringIter s (pos + (Utf8.decode s pos).2)) = w2 at *
  generalize (Utf8.decode s pos).1 = c at *
  refine zf rfl ?_
  refine yB (fun _ w' => qW pos c = false /\ w' = w2) ?_ (fun J6 h6 => ?_)
  ·rintro _ w3 ⟨hc, rfl⟩
   exact ⟨by rw [hbad hc], hw2⟩
  refine yB (fun (x : Bool × Unit) w' => (x.1 = true ↔ (97 <= c /\ c <= 122) \/ (65 <= c /\ c <= 90) \/ c = 95) /\ w' = w2) ?_ (fun J8 h8 => ?_)
  ·rintro ⟨b, _⟩ w3 ⟨hb', rfl⟩
   simp only at hb'
   have ok : qW pos c = true ↔ b = true \/ (0 < pos /\ 48 <= c /\ c <= 57) := by rw [zaW, hb']; omega
   refine zg (fun h => hgood (ok.2 (.inl h))) (fun hl => ?_)
   have hb2 : ¬ b = true := by simp [show b = false from hl]
   have no : ¬ (0 < pos /\ 48 <= c /\ c <= 57) -> J6 () w3 := fun h => h6 _ _ ⟨by rw [Bool.eq_false_iff, ne_eq, ok]; rintro (h1 | h1); exact hb2 h1; exact h h1, rfl⟩
   refine zg (fun h1 => ?_) (fun h1 => no (by have := of_decide_eq_false h1; omega))
   refine zg (fun h2 => ?_) (fun h2 => no (by have := of_decide_eq_false h2; omega))
   refine zg (fun h3 => ?_) (fun h3 => no (by have := of_decide_eq_false h3; omega))
   have h1 := of_decide_eq_true h1
   have h2 := of_decide_eq_true h2
   have h3 := of_decide_eq_true h3
   exact hgood (ok.2 (.inr ⟨by omega, by omega, by omega⟩))
  ·have hl : ∀ b : Bool, (b = true ↔ (97 <= c /\ c <= 122) \/ (65 <= c /\ c <= 90) \/ c = 95) -> J8 (b, ()) w2 := fun b hb => h8 _ _ ⟨hb, rfl⟩
   refine zg (fun ha => ?_) (fun ha => ?_)
   ·have ha := of_decide_eq_true ha
    refine zg (fun hb => hl _ ?_) (fun hb => ?_)
    ·rw [decide_eq_true_eq]; have hb := of_decide_eq_true hb; omega
    ·have hb := of_decide_eq_false hb
     refine zg (fun h3 => ?_) (fun h3 => ?_)
     ·have h3 := of_decide_eq_true h3
      refine zg (fun h4 => hl _ ?_) (fun h4 => hl _ ?_)
      ·rw [decide_eq_true_eq]; have h4 := of_decide_eq_true h4; omega
      ·rw [beq_iff_eq]; have h4 := of_decide_eq_false h4; omega
     ·exact hl _ (by rw [beq_iff_eq]; have h3 := of_decide_eq_false h3; omega)
   ·have ha := of_decide_eq_false ha
    refine zg (fun h3 => ?_) (fun h3 => ?_)
    ·have h3 := of_decide_eq_true h3
     refine zg (fun h4 => hl _ ?_) (fun h4 => hl _ ?_)
     ·rw [decide_eq_true_eq]; have h4 := of_decide_eq_true h4; omega
     ·rw [beq_iff_eq]; have h4 := of_decide_eq_false h4; omega
    ·exact hl _ (by rw [beq_iff_eq]; have h3 := of_decide_eq_false h3; omega)
 ·obtain rfl : pos = s.size := by omega
  refine zc rfl ?_
  exact ⟨by rw [ziM (by omega) (by omega) (fun i hi => hok i (by omega))], he⟩
theorem zgh {w : World} {c : Col} {a : Addr} {s : ByteArray} (h : w.cell? a = some (.string s)) :
  Calls Tryz.prog 155 #[.agg #[.string c.1, .int .i64 c.2.1, .bool c.2.2], .pointer (some a)] w (Ret fun v w' => v = .bool (decide (B c.1 = B s)) /\ Ext w w') := by
 apply zlr
 unfold S155
 apply yz
 have he : Ext w (w.alloc (.cells #[(.string c.1), (.int .i64 c.2.1), (.bool c.2.2)] 62)) := (Ext.refl w).alloc _
 have hb : Blk (w.alloc (.cells #[(.string c.1), (.int .i64 c.2.1), (.bool c.2.2)] 62)) w.heap.size [(.string c.1), (.int .i64 c.2.1), (.bool c.2.2)] 62 := Blk.new w _ _
 refine zo hb (by rfl) ?_
 refine zaT (he.cell h) ?_
 exact ⟨by rw [qV], he⟩
def Tests (g : FuncId) : Prop := ∀ (w : World) (c : Col) (a : Addr) (s : ByteArray), w.cell? a = some (.string s) ->
  Calls Tryz.prog g #[.agg #[.string c.1, .int .i64 c.2.1, .bool c.2.2], .pointer (some a)] w (Ret fun v w' => v = .bool (decide (B c.1 = B s)) /\ Ext w w')
def jO (s : ByteArray) (cs : List Col) : Nat := cs.findIdx fun c => decide (B c.1 = B s)
theorem zgi {w : World} {A : Option Addr} {n c : Nat} {cs : List Col} {g : FuncId} {a : Addr} {s : ByteArray} (hg : enterable Tryz.prog g = true) (ht : Tests g) (h : Sli xM w A n cs) (ha : w.cell? a = some (.string s)) :
  Calls Tryz.prog 195 #[.slice A n c, .func (.func g) #[] #[.pointer (some a)]] w (Ret fun v w' => v = .int .i64 (if jO s cs < n then (jO s cs : Int) else -1) /\ Ext w w') := by
 apply zlM
 unfold S195
 have hl := h.len
 have hle := h.le
 refine zx (fun x w' => Ext w w' /\ ∃ i : Nat, i <= n /\ x = ((i : Int), ()) /\ i <= jO s cs) (fun x => (n - x.1).toNat) ⟨Ext.refl w, 0, by omega, rfl, by omega⟩ ?_
 rintro _ w' ⟨he, i, hi, rfl, hf⟩
 dsimp only
 by_cases hlt : i < n
 ·refine zf (decide_eq_true (by omega)) ?_
  have hx : cs[i]? = some cs[i] := List.getElem?_eq_getElem (by omega)
  refine xS (h.ext he) (by omega) (x := cs[i]) (by simp) rfl ?_
  intro p hp hc
  refine qv (ls := [.str, (.int .i64), .bool]) (x := (cs[i].1, cs[i].2.1, cs[i].2.2, ())) hc ?_
  refine xT hg ?_
  refine zb (ht w' cs[i] a s (he.cell ha)) ?_
  rintro _ w1 ⟨rfl, he1⟩
  refine ⟨_, rfl, ?_⟩
  refine zg (fun hd => ?_) (fun hd => ?_)
  ·have hfi : jO s cs = i := by
    have h1 : jO s cs <= i := by
     rcases Nat.lt_or_ge i (jO s cs) with h1 | h1
     ·have := List.not_of_lt_findIdx h1
      rw [hd] at this
      cases this
     ·exact h1
    omega
   refine ⟨?_, he.trans he1⟩
   rw [hfi, if_pos hlt]
  ·rw [wrap_i64 (by omega) (by omega)]
   refine ⟨⟨he.trans he1, i + 1, by omega, rfl, ?_⟩, by omega⟩
   rcases Nat.lt_or_ge i (jO s cs) with h1 | h1
   ·omega
   ·have hfi : jO s cs = i := by omega
    have h2 : jO s cs < cs.length := by omega
    have := List.findIdx_getElem (p := fun c : Col => decide (B c.1 = B s)) (xs := cs) (w := h2)
    have h3 : decide (B cs[i].1 = B s) = true := by
     have e : cs[jO s cs] = cs[i] := by congr 1
     rw [<- e]; exact this
    rw [h3] at hd
    cases hd
 ·obtain rfl : i = n := by omega
  refine zc (decide_eq_false (by omega)) ?_
  exact ⟨by rw [if_neg (by omega)], he⟩
theorem zd0 {w : World} {A : Option Addr} {n c : Nat} {cs : List Col} {g : FuncId} {a : Addr} {s : ByteArray} (hg : enterable Tryz.prog g = true) (ht : Tests g) (h : Sli xM w A n cs) (ha : w.cell? a = some (.string s)) :
  Calls Tryz.prog 154 #[.slice A n c, .func (.func g) #[] #[.pointer (some a)]] w (Ret fun v w' => v = .bool (cs.any fun c => decide (B c.1 = B s)) /\ Ext w w') := by
 apply zlq
 unfold S154
 refine zb (zgi hg ht h ha) ?_
 rintro _ w1 ⟨rfl, he1⟩
 refine ⟨_, rfl, ?_, he1⟩
 have hl := h.len
 congr 1
 rw [Bool.eq_iff_iff, decide_eq_true_iff, List.any_eq_true]
 have := List.findIdx_lt_length (p := fun c : Col => decide (B c.1 = B s)) (xs := cs)
 rw [<- this, hl]
 show ((if jO s cs < n then (jO s cs : Int) else -1) >= 0) ↔ jO s cs < n
 split <;> omega
def jb : List Col -> List Col -> Int
 | _, [] => 0
 | pre, c :: r => if yT (B c.1) ≠ 0 then 170 else if c.2.1 < 1 \/ c.2.1 > 3 \/ (pre.any fun d => decide (B d.1 = B c.1)) = true then 171 else jb (pre ++ [c]) r
def xr (cs : List Col) : Int := if cs.length < 1 \/ cs.length > 16 then 171 else jb [] cs
theorem zhr (s : List UInt8) : yT s = 0 \/ yT s = 170 := by unfold yT; split <;> simp
theorem uw {w : World} {A : Option Addr} {n c : Nat} {cs : List Col} (h : Sli xM w A n cs) (hc : n <= c) :
  Calls Tryz.prog 106 #[.slice A n c] w (Ret fun v w' => v = .int .i64 (xr cs) /\ Ext w w') := by
 apply zkX
 unfold S106 xr
 have hl := h.len
 refine zg (fun h1 => ?_) (fun h1 => ?_)
 ·have h1 := of_decide_eq_true h1
  rw [if_pos (by omega)]
  exact ⟨rfl, Ext.refl w⟩
 refine zg (fun h2 => ?_) (fun h2 => ?_)
 ·have h2 := of_decide_eq_true h2
  rw [if_pos (by omega)]
  exact ⟨rfl, Ext.refl w⟩
 have h1 := of_decide_eq_false h1
 have h2 := of_decide_eq_false h2
 rw [if_neg (by omega)]
 refine zx (fun x w' => Ext w w' /\ ∃ i : Nat, i <= n /\ x = ((i : Int), ()) /\ jb [] cs = jb (cs.take i) (cs.drop i)) (fun x => (n - x.1).toNat) ⟨Ext.refl w, 0, by omega, rfl, by simp⟩ ?_
 rintro _ w' ⟨he, i, hi, rfl, hf⟩
 dsimp only
 by_cases hlt : i < n
 ·refine zf (decide_eq_true (by omega)) ?_
  obtain ⟨col, hcol⟩ : ∃ col, col = cs[i] := ⟨_, rfl⟩
  have hdrop : cs.drop i = col :: cs.drop (i + 1) := by rw [hcol]; exact List.drop_eq_getElem_cons (by omega)
  have htake : cs.take (i + 1) = cs.take i ++ [col] := by rw [hcol]; exact List.take_succ_eq_append_getElem (by omega)
  have hx : cs[Int.toNat (i : Int)]? = some col := by rw [hcol]; simp
  rw [hdrop, jb] at hf
  refine xS (h.ext he) (by omega) hx rfl ?_
  intro p hp hcell
  refine qv (ls := [.str, (.int .i64), .bool]) (x := (col.1, col.2.1, col.2.2, ())) hcell ?_
  refine yE (vs := [(.string col.1), (.int .i64 col.2.1), (.bool col.2.2)]) (by rfl) (xM.one col) ?_ (by rfl)
  intro r w1 hb he1 hr
  refine zo hb (by rfl) ?_
  refine zb (zaX w1 col.1) ?_
  rintro _ w2 ⟨rfl, he2⟩
  refine ⟨_, rfl, ?_⟩
  have hb2 := hb.ext he2
  have he02 := (he.trans he1).trans he2
  refine zg (fun hn => ?_) (fun hn => ?_)
  ·have hn : yT (B col.1) ≠ 0 := by simpa using hn
   rw [hf, if_pos hn]
   rcases zhr (B col.1) with h0 | h0
   ·exact absurd h0 hn
   ·exact ⟨by rw [h0], he02⟩
  have hn : yT (B col.1) = 0 := by simpa using hn
  rw [if_neg (by simp [hn])] at hf
  refine yV (o := 1) hb2 (by rfl) ?_
  refine zg (fun hk => ?_) (fun hk => ?_)
  ·have hk := of_decide_eq_true hk
   rw [hf, if_pos (.inl hk)]
   exact ⟨rfl, he02⟩
  have hk := of_decide_eq_false hk
  refine yV (o := 1) hb2 (by rfl) ?_
  refine zg (fun hk2 => ?_) (fun hk2 => ?_)
  ·have hk2 := of_decide_eq_true hk2
   rw [hf, if_pos (.inr (.inl hk2))]
   exact ⟨rfl, he02⟩
  have hk2 := of_decide_eq_false hk2
  refine ⟨⟨by omega, by omega⟩, ?_⟩
  rw [Int.toNat_natCast]
  have hcut := (h.zey (k := i) (m := c) (z := 3) rfl (by omega) (by omega)).ext he02
  have hcell2 : w2.cell? ⟨r, 0, none⟩ = some (.string col.1) := by rw [hb2.cell]; rfl
  refine zb (zd0 (s := col.1) (g := 155) (by kernel_rfl) (fun w c a s h => zgh h) hcut hcell2) ?_
  rintro _ w3 ⟨rfl, he3⟩
  refine ⟨_, rfl, ?_⟩
  refine zg (fun hd => ?_) (fun hd => ?_)
  ·rw [hf, if_pos (.inr (.inr hd))]
   exact ⟨rfl, he02.trans he3⟩
  ·rw [if_neg (by
    rintro (h3 | h3 | h3)
    ·exact hk h3
    ·exact hk2 h3
    ·rw [h3] at hd; cases hd)] at hf
   rw [wrap_i64 (by omega) (by omega)]
   exact ⟨⟨he02.trans he3, i + 1, by omega, rfl, by rw [htake]; exact hf⟩, by omega⟩
 ·obtain rfl : i = n := by omega
  refine zc (decide_eq_false (by omega)) ?_
  rw [List.drop_of_length_le (by omega)] at hf
  exact ⟨by rw [hf]; rfl, he⟩
def jz (cs : List Col) : Bool := decide (cs.length <= 20) && cs.all fun c => decide ((B c.1).length <= 60)
theorem zd1 {w : World} {A : Option Addr} {n c : Nat} {cs : List Col} (h : Sli xM w A n cs) :
  Calls Tryz.prog 39 #[.slice A n c] w (Ret fun v w' => v = .bool (jz cs) /\ Ext w w') := by
 apply znt
 unfold S39
 have hl := h.len
 have hle := h.le
 refine zx (fun x w' => w' = w /\ ∃ i : Nat, i <= n /\ x = ((i : Int), ()) /\ ∀ k c, k < i -> cs[k]? = some c -> (B c.1).length <= 60) (fun x => (n - x.1).toNat) ⟨rfl, 0, by omega, rfl, fun k c hk => by omega⟩ ?_
 rintro _ _ ⟨rfl, i, hi, rfl, hf⟩
 dsimp only
 by_cases hlt : i < n
 ·refine zf (decide_eq_true (by omega)) ?_
  obtain ⟨col, hcol⟩ : ∃ col, col = cs[i] := ⟨_, rfl⟩
  have hx : cs[i]? = some col := by rw [hcol]; exact List.getElem?_eq_getElem (by omega)
  refine xS h (by omega) (x := col) (by simpa using hx) rfl ?_
  intro p hp hcell
  refine zaT (by have := hcell.1; rw [add_zero] at this; exact this) ?_
  have hs := yg col.1
  refine zg (fun hb => ?_) (fun hb => ?_)
  ·have hb := of_decide_eq_true hb
   refine ⟨?_, Ext.refl _⟩
   congr 1
   symm
   unfold jz
   rw [Bool.and_eq_false_iff]
   right
   rw [Bool.eq_false_iff, ne_eq, List.all_eq_true]
   intro hall
   have := of_decide_eq_true (hall col (List.mem_of_getElem? hx))
   omega
  ·have hb := of_decide_eq_false hb
   rw [wrap_i64 (by omega) (by omega)]
   refine ⟨⟨rfl, i + 1, by omega, rfl, fun k c hk hc => ?_⟩, by omega⟩
   by_cases hki : k = i
   ·subst hki
    rw [hx] at hc
    injection hc with hc
    subst hc
    omega
   ·exact hf k c (by omega) hc
 ·obtain rfl : i = n := by omega
  refine zc (decide_eq_false (by omega)) ?_
  refine ⟨?_, Ext.refl _⟩
  congr 1
  unfold jz
  have hall : (cs.all fun c => decide ((B c.1).length <= 60)) = true := by
   rw [List.all_eq_true]
   intro c hc
   obtain ⟨k, hk, rfl⟩ := List.mem_iff_getElem.1 hc
   exact decide_eq_true (hf k _ (by omega) (List.getElem?_eq_getElem hk))
  rw [hall, Bool.and_true, hl]
  exact decide_eq_decide.2 (by omega)
def zaY (c : Col) : Prop := yT (B c.1) = 0 /\ 1 <= c.2.1 /\ c.2.1 <= 3
theorem zbQ : ∀ (r pre : List Col), jb pre r = 0 -> ∀ c ∈ r, zaY c
 | [], _, _, c, hc => by cases hc
 | d :: r, pre, h, c, hc => by
  unfold jb at h
  split at h
  ·cases h
  ·rename_i h1
   split at h
   ·cases h
   ·rename_i h2
    rcases List.mem_cons.1 hc with rfl | hc
    ·have : ¬ (c.2.1 < 1 \/ c.2.1 > 3) := fun hh => h2 (by rcases hh with hh | hh; exact .inl hh; exact .inr (.inl hh))
     exact ⟨by omega, by omega, by omega⟩
    ·exact zbQ r _ h c hc
theorem zbR {cs : List Col} (h : xr cs = 0) : (1 <= cs.length /\ cs.length <= 16) /\ jb [] cs = 0 /\ ∀ c ∈ cs, zaY c := by
 unfold xr at h
 split at h
 ·cases h
 ·exact ⟨by omega, h, zbQ _ _ h⟩
theorem qx {s : List UInt8} (h : yT s = 0) : 1 <= s.length /\ s.length <= 32 := by
 unfold yT zax at h
 split at h
 ·rename_i hh
  have := of_decide_eq_true hh
  exact ⟨this.1, this.2.1⟩
 ·cases h
def xP (c : Col) : UInt8 := if c.2.2 then UInt8.ofNat (c.2.1.toNat + 128) else UInt8.ofNat c.2.1.toNat
def jA (c : Col) : List UInt8 := xP c :: UInt8.ofNat (B c.1).length :: B c.1
def xd (cs : List Col) : List UInt8 := UInt8.ofNat cs.length :: cs.flatMap jA
theorem zhs {c : Col} (h : zaY c) : (jA c).length <= 34 := by
 have := qx h.1
 simp [jA]; omega
theorem zac : ∀ {cs : List Col}, (∀ c ∈ cs, zaY c) -> (cs.flatMap jA).length <= cs.length * 34
 | [], _ => by simp
 | c :: r, h => by
  have h1 := zhs (h c List.mem_cons_self)
  have h2 := zac (cs := r) (fun c hc => h c (List.mem_cons_of_mem _ hc))
  simp only [List.flatMap_cons, List.length_append, List.length_cons]
  omega
def zbS (cs : List Col) : List UInt8 × Int := if xr cs = 0 then (xd cs, 0) else ([], xr cs)
theorem zgj {w : World} {A : Option Addr} {n c : Nat} {cs : List Col} (h : Sli xM w A n cs) (hc : n <= c) :
  Calls Tryz.prog 40 #[.slice A n c] w (Ret fun v w' => v = .tuple #[.string ⟨(zbS cs).1.toArray⟩, .int .i64 (zbS cs).2] /\ Ext w w') := by
 apply znu
 unfold S40
 have hl := h.len
 refine zb (uw h hc) ?_
 rintro _ w1 ⟨rfl, he1⟩
 refine ⟨_, rfl, ?_⟩
 unfold zbS
 refine zg (fun hn => ?_) (fun hn => ?_)
 ·have hn : xr cs ≠ 0 := by simpa using hn
  rw [if_neg hn]
  exact ⟨rfl, he1⟩
 have hn : xr cs = 0 := by simpa using hn
 rw [if_pos hn]
 obtain ⟨hlen, _, hok⟩ := zbR hn
 apply yz
 have e0 : #[Value.int .u8 (IntKind.wrap .u8 ((n : Nat) : Int))] = (bV [UInt8.ofNat cs.length]).toArray := by rw [qe, hl]; rfl
 rw [e0]
 have ho0 : Own 5 (w1.alloc (.cells (bV [UInt8.ofNat cs.length]).toArray 5)) w.heap.size (some ⟨w1.heap.size, 0, none⟩) 1 1 (bV [UInt8.ofNat cs.length]) := Own.lit (cs := (bV [UInt8.ofNat cs.length]).toArray) he1.size (by simp [bV])
 have he2 := he1.alloc (.cells (bV [UInt8.ofNat cs.length]).toArray 5)
 generalize w1.alloc (.cells (bV [UInt8.ofNat cs.length]).toArray 5) = w2 at ho0 he2 ⊢
 refine zx (fun x w' => Ext w w' /\ ∃ (i : Nat) (A' : Option Addr) (m c' : Nat), i <= n /\ x = ((A', m, c'), (i : Int), ()) /\ Own 5 w' w.heap.size A' m c' (bV (UInt8.ofNat cs.length :: (cs.take i).flatMap jA))) (fun x => (n - x.2.1).toNat) ⟨he2, 0, _, 1, 1, by omega, rfl, by simpa using ho0⟩ ?_
 rintro _ w' ⟨he, i, A', m, c', hi, rfl, ho⟩
 dsimp only
 have hm := ho.sl.blen
 have hlb : (UInt8.ofNat cs.length :: (cs.take i).flatMap jA).length <= 600 := by
  have := zac (cs := cs.take i) (fun c hc => hok c (List.mem_of_mem_take hc))
  have h2 : (cs.take i).length <= 16 := by simp; omega
  have := Nat.mul_le_mul_right 34 h2
  simp only [List.length_cons]
  omega
 by_cases hlt : i < n
 ·refine zf (decide_eq_true (by omega)) ?_
  obtain ⟨col, hcol⟩ : ∃ col, col = cs[i] := ⟨_, rfl⟩
  have hmem : col ∈ cs := by rw [hcol]; exact List.getElem_mem _
  have htake : cs.take (i + 1) = cs.take i ++ [col] := by rw [hcol]; exact List.take_succ_eq_append_getElem (by omega)
  have hx : cs[Int.toNat (i : Int)]? = some col := by rw [hcol]; simp
  obtain ⟨hk0, hk1, hk2⟩ := hok col hmem
  have hname := qx hk0
  have hns := yg col.1
  refine xS (h.ext he) (by omega) hx rfl ?_
  intro p hp hcell
  refine qv (ls := [.str, (.int .i64), .bool]) (x := (col.1, col.2.1, col.2.2, ())) hcell ?_
  refine yE (vs := [(.string col.1), (.int .i64 col.2.1), (.bool col.2.2)]) (by rfl) (xM.one col) ?_ (by rfl)
  intro r w3 hb he3 hr
  refine yV (o := 1) hb (by rfl) ?_
  refine yV (o := 2) hb (by rfl) ?_
  have tail : ∀ (kb : Int) , kb = ((xP col).toNat : Int) -> (zA <|
    ldW .str (aD r) fun (u15 : ByteArray) =>
    ldW .str (aD r) fun (u16 : ByteArray) =>
    zi (.cells #[(.int .u8 kb), (.int .u8 (IntKind.wrap .u8 ((u15.size : Nat) : Int)))] 5) fun (r17 : Nat) =>
    zq [[((aD r), (.string u16))]] <|
    zw Tryz.prog (Builtin.append_ #[85, 85] 85 #[(.slice A' m c'), (.slice (some (aD r17)) 2 2)]) .slc fun (u18 : SLC) =>
    zq [[((aD r), (.string u16))]] <|
    zw Tryz.prog (Builtin.append_ #[85, 9] 85 #[(.slice u18.1 u18.2.1 u18.2.2), (.string u16)]) .slc fun (u19 : SLC) => fun w' => (Ext w w' /\ ∃ (i' : Nat) (A' : Option Addr) (m c' : Nat), i' <= n /\ (((u19.1, u19.2.1, u19.2.2), IntKind.wrap .i64 ((i : Int) + 1), ()) : SLC × Int × Unit) = ((A', m, c'), (i' : Int), ()) /\ Own 5 w' w.heap.size A' m c' (bV (UInt8.ofNat cs.length :: (cs.take i').flatMap jA))) /\ (n - IntKind.wrap .i64 ((i : Int) + 1)).toNat < (n - (i : Int)).toNat) w3 := by
   rintro kb rfl
   show (ldW _ _ _) w3.drew
   have he3' : Ext w' w3.drew := he3.drew
   have hb' : Blk w3.drew r [(.string col.1), (.int .i64 col.2.1), (.bool col.2.2)] 62 := hb
   generalize w3.drew = w4 at he3' hb' ⊢
   refine zo hb' (by rfl) ?_
   refine zo hb' (by rfl) ?_
   rw [qe]
   have he4 := he.trans he3'
   have ho4 := ho.ext he3'
   have e1 : (#[.int .u8 ((xP col).toNat : Int), .int .u8 ((UInt8.ofNat col.1.size).toNat : Int)] : Array Value) = (bV [xP col, UInt8.ofNat (B col.1).length]).toArray := by rw [hns]; rfl
   rw [e1]
   apply yz
   have hblk : Blk (w4.alloc (.cells (bV [xP col, UInt8.ofNat (B col.1).length]).toArray 5)) w4.heap.size (bV [xP col, UInt8.ofNat (B col.1).length]) 5 := by simpa using Blk.new w4 (bV [xP col, UInt8.ofNat (B col.1).length]).toArray 5
   have hal : Ext w4 (w4.alloc (.cells (bV [xP col, UInt8.ofNat (B col.1).length]).toArray 5)) := (Ext.refl w4).alloc _
   have held : ∀ {w5 : World} {K : WP}, Blk w5 r [(.string col.1), (.int .i64 col.2.1), (.bool col.2.2)] 62 -> K w5 -> zq [[((aD r), (.string col.1))]] K w5 := fun {w5 K} hb hk => ⟨fun l hl p hp => by
    simp only [List.mem_singleton] at hl
    subst hl
    simp only [List.mem_singleton] at hp
    subst hp
    rw [hb.cell]
    rfl, hk⟩
   have hb5 := hb'.ext hal
   have ho5 := ho4.ext hal
   have he5 := he4.trans hal
   generalize w4.alloc (.cells (bV [xP col, UInt8.ofNat (B col.1).length]).toArray 5) = w5 at *
   refine held hb5 ?_
   refine uO qq ho5 he5.size (Sl.xJ hblk rfl (by omega)) (zat _) (by omega) (by omega) ?_
   intro A6 c6 w6 ho6 hg6 _
   rw [<- xc] at ho6
   have hrne : orow A' ≠ some r := fun hh => by
    have h1 := World.ownsRow.lt ho r (by rw [xp]; exact hh)
    omega
   have hb6 : Blk w6 r [(.string col.1), (.int .i64 col.2.1), (.bool col.2.2)] 62 := hb5.grown hg6.grown (fun hh => hrne hh.symm)
   have he6 := he5.grown hg6.grown ho5.row'
   refine held hb6 ?_
   dsimp only
   have hm6 := ho6.sl.blen
   refine zaU qq (by kernel_rfl) ho6 he6.size (by omega) ?_
   intro A7 c7 w7 ho7 hg7
   have he7 := he6.grown hg7.grown ho6.row'
   rw [wrap_i64 (by omega) (by omega)]
   refine ⟨⟨he7, i + 1, A7, _, c7, by omega, rfl, ?_⟩, by omega⟩
   have e2 : UInt8.ofNat cs.length :: (cs.take (i + 1)).flatMap jA = (UInt8.ofNat cs.length :: (cs.take i).flatMap jA ++ [xP col, UInt8.ofNat (B col.1).length]) ++ B col.1 := by
    rw [htake]
    simp [jA]
   rw [e2]
   exact ho7
  have hkn : IntKind.wrap .u8 col.2.1 = ((col.2.1.toNat : Nat) : Int) := by rw [wrap_u8]; omega
  refine zg (fun hnull => ?_) (fun hnull => ?_)
  ·refine tail _ ?_
   rw [hkn, show (128 : Int) = ((128 : Nat) : Int) from rfl, zh5 (k := .u8) rfl (by simp [IntKind.bits]; omega) (by simp [IntKind.bits])]
   unfold xP
   rw [hnull, if_pos rfl]
   have : col.2.1.toNat = 1 \/ col.2.1.toNat = 2 \/ col.2.1.toNat = 3 := by omega
   rcases this with h | h | h <;> rw [h] <;> rfl
  ·refine tail _ ?_
   rw [hkn]
   unfold xP
   have : col.2.1.toNat = 1 \/ col.2.1.toNat = 2 \/ col.2.1.toNat = 3 := by omega
   rw [hnull, if_neg (by simp)]
   rcases this with h | h | h <;> rw [h] <;> rfl
 ·obtain rfl : i = n := by omega
  refine zc (decide_eq_false (by omega)) ?_
  rw [List.take_of_length_le (by omega)] at ho
  refine qI (e := 5) (by kernel_rfl) (by kernel_rfl) (by kernel_rfl) ho.sl ?_
  exact ⟨rfl, he⟩
end V
/- Columns and cells that came in, opened. -/
namespace V
open Go Go.ChangeShapes Go.WideShapes Go.ChangeAt Go.RowKit Go.Deep Go.Proofs
section
variable {H : Type} {enc : TypeId × Value -> H} {w : World} {base : Nat} {spare : Nat -> Bool} {held : Bool}
theorem zoa {n : Nat} {cs : List Value} {x : DataW H × List MemPlace} (h : DataW.trod enc Tryz.prog w base spare held n 62 cs = some x) : ∃ c : Col, xM.f c = cs /\ (B c.1).length <= 9223372036854775807 := by
 obtain ⟨hl, m, hf⟩ := ziK (ts := [9, 3, 4]) (by kernel_rfl) (by kernel_rfl) (by kernel_rfl) (by kernel_rfl) h
 obtain ⟨v0, y0, e0, h0⟩ := hf 0 _ rfl
 obtain ⟨v1, y1, e1, h1⟩ := hf 1 _ rfl
 obtain ⟨v2, y2, e2, h2⟩ := hf 2 _ rfl
 obtain ⟨s, hs, hsl⟩ := vR (by kernel_rfl) h0
 obtain ⟨z, hz, hzw⟩ := zav (k := .i64) (by kernel_rfl) h1
 obtain ⟨b, hb⟩ := zkW (by kernel_rfl) h2
 cases hs; cases hz; cases hb
 refine ⟨(s, z, b), ?_, by rw [<- yg]; simpa [maxLen] using hsl⟩
 match cs, hl with
 | [a0, a1, a2], _ =>
  simp only [List.getElem?_cons_zero, List.getElem?_cons_succ, Option.some.injEq] at e0 e1 e2
  rw [e0, e1, e2]
  rfl
end
end V
/- Contracts of schema.Read and what goes with it. -/
namespace V
open Go Go.Proofs
theorem zl6 : jN Tryz.prog 40 62 (.agg #[.string ByteArray.empty, .int .i64 0, .bool false]) xM.k 32 := by
 refine ⟨by kernel_rfl, by kernel_rfl, rfl⟩
theorem zl7 : ∀ x : Fin 256, iandn .u8 (x.val : Int) 128 = ((x.val % 128 : Nat) : Int) := by decide +kernel
theorem zob : ∀ x : Fin 256, ((iand .u8 (x.val : Int) 128) != 0) = decide (128 <= x.val) := by decide +kernel
def jV (s : List UInt8) : Option (Col × List UInt8) :=
 if s.length < 2 \/ s.length - 2 < (s.getD 1 0).toNat then none
 else some ((⟨((s.drop 2).take (s.getD 1 0).toNat).toArray⟩, (((s.getD 0 0).toNat % 128 : Nat) : Int), decide (128 <= (s.getD 0 0).toNat)), s.drop (2 + (s.getD 1 0).toNat))
def xG : Nat -> List UInt8 -> Option (List Col × List UInt8)
 | 0, s => some ([], s)
 | n + 1, s => match jV s with
  | none => none
  | some (c, r) => match xG n r with
   | none => none
   | some (cs, r') => some (c :: cs, r')
def xH : List UInt8 -> Option (List Col × List UInt8)
 | [] => none
 | b :: r => match xG b.toNat r with
  | none => none
  | some (cs, r') => if xr cs = 0 then some (cs, r') else none
theorem ziN {n i : Nat} {r0 rest : List UInt8} {acc : List Col} (hi : i < n) {c : Col} {r : List UInt8} (hc : jV rest = some (c, r))
  (h : xG n r0 = (xG (n - i) rest).map fun p => (acc ++ p.1, p.2)) : xG n r0 = (xG (n - (i + 1)) r).map fun p => ((acc ++ [c]) ++ p.1, p.2) := by
 rw [h, show n - i = (n - (i + 1)) + 1 by omega, xG, hc]
 simp only
 cases xG (n - (i + 1)) r with
 | none => rfl
 | some p => simp
theorem ziO {n i : Nat} {r0 rest : List UInt8} {acc : List Col} (hi : i < n) (hc : jV rest = none)
  (h : xG n r0 = (xG (n - i) rest).map fun p => (acc ++ p.1, p.2)) : xG n r0 = none := by
 rw [h, show n - i = (n - (i + 1)) + 1 by omega, xG, hc]
 rfl
abbrev RdT := SLC × ByteArray × Int × Unit
def zmO (w : World) (R : Option (List Col × List UInt8)) (x : RdT) (w' : World) : Prop :=
 (match R with
  | none => x = ((none, 0, 0), ⟨#[]⟩, 171, ())
  | some (cs, r) => Owni xM 62 w' w.heap.size x.1.1 x.1.2.1 x.1.2.2 cs /\ x.2.1 = ⟨r.toArray⟩ /\ x.2.2.1 = 0) /\ Ext w w'
def zpw : Option (Col × List UInt8) -> (ByteArray × Int × Bool × Unit) × ByteArray × Bool × Unit
 | none => ((ByteArray.empty, 0, false, ()), ⟨#[]⟩, false, ())
 | some (c, r) => ((c.1, c.2.1, c.2.2, ()), ⟨r.toArray⟩, true, ())
theorem zjS (w : World) (s : ByteArray) (hsmall : s.size <= 9223372036854775807) : Calls Tryz.prog 157 #[.string s] w (Ret fun v w' => v = Rs.val (.many [.agg [.str, .int .i64, .bool], .one .str, .one .bool]) (zpw (jV (B s))) /\ Ext w w') := by
 apply zlt
 unfold S157
 have hsz := yg s
 apply yz
 have hb : Blk (w.alloc (.cells #[(.string ByteArray.empty), (.int .i64 (0 : Int)), (.bool false)] 62)) w.heap.size [(.string ByteArray.empty), (.int .i64 (0 : Int)), (.bool false)] 62 := Blk.new w _ _
 have he : Ext w (w.alloc (.cells #[(.string ByteArray.empty), (.int .i64 (0 : Int)), (.bool false)] 62)) := (Ext.refl w).alloc _
 have hB : w.heap.size <= w.heap.size := Nat.le_refl _
 generalize w.alloc (.cells #[(.string ByteArray.empty), (.int .i64 (0 : Int)), (.bool false)] 62) = w1 at hb he ⊢
 generalize hbk : w.heap.size = blk at hb hB ⊢
 have put : ∀ {K : (ByteArray × Int × Bool × Unit) -> WP} {w2 : World} (c : Col), Blk w2 blk [(.string ByteArray.empty), (.int .i64 (0 : Int)), (.bool false)] 62 -> Ext w w2 -> (∀ w', Ext w w' -> K (c.1, c.2.1, c.2.2, ()) w') ->
   (zd ((#[(.string c.1), (.int .i64 c.2.1), (.bool c.2.2)] : Array Value).size = 3) <|
   zt (aD blk) [(.string c.1), (.int .i64 c.2.1), (.bool c.2.2)] <|
   zk [.str, (.int .i64), .bool] (aD blk) K) w2 := by
  intro K w2 c hb2 he2 hK
  refine ⟨rfl, hb2.qp _ 0 (by simp) (xM.one c), ?_⟩
  have hb3 := hb2.setCells [(.string c.1), (.int .i64 c.2.1), (.bool c.2.2)] rfl
  exact zau (ls := [.str, (.int .i64), .bool]) (x := (c.1, c.2.1, c.2.2, ())) hb3 rfl (hK _ (he2.setCells (by rw [hbk]; exact hB) _ _))
 refine zg (fun h => ?_) (fun h1 => ?_)
 ·have hn : jV (B s) = none := by
   have := of_decide_eq_true h
   unfold jV
   rw [if_pos (.inl (by omega))]
  rw [hn]
  exact put (ByteArray.empty, 0, false) hb he (fun w' he' => ⟨rfl, he'⟩)
 have h1 := of_decide_eq_false h1
 refine ⟨⟨by omega, by omega⟩, ?_⟩
 have hb1 : bt s 1 = (((B s).getD 1 0).toNat : Int) := by rw [ziJ (by omega) (by omega)]; rfl
 have hb0 : bt s 0 = (((B s).getD 0 0).toNat : Int) := by rw [ziJ (by omega) (by omega)]; rfl
 have hl1 := ((B s).getD 1 0).toNat_lt
 have hl0 := ((B s).getD 0 0).toNat_lt
 rw [hb1, hb0]
 rw [wrap_i64 (x := (s.size : Int) - 2) (by omega) (by omega), wrap_i64 (x := (((B s).getD 1 0).toNat : Int)) (by omega) (by omega), wrap_i64 (x := 2 + (((B s).getD 1 0).toNat : Int)) (by omega) (by omega)]
 refine zg (fun h2 => ?_) (fun h2 => ?_)
 ·have hn : jV (B s) = none := by
   have := of_decide_eq_true h2
   unfold jV
   rw [if_pos (.inr (by omega))]
  rw [hn]
  exact put (ByteArray.empty, 0, false) hb he (fun w' he' => ⟨rfl, he'⟩)
 have h2 := of_decide_eq_false h2
 refine ⟨⟨by omega, by omega⟩, ?_⟩
 have he' := he.drew
 have hb' := hb.drew
 show (zd _ _) w1.drew
 generalize w1.drew = w2 at he' hb' ⊢
 refine ⟨⟨by omega, by omega, by omega⟩, ⟨by omega, by omega⟩, ⟨by omega, by omega⟩, ⟨by omega, by omega⟩, ?_⟩
 have hs : jV (B s) = some ((⟨(((B s).drop 2).take ((B s).getD 1 0).toNat).toArray⟩, ((((B s).getD 0 0).toNat % 128 : Nat) : Int), decide (128 <= ((B s).getD 0 0).toNat)), (B s).drop (2 + ((B s).getD 1 0).toNat)) := by
  unfold jV
  rw [if_neg (by omega)]
 rw [hs]
 have i1 := zl7 ⟨((B s).getD 0 0).toNat, hl0⟩
 have i2 := zob ⟨((B s).getD 0 0).toNat, hl0⟩
 simp only at i1 i2
 rw [i1, i2, wrap_i64 (x := ((((B s).getD 0 0).toNat % 128 : Nat) : Int)) (by omega) (by omega)]
 have ex1 : s.extract (Int.toNat 2) (Int.toNat (2 + (((B s).getD 1 0).toNat : Int))) = ⟨(((B s).drop 2).take ((B s).getD 1 0).toNat).toArray⟩ := by
  apply ka
  rw [jy, jx]
  congr 1
  omega
 have ex2 : s.extract (Int.toNat (2 + (((B s).getD 1 0).toNat : Int))) s.size = ⟨((B s).drop (2 + ((B s).getD 1 0).toNat)).toArray⟩ := by
  apply ka
  rw [jy, show (2 + (((B s).getD 1 0).toNat : Int)).toNat = 2 + ((B s).getD 1 0).toNat by omega]
  show _ = (B s).drop (2 + ((B s).getD 1 0).toNat)
  exact List.take_of_length_le (by simp; omega)
 rw [ex1, ex2]
 exact put (⟨(((B s).drop 2).take ((B s).getD 1 0).toNat).toArray⟩, ((((B s).getD 0 0).toNat % 128 : Nat) : Int), decide (128 <= ((B s).getD 0 0).toNat)) hb' he' (fun w' he' => ⟨rfl, he'⟩)
def zd2 (a b : Col) : Bool := decide (B a.1 = B b.1) && (a.2.1 == b.2.1 && (a.2.2 == b.2.2 && true))
theorem ze9 {a b : Col} : zd2 a b = true ↔ a = b := by
 unfold zd2
 simp only [Bool.and_eq_true, decide_eq_true_eq, beq_iff_eq, and_true]
 constructor
 ·rintro ⟨h1, h2, h3⟩
  exact Prod.ext (ka h1) (Prod.ext h2 h3)
 ·rintro rfl
  exact ⟨rfl, rfl, rfl⟩
theorem ziP (w : World) (a b : Col) : (Op.eqFields 9999 #[.string a.1, .int .i64 a.2.1, .bool a.2.2] #[.string b.1, .int .i64 b.2.1, .bool b.2.2] (Tryz.prog.fieldsOf 62).toList).run Tryz.prog w = .ok (zd2 a b) w := by
 have hf : (Tryz.prog.fieldsOf 62).toList = [(Tryz.prog.fieldsOf 62).getD 0 default, (Tryz.prog.fieldsOf 62).getD 1 default, (Tryz.prog.fieldsOf 62).getD 2 default] := by kernel_rfl
 rw [hf]
 unfold zd2
 rw [<- qV]
 refine xW (of_decide_eq_true (by kernel_rfl)) (a := .string a.1) (b := .string b.1) (by kernel_rfl) (by kernel_rfl) (run_equalIn_string w 9998 _ _ _ (by kernel_rfl)) ?_
 refine xW (of_decide_eq_true (by kernel_rfl)) (a := .int .i64 a.2.1) (b := .int .i64 b.2.1) (by kernel_rfl) (by kernel_rfl) (run_equalIn_int w 9998 _ .i64 .i64 _ _ (by kernel_rfl)) ?_
 refine xW (of_decide_eq_true (by kernel_rfl)) (a := .bool a.2.2) (b := .bool b.2.2) (by kernel_rfl) (by kernel_rfl) (run_equalIn_bool' w 9998 _ _ _ (by kernel_rfl)) ?_
 rfl
theorem zoc (w : World) (a b : Col) (x y : Operand) : (eqS .neq 62 x y (.agg #[.string a.1, .int .i64 a.2.1, .bool a.2.2]) (.agg #[.string b.1, .int .i64 b.2.1, .bool b.2.2])).run Tryz.prog w = .ok (.bool (!(zd2 a b))) w :=
 zez (by kernel_rfl) (by kernel_rfl) (by kernel_rfl) (ziP w a b)
theorem zht {w : World} {s : ByteArray} (hsmall : s.size <= 9223372036854775807) : Calls Tryz.prog 109 #[.string s] w (Ret fun v w' => ∃ x : RdT, v = Rs.val (.many [.one .slc, .one .str, .one (.int .i64)]) x /\ zmO w (xH (B s)) x w') := by
 apply zk0
 unfold S109
 have hsz := yg s
 have none_ : ∀ {w'}, xH (B s) = none -> Ext w w' -> ∃ x : RdT, Value.tuple #[(.slice none 0 0), (.string (ByteArray.mk #[])), (.int .i64 (171 : Int))] = Rs.val (.many [.one .slc, .one .str, .one (.int .i64)]) x /\ zmO w (xH (B s)) x w' := fun {w'} h he => ⟨((none, 0, 0), ⟨#[]⟩, 171, ()), rfl, by rw [h]; exact ⟨rfl, he⟩⟩
 refine zg (fun h => ?_) (fun h => ?_)
 ·rw [qV] at h
  have hB : B s = [] := of_decide_eq_true h
  exact none_ (by rw [hB]; rfl) (Ext.refl w)
 rw [qV] at h
 have hB : B s ≠ [] := of_decide_eq_false h
 obtain ⟨b, r0, hs⟩ : ∃ b r0, B s = b :: r0 := by
  cases hh : B s with
  | nil => exact absurd hh hB
  | cons b r => exact ⟨b, r, rfl⟩
 have hl : (B s).length = r0.length + 1 := by rw [hs]; rfl
 have he0 : Ext w w.drew := (Ext.refl w).drew
 show (zd _ _) w.drew
 generalize w.drew = w0 at he0 ⊢
 refine ⟨⟨by omega, by omega⟩, ⟨by omega, by omega⟩, ?_⟩
 have hb0 : bt s 0 = (b.toNat : Int) := by rw [ziJ (by omega) (by omega), hs]; rfl
 have hlt := b.toNat_lt
 rw [hb0, wrap_i64 (by omega) (by omega)]
 have ex : s.extract (Int.toNat 1) s.size = ⟨r0.toArray⟩ := by
  apply ka
  rw [jy, hs]
  show _ = r0
  exact List.take_of_length_le (by simp; omega)
 rw [ex]
 refine zx (fun x w' => Ext w w' /\ ∃ (i : Nat) (acc : List Col) (rest : ByteArray) (A : Option Addr) (m c : Nat), i <= b.toNat /\ x = ((A, m, c), rest, (i : Int), ()) /\ Owni xM 62 w' w.heap.size A m c acc /\ acc.length = i /\ rest.size <= 9223372036854775807 /\ xG b.toNat r0 = (xG (b.toNat - i) (B rest)).map fun p => (acc ++ p.1, p.2))
  (fun x => (b.toNat - x.2.2.1).toNat) ⟨he0, 0, [], ⟨r0.toArray⟩, none, 0, 0, by omega, rfl, Owni.nil _ _ _, rfl, by rw [yg, jx]; omega, by rw [jx, Nat.sub_zero]; cases xG b.toNat r0 <;> simp⟩ ?_
 rintro _ w' ⟨he, i, acc, rest, A, m, c, hi, rfl, ho, hacc, hrs, hrd⟩
 dsimp only
 have hm := ho.len
 by_cases hlt : i < b.toNat
 ·refine zf (decide_eq_true (by omega)) ?_
  refine zb (zjS w' rest hrs) ?_
  rintro _ w1 ⟨rfl, he1⟩
  refine ⟨_, rfl, ?_⟩
  cases hcol : jV (B rest) with
  | none =>
   refine yE (vs := [(.string ByteArray.empty), (.int .i64 (0 : Int)), (.bool false)]) (by rfl) (xM.one (ByteArray.empty, 0, false)) ?_ (by rfl)
   intro r w2 hb he2 hr
   refine zf (by rfl) ?_
   refine none_ ?_ ((he.trans he1).trans he2)
   rw [hs, xH, ziO hlt hcol hrd]
  | some p =>
   obtain ⟨col, rest'⟩ := p
   refine yE (vs := [(.string col.1), (.int .i64 col.2.1), (.bool col.2.2)]) (by rfl) (xM.one col) ?_ (by rfl)
   intro r w2 hb he2 hr
   refine zc (by rfl) ?_
   refine zau (ls := [.str, (.int .i64), .bool]) (x := (col.1, col.2.1, col.2.2, ())) hb rfl ?_
   have he02 := (he.trans he1).trans he2
   refine yZ (E := xM) (ys := [col]) (by rfl) rfl zl6 (ho.ext (he1.trans he2)) he02.size (by omega) (by omega) ?_
   intro A3 c3 w3 ho3 hg3
   dsimp only
   rw [wrap_i64 (by omega) (by omega)]
   have hrl : rest'.length <= (B rest).length := by
    unfold jV at hcol
    split at hcol
    ·cases hcol
    ·injection hcol with hcol
     injection hcol with _ hcol
     rw [<- hcol]
     simp
   refine ⟨⟨he02.grown hg3.grown (ho.ext (he1.trans he2)).row, i + 1, acc ++ [col], ⟨rest'.toArray⟩, A3, _, c3, by omega, rfl, ho3, by simp [hacc], ?_, ?_⟩, by omega⟩
   ·rw [yg, jx]; have := yg rest; omega
   ·rw [jx]; exact ziN hlt hcol hrd
 ·obtain rfl : i = b.toNat := by omega
  refine zc (decide_eq_false (by omega)) ?_
  rw [Nat.sub_self] at hrd
  have hrd2 : xG b.toNat r0 = some (acc, B rest) := by rw [hrd]; simp [xG]
  refine zb (uw ho.sl (by have := ho.le; omega)) ?_
  rintro _ w1 ⟨rfl, he1⟩
  refine ⟨_, rfl, ?_⟩
  refine zg (fun hck => ?_) (fun hck => ?_)
  ·have hck : xr acc ≠ 0 := by simpa using hck
   refine none_ ?_ (he.trans he1)
   rw [hs, xH, hrd2]
   simp only
   rw [if_neg hck]
  ·have hck : xr acc = 0 := by simpa using hck
   have hres : xH (B s) = some (acc, B rest) := by
    rw [hs, xH, hrd2]
    simp only
    rw [if_pos hck]
   refine ⟨((A, m, c), rest, 0, ()), rfl, ?_⟩
   rw [hres]
   exact ⟨⟨ho.ext he1, rfl, rfl⟩, he.trans he1⟩
end V
/- Columns: plain; what is read of what was put (as in seat 17's L2). -/
namespace V
open Go Go.Proofs
theorem zjT {c : Col} (h : zaY c) : (xP c).toNat = c.2.1.toNat + (if c.2.2 then 128 else 0) := by
 obtain ⟨_, h1, h2⟩ := h
 unfold xP
 cases hc : c.2.2 with
 | true => rw [if_pos rfl, if_pos rfl, UInt8.toNat_ofNat']; omega
 | false => rw [if_neg (by simp), if_neg (by simp), UInt8.toNat_ofNat']; omega
theorem zjU {c : Col} (h : zaY c) (t : List UInt8) : jV (jA c ++ t) = some (c, t) := by
 have hn := qx h.1
 have hk := zjT h
 obtain ⟨_, h1, h2⟩ := h
 have hlen : (UInt8.ofNat (B c.1).length).toNat = (B c.1).length := by rw [UInt8.toNat_ofNat']; omega
 have e : jA c ++ t = xP c :: UInt8.ofNat (B c.1).length :: (B c.1 ++ t) := by simp [jA]
 rw [e]
 unfold jV
 have g0 : (xP c :: UInt8.ofNat (B c.1).length :: (B c.1 ++ t)).getD 0 0 = xP c := rfl
 have g1 : (xP c :: UInt8.ofNat (B c.1).length :: (B c.1 ++ t)).getD 1 0 = UInt8.ofNat (B c.1).length := rfl
 rw [g0, g1, hlen, hk, if_neg (by simp)]
 congr 1
 refine Prod.ext (Prod.ext ?_ (Prod.ext ?_ ?_)) ?_
 ·apply ka
  show ((B c.1 ++ t).take (B c.1).length) = B c.1
  simp
 ·show ((((c.2.1.toNat + if c.2.2 then 128 else 0) % 128 : Nat)) : Int) = c.2.1
  split <;> omega
 ·show decide (128 <= c.2.1.toNat + if c.2.2 then 128 else 0) = c.2.2
  cases hc : c.2.2
  ·rw [if_neg (by simp), decide_eq_false (by omega)]
  ·rw [if_pos rfl, decide_eq_true (by omega)]
 ·show (xP c :: UInt8.ofNat (B c.1).length :: (B c.1 ++ t)).drop (2 + (B c.1).length) = t
  rw [Nat.add_comm]
  show (B c.1 ++ t).drop (B c.1).length = t
  simp
theorem zd3 : ∀ {cs : List Col}, (∀ c ∈ cs, zaY c) -> ∀ t, xG cs.length (cs.flatMap jA ++ t) = some (cs, t)
 | [], _, t => rfl
 | c :: r, h, t => by
  rw [List.length_cons, List.flatMap_cons, List.append_assoc, xG, zjU (h c List.mem_cons_self)]
  simp only
  rw [zd3 (fun d hd => h d (List.mem_cons_of_mem _ hd)) t]
theorem zhu {cs : List Col} (h : xr cs = 0) (t : List UInt8) : xH (xd cs ++ t) = some (cs, t) := by
 obtain ⟨hlen, _, hok⟩ := zbR h
 have hl : (UInt8.ofNat cs.length).toNat = cs.length := by rw [UInt8.toNat_ofNat']; omega
 unfold xd
 rw [List.cons_append, xH, hl, zd3 hok t]
 simp only
 rw [if_pos h]
theorem zjV {s : List UInt8} {c : Col} {r : List UInt8} (h : jV s = some (c, r)) : jA c ++ r = s := by
 unfold jV at h
 split at h
 ·cases h
 rename_i h0
 match s, h0 with
 | [], h0 => exact absurd (.inl (by simp)) h0
 | [a], h0 => exact absurd (.inl (by simp)) h0
 | a :: b :: q, h0 =>
  injection h with h
  injection h with h1 h2
  subst h1 h2
  have g0 : (a :: b :: q).getD 0 0 = a := rfl
  have g1 : (a :: b :: q).getD 1 0 = b := rfl
  rw [g1] at h0
  rw [g0, g1]
  have hb := b.toNat_lt
  have ha := a.toNat_lt
  have hle : b.toNat <= q.length := by
   have : (a :: b :: q).length = q.length + 2 := rfl
   omega
  have e1 : B (⟨(((a :: b :: q).drop 2).take b.toNat).toArray⟩ : ByteArray) = q.take b.toNat := rfl
  unfold jA
  simp only [e1]
  have e2 : (q.take b.toNat).length = b.toNat := by simp; omega
  have e3 : UInt8.ofNat (q.take b.toNat).length = b := by rw [e2]; apply UInt8.toNat_inj.1; rw [UInt8.toNat_ofNat']; omega
  rw [e3]
  have e4 : xP ((⟨(((a :: b :: q).drop 2).take b.toNat).toArray⟩, ((a.toNat % 128 : Nat) : Int), decide (128 <= a.toNat)) : Col) = a := by
   unfold xP
   simp only
   apply UInt8.toNat_inj.1
   split <;> rename_i hh
   ·have := of_decide_eq_true hh
    rw [UInt8.toNat_ofNat', Int.toNat_natCast]; omega
   ·have := of_decide_eq_false (Bool.eq_false_iff.2 hh)
    rw [UInt8.toNat_ofNat', Int.toNat_natCast]; omega
  rw [e4]
  have e5 : (a :: b :: q).drop (2 + b.toNat) = q.drop b.toNat := by rw [Nat.add_comm]; rfl
  rw [e5]
  simp
theorem zfa : ∀ {n : Nat} {s : List UInt8} {cs : List Col} {r : List UInt8}, xG n s = some (cs, r) -> cs.length = n /\ cs.flatMap jA ++ r = s
 | 0, s, cs, r, h => by
  injection h with h; injection h with h1 h2; subst h1 h2; exact ⟨rfl, rfl⟩
 | n + 1, s, cs, r, h => by
  unfold xG at h
  split at h
  ·cases h
  rename_i c q hc
  split at h
  ·cases h
  rename_i cs' r' hr
  injection h with h; injection h with h1 h2; subst h1 h2
  obtain ⟨h3, h4⟩ := zfa hr
  refine ⟨by simp [h3], ?_⟩
  rw [List.flatMap_cons, List.append_assoc, h4]
  exact zjV hc
theorem zjW {s : List UInt8} {cs : List Col} {r : List UInt8} (h : xH s = some (cs, r)) : xr cs = 0 /\ xd cs ++ r = s := by
 cases s with
 | nil => cases h
 | cons b q =>
  rw [xH] at h
  cases hr : xG b.toNat q with
  | none => rw [hr] at h; cases h
  | some p =>
   obtain ⟨cs', r'⟩ := p
   rw [hr] at h
   simp only at h
   by_cases hc : xr cs' = 0
   ·rw [if_pos hc] at h
    injection h with h; injection h with h1 h2; subst h1 h2
    obtain ⟨h3, h4⟩ := zfa hr
    refine ⟨hc, ?_⟩
    unfold xd
    rw [h3, List.cons_append, h4]
    congr 1
    apply UInt8.toNat_inj.1
    have := b.toNat_lt
    rw [UInt8.toNat_ofNat']; omega
   ·rw [if_neg hc] at h
    cases h
theorem zbq {cs : List Col} (h : xr cs = 0) : 1 <= (xd cs).length /\ (xd cs).length <= 600 := by
 obtain ⟨hlen, _, hok⟩ := zbR h
 have h1 := zac hok
 have := Nat.mul_le_mul_right 34 hlen.2
 simp only [xd, List.length_cons]
 omega
theorem zfz {cs : List Col} (h : jz cs = true) : cs.length <= 20 := by
 unfold jz at h
 rw [Bool.and_eq_true] at h
 exact of_decide_eq_true h.1
end V
/- Writing in place: appends within a row's room, copies. -/
namespace V
open Go Go.RowKit
theorem zay (b o : Nat) : ∀ (vs : List Value) (i : Nat) (w : World), setCells w ⟨b, o, none⟩ i vs = setCells w ⟨b, 0, none⟩ (o + i) vs
 | [], _, _ => rfl
 | v :: r, i, w => by
  simp only [setCells, zz, Nat.zero_add]
  rw [zay b o r (i + 1)]
  rfl
theorem zaz (b o : Nat) : ∀ (vs : List Value) (i : Nat) (w : World), Storable w ⟨b, 0, none⟩ (o + i) vs -> Storable w ⟨b, o, none⟩ i vs
 | [], _, _, _ => trivial
 | v :: r, i, w, h => by
  simp only [Storable, zz, Nat.zero_add] at h ⊢
  exact ⟨h.1, h.2.1, h.2.2.1, zaz b o r (i + 1) w h.2.2.2⟩
theorem zaA (b : Nat) : ∀ (vs : List Value) (i o : Nat) (w : World) (k : Nat), k ≠ b -> (setCells w ⟨b, o, none⟩ i vs).heap[k]? = w.heap[k]?
 | [], _, _, _, _, _ => rfl
 | v :: r, i, o, w, k, h => by
  simp only [setCells]
  rw [zaA b r (i + 1) o _ k h, Below.heap_setCell _ _ _ _ (by rw [zz]; exact h)]
theorem zbr (b : Nat) : ∀ (vs : List Value) (i o : Nat) (w : World), (setCells w ⟨b, o, none⟩ i vs).heap.size = w.heap.size
 | [], _, _, _ => rfl
 | v :: r, i, o, w => by
  simp only [setCells]
  rw [zbr b r (i + 1) o _]
  simp
theorem zbs (b : Nat) : ∀ (vs : List Value) (i o : Nat) (w : World), (setCells w ⟨b, o, none⟩ i vs).os = w.os /\ (setCells w ⟨b, o, none⟩ i vs).tape = w.tape /\ (setCells w ⟨b, o, none⟩ i vs).output = w.output
 | [], _, _, _ => ⟨rfl, rfl, rfl⟩
 | v :: r, i, o, w => zbs b r (i + 1) o _
theorem zia {w : World} {b o : Nat} {cs vs : List Value} {t : TypeId} (h : Blk w b cs t) (hl : o + vs.length <= cs.length) (hv : ∀ v ∈ vs, v.oneCell' = true) :
  Storable w ⟨b, o, none⟩ 0 vs /\ Blk (setCells w ⟨b, o, none⟩ 0 vs) b (cs.take o ++ vs ++ cs.drop (o + vs.length)) t /\ w.grownBy (setCells w ⟨b, o, none⟩ 0 vs) (some b) := by
 refine ⟨zaz b o vs 0 w (h.qp vs o hl hv), ?_, ?_⟩
 ·rw [zay]
  exact Blk.vM vs o w cs h hl
 ·obtain ⟨m1, m2, m3⟩ := zbs b vs 0 o w
  exact ⟨m1, m2, m3, by rw [zbr]; exact Nat.le_refl _, fun k hk hne => zaA b vs 0 o w k (fun e => hne (by rw [e]))⟩
section
variable {P : Program} {t e : TypeId} {z : Value} {bytes : Nat}
theorem ziQ {w : World} {b o n c m d : Nat} {ty t2 : TypeId} {X : Option Addr} {cs ys : List Value} {K : SLC -> WP} (hE : Elem P t e z bytes) (hb : Blk w b cs t2) (ho : o + c <= cs.length) (hn : n + m <= c)
  (hx : Sl w X m ys) (hys : ∀ y ∈ ys, y.oneCell' = true)
  (hK : ∀ w', Blk w' b (cs.take (o + n) ++ ys ++ cs.drop (o + n + m)) t2 -> w.grownBy w' (some b) -> K (some ⟨b, o, none⟩, n + m, c) w') :
  zw P (Builtin.append_ #[t, t] ty #[.slice (some ⟨b, o, none⟩) n c, .slice X m d]) .slc K w := by
 obtain ⟨ht, hi, hz⟩ := hE
 obtain ⟨i, hi, hii⟩ := Option.map_eq_some_iff.1 hi
 simp only [Prod.mk.injEq] at hii
 obtain ⟨hz0, hz1, hz2⟩ := hii
 have hl := hx.len
 obtain ⟨hst, hbl, hg⟩ := zia hb (o := o + n) (vs := ys) (by omega) hys
 rw [hl] at hbl
 cases X with
 | none =>
  obtain rfl : m = 0 := by
   rcases Nat.eq_zero_or_pos m with h | h
   ·exact h
   ·obtain ⟨a, h1, _⟩ := hx.2.2 h; cases h1
  obtain rfl : ys = [] := List.eq_nil_of_length_eq_zero hl
  refine ⟨(some ⟨b, o, none⟩, n, c), w, ?_, hK w (by simpa using hb) (xy _ _)⟩
  simp [Builtin.append_, run_underlying ht, sizeOf, typeInfo, hi, Builtin.lenOf, Builtin.firstCells, show n <= c by omega, storeCells]
  rfl
 | some a =>
  have hcells : ∀ j u, ys[j]? = some u -> w.cell? (a.add j) = some u := (fun j u hj => by
    rcases Nat.eq_zero_or_pos m with h | h
    ·have : j < ys.length := (List.getElem?_eq_some_iff.1 hj).1
     omega
    ·obtain ⟨a', h1, h2⟩ := hx.2.2 h
     cases h1
     exact h2 j u hj)
  have hload := run_loadCells_list (P := P) w a ys hcells
  have hstore := ve (P := P) hst
  refine ⟨(some ⟨b, o, none⟩, n + m, c), _, ?_, hK _ hbl hg⟩
  rw [hl] at hload
  simp [Builtin.append_, run_underlying ht, sizeOf, typeInfo, hi, hz1, Builtin.lenOf, Builtin.firstCells, hn, hload, zz, hstore]
  rfl
theorem zbt {w : World} {b o n c : Nat} {ty t2 : TypeId} {cs ys : List Value} {K : SLC -> WP} (hE : Elem P t e z bytes) (hb : Blk w b cs t2) (ho : o + c <= cs.length) (hn : n + ys.length <= c) (hc : c <= 9223372036854775807)
  (hys : ∀ y ∈ ys, y.oneCell' = true)
  (hK : ∀ w', Blk w' b (cs.take (o + n) ++ ys ++ cs.drop (o + n + ys.length)) t2 -> w.grownBy w' (some b) -> K (some ⟨b, o, none⟩, n + ys.length, c) w') :
  (zi (.cells ys.toArray e) fun r => zw P (Builtin.append_ #[t, t] ty #[.slice (some ⟨b, o, none⟩) n c, .slice (some (aD r)) ys.length ys.length]) .slc K) w := by
 refine zr fun r w1 hr he _ _ => ?_
 refine ziQ hE (hb.ext he) ho hn (Sl.xJ hr rfl (by omega)) hys fun w' hb' hg => hK w' hb' ?_
 exact xa (xL he _) hg (fun j hj => .inl hj)
theorem zl8 {w : World} {b o n c : Nat} {ty u t2 : TypeId} {cs : List Value} {s : ByteArray} {K : Int -> WP} (hE : Elem P t e z bytes) (hb : Blk w b cs t2) (ho : o + n <= cs.length)
  (hK : ∀ w', Blk w' b (cs.take o ++ bV ((B s).take n) ++ cs.drop (o + min (B s).length n)) t2 -> w.grownBy w' (some b) -> K ((min (B s).length n : Nat) : Int) w') :
  zw P (Builtin.copy_ #[t, u] ty #[.slice (some ⟨b, o, none⟩) n c, .string s]) (.int .i64) K w := by
 obtain ⟨ht, hi, hz⟩ := hE
 obtain ⟨i, hi, hii⟩ := Option.map_eq_some_iff.1 hi
 simp only [Prod.mk.injEq] at hii
 obtain ⟨hz0, hz1, hz2⟩ := hii
 have hsz := yg s
 have hlen : (bV ((B s).take n)).length = min (B s).length n := by rw [yP, List.length_take, Nat.min_comm]
 obtain ⟨hst, hbl, hg⟩ := zia hb (o := o) (vs := bV ((B s).take n)) (by rw [hlen]; omega) (zat _)
 rw [hlen] at hbl
 have hstore := ve (P := P) hst
 have e1 : List.take (if s.size <= n then s.size else n) (List.map (fun b => Value.int IntKind.u8 (b.toNat : Int)) s.data.toList) = bV ((B s).take n) := by
  rw [<- Nat.min_def, hsz]
  show List.take _ (bV (B s)) = _
  rw [qU]
  congr 1
  rcases Nat.le_total (B s).length n with h | h
  ·rw [Nat.min_eq_left h, List.take_length, List.take_of_length_le h]
  ·rw [Nat.min_eq_right h]
 refine ⟨((min (B s).length n : Nat) : Int), _, ?_, hK _ hbl hg⟩
 rw [<- hsz]
 simp [Builtin.copy_, run_underlying ht, sizeOf, typeInfo, hi, Builtin.lenOf, Builtin.firstCells, hstore, goInt, Nat.min_def, Lf.val]
 rw [e1, hstore]
 rfl
end
theorem zd4 (pre new : List UInt8) (k : Nat) (h : new.length <= k) : (pre ++ List.replicate k (0 : UInt8)).take pre.length ++ new ++ (pre ++ List.replicate k (0 : UInt8)).drop (pre.length + new.length) = (pre ++ new) ++ List.replicate (k - new.length) 0 := by
 rw [List.take_left, List.drop_append]
 simp [List.drop_of_length_le]
end V
/- Geometries, rooms: contracts. -/
namespace V
open Go Go.Proofs Go.RowKit
def zT (size blocks : Int) : Bool := decide (128 <= size /\ size <= 4096 /\ Int.tmod size 64 = 0 /\ 8 <= blocks /\ blocks <= 4096)
theorem qg (w : World) (size blocks : Int) : Calls Tryz.prog 111 #[.agg #[.int .i64 size, .int .i64 blocks]] w (Ret fun v w' => v = .int .i64 (if zT size blocks then 0 else 2) /\ Ext w w') := by
 apply zk2
 unfold S111
 apply yz
 have hb : Blk (w.alloc (.cells #[(.int .i64 size), (.int .i64 blocks)] 72)) w.heap.size [(.int .i64 size), (.int .i64 blocks)] 72 := Blk.new w _ _
 have he : Ext w (w.alloc (.cells #[(.int .i64 size), (.int .i64 blocks)] 72)) := (Ext.refl w).alloc _
 generalize w.alloc (.cells #[(.int .i64 size), (.int .i64 blocks)] 72) = w1 at hb he ⊢
 have bad : ¬ (128 <= size /\ size <= 4096 /\ Int.tmod size 64 = 0 /\ 8 <= blocks /\ blocks <= 4096) -> (Value.int .i64 2 = .int .i64 (if zT size blocks then 0 else 2) /\ Ext w w1) := fun h => by
  unfold zT
  rw [decide_eq_false h]
  exact ⟨rfl, he⟩
 refine zo hb (by rfl) ?_
 refine zg (fun h => bad (by have := of_decide_eq_true h; omega)) (fun h1 => ?_)
 refine zo hb (by rfl) ?_
 refine zg (fun h => bad (by have := of_decide_eq_true h; omega)) (fun h2 => ?_)
 refine zo hb (by rfl) ?_
 refine zg (fun h => bad (by rw [bne_iff_ne] at h; exact fun hh => h hh.2.2.1)) (fun h3 => ?_)
 refine yV (o := 1) hb (by rfl) ?_
 refine zg (fun h => bad (by have := of_decide_eq_true h; omega)) (fun h4 => ?_)
 refine yV (o := 1) hb (by rfl) ?_
 refine zg (fun h => bad (by have := of_decide_eq_true h; omega)) (fun h5 => ?_)
 have h1 := of_decide_eq_false h1
 have h2 := of_decide_eq_false h2
 have h3 : Int.tmod size 64 = 0 := by simpa using h3
 have h4 := of_decide_eq_false h4
 have h5 := of_decide_eq_false h5
 unfold zT
 rw [decide_eq_true ⟨by omega, by omega, h3, by omega, by omega⟩]
 exact ⟨rfl, he⟩
def zC (size : Int) : Int := if zT size 8 then size - 16 else 0
theorem jf (w : World) (size : Int) : Calls Tryz.prog 121 #[.int .i64 size] w (Ret fun v w' => v = .int .i64 (zC size) /\ Ext w w') := by
 apply zla
 unfold S121 zC
 refine zb (qg w size 8) ?_
 rintro _ w1 ⟨rfl, he⟩
 refine ⟨_, rfl, ?_⟩
 cases hok : zT size 8 with
 | false => exact zf (by rfl) ⟨rfl, he⟩
 | true =>
  refine zc (by rfl) ⟨?_, he⟩
  unfold zT at hok
  have hok := of_decide_eq_true hok
  rw [wrap_i64 (x := size - 12) (by omega) (by omega), wrap_i64 (by omega) (by omega), if_pos rfl]
  congr 1
  omega
end V
/- Iterators: slices.Chunk's and slices.Backward's inner functions, told of any program. -/
namespace V
open Go
def zjX (P : Program) (z : Nat) (x0 : Value) (a1 : Addr) (a2 : Addr) (K : Value -> WP) : WP :=
 zD (Int × Unit) ((0 : Int), ()) fun (y2 : Int × Unit) (I1 : (Int × Unit) -> WP) =>
 ldW .slc a1 fun (u3 : SLC) =>
 za (decide (y2.1 < ((u3.2.1 : Nat) : Int))) (zA <|
 ldW (.int .i64) a2 fun (u4 : Int) =>
 ldW .slc a1 fun (u5 : SLC) =>
 zd (0 <= y2.1 /\ y2.1 <= ((u5.2.1 : Nat) : Int)) <|
 ldW .slc a1 fun (u6 : SLC) =>
 zd (0 <= y2.1 /\ y2.1 <= (IntKind.wrap .i64 (y2.1 + (if (((u5.2.1 - (Int.toNat y2.1)) : Nat) : Int) < u4 then (((u5.2.1 - (Int.toNat y2.1)) : Nat) : Int) else u4))) /\ (IntKind.wrap .i64 (y2.1 + (if (((u5.2.1 - (Int.toNat y2.1)) : Nat) : Int) < u4 then (((u5.2.1 - (Int.toNat y2.1)) : Nat) : Int) else u4))) <= (IntKind.wrap .i64 (y2.1 + (if (((u5.2.1 - (Int.toNat y2.1)) : Nat) : Int) < u4 then (((u5.2.1 - (Int.toNat y2.1)) : Nat) : Int) else u4))) /\ (IntKind.wrap .i64 (y2.1 + (if (((u5.2.1 - (Int.toNat y2.1)) : Nat) : Int) < u4 then (((u5.2.1 - (Int.toNat y2.1)) : Nat) : Int) else u4))) <= ((u6.2.2 : Nat) : Int)) <|
 yy P x0 [(.slice (zm u6.1 (Int.toNat y2.1) (Int.toNat (IntKind.wrap .i64 (y2.1 + (if (((u5.2.1 - (Int.toNat y2.1)) : Nat) : Int) < u4 then (((u5.2.1 - (Int.toNat y2.1)) : Nat) : Int) else u4)))) z) ((Int.toNat (IntKind.wrap .i64 (y2.1 + (if (((u5.2.1 - (Int.toNat y2.1)) : Nat) : Int) < u4 then (((u5.2.1 - (Int.toNat y2.1)) : Nat) : Int) else u4)))) - (Int.toNat y2.1)) ((Int.toNat (IntKind.wrap .i64 (y2.1 + (if (((u5.2.1 - (Int.toNat y2.1)) : Nat) : Int) < u4 then (((u5.2.1 - (Int.toNat y2.1)) : Nat) : Int) else u4)))) - (Int.toNat y2.1)))] (.one (.one .bool)) fun (u7 : Bool) =>
 za (!u7) (K (.tuple #[])) <|
 ldW (.int .i64) a2 fun (u8 : Int) => I1 ((IntKind.wrap .i64 (y2.1 + u8)), ())) <| K (.tuple #[])
def yl (n k : Nat) : Nat := (n + k - 1) / k
theorem ux {n k i : Nat} (hk : 1 <= k) : i < yl n k ↔ i * k < n := by
 unfold yl
 rw [Nat.lt_iff_add_one_le, Nat.le_div_iff_mul_le (by omega), Nat.succ_mul]
 omega
def qm (z : Nat) (A : Option Addr) (n k : Nat) : List (List Value) := (List.range (yl n k)).map fun i => [.slice (zm A (i * k) (i * k + min k (n - i * k)) z) (min k (n - i * k)) (min k (n - i * k))]
theorem xA (z : Nat) (A : Option Addr) (n k : Nat) : (qm z A n k).length = yl n k := by simp [qm]
theorem zaZ {P : Program} {z r1 r2 l n c k : Nat} {A : Option Addr} {t1 t2 : TypeId} {J : Nat -> WP} {w : World} (hk : 1 <= k) (hnc : n <= c) (hnk : n + k <= 9223372036854775807) (h0 : J 0 w)
  (hR : ∀ i w', J i w' -> Blk w' r1 [.slice A n c] t1 /\ Blk w' r2 [.int .i64 (k : Int)] t2) (hd : ∀ i w', J i w' -> J i w'.drew)
  (hY : ∀ i w' (h : i < (qm z A n k).length), J i w' -> jk P l (qm z A n k)[i] w' fun v w'' => v = .bool true /\ J (i + 1) w'') :
  zjX P z (.func (.yield l) #[] #[]) ⟨r1, 0, none⟩ ⟨r2, 0, none⟩ (fun _ w' => J (qm z A n k).length w') w := by
 unfold zjX
 rw [xA]
 refine zx (fun y w' => ∃ i : Nat, i <= yl n k /\ y = (((i * k : Nat) : Int), ()) /\ J i w') (fun y => ((n : Int) + k - y.1).toNat) ⟨0, by omega, by simp, h0⟩ ?_
 rintro _ w' ⟨i, hi, rfl, hJ⟩
 dsimp only
 obtain ⟨h1, h2⟩ := hR i w' hJ
 refine zo (x := (A, n, c)) h1 (by rfl) ?_
 dsimp only
 by_cases hlt : i * k < n
 ·refine zf (decide_eq_true (by omega)) ?_
  have hJ' := hd i w' hJ
  obtain ⟨h1, h2⟩ := hR i _ hJ'
  show (ldW _ _ _) w'.drew
  generalize w'.drew = w1 at hJ' h1 h2 ⊢
  refine zo (x := (k : Int)) h2 (by rfl) ?_
  refine zo (x := (A, n, c)) h1 (by rfl) ?_
  dsimp only
  refine ⟨⟨by omega, by omega⟩, ?_⟩
  refine zo (x := (A, n, c)) h1 (by rfl) ?_
  dsimp only
  have e : IntKind.wrap .i64 (((i * k : Nat) : Int) + (if (((n - Int.toNat ((i * k : Nat) : Int)) : Nat) : Int) < (k : Int) then (((n - Int.toNat ((i * k : Nat) : Int)) : Nat) : Int) else (k : Int))) = ((i * k + min k (n - i * k) : Nat) : Int) := by
   rw [Int.toNat_natCast]
   generalize i * k = m at hlt ⊢
   split <;> rw [wrap_i64 (by omega) (by omega)] <;> omega
  rw [e]
  refine ⟨⟨by omega, by omega, by omega, by omega⟩, ?_⟩
  rw [Int.toNat_natCast, Int.toNat_natCast, Nat.add_sub_cancel_left]
  have hlt' : i < (qm z A n k).length := by rw [xA]; exact (ux hk).2 hlt
  refine .inr ⟨l, rfl, ?_⟩
  have hy := hY i w1 hlt' hJ'
  have el : (qm z A n k)[i] = [.slice (zm A (i * k) (i * k + min k (n - i * k)) z) (min k (n - i * k)) (min k (n - i * k))] := by simp [qm]
  rw [el] at hy
  obtain ⟨fn, tmps, asg, bd, hy1, hy2⟩ := hy
  refine ⟨fn, tmps, asg, bd, hy1, RoundIn.mono hy2 ?_⟩
  rintro (v | x | _) w2 hv
  ·obtain ⟨rfl, hJ2⟩ := hv
   refine ⟨true, rfl, ?_⟩
   refine zc (by rfl) ?_
   obtain ⟨h1, h2⟩ := hR _ _ hJ2
   refine zo (x := (k : Int)) h2 (by rfl) ?_
   rw [wrap_i64 (by omega) (by omega)]
   refine ⟨⟨i + 1, by rw [xA] at hlt'; omega, by rw [Nat.succ_mul]; rfl, hJ2⟩, ?_⟩
   generalize i * k = m at hlt ⊢
   omega
  ·exact hv
  ·exact hv
 ·refine zc (decide_eq_false (by omega)) ?_
  have : i = yl n k := by
   rcases Nat.lt_or_ge i (yl n k) with h | h
   ·exact absurd ((ux hk).1 h) hlt
   ·omega
  subst this
  exact hJ
def zmP (P : Program) (x0 : Value) (a1 : Addr) (K : Value -> WP) : WP :=
 ldW .slc a1 fun (u1 : SLC) =>
 zD (Int × Unit) ((IntKind.wrap .i64 (((u1.2.1 : Nat) : Int) - (1 : Int))), ()) fun (y3 : Int × Unit) (I2 : (Int × Unit) -> WP) =>
 za (decide (y3.1 >= (0 : Int))) (ldW .slc a1 fun (u4 : SLC) =>
 zd (0 <= y3.1 /\ y3.1 < ((u4.2.1 : Nat) : Int)) <|
 zh u4.1 fun (p5 : Addr) =>
 ldW (.int .u8) (p5.add (Int.toNat y3.1 * 1)) fun (u6 : Int) =>
 yy P x0 [(.int .i64 y3.1), (.int .u8 u6)] (.one (.one .bool)) fun (u7 : Bool) =>
 za (!u7) (K (.tuple #[])) <| I2 ((IntKind.wrap .i64 (y3.1 - (1 : Int))), ())) <| K (.tuple #[])
def vt (bs : List UInt8) : List (List Value) := (List.range bs.length).map fun i => [.int .i64 ((bs.length - 1 - i : Nat) : Int), .int .u8 ((bs.getD (bs.length - 1 - i) 0).toNat : Int)]
theorem kO (bs : List UInt8) : (vt bs).length = bs.length := by simp [vt]
theorem zjY {P : Program} {r1 l n c : Nat} {A : Option Addr} {bs : List UInt8} {t1 : TypeId} {J : Nat -> WP} {w : World} (h0 : J 0 w)
  (hR : ∀ i w', J i w' -> Blk w' r1 [.slice A n c] t1 /\ Sl w' A n (bV bs))
  (hY : ∀ i w' (h : i < (vt bs).length), J i w' -> jk P l (vt bs)[i] w' fun v w'' => v = .bool true /\ J (i + 1) w'') :
  zmP P (.func (.yield l) #[] #[]) ⟨r1, 0, none⟩ (fun _ w' => J (vt bs).length w') w := by
 unfold zmP
 rw [kO]
 obtain ⟨h1, h2⟩ := hR 0 w h0
 have hl := h2.blen
 have hle := h2.le
 refine zo (x := (A, n, c)) h1 (by rfl) ?_
 dsimp only
 rw [wrap_i64 (by omega) (by omega)]
 refine zx (fun y w' => ∃ i : Nat, i <= n /\ y = ((n : Int) - 1 - i, ()) /\ J i w') (fun y => (y.1 + 1).toNat) ⟨0, by omega, by simp, h0⟩ ?_
 rintro _ w' ⟨i, hi, rfl, hJ⟩
 dsimp only
 by_cases hlt : i < n
 ·refine zf (decide_eq_true (by omega)) ?_
  obtain ⟨h1, h2⟩ := hR i w' hJ
  refine zo (x := (A, n, c)) h1 (by rfl) ?_
  dsimp only
  refine zf8 h2 (by omega) (by omega) ?_
  have hlt' : i < (vt bs).length := by rw [kO]; omega
  refine .inr ⟨l, rfl, ?_⟩
  have hy := hY i w' hlt' hJ
  have el : (vt bs)[i] = [.int .i64 ((n : Int) - 1 - i), .int .u8 ((bs.getD (Int.toNat ((n : Int) - 1 - i)) 0).toNat : Int)] := by
   have e1 : ((bs.length - 1 - i : Nat) : Int) = (n : Int) - 1 - i := by omega
   have e2 : Int.toNat ((n : Int) - 1 - i) = bs.length - 1 - i := by omega
   rw [e2, <- e1]
   simp [vt]
  rw [el] at hy
  obtain ⟨fn, tmps, asg, bd, hy1, hy2⟩ := hy
  refine ⟨fn, tmps, asg, bd, hy1, RoundIn.mono hy2 ?_⟩
  rintro (v | x | _) w2 hv
  ·obtain ⟨rfl, hJ2⟩ := hv
   refine ⟨true, rfl, ?_⟩
   refine zc (by rfl) ?_
   rw [wrap_i64 (by omega) (by omega)]
   exact ⟨⟨i + 1, by omega, by congr 1; omega, hJ2⟩, by omega⟩
  ·exact hv
  ·exact hv
 ·refine zc (decide_eq_false (by omega)) ?_
  obtain rfl : i = bs.length := by omega
  exact hJ
end V
/- Contracts of slices.Chunk, slices.Backward, octet.Of, octet.Put. -/
namespace V
open Go Go.Proofs Go.RowKit
def zct (r1 r2 : Nat) (A : Option Addr) (n c k : Nat) : WP := fun w => Blk w r1 [.slice A n c] 85 /\ Blk w r2 [.int .i64 (k : Int)] 3
theorem zgk {w : World} {A : Option Addr} {n c k : Nat} (hk : 1 <= k) (hnc : n <= c) (hnk : n + k <= 9223372036854775807) : Calls Tryz.prog 222 #[.slice A n c, .int .i64 (k : Int)] w (Ret fun v w' => Iter Tryz.prog v (qm 1 A n k) (zct w.heap.size (w.heap.size + 1) A n c k) /\ zct w.heap.size (w.heap.size + 1) A n c k w' /\ w'.heap.size = w.heap.size + 2 /\ Ext w w') := by
 apply zl3
 unfold S222
 apply yz
 have h1 := Blk.new w #[.slice A n c] 85
 have he := (Ext.refl w).alloc (.cells #[.slice A n c] 85)
 have hs : (w.alloc (.cells #[.slice A n c] 85)).heap.size = w.heap.size + 1 := by simp
 generalize w.alloc (.cells #[.slice A n c] 85) = w1 at h1 he hs ⊢
 apply yz
 have h2 := Blk.new w1 #[.int .i64 (k : Int)] 3
 have h1 := h1.alloc (.cells #[.int .i64 (k : Int)] 3)
 have he := he.alloc (.cells #[.int .i64 (k : Int)] 3)
 have hs2 : (w1.alloc (.cells #[.int .i64 (k : Int)] 3)).heap.size = w.heap.size + 2 := by simp [hs]
 generalize w1.alloc (.cells #[.int .i64 (k : Int)] 3) = w2 at h1 h2 he hs2 ⊢
 rw [hs] at h2 ⊢
 refine zo (x := (k : Int)) h2 (by rfl) ?_
 refine zc (decide_eq_false (by omega)) ?_
 refine ⟨⟨_, _, rfl, by kernel_rfl, fun l J w' hJ hR hd hY => ?_⟩, ⟨h1, h2⟩, hs2, he⟩
 apply zl5
 exact zaZ (P := Tryz.prog) hk hnc hnk hJ hR hd hY
def za0 (r1 r2 : Nat) (A : Option Addr) (n c k : Nat) : WP := fun w => Blk w r1 [.slice A n c] 191 /\ Blk w r2 [.int .i64 (k : Int)] 3
theorem zfA {w : World} {A : Option Addr} {n c k : Nat} (hk : 1 <= k) (hnc : n <= c) (hnk : n + k <= 9223372036854775807) : Calls Tryz.prog 181 #[.slice A n c, .int .i64 (k : Int)] w (Ret fun v w' => Iter Tryz.prog v (qm 1 A n k) (za0 w.heap.size (w.heap.size + 1) A n c k) /\ za0 w.heap.size (w.heap.size + 1) A n c k w' /\ w'.heap.size = w.heap.size + 2 /\ Ext w w') := by
 apply zlL
 unfold S181
 apply yz
 have h1 := Blk.new w #[.slice A n c] 191
 have he := (Ext.refl w).alloc (.cells #[.slice A n c] 191)
 have hs : (w.alloc (.cells #[.slice A n c] 191)).heap.size = w.heap.size + 1 := by simp
 generalize w.alloc (.cells #[.slice A n c] 191) = w1 at h1 he hs ⊢
 apply yz
 have h2 := Blk.new w1 #[.int .i64 (k : Int)] 3
 have h1 := h1.alloc (.cells #[.int .i64 (k : Int)] 3)
 have he := he.alloc (.cells #[.int .i64 (k : Int)] 3)
 have hs2 : (w1.alloc (.cells #[.int .i64 (k : Int)] 3)).heap.size = w.heap.size + 2 := by simp [hs]
 generalize w1.alloc (.cells #[.int .i64 (k : Int)] 3) = w2 at h1 h2 he hs2 ⊢
 rw [hs] at h2 ⊢
 refine zo (x := (k : Int)) h2 (by rfl) ?_
 refine zc (decide_eq_false (by omega)) ?_
 refine ⟨⟨_, _, rfl, by kernel_rfl, fun l J w' hJ hR hd hY => ?_⟩, ⟨h1, h2⟩, hs2, he⟩
 apply zlY
 exact zaZ (P := Tryz.prog) hk hnc hnk hJ hR hd hY
def ziR (r1 : Nat) (A : Option Addr) (n c : Nat) (bs : List UInt8) : WP := fun w => Blk w r1 [.slice A n c] 85 /\ Sl w A n (bV bs)
theorem ziS {w : World} {A : Option Addr} {n c : Nat} {bs : List UInt8} (h : Sl w A n (bV bs)) : Calls Tryz.prog 156 #[.slice A n c] w (Ret fun v w' => Iter Tryz.prog v (vt bs) (ziR w.heap.size A n c bs) /\ ziR w.heap.size A n c bs w' /\ w'.heap.size = w.heap.size + 1 /\ Ext w w') := by
 apply zls
 unfold S156
 apply yz
 have he := (Ext.refl w).alloc (.cells #[.slice A n c] 85)
 refine ⟨⟨_, _, rfl, by kernel_rfl, fun l J w' hJ hR hd hY => ?_⟩, ⟨Blk.new w #[.slice A n c] 85, h.ext he⟩, by simp, he⟩
 apply zlN
 exact zjY (P := Tryz.prog) hJ hR hY
theorem xe {w : World} {B : Nat} {A : Option Addr} {n c : Nat} {bs : List UInt8} {v k : Nat} (h : Own 5 w B A n c (bV bs)) (hB : B <= w.heap.size) (hn : n <= 140737488355000) (hv : v < 18446744073709551616) (hk1 : 1 <= k) (hk : k <= 8) :
  Calls Tryz.prog 42 #[.slice A n c, .int .u64 (v : Int), .int .i64 (k : Int)] w (Ret fun r w' => ∃ x : SLC, r = .slice x.1 x.2.1 x.2.2 /\ Own 5 w' B x.1 x.2.1 x.2.2 (bV (bs ++ le k v)) /\ Grew w w' (orow A) (orow x.1)) := by
 apply zh8
 unfold S42
 refine zc (decide_eq_false (by omega)) ?_
 refine zc (decide_eq_false (by omega)) ?_
 refine zx (fun x w' => ∃ (A' : Option Addr) (c' i : Nat), i <= k /\ x = ((A', n + i, c'), (i : Int), ()) /\ Own 5 w' B A' (n + i) c' (bV (bs ++ le i v)) /\ Grew w w' (orow A) (orow A')) (fun x => (k - x.2.1).toNat)
  ⟨A, c, 0, by omega, rfl, by simpa [le] using h, Grew.refl _ _⟩ ?_
 rintro _ w' ⟨A', c', i, hi, rfl, ho, hg⟩
 dsimp only
 have hB' : B <= w'.heap.size := Nat.le_trans hB hg.grown.size
 by_cases hlt : i < k
 ·refine zf (decide_eq_true (by omega)) ?_
  have e1 : IntKind.wrap .i64 ((8 : Int) * (i : Int)) = ((8 * i : Nat) : Int) := by
   rw [wrap_i64 (by omega) (by omega)]
   omega
  rw [e1]
  refine ⟨by omega, ?_⟩
  rw [zgc .u64 v (8 * i) (by simp [IntKind.bits]; omega), qe, Nat.pow_mul, show (2 : Nat) ^ 8 = 256 from rfl]
  have hone : ∀ y ∈ [Value.int .u8 ((UInt8.ofNat (v / 256 ^ i)).toNat : Int)], y.oneCell' = true := by
   intro y hy
   simp only [List.mem_singleton] at hy
   subst hy
   rfl
  refine zdV (ys := [Value.int .u8 ((UInt8.ofNat (v / 256 ^ i)).toNat : Int)]) qq ho hB' hone (by simp; omega) (by omega) ?_
  intro A2 c2 w2 ho2 hg2
  refine ⟨⟨A2, c2, i + 1, by omega, ?_, ?_, ?_⟩, ?_⟩
  ·rw [wrap_i64 (by omega) (by omega)]; rfl
  ·have e2 : bV (bs ++ le (i + 1) v) = bV (bs ++ le i v) ++ [Value.int .u8 ((UInt8.ofNat (v / 256 ^ i)).toNat : Int)] := by
    rw [le_succ, <- List.append_assoc, xc (bs ++ le i v)]
    rfl
   rw [e2]
   exact ho2
  ·exact hg.step hg2
  ·rw [wrap_i64 (by omega) (by omega)]; omega
 ·obtain rfl : i = k := by omega
  refine zc (decide_eq_false (by omega)) ?_
  exact ⟨(A', n + i, c'), rfl, ho, hg⟩
theorem zl9 {bs : List UInt8} {j : Nat} (h : j < bs.length) : lev (bs.drop j) = (bs.getD j 0).toNat + 256 * lev (bs.drop (j + 1)) := by
 rw [List.drop_eq_getElem_cons h]
 simp [lev, h]
theorem qJ {w : World} {A : Option Addr} {n c : Nat} {bs : List UInt8} (h : Sl w A n (bV bs)) (hn : n <= 8) : Calls Tryz.prog 107 #[.slice A n c] w (Ret fun v w' => v = .int .u64 (lev bs : Int) /\ Ext w w') := by
 apply zkY
 unfold S107
 have hl := h.blen
 apply yz
 have hr := Blk.new w #[.int .u64 (0 : Int)] 42
 have he := (Ext.refl w).alloc (.cells #[.int .u64 (0 : Int)] 42)
 generalize w.alloc (.cells #[.int .u64 (0 : Int)] 42) = w1 at hr he ⊢
 generalize hrr : w.heap.size = r at hr ⊢
 refine zc (decide_eq_false (by omega)) ?_
 refine zb (ziS (c := c) (h.ext he)) ?_
 rintro v w2 ⟨hit, hRb, hs2, he2⟩
 refine ⟨v, rfl, ?_⟩
 have hr2 := hr.ext he2
 have hrlt := hr.lt
 have he02 := he.trans he2
 have hsl : ∀ w', Ext w w' -> Sl w' A n (bV bs) := fun w' e => h.ext e
 refine zaw (R := ziR w1.heap.size A n c bs) (fun i w' => Ext w w' /\ Blk w' w1.heap.size [.slice A n c] 85 /\ Blk w' r [.int .u64 (lev (bs.drop (n - i)) : Int)] 42) hit (fun i w' hI => ⟨hI.2.1, hsl _ hI.1⟩) (fun i w' hI => ⟨hI.1.drew, hI.2.1, hI.2.2⟩) ?_ ?_ ?_ ?_
 ·rintro i w' w'' hsb ⟨h1, h2, h3⟩
  have hge : w.heap.size <= w2.heap.size := he02.size
  refine ⟨?_, ?_, ?_⟩
  ·exact ⟨hsb.1.trans h1.os, hsb.2.1.trans h1.tape, hsb.2.2.1.trans h1.output, by have := h1.size; have := hsb.2.2.2.1; omega, fun k hk => (hsb.2.2.2.2 k (by omega) (by omega)).trans (h1.block k hk)⟩
  ·exact (hsb.2.2.2.2 _ (by omega) (by omega)).trans h2
  ·exact (hsb.2.2.2.2 _ (by omega) (by omega)).trans h3
 ·intro o
  refine ⟨(he02.alloc _).alloc _, (hRb.1.alloc _).alloc _, ?_⟩
  have e : bs.drop (n - 0) = [] := List.drop_of_length_le (by omega)
  rw [e]
  exact (hr2.alloc _).alloc _
 ·intro i hi w' N jump hI hsz hN
  rw [kO] at hi
  refine ⟨((bs.length - 1 - i : Nat), ((bs.getD (bs.length - 1 - i) 0).toNat : Int), ()), by simp [vt], ?_⟩
  obtain ⟨h1, h2, h3⟩ := hI
  dsimp only
  refine zo (x := (lev (bs.drop (n - i)) : Int)) h3 (by rfl) ?_
  refine zO h3 (by simp) ?_
  have hb := (bs.getD (bs.length - 1 - i) 0).toNat_lt
  have hlv := jw (bs.drop (n - i))
  have hlen : (bs.drop (n - i)).length = i := by rw [List.length_drop]; omega
  rw [hlen] at hlv
  have hpow : 256 ^ i * 256 <= 18446744073709551616 := by
   rw [show 256 ^ i * 256 = 256 ^ (i + 1) from rfl, show 18446744073709551616 = 256 ^ 8 from rfl]
   exact Nat.pow_le_pow_right (by omega) (by omega)
  have e1 : ior .u64 (ishl .u64 (lev (bs.drop (n - i)) : Int) (8 : Int)) (IntKind.wrap .u64 ((bs.getD (bs.length - 1 - i) 0).toNat : Int)) = (lev (bs.drop (n - (i + 1))) : Int) := by
   rw [show (8 : Int) = ((8 : Nat) : Int) from rfl, zy (by omega), zkU (k := .u64) rfl _ 8 (by simp [IntKind.bits])]
   rw [Nat.mod_eq_of_lt (show lev (bs.drop (n - i)) * 2 ^ 8 < 2 ^ IntKind.bits .u64 by show _ < 18446744073709551616; omega)]
   rw [zh5 (k := .u64) rfl (show lev (bs.drop (n - i)) * 2 ^ 8 < 2 ^ IntKind.bits .u64 by show _ < 18446744073709551616; omega) (show _ < 18446744073709551616 by omega)]
   rw [Nat.mul_comm, <- Nat.two_pow_add_eq_or_of_lt (by omega)]
   have e2 : n - (i + 1) = bs.length - 1 - i := by omega
   rw [e2, zl9 (j := bs.length - 1 - i) (by omega), show bs.length - 1 - i + 1 = n - i by omega]
   congr 1
   omega
  rw [e1]
  have hset := h3.set 0 (.int .u64 (lev (bs.drop (n - (i + 1))) : Int))
  refine hN _ ⟨h1.set (by simp only; omega) _, h2.other (by simp only; omega) _, hset⟩ (by simp) (fun k hk => ?_)
  exact Below.heap_setCell _ _ _ _ (by simp only; omega)
 ·intro w' hI hsz hd
  obtain ⟨h1, h2, h3⟩ := hI
  rw [kO] at h3
  have e : bs.drop (n - bs.length) = bs := by rw [show n - bs.length = 0 by omega]; rfl
  rw [e] at h3
  show (ldW _ _ _) w'
  refine zo (x := (lev bs : Int)) h3 (by rfl) ?_
  refine zO h3 (by simp) ?_
  have hset := h3.set 0 (.int .u64 (lev bs : Int))
  refine jn (by rw [Below.heap_setCell _ _ _ _ (by simp only; omega)]; exact hd) ?_
  show (ldW _ _ _) _
  refine zo (x := (lev bs : Int)) (show Blk _ r [.int .u64 (lev bs : Int)] 42 from ?_) (by rfl) ?_
  ·exact (zL (by omega)).trans hset
  ·exact ⟨rfl, (h1.set (by simp only; omega) _).yr (by have := he02.size; omega) _⟩
end V
/- Plain mathematics of checks (chapter 2): no program in sight. -/
namespace Crc
abbrev W32 := BitVec 32
def poly : W32 := 0x82f63b78#32
def bstep (v : W32) : W32 := (v >>> 1) ^^^ (if v.getLsbD 0 then poly else 0#32)
def bsteps : Nat -> W32 -> W32
 | 0, v => v
 | n + 1, v => bsteps n (bstep v)
def entry (i : Nat) : W32 := bsteps 8 (BitVec.ofNat 32 i)
def table : List W32 := (List.range 256).map entry
def step (t : List W32) (s : W32) (b : UInt8) : W32 := (s >>> 8) ^^^ t.getD ((s.setWidth 8) ^^^ b.toBitVec).toNat 0#32
def upd (t : List W32) (s : W32) (bs : List UInt8) : W32 := bs.foldl (step t) s
def sum (t : List W32) (bs : List UInt8) : W32 := ~~~ (upd t (~~~ 0#32) bs)
def crc (bs : List UInt8) : W32 := sum table bs
theorem bsteps_add (m n : Nat) : ∀ v, bsteps (m + n) v = bsteps n (bsteps m v) := by
 induction m with
 | zero => intro v; simp [bsteps]
 | succ m ih => intro v; rw [Nat.add_right_comm]; simp only [bsteps, ih]
end Crc
/- Bits turned within bytes, and what a check tells of them. It speaks of no program. -/
namespace Crc
open Go.Proofs.YtplgodmmmppmeaaGreat.V (le lev zv uv zjO jw le_succ)
def ob (f : Nat -> Bool) : BitVec 8 := BitVec.ofNat 8 ((f 0).toNat + 2 * (f 1).toNat + 4 * (f 2).toNat + 8 * (f 3).toNat + 16 * (f 4).toNat + 32 * (f 5).toNat + 64 * (f 6).toNat + 128 * (f 7).toNat)
attribute [irreducible] ob
end Crc
/- Contracts of the package crc. -/
namespace V
open Go Go.Proofs Crc
def xB (T : List W32) : List Value := T.map fun t => .int .u32 (t.toNat : Int)
theorem vu (T : List W32) : (xB T).length = T.length := by simp [xB]
theorem zma {T : List W32} {i : Nat} (h : i < T.length) : (xB T)[i]? = some (.int .u32 ((T.getD i 0).toNat : Int)) := by
 simp [xB, h]
theorem zgl {w : World} {T : List W32} {s : W32} {A : Option Addr} {n c : Nat} {bs : List UInt8} (hT : T.length = 256) (h : Sl w A n (bV bs)) :
  Calls Tryz.prog 216 #[.agg (xB T).toArray, .int .u32 (s.toNat : Int), .slice A n c] w (Ret fun v w' => v = .int .u32 ((upd T s bs).toNat : Int) /\ Ext w w') := by
 apply zlZ
 unfold S216
 apply yz
 have hb0 : Blk (w.alloc (.cells (xB T).toArray 287)) w.heap.size (xB T) 287 := by simpa using Blk.new w (xB T).toArray _
 have he0 : Ext w (w.alloc (.cells (xB T).toArray 287)) := (Ext.refl w).alloc _
 have hl := h.blen
 have hn := h.le
 generalize w.alloc (.cells (xB T).toArray 287) = w1 at hb0 he0 ⊢
 refine zx (fun x w' => w' = w1 /\ ∃ i : Nat, i <= n /\ x = (((upd T s (bs.take i)).toNat : Int), (i : Int), ())) (fun x => (n - x.2.1).toNat) ⟨rfl, 0, by omega, by simp [upd]⟩ ?_
 rintro _ w' ⟨rfl, i, hi, rfl⟩
 dsimp only
 have h1 := h.ext he0
 by_cases hlt : i < n
 ·refine zf (decide_eq_true (by omega)) ?_
  refine zf8 h1 (by omega) (by omega) ?_
  have hidx : ixor .u8 (IntKind.wrap .u8 ((upd T s (bs.take i)).toNat : Int)) ((bs.getD (Int.toNat (i : Int)) 0).toNat : Int) = ((((upd T s (bs.take i)).setWidth 8) ^^^ (bs.getD i 0).toBitVec).toNat : Int) := by
   rw [zf9, zho, zph]; rfl
  rw [hidx]
  have hx : (((upd T s (bs.take i)).setWidth 8) ^^^ (bs.getD i 0).toBitVec).toNat < 256 := (((upd T s (bs.take i)).setWidth 8) ^^^ (bs.getD i 0).toBitVec).isLt
  refine ⟨⟨by omega, by omega⟩, ?_⟩
  rw [Int.toNat_natCast, Nat.mul_one, zz, Nat.zero_add]
  refine zo hb0 (zma (by omega)) ?_
  rw [ur (by omega) (by omega)]
  refine ⟨⟨rfl, i + 1, by omega, ?_⟩, by omega⟩
  rw [show ishr .u32 ((upd T s (bs.take i)).toNat : Int) (8 : Int) = ((upd T s (bs.take i) >>> 8).toNat : Int) from zjN _ 8 (by omega), zjM]
  have e : upd T s (bs.take (i + 1)) = Crc.step T (upd T s (bs.take i)) (bs.getD i 0) := by
   rw [List.take_succ_eq_append_getElem (by omega)]
   simp only [upd, List.foldl_append, List.foldl_cons, List.foldl_nil]
   rw [List.getD_eq_getElem?_getD, List.getElem?_eq_getElem (by omega)]
   rfl
  rw [e]
  rfl
 ·obtain rfl : i = n := by omega
  refine zc (decide_eq_false (by omega)) ?_
  rw [List.take_of_length_le (by omega)]
  exact ⟨rfl, he0⟩
theorem zhv (w : World) : Calls Tryz.prog 201 #[] w (Ret fun v w' => v = .agg (xB table).toArray /\ Ext w w') := by
 apply zlP
 unfold S201
 apply yz
 have hz : (zdG Tryz.prog 287).toList = List.replicate 256 (.int .u32 0) := by kernel_rfl
 have hb0 : Blk (w.alloc (.cells (zdG Tryz.prog 287) 287)) w.heap.size (List.replicate 256 (.int .u32 0)) 287 := by rw [<- hz]; exact Blk.new w _ _
 have he0 : Ext w (w.alloc (.cells (zdG Tryz.prog 287) 287)) := (Ext.refl w).alloc _
 generalize w.alloc (.cells (zdG Tryz.prog 287) 287) = w1 at hb0 he0 ⊢
 refine zx (fun x w' => Ext w w' /\ ∃ i : Nat, i <= 256 /\ x = ((i : Int), ()) /\ Blk w' w.heap.size (xB (table.take i) ++ List.replicate (256 - i) (.int .u32 0)) 287) (fun x => (256 - x.1).toNat) ⟨he0, 0, by omega, rfl, hb0⟩ ?_
 rintro _ w' ⟨he, i, hi, rfl, hb⟩
 dsimp only
 by_cases hlt : i < 256
 ·refine zf (decide_eq_true (by omega)) ?_
  have e0 : IntKind.wrap .u32 (i : Int) = ((BitVec.ofNat 32 i).toNat : Int) := by
   rw [wrap_u32, BitVec.toNat_ofNat]; simp only [Nat.reducePow]; omega
  rw [e0]
  refine zx (fun x w'' => w'' = w' /\ ∃ k : Nat, k <= 8 /\ x = (((bsteps k (BitVec.ofNat 32 i)).toNat : Int), (k : Int), ())) (fun x => (8 - x.2.1).toNat) ⟨rfl, 0, by omega, rfl⟩ ?_
  rintro _ _ ⟨rfl, k, hk, rfl⟩
  dsimp only
  by_cases hk8 : k < 8
  ·refine zf (decide_eq_true (by omega)) ?_
   rw [ur (by omega) (by omega)]
   refine ⟨⟨rfl, k + 1, by omega, ?_⟩, by omega⟩
   generalize hv : bsteps k (BitVec.ofNat 32 i) = v
   have e1 : bsteps (k + 1) (BitVec.ofNat 32 i) = bstep v := by rw [bsteps_add, hv]; rfl
   rw [e1]
   have e2 : (v &&& 1#32) = if v.getLsbD 0 then 1#32 else 0#32 := by
    have : v.getLsbD 0 = v.toNat.testBit 0 := rfl
    apply BitVec.eq_of_toNat_eq
    rw [BitVec.toNat_and, this, Nat.testBit_zero]
    simp only [BitVec.toNat_ofNat, Nat.reducePow, Nat.reduceMod, Nat.and_one_is_mod]
    by_cases h : v.toNat % 2 = 1
    ·simp [h]
    ·simp [show v.toNat % 2 = 0 by omega]
   have e3 : IntKind.wrap .u32 ((2197175160 : Int) * (iand .u32 (v.toNat : Int) (1 : Int))) = ((if v.getLsbD 0 then poly else 0#32).toNat : Int) := by
    rw [show iand .u32 (v.toNat : Int) (1 : Int) = ((v &&& 1#32).toNat : Int) from zoM v 1#32, e2]
    cases v.getLsbD 0 <;> decide
   rw [e3, show ishr .u32 (v.toNat : Int) (1 : Int) = ((v >>> 1).toNat : Int) from zjN v 1 (by omega), zjM]
   rfl
  ·obtain rfl : k = 8 := by omega
   refine zc (decide_eq_false (by omega)) ?_
   refine ⟨⟨by omega, by omega⟩, ?_⟩
   rw [Int.toNat_natCast, Nat.mul_one, zz, Nat.zero_add]
   refine zO hb (by simp [vu, table]; omega) ?_
   rw [ur (by omega) (by omega)]
   refine ⟨⟨he.set (by simp) _, i + 1, by omega, rfl, ?_⟩, by omega⟩
   have h2 := hb.set i (.int .u32 ((bsteps 8 (BitVec.ofNat 32 i)).toNat : Int))
   have e3 : (xB (table.take i) ++ List.replicate (256 - i) (Value.int .u32 0)).set i (.int .u32 ((bsteps 8 (BitVec.ofNat 32 i)).toNat : Int)) = xB (table.take (i + 1)) ++ List.replicate (256 - (i + 1)) (Value.int .u32 0) := by
    have ht : (xB (table.take i)).length = i := by simp [vu, table]; omega
    rw [List.set_append_right _ _ (by omega), ht, Nat.sub_self, show 256 - i = (256 - (i + 1)) + 1 by omega, List.replicate_succ, List.set_cons_zero]
    rw [List.take_add_one, show table[i]? = some (entry i) by simp [table, hlt]]
    simp [xB, entry]
   rw [e3] at h2
   exact h2
 ·obtain rfl : i = 256 := by omega
  refine zc (decide_eq_false (by omega)) ?_
  have hb2 : Blk w' w.heap.size (xB table) 287 := by
   have : table.take 256 = table := List.take_of_length_le (by simp [table])
   rw [this] at hb
   simpa using hb
  have hlen : (xB table).length = 256 := by simp [vu, table]
  have hone : ∀ v ∈ xB table, v.oneCell' = true := by
   intro v hv
   obtain ⟨t, _, rfl⟩ := List.mem_map.1 hv
   rfl
  generalize xB table = TT at hb2 hlen hone ⊢
  refine ⟨TT.toArray, by simpa using hlen, hb2.jm, by simpa using hlen, ?_, ?_⟩
  ·exact hb2.qp TT 0 (by omega) hone
  ·have hb3 := hb2.setCells TT rfl
   exact ⟨TT.toArray, by simpa using hlen, hb3.jm, rfl, he.setCells (by simp) _ _ _⟩
theorem zjZ {w : World} {T : List W32} {A : Option Addr} {n c : Nat} {bs : List UInt8} (hT : T.length = 256) (h : Sl w A n (bV bs)) :
  Calls Tryz.prog 200 #[.agg (xB T).toArray, .slice A n c] w (Ret fun v w' => v = .int .u32 ((sum T bs).toNat : Int) /\ Ext w w') := by
 apply zlO
 unfold S200
 apply yz
 have hb0 : Blk (w.alloc (.cells (xB T).toArray 287)) w.heap.size (xB T) 287 := by simpa using Blk.new w (xB T).toArray _
 have he0 : Ext w (w.alloc (.cells (xB T).toArray 287)) := (Ext.refl w).alloc _
 have hlen : (xB T).length = 256 := by rw [vu, hT]
 generalize w.alloc (.cells (xB T).toArray 287) = w1 at hb0 he0 ⊢
 refine zna (cs := (xB T).toArray) hb0 (by simpa using hlen) ?_
 have hc := zgl (w := w1) (T := T) (s := 4294967295#32) (c := c) hT (h.ext he0)
 refine zb hc ?_
 rintro _ w2 ⟨rfl, he⟩
 refine ⟨_, rfl, ?_⟩
 rw [zoN]
 exact ⟨rfl, he0.trans he⟩
theorem zfb {w : World} {A : Option Addr} {n c : Nat} {bs : List UInt8} (h : Sl w A n (bV bs)) : Calls Tryz.prog 165 #[.slice A n c] w (Ret fun v w' => v = .int .u32 ((crc bs).toNat : Int) /\ Ext w w') := by
 apply zly
 unfold S165
 refine zb (zhv w) ?_
 rintro _ w1 ⟨rfl, he⟩
 refine ⟨(xB table).toArray, rfl, ?_⟩
 refine zb (zjZ (by simp [table]) (h.ext he)) ?_
 rintro _ w2 ⟨rfl, he2⟩
 exact ⟨_, rfl, rfl, he.trans he2⟩
end V
/- Frames: plain, and the contracts of the package frame. -/
namespace V
open Go Go.Proofs Go.RowKit Crc
abbrev Fra := UInt8 × Nat × ByteArray
def vN : Fra := (0, 0, ByteArray.empty)
def fT (f : Fra) : Int × Int × ByteArray × Unit := ((f.1.toNat : Int), (f.2.1 : Int), f.2.2, ())
def fV (f : Fra) : List Value := [.int .u8 (f.1.toNat : Int), .int .u64 (f.2.1 : Int), .string f.2.2]
theorem zj0 (f : Fra) : ∀ v ∈ fV f, v.oneCell' = true := by
 intro v hv
 simp only [fV, List.mem_cons, List.not_mem_nil, or_false] at hv
 rcases hv with rfl | rfl | rfl <;> rfl
def ke (f : Fra) : List UInt8 := [f.1, 0] ++ le 2 (B f.2.2).length ++ le 8 f.2.1
def xI (size : Nat) (f : Fra) : List UInt8 := ke f ++ B f.2.2 ++ List.replicate (size - 16 - (B f.2.2).length) 0
def yt (size : Nat) (f : Fra) : List UInt8 := xI size f ++ le 4 (crc (xI size f)).toNat
def xl (size : Int) (f : Fra) : List UInt8 × Int := if zC size = 0 then ([], 2) else if ((B f.2.2).length : Int) > zC size then ([], 3) else (yt size.toNat f, 0)
def xf (bs : List UInt8) : Fra := (bs.getD 0 0, lev ((bs.drop 4).take 8), ⟨((bs.drop 12).take (lev ((bs.drop 2).take 2))).toArray⟩)
def yh (bs : List UInt8) : Fra × Int :=
 if zC bs.length = 0 then (vN, 2)
 else if (crc (bs.take (bs.length - 4))).toNat ≠ lev (bs.drop (bs.length - 4)) then (vN, 10)
 else if (lev ((bs.drop 2).take 2) : Int) > zC bs.length then (vN, 4)
 else if xl bs.length (xf bs) = (bs, 0) then (xf bs, 0) else (vN, 4)
def uP (bs : List UInt8) (tag : UInt8) : Fra × Int := if (yh bs).2 = 0 /\ (yh bs).1.1 ≠ tag then (vN, 11) else yh bs
theorem uy (f : Fra) : (ke f).length = 12 := by simp [ke, zv]
theorem uz {size : Nat} {f : Fra} (h : (B f.2.2).length + 16 <= size) : (xI size f).length = size - 4 := by
 simp only [xI, List.length_append, uy, List.length_replicate]; omega
theorem j0 {size : Nat} {f : Fra} (h : (B f.2.2).length + 16 <= size) : (yt size f).length = size := by
 simp only [yt, List.length_append, uz h, zv]; omega
theorem uA (size : Int) : zC size = 0 \/ (zC size = size - 16 /\ 128 <= size /\ size <= 4096 /\ zT size 8 = true) := by
 unfold zC
 cases h : zT size 8 with
 | false => left; rfl
 | true =>
  right
  have h2 := h
  unfold zT at h2
  have h2 := of_decide_eq_true h2
  exact ⟨rfl, by omega, by omega, rfl⟩
theorem zeA {size : Int} {f : Fra} (h : (xl size f).2 = 0) : zC size = size - 16 /\ 128 <= size /\ size <= 4096 /\ (B f.2.2).length + 16 <= size.toNat /\ (xl size f).1 = yt size.toNat f := by
 unfold xl at h ⊢
 rcases uA size with h0 | ⟨h0, h1, h2, _⟩
 ·rw [if_pos h0] at h; cases h
 ·rw [if_neg (by omega)] at h ⊢
  split at h
  ·cases h
  ·rename_i hr
   rw [if_neg hr]
   exact ⟨h0, h1, h2, by omega, rfl⟩
theorem zib {n : Nat} (h : n < 65536) : lev (le 2 n) = n := by rw [uv]; omega
theorem zic {n : Nat} (h : n < 18446744073709551616) : lev (le 8 n) = n := by rw [uv]; omega
theorem zfc {size : Nat} {f : Fra} (hr : zC size = (size : Int) - 16) (h1 : 128 <= size) (h2 : size <= 4096) (hd : (B f.2.2).length + 16 <= size) (hg : f.2.1 < 18446744073709551616) : yh (yt size f) = (f, 0) := by
 have hlen := j0 hd
 have hbl := uz hd
 have hlt := (crc (xI size f)).isLt
 have e1 : (yt size f).take (size - 4) = xI size f := by unfold yt; rw [List.take_left' hbl]
 have e2 : (yt size f).drop (size - 4) = le 4 (crc (xI size f)).toNat := by unfold yt; rw [List.drop_left' hbl]
 have e3 : lev (le 4 (crc (xI size f)).toNat) = (crc (xI size f)).toNat := by rw [uv]; omega
 have epre : yt size f = [f.1, 0] ++ (le 2 (B f.2.2).length ++ (le 8 f.2.1 ++ (B f.2.2 ++ (List.replicate (size - 16 - (B f.2.2).length) 0 ++ le 4 (crc (xI size f)).toNat)))) := by
  simp [yt, xI, ke]
 have e4 : ((yt size f).drop 2).take 2 = le 2 (B f.2.2).length := by
  rw [epre, List.drop_left' (i := 2) (l₁ := [f.1, 0]) (show [f.1, 0].length = 2 from rfl), List.take_left' (zv _ _)]
 have e5 : ((yt size f).drop 4).take 8 = le 8 f.2.1 := by
  rw [epre, <- List.append_assoc, List.drop_left' (by simp [zv]), List.take_left' (zv _ _)]
 have e6 : ((yt size f).drop 12).take (B f.2.2).length = B f.2.2 := by
  rw [epre, <- List.append_assoc, <- List.append_assoc, List.drop_left' (by simp [zv]), List.take_left' rfl]
 have e7 : (yt size f).getD 0 0 = f.1 := by rw [epre]; rfl
 have e8 : lev (((yt size f).drop 2).take 2) = (B f.2.2).length := by rw [e4]; exact zib (by omega)
 have ef : xf (yt size f) = f := by
  unfold xf
  rw [e8, e6, e7, e5, zic hg]
  rfl
 unfold yh
 rw [hlen, e1, e2, e3, e8, ef, if_neg (by omega), if_neg (by simp), if_neg (by omega)]
 have : xl size f = (yt size f, 0) := by
  unfold xl
  rw [if_neg (by omega), if_neg (by omega), Int.toNat_natCast]
 rw [if_pos this]
theorem ue {bs : List UInt8} (h : (yh bs).2 = 0) : (yh bs).1 = xf bs /\ xl bs.length (xf bs) = (bs, 0) := by
 unfold yh at h ⊢
 split at h
 ·cases h
 ·split at h
  ·cases h
  ·split at h
   ·cases h
   ·split at h
    ·rename_i h1 h2 h3 h4
     rw [if_neg h1, if_neg h2, if_neg h3, if_pos h4]
     exact ⟨rfl, h4⟩
    ·cases h
theorem zmb {bs : List UInt8} (h : (yh bs).2 ≠ 0) : (yh bs).1 = vN := by
 unfold yh at h ⊢
 split
 ·rfl
 ·split
  ·rfl
  ·split
   ·rfl
   ·split
    ·rename_i h1 h2 h3 h4
     rw [if_neg h1, if_neg h2, if_neg h3, if_pos h4] at h
     exact absurd rfl h
    ·rfl
theorem zd5 (bs : List UInt8) : (xf bs).2.1 < 18446744073709551616 := by
 have h := jw ((bs.drop 4).take 8)
 have h2 : ((bs.drop 4).take 8).length <= 8 := by simp; omega
 have : 256 ^ ((bs.drop 4).take 8).length <= 256 ^ 8 := Nat.pow_le_pow_right (by omega) h2
 unfold xf
 dsimp only
 omega
theorem zmc (bs : List UInt8) : (yh bs).1.2.1 < 18446744073709551616 := by
 by_cases h : (yh bs).2 = 0
 ·rw [(ue h).1]; exact zd5 bs
 ·rw [zmb h]; decide
theorem uB {w : World} {b o n c v k : Nat} {cs : List Value} {t : TypeId} (hb : Blk w b cs t) (ho : o + c <= cs.length) (hn : n + k <= c) (hc : c <= 9223372036854775000) (hv : v < 18446744073709551616) (hk1 : 1 <= k) (hk : k <= 8) :
  Calls Tryz.prog 42 #[.slice (some ⟨b, o, none⟩) n c, .int .u64 (v : Int), .int .i64 (k : Int)] w (Ret fun r w' => r = .slice (some ⟨b, o, none⟩) (n + k) c /\ Blk w' b (cs.take (o + n) ++ bV (le k v) ++ cs.drop (o + n + k)) t /\ w.grownBy w' (some b)) := by
 apply zh8
 unfold S42
 refine zc (decide_eq_false (by omega)) ?_
 refine zc (decide_eq_false (by omega)) ?_
 refine zx (fun x w' => ∃ i : Nat, i <= k /\ x = ((some ⟨b, o, none⟩, n + i, c), (i : Int), ()) /\ Blk w' b (cs.take (o + n) ++ bV (le i v) ++ cs.drop (o + n + i)) t /\ w.grownBy w' (some b)) (fun x => (k - x.2.1).toNat)
  ⟨0, by omega, rfl, by simpa [le, bV] using hb, xy _ _⟩ ?_
 rintro _ w' ⟨i, hi, rfl, hbi, hg⟩
 dsimp only
 have hlen : (cs.take (o + n) ++ bV (le i v) ++ cs.drop (o + n + i)).length = cs.length := by
  simp only [List.length_append, List.length_take, List.length_drop, yP, zv]
  omega
 by_cases hlt : i < k
 ·refine zf (decide_eq_true (by omega)) ?_
  have e1 : IntKind.wrap .i64 ((8 : Int) * (i : Int)) = ((8 * i : Nat) : Int) := by
   rw [wrap_i64 (by omega) (by omega)]
   omega
  rw [e1]
  refine ⟨by omega, ?_⟩
  rw [zgc .u64 v (8 * i) (by simp [IntKind.bits]; omega), qe, Nat.pow_mul, show (2 : Nat) ^ 8 = 256 from rfl]
  refine zbt (ys := bV [UInt8.ofNat (v / 256 ^ i)]) qq hbi (by omega) (by simp [bV]; omega) (by omega) (zat _) ?_
  intro w2 hb2 hg2
  refine ⟨⟨i + 1, by omega, ?_, ?_, xa hg hg2 (fun j hj => .inl hj)⟩, ?_⟩
  ·rw [wrap_i64 (by omega) (by omega)]; rfl
  ·have hpl : (cs.take (o + n) ++ bV (le i v)).length = o + (n + i) := by
    simp only [List.length_append, List.length_take, yP, zv]; omega
   have e2 : (cs.take (o + n) ++ bV (le i v) ++ cs.drop (o + n + i)).take (o + (n + i)) = cs.take (o + n) ++ bV (le i v) := List.take_left' hpl
   have e3 : (cs.take (o + n) ++ bV (le i v) ++ cs.drop (o + n + i)).drop (o + (n + i) + (bV [UInt8.ofNat (v / 256 ^ i)]).length) = cs.drop (o + n + (i + 1)) := by
    rw [<- List.drop_drop, List.drop_left' hpl, List.drop_drop]
    rfl
   rw [e2, e3] at hb2
   rw [le_succ, xc, <- List.append_assoc]
   exact hb2
  ·rw [wrap_i64 (by omega) (by omega)]; omega
 ·obtain rfl : i = k := by omega
  refine zc (decide_eq_false (by omega)) ?_
  exact ⟨rfl, hbi, hg⟩
theorem za1 (w : World) (size : Int) {f : Fra} (hg : f.2.1 < 18446744073709551616) : Calls Tryz.prog 123 #[.int .i64 size, .agg (fV f).toArray] w (Ret fun v w' => v = .tuple #[.string ⟨(xl size f).1.toArray⟩, .int .i64 (xl size f).2] /\ Ext w w') := by
 apply zlb
 unfold S123 xl
 refine zr fun r1 w1 hb1 he1 hr1 _ => ?_
 refine zb (jf w1 size) ?_
 rintro _ w2 ⟨rfl, he2⟩
 refine ⟨_, rfl, ?_⟩
 have he2 := he1.trans he2
 have hb1 := hb1.ext (by assumption)
 have hds := yg f.2.2
 rcases uA size with h0 | ⟨h0, h1, h2, hgeo⟩
 ·rw [h0, if_pos rfl]
  exact zf (by rfl) ⟨rfl, he2⟩
 rw [if_neg (by omega)]
 refine zc (by rw [beq_eq_false_iff_ne]; omega) ?_
 refine zn 2 f.2.2 hb1 (by rfl) ?_
 refine zg (fun hlong => ?_) (fun hfit => ?_)
 ·have hlong := of_decide_eq_true hlong
  rw [if_pos (by omega)]
  exact ⟨rfl, he2⟩
 have hfit := of_decide_eq_false hfit
 rw [if_neg (by omega)]
 obtain ⟨sz, rfl⟩ : ∃ sz : Nat, size = sz := ⟨size.toNat, by omega⟩
 rw [Int.toNat_natCast]
 generalize hd : (B f.2.2).length = d at *
 refine zaR (B := w2.heap.size) qq rfl (Nat.le_refl _) (by omega) (by omega) ?_
 intro w3 ho3 hg3
 have hrow : Blk w3 w2.heap.size (List.replicate sz (.int .u8 0)) 5 := zdj ho3
 have he3 : Ext w w3 := he2.none hg3
 have h23 : Ext w2 w3 := (Ext.refl w2).none hg3
 have hb1 := hb1.ext h23
 have hsz := he2.size
 have hr1lt := he1.size
 have hw1 : r1 < w2.heap.size := by have := (hb1).lt; have := he2.size; have hh : w1.heap.size <= w2.heap.size := (by assumption : Ext w1 w2).size; omega
 generalize hbb : w2.heap.size = b at *
 have ez : (List.replicate sz (Value.int .u8 0)) = bV (List.replicate sz 0) := by simp [bV]
 rw [ez] at hrow
 refine zK fun w4 he4 _ _ => ?_
 have hrow := hrow.ext he4
 have hb1 := hb1.ext he4
 have he4 := he3.trans he4
 refine zJ ⟨by omega, by omega, by dsimp only; omega⟩ ?_
 refine zE (f.1.toNat : Int) hb1 (by rfl) ?_
 have hcut : zm (some (aD b)) 0 (Int.toNat 12) 1 = some ⟨b, 0, none⟩ := rfl
 dsimp only
 rw [hcut, show Int.toNat 0 = 0 from rfl, show Int.toNat 12 = 12 from rfl]
 have e0 : #[Value.int .u8 (f.1.toNat : Int), Value.int .u8 0] = (bV [f.1, 0]).toArray := rfl
 rw [e0]
 have grow : ∀ {w' w'' : World}, Ext w w' -> w'.grownBy w'' (some b) -> Ext w w'' := fun he hg => he.grown hg (fun j hj => by injection hj with hj; omega)
 have keep : ∀ {w' w'' : World} {cs : List Value} {t : TypeId}, Blk w' r1 cs t -> w'.grownBy w'' (some b) -> Blk w'' r1 cs t := fun h hg => h.grown hg (by simp; omega)
 have hrl : ∀ k : Nat, (bV (List.replicate k (0 : UInt8))).length = k := fun k => by rw [yP, List.length_replicate]
 refine zbt (ys := bV [f.1, 0]) (n := 0) (c := 12) qq hrow (by rw [hrl]; omega) (by simp [bV]) (by omega) (zat _) ?_
 intro w5 hrow5 hg5
 have he5 := grow he4 hg5
 have hb1 := keep hb1 hg5
 have s5 : (bV (List.replicate sz (0 : UInt8))).take (0 + 0) ++ bV [f.1, 0] ++ (bV (List.replicate sz (0 : UInt8))).drop (0 + 0 + (bV [f.1, 0]).length) = bV ([f.1, 0] ++ List.replicate (sz - 2) 0) := by
  rw [xc]
  simp [bV]
 rw [s5] at hrow5
 dsimp only
 refine zn 2 f.2.2 hb1 (by rfl) ?_
 rw [hds, zy (by omega)]
 refine zb (uB (o := 0) (n := 0 + (bV [f.1, 0]).length) (c := 12) (k := 2) hrow5 (by rw [yP]; simp; omega) (by simp [bV]) (by omega) (by omega) (by omega) (by omega)) ?_
 rintro _ w6 ⟨rfl, hrow6, hg6⟩
 refine ⟨(some ⟨b, 0, none⟩, 0 + (bV [f.1, 0]).length + 2, 12), rfl, ?_⟩
 have he6 := grow he5 hg6
 have hb1 := keep hb1 hg6
 have s6 : (bV ([f.1, 0] ++ List.replicate (sz - 2) 0)).take (0 + (0 + (bV [f.1, 0]).length)) ++ bV (le 2 d) ++ (bV ([f.1, 0] ++ List.replicate (sz - 2) 0)).drop (0 + (0 + (bV [f.1, 0]).length) + 2) = bV (([f.1, 0] ++ le 2 d) ++ List.replicate (sz - 2 - 2) 0) := by
  have := zd4 [f.1, 0] (le 2 d) (sz - 2) (by rw [zv]; omega)
  rw [zv] at this
  rw [qU, vj, <- xc, <- xc]
  exact congrArg bV this
 rw [s6] at hrow6
 dsimp only
 refine zn 1 (f.2.1 : Int) hb1 (by rfl) ?_
 refine zb (uB (o := 0) (c := 12) (k := 8) hrow6 (by rw [yP]; simp [zv]; omega) (by simp [bV]) (by omega) hg (by omega) (by omega)) ?_
 rintro _ w7 ⟨rfl, hrow7, hg7⟩
 refine ⟨(some ⟨b, 0, none⟩, 0 + (bV [f.1, 0]).length + 2 + 8, 12), rfl, ?_⟩
 have he7 := grow he6 hg7
 have hb1 := keep hb1 hg7
 have s7 : (bV (([f.1, 0] ++ le 2 d) ++ List.replicate (sz - 2 - 2) 0)).take (0 + (0 + (bV [f.1, 0]).length + 2)) ++ bV (le 8 f.2.1) ++ (bV (([f.1, 0] ++ le 2 d) ++ List.replicate (sz - 2 - 2) 0)).drop (0 + (0 + (bV [f.1, 0]).length + 2) + 8) = bV (ke f ++ List.replicate (sz - 12) 0) := by
  have := zd4 ([f.1, 0] ++ le 2 d) (le 8 f.2.1) (sz - 2 - 2) (by rw [zv]; omega)
  rw [zv] at this
  have hh : ke f = [f.1, 0] ++ le 2 d ++ le 8 f.2.1 := by unfold ke; rw [hd]
  have hl4 : ([f.1, 0] ++ le 2 d).length = 4 := by simp [zv]
  rw [hl4] at this
  rw [hh, show sz - 12 = sz - 2 - 2 - 8 by omega, <- this, qU, vj, <- xc, <- xc]
  rfl
 rw [s7] at hrow7
 refine zK fun w8 he8 _ _ => ?_
 have hrow8 := hrow7.ext he8
 have hb1 := hb1.ext he8
 have he8 := he7.trans he8
 refine zJ ⟨by omega, by omega⟩ ?_
 refine zn 2 f.2.2 hb1 (by rfl) ?_
 have hcut2 : zm (some (aD b)) 12 sz 1 = some ⟨b, 12, none⟩ := by
  unfold zm
  rw [if_neg (by show ¬ sz = 12; omega)]
  show some ((aD b).add 12) = _
  rw [zz, Nat.zero_add]
 rw [hcut2]
 refine zl8 qq hrow8 (by rw [yP, List.length_append, uy, List.length_replicate]; omega) ?_
 intro w9 hrow9 hg9
 have he9 := grow he8 hg9
 have s9 : (bV (ke f ++ List.replicate (sz - 12) 0)).take 12 ++ bV ((B f.2.2).take (sz - 12)) ++ (bV (ke f ++ List.replicate (sz - 12) 0)).drop (12 + min (B f.2.2).length (sz - 12)) = bV (xI sz f ++ List.replicate 4 0) := by
  have := zd4 (ke f) (B f.2.2) (sz - 12) (by omega)
  rw [uy] at this
  rw [List.take_of_length_le (show (B f.2.2).length <= sz - 12 by omega), Nat.min_eq_left (by omega), qU, vj, <- xc, <- xc, this]
  congr 1
  unfold xI
  rw [List.append_assoc (ke f ++ B f.2.2), hd, List.replicate_append_replicate]
  congr 2
  omega
 rw [s9] at hrow9
 have hbody : (xI sz f).length = sz - 4 := uz (by omega)
 refine zK fun w10 he10 _ _ => ?_
 have hrow10 := hrow9.ext he10
 have he10 := he9.trans he10
 rw [wrap_i64 (x := (sz : Int) - 4) (by omega) (by omega), show Int.toNat ((sz : Int) - 4) = sz - 4 by omega]
 refine zJ ⟨by omega, by omega, by omega, by omega⟩ (zJ ⟨by omega, by omega⟩ ?_)
 have hsl : Sl w10 (zm (some ⟨b, 0, none⟩) 0 sz 1) (sz - 4) (bV (xI sz f)) := by
  have := (Sl.xJ hrow10 (n := sz) (by rw [yP, List.length_append, hbody, List.length_replicate]; omega) (by omega)).zey (k := sz - 4) (m := sz) (by omega) (by omega)
  rw [qU, List.take_left' hbody] at this
  exact this
 refine zb (zfb hsl) ?_
 rintro _ w11 ⟨rfl, he11⟩
 refine ⟨_, rfl, ?_⟩
 have hrow11 := hrow10.ext he11
 have he11 := he10.trans he11
 have hclt := (crc (xI sz f)).isLt
 rw [zy (by omega)]
 have hcut3 : zm (some (aD b)) (sz - 4) sz 1 = some ⟨b, sz - 4, none⟩ := by
  unfold zm
  rw [if_neg (by omega)]
  show some ((aD b).add ((sz - 4) * 1)) = _
  rw [zz, Nat.zero_add, Nat.mul_one]
 rw [hcut3, Nat.sub_self, show sz - (sz - 4) = 4 by omega]
 refine zb (uB (o := sz - 4) (n := 0) (c := 4) (k := 4) hrow11 (by rw [yP, List.length_append, hbody, List.length_replicate]; omega) (by omega) (by omega) (by omega) (by omega) (by omega)) ?_
 rintro _ w12 ⟨rfl, hrow12, hg12⟩
 refine ⟨(some ⟨b, sz - 4, none⟩, 0 + 4, 4), rfl, ?_⟩
 have he12 := grow he11 hg12
 have s12 : (bV (xI sz f ++ List.replicate 4 0)).take (sz - 4 + 0) ++ bV (le 4 (crc (xI sz f)).toNat) ++ (bV (xI sz f ++ List.replicate 4 0)).drop (sz - 4 + 0 + 4) = bV (yt sz f) := by
  have := zd4 (xI sz f) (le 4 (crc (xI sz f)).toNat) 4 (by rw [zv]; omega)
  rw [hbody, zv] at this
  rw [qU, vj, <- xc, <- xc, Nat.add_zero, this]
  simp [yt]
 rw [s12] at hrow12
 refine qI (e := 5) (by kernel_rfl) (by kernel_rfl) (by kernel_rfl) (Sl.xJ hrow12 (by rw [yP, j0 (by omega)]) (by omega)) ?_
 exact ⟨rfl, he12⟩
end V
/- Rules and words that several seats share. -/
namespace V
open Go Go.Proofs Go.RowKit
section
variable {α : Type} {P : Program} {t e : TypeId} {z : Value} {bytes : Nat} {E : Enc α}
theorem zeB {w : World} {A : Option Addr} {n c : Nat} {xs : List α} {K : Value -> WP} (hE : jN P t e z E.k bytes) (h : Sli E w A n xs) (hlen : n * bytes <= 140737488355328) (hb : 0 < bytes)
  (hK : ∀ A' c' w', Owni E e w' w.heap.size A' n c' xs -> Ext w w' -> K (.slice A' n c') w') :
  (za (Option.isNone A) (K (.slice none 0 0)) <|
   zi (.cells #[] e) fun (r1 : Nat) => zw P (Builtin.append_ #[t, t] t #[.slice (some (aD r1)) 0 0, .slice A n c]) .slc fun (u2 : SLC) => K (.slice u2.1 u2.2.1 u2.2.2)) w := by
 refine zg (fun hA => ?_) (fun hA => ?_)
 ·have hA : A = none := by simpa using hA
  subst hA
  obtain rfl : n = 0 := by
   rcases Nat.eq_zero_or_pos n with h0 | h0
   ·exact h0
   ·obtain ⟨a, h1, _⟩ := h.2.2 h0; cases h1
  obtain rfl : xs = [] := List.eq_nil_of_length_eq_zero h.1
  exact hK none 0 w (Owni.nil _ _ _) (Ext.refl w)
 ·apply yz
  have he : Ext w (w.alloc (.cells #[] e)) := (Ext.refl w).alloc _
  have ho : Owni E e (w.alloc (.cells #[] e)) w.heap.size (some ⟨w.heap.size, 0, none⟩) 0 0 ([] : List α) := Owni.lit (xs := []) (n := 0) rfl (Nat.le_refl _) (by omega)
  refine xi hE ho (by simp) (h.ext he) (by rw [Nat.zero_add]; exact hlen) hb ?_
  intro A' c' w' ho' hg _
  rw [Nat.zero_add] at ho' ⊢
  exact hK A' c' w' (by simpa using ho') (Ext.grown he hg.1 (fun j hj => by injection hj with hj; subst hj; exact Nat.le_refl _))
theorem zid {w : World} {b o n c m d : Nat} {ty u t2 : TypeId} {X : Option Addr} {cs ys : List Value} {K : Int -> WP} (hE : Elem P t e z bytes) (hb : Blk w b cs t2) (hx : Sl w X m ys) (hys : ∀ y ∈ ys, y.oneCell' = true) (ho : o + min m n <= cs.length) (hX : X ≠ none)
  (hK : ∀ w', Blk w' b (cs.take o ++ ys.take (min m n) ++ cs.drop (o + min m n)) t2 -> w.grownBy w' (some b) -> K ((min m n : Nat) : Int) w') :
  zw P (Builtin.copy_ #[t, u] ty #[.slice (some ⟨b, o, none⟩) n c, .slice X m d]) (.int .i64) K w := by
 obtain ⟨ht, hi, hz⟩ := hE
 obtain ⟨i, hi, hii⟩ := Option.map_eq_some_iff.1 hi
 simp only [Prod.mk.injEq] at hii
 obtain ⟨hz0, hz1, hz2⟩ := hii
 have hl := hx.len
 obtain ⟨a, rfl⟩ := Option.ne_none_iff_exists'.1 hX
 have hlen : (ys.take (min m n)).length = min m n := by rw [List.length_take]; omega
 have hsrc : ∀ j v, (ys.take (min m n))[j]? = some v -> w.cell? (a.add j) = some v := fun j v hj => by
  rw [List.getElem?_take] at hj
  split at hj
  ·rcases Nat.eq_zero_or_pos m with h0 | h0
   ·omega
   ·obtain ⟨a', h1, h2⟩ := hx.2.2 h0
    cases h1
    exact h2 j v hj
  ·cases hj
 have hr := run_copy_row (P := P) w t u ty e b o n c a m d cs.toArray t2 (ys.take (min m n)) ht (by rw [hi]; simp [hz1]) hb hlen hsrc (by rw [hlen]; simpa using ho) (fun v hv => hys v (List.mem_of_mem_take hv))
 rw [hlen] at hr
 refine ⟨((min m n : Nat) : Int), _, hr, hK _ ?_ ?_⟩
 ·have hb' : w.heap[b]? = some (.cells cs.toArray t2 (0, 0)) := hb
  show (w.heap.modify b _)[b]? = _
  rw [Array.getElem?_modify, if_pos rfl, hb']
  simp
 ·refine ⟨rfl, rfl, rfl, by simp [World.setRow], fun k hk hne => ?_⟩
  simp [World.setRow]
  rw [Array.getElem?_modify]
  split
  ·exact absurd (by subst_vars; rfl) hne
  ·rfl
end
theorem j4 {α : Type} {E : Enc α} {e : TypeId} {w : World} {B b n : Nat} {xs : List α} (h : Blk w b (E.flat xs) e) (hn : xs.length = n) (hm : n <= 9223372036854775807) (hB : B <= b) : Owni E e w B (some ⟨b, 0, none⟩) n n xs := by
 refine ⟨by rw [E.yY, hn], .inr ⟨b, n, (E.flat xs).toArray, rfl, hB, h, Nat.le_refl _, by simpa [maxLen] using hm, by simp [E.yY, hn], ?_⟩⟩
 rw [List.take_of_length_le (by simp [E.yY, hn])]
def mkB (bs : List UInt8) : ByteArray := ⟨bs.toArray⟩
theorem xj (bs : List UInt8) : B (mkB bs) = bs := jx bs
theorem ziT (s : ByteArray) : mkB (B s) = s := ka (xj _)
theorem xm (bs : List UInt8) : (mkB bs).size = bs.length := by rw [yg, xj]
theorem zcu {w : World} {b : Nat} {x y : Value} {t : TypeId} (h : Blk w b [x, y] t) : ∀ p ∈ [((aD b).add 0, x), ((aD b).add 1, y)], w.cell? p.1 = some p.2 := by
 intro p hp
 simp only [List.mem_cons, List.not_mem_nil, or_false] at hp
 rcases hp with rfl | rfl <;> simp [zz, h.cell]
theorem yK {w : World} {b o : Nat} {cs : List Value} {v : Value} {t : TypeId} (h : Blk w b cs t) (hv : cs[o]? = some v) : ∀ p ∈ [((aD b).add o, v)], w.cell? p.1 = some p.2 := by
 intro p hp
 obtain rfl := List.mem_singleton.1 hp
 show w.cell? ((aD b).add o) = _
 rw [zz, h.cell, Nat.zero_add, hv]
theorem z6 {w : World} {b : Nat} {cs : List Value} {v : Value} {t : TypeId} (h : Blk w b cs t) (hv : cs[0]? = some v) : ∀ p ∈ [((aD b), v)], w.cell? p.1 = some p.2 := by
 intro p hp
 obtain rfl := List.mem_singleton.1 hp
 show w.cell? (aD b) = _
 rw [h.cell, hv]
abbrev HL (w : World) (l : List (Addr × Value)) : Prop := ∀ p ∈ l, w.cell? p.1 = some p.2
theorem xC {w : World} {a : List (Addr × Value)} {K : WP} (ha : HL w a) (hK : K w) : zq [a] K w :=
 ⟨fun l hl => by rw [List.mem_singleton.1 hl]; exact ha, hK⟩
theorem jo {w : World} {a b : List (Addr × Value)} {K : WP} (ha : HL w a) (hb : HL w b) (hK : K w) : zq [a, b] K w :=
 ⟨fun l hl => by
  simp only [List.mem_cons, List.not_mem_nil, or_false] at hl
  rcases hl with rfl | rfl
  ·exact ha
  ·exact hb, hK⟩
theorem zoT {w : World} {a b c : List (Addr × Value)} {K : WP} (ha : HL w a) (hb : HL w b) (hc : HL w c) (hK : K w) : zq [a, b, c] K w :=
 ⟨fun l hl => by
  simp only [List.mem_cons, List.not_mem_nil, or_false] at hl
  rcases hl with rfl | rfl | rfl
  ·exact ha
  ·exact hb
  ·exact hc, hK⟩
theorem heldc {w : World} {a : List (Addr × Value)} {H : List (List (Addr × Value))} {K : WP} (ha : HL w a) (h : zq H K w) : zq (a :: H) K w :=
 ⟨fun l hl => by
  rcases List.mem_cons.1 hl with rfl | hl
  ·exact ha
  ·exact h.1 l hl, h.2⟩
theorem zpk {w : World} {K : WP} (h : K w) : zq [] K w := ⟨(fun l hl => by cases hl), h⟩
end V
/- Catalogs: plain. -/
namespace V
open Go Go.Proofs Go.RowKit Crc
abbrev Ent := ByteArray × List Col × Nat × Nat × Int
abbrev Snp := ByteArray × Nat
abbrev Cat := List Ent × List Snp
def za2 : Cat := ([], [])
def zeC (s : ByteArray) : Bool := decide (yT (B s) = 0)
def ltB (a b : List UInt8) : Bool := match a, b with
 | _, [] => false
 | [], _ :: _ => true
 | x :: a, y :: b => decide (x.toNat < y.toNat) || (decide (x = y) && ltB a b)
def yC {α : Type} (f : α -> ByteArray) : List α -> Bool
 | [] => true
 | [_] => true
 | x :: y :: r => ltB (B (f x)) (B (f y)) && yC f (y :: r)
def vw (e : Ent) : Bool := decide (xr e.2.1 = 0) && (decide (0 <= e.2.2.2.2 /\ e.2.2.2.2 <= 4096) && (decide (e.2.2.1 = 0 ↔ e.2.2.2.2 = 0) && decide (e.2.2.2.1 < 1099511627776)))
def yu {α : Type} (f : α -> ByteArray) (l : List α) : Bool := (l.all fun x => zeC (f x)) && yC f l
def kg (c : Cat) : Bool := decide (c.1.length <= 16 /\ c.2.length <= 16) && (yu (fun e : Ent => e.1) c.1 && (yu (fun s : Snp => s.1) c.2 && c.1.all vw))
def vk (n : Nat) : UInt8 := UInt8.ofNat (min n 1)
def nmB (s : ByteArray) : List UInt8 := UInt8.ofNat s.size :: B s
def qX (e : Ent) : List UInt8 := nmB e.1 ++ (xd e.2.1 ++ (le 8 e.2.2.2.1 ++ (le 4 e.2.2.2.2.toNat ++ [vk e.2.2.1])))
def jq (s : Snp) : List UInt8 := nmB s.1 ++ [vk s.2]
def x6 (c : Cat) : List UInt8 := UInt8.ofNat c.1.length :: (c.1.flatMap qX ++ UInt8.ofNat c.2.length :: c.2.flatMap jq)
def jP (e : Ent) : Ent := (e.1, e.2.1, min e.2.2.1 1, e.2.2.2.1, e.2.2.2.2)
def ki (s : Snp) : Snp := (s.1, min s.2 1)
def ones (c : Cat) : Cat := (c.1.map jP, c.2.map ki)
def yd (n : Nat) (s : List UInt8) : Option (List UInt8 × List UInt8) := if s.length < n then none else some (s.take n, s.drop n)
def nmR (s : List UInt8) : Option (ByteArray × List UInt8) := match yd 1 s with
 | none => none
 | some (b, r) => match yd (lev b) r with
  | none => none
  | some (t, r') => some (mkB t, r')
def jr (s : List UInt8) : Option (Nat × List UInt8) := match yd 1 s with
 | none => none
 | some (b, r) => if lev b <= 1 then some (lev b, r) else none
def jW (s : List UInt8) : Option (Ent × List UInt8) := match nmR s with
 | none => none
 | some (n, r1) => match xH r1 with
  | none => none
  | some (cs, r2) => match yd 8 r2 with
   | none => none
   | some (x, r3) => match yd 4 r3 with
    | none => none
    | some (y, r4) => match jr r4 with
     | none => none
     | some (o, r5) => some ((n, cs, o, lev x, (lev y : Int)), r5)
def ku (s : List UInt8) : Option (Snp × List UInt8) := match nmR s with
 | none => none
 | some (n, r1) => match jr r1 with
  | none => none
  | some (o, r2) => some ((n, o), r2)
def qy {α : Type} (f : List UInt8 -> Option (α × List UInt8)) : Nat -> List UInt8 -> Option (List α × List UInt8)
 | 0, s => some ([], s)
 | n + 1, s => match f s with
  | none => none
  | some (x, r) => match qy f n r with
   | none => none
   | some (l, r') => some (x :: l, r')
def zeD (s : List UInt8) : Option Cat := match yd 1 s with
 | none => none
 | some (b, r) => match qy jW (lev b) r with
  | none => none
  | some (ts, r2) => match yd 1 r2 with
   | none => none
   | some (b2, r3) => match qy ku (lev b2) r3 with
    | none => none
    | some (ss, r4) => if r4 = [] then some (ts, ss) else none
def kj (s : List UInt8) : Cat × Int := match zeD s with
 | none => (za2, 240)
 | some c => if kg c then (c, 0) else (za2, 240)
def zbT (c : Cat) : ByteArray × Int := if kg c then (mkB (x6 c), 0) else (ByteArray.empty, 240)
theorem kv {n : Nat} {a : List UInt8} (h : a.length = n) (t : List UInt8) : yd n (a ++ t) = some (a, t) := by
 unfold yd
 rw [if_neg (by rw [List.length_append]; omega), List.take_left' h, List.drop_left' h]
theorem xX {n : Nat} {s a t : List UInt8} (h : yd n s = some (a, t)) : a.length = n /\ a ++ t = s := by
 unfold yd at h
 split at h
 ·cases h
 ·injection h with h
  injection h with h1 h2
  subst h1 h2
  exact ⟨by rw [List.length_take]; omega, List.take_append_drop n s⟩
theorem zeE (b : UInt8) : lev [b] = b.toNat := by simp [lev]
theorem zaB {n : Nat} (h : n < 256) : (UInt8.ofNat n).toNat = n := by rw [UInt8.toNat_ofNat']; omega
theorem zie {s : ByteArray} (h : s.size < 256) (t : List UInt8) : nmR (nmB s ++ t) = some (s, t) := by
 have e : nmB s ++ t = [UInt8.ofNat s.size] ++ (B s ++ t) := rfl
 unfold nmR
 rw [e, kv (n := 1) rfl]
 dsimp only
 rw [zeE, zaB h, kv (n := s.size) (yg s).symm]
 dsimp only
 rw [ziT]
theorem zeF {s r : List UInt8} {n : ByteArray} (h : nmR s = some (n, r)) : nmB n ++ r = s := by
 unfold nmR at h
 split at h
 ·cases h
 rename_i b q hb
 split at h
 ·cases h
 rename_i t r' ht
 injection h with h
 injection h with h1 h2
 subst h1 h2
 obtain ⟨h1, h2⟩ := xX hb
 obtain ⟨h3, h4⟩ := xX ht
 match b, h1 with
 | [x], _ =>
  rw [zeE] at h3
  unfold nmB
  rw [xj, xm, h3, <- h2, <- h4]
  have : UInt8.ofNat x.toNat = x := by apply UInt8.toNat_inj.1; exact zaB x.toNat_lt
  rw [this]
  rfl
theorem zgm (n : Nat) (t : List UInt8) : jr ([vk n] ++ t) = some (min n 1, t) := by
 unfold jr
 rw [kv (n := 1) rfl]
 dsimp only
 have e : lev [vk n] = min n 1 := by rw [zeE]; unfold vk; exact zaB (by omega)
 rw [e, if_pos (by omega)]
theorem zgn {s r : List UInt8} {n : Nat} (h : jr s = some (n, r)) : n <= 1 /\ [vk n] ++ r = s := by
 unfold jr at h
 split at h
 ·cases h
 rename_i b q hb
 split at h
 ·rename_i hl
  injection h with h
  injection h with h1 h2
  subst h1 h2
  obtain ⟨h1, h2⟩ := xX hb
  match b, h1 with
  | [x], _ =>
   rw [zeE] at hl ⊢
   refine ⟨hl, ?_⟩
   rw [<- h2]
   have : vk x.toNat = x := by
    unfold vk
    apply UInt8.toNat_inj.1
    rw [zaB (by omega)]
    omega
   rw [this]
 ·cases h
def zj1 (e : Ent) : Prop := e.1.size < 256 /\ xr e.2.1 = 0 /\ e.2.2.2.1 < 18446744073709551616 /\ 0 <= e.2.2.2.2 /\ e.2.2.2.2 < 4294967296
theorem zod {n : Nat} (h : n < 4294967296) : lev (le 4 n) = n := by rw [uv]; omega
theorem zmd {e : Ent} (h : zj1 e) (t : List UInt8) : jW (qX e ++ t) = some (jP e, t) := by
 obtain ⟨h1, h2, h3, h4, h5⟩ := h
 unfold jW qX
 simp only [List.append_assoc]
 rw [zie h1]
 dsimp only
 rw [zhu h2]
 dsimp only
 rw [kv (n := 8) (zv _ _)]
 dsimp only
 rw [kv (n := 4) (zv _ _)]
 dsimp only
 rw [zgm]
 dsimp only
 rw [zic h3, zod (by omega)]
 unfold jP
 rw [show ((e.2.2.2.2.toNat : Nat) : Int) = e.2.2.2.2 by omega]
theorem zif {n : Nat} {a : List UInt8} (h : a.length = n) : le n (lev a) = a := by rw [<- h]; exact zjO a
theorem zme {s r : List UInt8} {e : Ent} (h : jW s = some (e, r)) : qX e ++ r = s /\ jP e = e /\ xr e.2.1 = 0 /\ 0 <= e.2.2.2.2 := by
 unfold jW at h
 split at h
 ·cases h
 rename_i n r1 g1
 split at h
 ·cases h
 rename_i cs r2 g2
 split at h
 ·cases h
 rename_i x r3 g3
 split at h
 ·cases h
 rename_i y r4 g4
 split at h
 ·cases h
 rename_i o r5 g5
 injection h with h
 injection h with h1 h2
 subst h1 h2
 have k1 := zeF g1
 obtain ⟨k2, k3⟩ := zjW g2
 obtain ⟨k4, k5⟩ := xX g3
 obtain ⟨k6, k7⟩ := xX g4
 obtain ⟨k8, k9⟩ := zgn g5
 refine ⟨?_, ?_, k2, by show (0 : Int) <= ((lev y : Nat) : Int); omega⟩
 ·unfold qX
  dsimp only
  rw [Int.toNat_natCast, zif k4, zif k6]
  simp only [List.append_assoc]
  rw [k9, k7, k5, k3, k1]
 ·unfold jP
  dsimp only
  rw [show min o 1 = o by omega]
theorem zmf {s : Snp} (h : s.1.size < 256) (t : List UInt8) : ku (jq s ++ t) = some (ki s, t) := by
 unfold ku jq
 rw [List.append_assoc, zie h]
 dsimp only
 rw [zgm]
 rfl
theorem zmg {s r : List UInt8} {x : Snp} (h : ku s = some (x, r)) : jq x ++ r = s /\ ki x = x := by
 unfold ku at h
 split at h
 ·cases h
 rename_i n r1 g1
 split at h
 ·cases h
 rename_i o r2 g2
 injection h with h
 injection h with h1 h2
 subst h1 h2
 have k1 := zeF g1
 obtain ⟨k8, k9⟩ := zgn g2
 refine ⟨?_, ?_⟩
 ·unfold jq
  dsimp only
  rw [List.append_assoc, k9, k1]
 ·unfold ki
  dsimp only
  rw [show min o 1 = o by omega]
theorem zbU {α : Type} {f : List UInt8 -> Option (α × List UInt8)} {g : α -> List UInt8} {u : α -> α} : ∀ {l : List α}, (∀ x ∈ l, ∀ t, f (g x ++ t) = some (u x, t)) -> ∀ t, qy f l.length (l.flatMap g ++ t) = some (l.map u, t)
 | [], _, t => rfl
 | x :: r, h, t => by
  rw [List.length_cons, List.flatMap_cons, List.append_assoc, qy, h x List.mem_cons_self]
  dsimp only
  rw [zbU (fun y hy => h y (List.mem_cons_of_mem _ hy))]
  rfl
structure ko (c : Cat) : Prop where
 tabs : c.1.length <= 16
 snaps : c.2.length <= 16
 ents : ∀ e ∈ c.1, yT (B e.1) = 0 /\ xr e.2.1 = 0 /\ (0 <= e.2.2.2.2 /\ e.2.2.2.2 <= 4096) /\ (e.2.2.1 = 0 ↔ e.2.2.2.2 = 0) /\ e.2.2.2.1 < 1099511627776
 snps : ∀ s ∈ c.2, yT (B s.1) = 0
 rt : yC (fun e : Ent => e.1) c.1 = true
 rs : yC (fun s : Snp => s.1) c.2 = true
theorem vC {c : Cat} : kg c = true ↔ ko c := by
 unfold kg yu vw zeC
 simp only [Bool.and_eq_true, decide_eq_true_iff, List.all_eq_true]
 constructor
 ·rintro ⟨⟨h1, h2⟩, ⟨h3, h4⟩, ⟨h5, h6⟩, h7⟩
  exact ⟨h1, h2, fun e he => ⟨h3 e he, (h7 e he).1, (h7 e he).2.1, (h7 e he).2.2.1, (h7 e he).2.2.2⟩, h5, h4, h6⟩
 ·rintro ⟨h1, h2, h3, h4, h5, h6⟩
  exact ⟨⟨h1, h2⟩, ⟨fun e he => (h3 e he).1, h5⟩, ⟨h4, h6⟩, fun e he => ⟨(h3 e he).2.1, (h3 e he).2.2.1, (h3 e he).2.2.2.1, (h3 e he).2.2.2.2⟩⟩
theorem ko.fit {c : Cat} (h : ko c) : ∀ e ∈ c.1, zj1 e := fun e he => by
 obtain ⟨h1, h2, h3, h4, h5⟩ := h.ents e he
 have := qx h1
 have hs := yg e.1
 exact ⟨by omega, h2, by omega, h3.1, by omega⟩
theorem zj2 {c : Cat} (h : ko c) : zeD (x6 c) = some (ones c) := by
 have l1 : lev [UInt8.ofNat c.1.length] = c.1.length := by rw [zeE]; exact zaB (by have := h.tabs; omega)
 have l2 : lev [UInt8.ofNat c.2.length] = c.2.length := by rw [zeE]; exact zaB (by have := h.snaps; omega)
 have e : x6 c = [UInt8.ofNat c.1.length] ++ (c.1.flatMap qX ++ ([UInt8.ofNat c.2.length] ++ (c.2.flatMap jq ++ []))) := by unfold x6; simp
 rw [e]
 unfold zeD
 rw [kv (n := 1) rfl]
 dsimp only
 rw [l1, zbU (u := jP) (fun x hx t => zmd (h.fit x hx) t)]
 dsimp only
 rw [kv (n := 1) rfl]
 dsimp only
 rw [l2, zbU (u := ki) (fun x hx t => zmf (by have := qx (h.snps x hx); have := yg x.1; omega) t)]
 rfl
theorem zbV {α : Type} {f : α -> ByteArray} {u : α -> α} (hu : ∀ x, f (u x) = f x) : ∀ l : List α, yC f (l.map u) = yC f l
 | [] => rfl
 | [_] => rfl
 | x :: y :: r => by
  have ih := zbV hu (y :: r)
  simp only [List.map_cons, yC, hu] at ih ⊢
  rw [ih]
theorem ko.ones {c : Cat} (h : ko c) : ko (ones c) := by
 refine ⟨by simp [V.ones, h.tabs], by simp [V.ones, h.snaps], fun e he => ?_, fun s hs => ?_, ?_, ?_⟩
 ·obtain ⟨x, hx, rfl⟩ := List.mem_map.1 he
  obtain ⟨h1, h2, h3, h4, h5⟩ := h.ents x hx
  exact ⟨h1, h2, h3, by show min x.2.2.1 1 = 0 ↔ x.2.2.2.2 = 0; omega, h5⟩
 ·obtain ⟨x, hx, rfl⟩ := List.mem_map.1 hs
  exact h.snps x hx
 ·exact (zbV (u := jP) (fun _ => rfl) c.1).trans h.rt
 ·exact (zbV (u := ki) (fun _ => rfl) c.2).trans h.rs
theorem ziU {c : Cat} (h : ko c) : kj (x6 c) = (ones c, 0) := by
 unfold kj
 rw [zj2 h]
 dsimp only
 rw [if_pos (vC.2 h.ones)]
theorem uf (s : ByteArray) : (nmB s).length = s.size + 1 := by unfold nmB; rw [List.length_cons, yg]
theorem ko.len {c : Cat} (h : ko c) : (x6 c).length <= 11000 := by
 have h1 : (c.1.flatMap qX).length <= c.1.length * 646 := by
  have : ∀ l : List Ent, (∀ e ∈ l, e ∈ c.1) -> (l.flatMap qX).length <= l.length * 646 := by
   intro l
   induction l with
   | nil => intro _; simp
   | cons e r ih =>
    intro hl
    have he := h.ents e (hl e List.mem_cons_self)
    have n1 := qx he.1
    have n2 := zbq he.2.1
    have hs := yg e.1
    have := ih (fun x hx => hl x (List.mem_cons_of_mem _ hx))
    rw [List.flatMap_cons, List.length_append, List.length_cons]
    have : (qX e).length <= 646 := by
     unfold qX
     simp only [List.length_append, uf, zv, List.length_singleton]
     omega
    omega
  exact this c.1 (fun _ hx => hx)
 have h2 : (c.2.flatMap jq).length <= c.2.length * 34 := by
  have : ∀ l : List Snp, (∀ e ∈ l, e ∈ c.2) -> (l.flatMap jq).length <= l.length * 34 := by
   intro l
   induction l with
   | nil => intro _; simp
   | cons e r ih =>
    intro hl
    have n1 := qx (h.snps e (hl e List.mem_cons_self))
    have hs := yg e.1
    have := ih (fun x hx => hl x (List.mem_cons_of_mem _ hx))
    rw [List.flatMap_cons, List.length_append, List.length_cons]
    have : (jq e).length <= 34 := by
     unfold jq
     simp only [List.length_append, uf, List.length_singleton]
     omega
    omega
  exact this c.2 (fun _ hx => hx)
 have := h.tabs
 have := h.snaps
 have e := Nat.mul_le_mul_right 646 h.tabs
 have e2 := Nat.mul_le_mul_right 34 h.snaps
 unfold x6
 rw [List.length_cons, List.length_append, List.length_cons]
 omega
end V
/- Maps from ints to empty structs: sets of ints. -/
namespace V
open Go Go.Proofs Go.RowKit Go.MapKept
section
variable {P : Program} {t kt et : TypeId}
end
end V
/- []byte(s) of a string, written into: the row bears the mark of a conversion behind its cells. -/
namespace V
open Go Go.Proofs Go.RowKit
variable {w w' : World} {b : Nat} {cs : List Value} {t : TypeId}
section
variable {P : Program} {e : TypeId} {z : Value} {bytes : Nat} {src dst : TypeId}
end
end V
/- Contracts of the document's answer, chapter 2. -/
namespace V
open Go Go.Proofs Crc
end V
/- Contracts of the kit: Times, Str, Num, Row, Pair. -/
namespace V
open Go Go.Proofs Go.RowKit
end V
/- Devices: plain, and in memory. -/
namespace V
open Go Go.Proofs Go.RowKit Crc
def Only (F : Nat -> Prop) (w w' : World) : Prop := w'.os = w.os /\ w'.tape = w.tape /\ w'.output = w.output /\ w.heap.size <= w'.heap.size /\ ∀ k : Nat, k < w.heap.size -> ¬ F k -> w'.heap[k]? = w.heap[k]?
theorem Only.zG {F : Nat -> Prop} {w w' : World} (h : Ext w w') : Only F w w' := ⟨h.os, h.tape, h.output, h.size, fun k hk _ => h.block k hk⟩
theorem Only.refl (F : Nat -> Prop) (w : World) : Only F w w := Only.zG (Ext.refl w)
theorem Only.z7 {F : Nat -> Prop} {w w' : World} {row : Option Nat} (h : w.grownBy w' row) (hr : ∀ j, row = some j -> F j \/ w.heap.size <= j) : Only F w w' := by
 refine ⟨h.os, h.tape, h.output, h.size, fun k hk hF => h.block k hk (fun e => ?_)⟩
 rcases hr k e.symm with h1 | h1
 ·exact hF h1
 ·omega
theorem Only.trans {F G : Nat -> Prop} {a b c : World} (h : Only F a b) (k : Only G b c) (hG : ∀ j, G j -> F j \/ a.heap.size <= j) : Only F a c := by
 obtain ⟨h1, h2, h3, h4, h5⟩ := h
 obtain ⟨k1, k2, k3, k4, k5⟩ := k
 refine ⟨k1.trans h1, k2.trans h2, k3.trans h3, Nat.le_trans h4 k4, fun j hj hF => ?_⟩
 rw [k5 j (by omega) (fun hg => by rcases hG j hg with x | x; exact hF x; omega), h5 j hj hF]
theorem Only.ext {F : Nat -> Prop} {a w w' : World} (h : Ext a w) (k : Only F w w') (hF : ∀ j, F j -> a.heap.size <= j) : Ext a w' := by
 obtain ⟨k1, k2, k3, k4, k5⟩ := k
 refine ⟨k1.trans h.os, k2.trans h.tape, k3.trans h.output, Nat.le_trans h.size k4, fun j hj => ?_⟩
 rw [k5 j (by have := h.size; omega) (fun hg => by have := hF j hg; omega)]
 exact h.block j hj
theorem Blk.only {F : Nat -> Prop} {w w' : World} {b : Nat} {cs : List Value} {t : TypeId} (h : Blk w b cs t) (k : Only F w w') (hb : ¬ F b) : Blk w' b cs t := (k.2.2.2.2 b h.lt hb).trans h
theorem Owni.only {α : Type} {E : Enc α} {e : TypeId} {F : Nat -> Prop} {w w' : World} {B : Nat} {A : Option Addr} {n c : Nat} {xs : List α} (h : Owni E e w B A n c xs) (k : Only F w w') (hr : ∀ j, orow A = some j -> ¬ F j) : Owni E e w' B A n c xs := by
 refine ⟨h.1, ?_⟩
 rcases h.2 with hn | ⟨g, cap, cur, hv, hb, hgg, rest⟩
 ·exact .inl hn
 ·refine .inr ⟨g, cap, cur, hv, hb, ?_, rest⟩
  have ha : orow A = some g := by
   injection hv with hv
   rw [hv]
   rfl
  rw [k.2.2.2.2 g (Array.getElem?_eq_some_iff.1 hgg).1 (hr g ha)]
  exact hgg
structure Dev where
 size : Int
 blocks : Int
 dur : List ByteArray
 pen : List (Int × ByteArray)
 ops : Int
 fuse : Int
def kP : Enc (Int × ByteArray) where
 k := 2
 f x := [.int .i64 x.1, .string x.2]
 len _ := rfl
 one _ := by
  intro v hv
  simp only [List.mem_cons, List.not_mem_nil, or_false] at hv
  rcases hv with rfl | rfl <;> rfl
 pos := by decide
structure Dev.Ok (d : Dev) : Prop where
 geo : zT d.size d.blocks = true
 len : (d.dur.length : Int) = d.blocks
 each : ∀ s ∈ d.dur, (s.size : Int) = d.size
 pend : ∀ p ∈ d.pen, 0 <= p.1 /\ p.1 < d.blocks /\ (p.2.size : Int) = d.size
 fuse : -1 <= d.fuse /\ d.fuse < 9223372036854775808
def Dev.there (d : Dev) (k : Int) : Bool := decide (0 <= k /\ k < d.blocks)
def Dev.burnt (d : Dev) : Dev := { d with fuse := max (-1) (d.fuse - 1), ops := IntKind.wrap .i64 (d.ops + 1) }
def Dev.write (d : Dev) (k : Int) (s : ByteArray) : Dev × Int :=
 if ¬ (0 <= k /\ k < d.blocks) \/ (s.size : Int) ≠ d.size then (d, 2)
 else if d.fuse = 0 then (d, 8)
 else ({ d.burnt with pen := d.pen ++ [(k, s)] }, 0)
def put (l : List ByteArray) (p : Int × ByteArray) : List ByteArray := l.set p.1.toNat p.2
def Dev.flush (d : Dev) : Dev × Int := if d.fuse = 0 then (d, 8) else ({ d.burnt with dur := d.pen.foldl put d.dur, pen := [] }, 0)
def Dev.read (d : Dev) (k : Int) : ByteArray × Int :=
 if ¬ (0 <= k /\ k < d.blocks) then (ByteArray.empty, 2)
 else ((d.pen.foldl put d.dur).getD k.toNat ByteArray.empty, 0)
structure xb (w : World) (b : Nat) (d : Dev) (F : Nat -> Prop) : Prop where
 mem : ∃ (Ad Ap : Option Addr) (nd cd np cp : Nat) (t : TypeId), Blk w b [.int .i64 d.size, .int .i64 d.blocks, .slice Ad nd cd, .slice Ap np cp, .int .i64 d.ops, .int .i64 d.fuse] t
  /\ Owni xz 9 w 0 Ad nd cd d.dur /\ Owni kP 230 w 0 Ap np cp d.pen /\ (∀ k, F k ↔ k = b \/ orow Ad = some k \/ orow Ap = some k) /\ orow Ad ≠ some b /\ orow Ap ≠ some b /\ (∀ j, orow Ad = some j -> orow Ap ≠ some j)
 ok : d.Ok
theorem xb.lt {w : World} {b : Nat} {d : Dev} {F : Nat -> Prop} (h : xb w b d F) : ∀ k, F k -> k < w.heap.size := by
 obtain ⟨Ad, Ap, nd, cd, np, cp, t, hb, hd, hp, hF, _⟩ := h.mem
 intro k hk
 rcases (hF k).1 hk with rfl | h | h
 ·exact hb.lt
 ·exact hd.yc k h
 ·exact hp.yc k h
theorem xb.apart {w w' : World} {b : Nat} {d : Dev} {F G : Nat -> Prop} (h : xb w b d F) (k : Only G w w') (hFG : ∀ j, F j -> ¬ G j) : xb w' b d F := by
 refine ⟨?_, h.ok⟩
 obtain ⟨Ad, Ap, nd, cd, np, cp, t, hb, hd, hp, hF, h1, h2, h3⟩ := h.mem
 exact ⟨Ad, Ap, nd, cd, np, cp, t, hb.only k (hFG b ((hF b).2 (.inl rfl))), hd.only k (fun j hj => hFG j ((hF j).2 (.inr (.inl hj)))), hp.only k (fun j hj => hFG j ((hF j).2 (.inr (.inr hj)))), hF, h1, h2, h3⟩
end V
end Go.Proofs.YtplgodmmmppmeaaGreat
